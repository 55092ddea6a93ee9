/- The contract of CompareAndSwap of a bool. No conditions beyond those written in the theorems. -/
import Derived.Test.YtebjdfhaglgjiaaKwB
import Derived.Test.YtebjdfhaglgjiaaKmD
/-! printed by gend.py: functions with a region that draws its order, by their contracts -/
namespace Go.Proofs
open Go Go.Conc Go.Km

/-! F35set0 -/
def F0_F35set0 (p q t n : Nat) : List Fact := [⟨⟨p, q, none⟩, .int .u32 0, true, some (t, n)⟩]
noncomputable def E_F35set0 (cs : List Frame) (p q t n : Nat) : KG := ⟨run' (Frame.enter Try.prog 35 #[.pointer (some ⟨p, q, none⟩), .bool false, .bool true] .normal) cs, F0_F35set0 p q t n, 0, [], []⟩
def h_F35set0_1 : List Hint := flat [] 5
noncomputable def td_F35set0_1 : List Item := ((krunL Try.prog (fun _ => 0) (chkOf true) h_F35set0_1 (E_F35set0 [] 8 0 9 9) #[]).map fun p => p.1.g.frame.todo).getD []
noncomputable def ops_F35set0_1 : Array Oper := opsOf td_F35set0_1
noncomputable def fr_F35set0_1 (p q _t _n : Nat) : Frame := { fn := 35, tmps := #[.pointer (some ⟨p, q, none⟩), .bool false, .bool true, .tuple #[], .tuple #[], .tuple #[], .bool false, .tuple #[], .tuple #[], .tuple #[], .tuple #[], .tuple #[], .tuple #[], .tuple #[], .tuple #[]], todo := .code (.region 1 ops_F35set0_1 true) :: td_F35set0_1.tail, defers := [], mode := .run, kind := .normal }
def vals_F35set0_1 (p q _t _n : Nat) : List (Nat × Value) := [(7, .pointer (some ⟨p, q, none⟩)), (8, .pointer (some ⟨p, q, none⟩)), (9, .pointer (some ⟨p, q, none⟩)), (10, .bool false), (11, .int .u32 (0)), (12, .bool true), (13, .int .u32 (1)), (14, .bool true), (6, .bool true)]
def hs_F35set0_1 : List (List Hint) := [flat [] 1, flat [] 1, flat [] 1, flat [] 1, flat [] 18, flat [] 1, flat [] 17, flat [(0, [0, 0, 0, 0], none)] 0, flat [] 1]
noncomputable def X_F35set0_1 (p q t n : Nat) : DrawX := { fr := fr_F35set0_1 p q t n, K := td_F35set0_1.tail, ops := ops_F35set0_1, T := fillT (fr_F35set0_1 p q t n).tmps (vals_F35set0_1 p q t n), F := fun m => cond (m.testBit 7) ([⟨⟨p, q, none⟩, .int .u32 1, true, some (t, n)⟩]) (F0_F35set0 p q t n) }
theorem k_F35set0_1 (c : Frame) (rest : List Frame) (p q t n : Nat) (o : Nat → Nat) : ((segA Try.prog (chkOf true) h_F35set0_1 (fun _ => some (E_F35set0 (c :: rest) p q t n)) o).isSome, sumL 0 (segA Try.prog (chkOf true) h_F35set0_1 (fun _ => some (E_F35set0 (c :: rest) p q t n)) o)) = (true, sumR 0 (segA Try.prog (chkOf true) h_F35set0_1 (fun _ => some (E_F35set0 (c :: rest) p q t n)) o)) := by kernel_rfl
theorem e_F35set0_1 (c : Frame) (rest : List Frame) (p q t n : Nat) (o : Nat → Nat) : (nextA (segA Try.prog (chkOf true) h_F35set0_1 (fun _ => some (E_F35set0 (c :: rest) p q t n))) o).map (fun x => (x.g, x.fs)) = some (run' (fr_F35set0_1 p q t n) (c :: rest), F0_F35set0 p q t n) := by kernel_rfl
theorem d_F35set0_1 (cs : List Frame) (p q t n : Nat) : drawData Try.prog ⟨run' (fr_F35set0_1 p q t n) cs, [], 0, [], []⟩ = some (true, false, 9, [[], [0], [1], [], [3], [], [5, 4], [2, 4, 6, 6], [7, 7, 0, 1, 2, 3, 4, 5, 6, 7]], [[], [0], [1], [], [3], [], [5, 4], [2, 4, 6, 6], [7, 7, 0, 1, 2, 3, 4, 5, 6, 7]], [[], [0], [1], [], [3], [], [5, 4], [2, 4, 6, 6], [7, 7, 0, 1, 2, 3, 4, 5, 6, 7]]) := by kernel_rfl
theorem g_F35set0_1 (cs : List Frame) (p q t n : Nat) (l : List Nat) (o : Nat → Nat) : (pairsOf [[0], [1, 8, 32], [3, 9, 33, 24, 40], [7, 11, 35, 25, 41, 56], [15, 39, 27, 43, 57, 120], [31, 47, 59, 121], [63, 123], [127], [255], [511]] [[], [0], [1], [], [3], [], [5, 4], [2, 4, 6, 6], [7, 7, 0, 1, 2, 3, 4, 5, 6, 7]]).map ((X_F35set0_1 p q t n).edgeL Try.prog cs (fun _ i => hs_F35set0_1.getD i []) l o) = (pairsOf [[0], [1, 8, 32], [3, 9, 33, 24, 40], [7, 11, 35, 25, 41, 56], [15, 39, 27, 43, 57, 120], [31, 47, 59, 121], [63, 123], [127], [255], [511]] [[], [0], [1], [], [3], [], [5, 4], [2, 4, 6, 6], [7, 7, 0, 1, 2, 3, 4, 5, 6, 7]]).map ((X_F35set0_1 p q t n).edgeR Try.prog cs (fun _ i => hs_F35set0_1.getD i []) l o) := by kernel_rfl
theorem T_F35set0_1 (p q t n : Nat) : (fr_F35set0_1 p q t n).tmps = (X_F35set0_1 p q t n).T 0 := by kernel_rfl
theorem H_F35set0_1 (p q t n : Nat) : (fr_F35set0_1 p q t n).todo = .code (.region 1 (X_F35set0_1 p q t n).ops true) :: (X_F35set0_1 p q t n).K := by kernel_rfl
theorem b_F35set0 (c : Frame) (rest : List Frame) (p q t n : Nat) : ((soloA Try.prog (fun _ => 0) (chkOf true) 3 ((X_F35set0_1 p q t n).at (c :: rest) 511 []).g).map fun p => (p.1.g, p.1.k, p.1.owe, p.1.oweV, deafBehind 0 p.2)) = some (run' (c.finish (.bool true)) rest, 0, [], [], 0) := by kernel_rfl
theorem C_F35set0 (p q t n : Nat) : CallC Try.prog 35 #[.pointer (some ⟨p, q, none⟩), .bool false, .bool true] (F0_F35set0 p q t n) (.bool true) ([⟨⟨p, q, none⟩, .int .u32 1, true, some (t, n)⟩]) := by
  intro Shun R W w Q' G c rest hR hRS K
  refine rbG_seg (W := W) (G := G) (d' := 0) true (A := (fun _ => some (E_F35set0 (c :: rest) p q t n))) (orc := fun _ => 0) (x := E_F35set0 (c :: rest) p q t n) (fun _ _ => rfl) rfl rfl h_F35set0_1 hR hRS (fun o => ok_of (k_F35set0_1 c rest p q t n o)) fun o1 x1 w1 _ hA1 _ _ _ hRS1 ht1 => ?_
  simp only [if_true]
  obtain ⟨hg1, hf1⟩ := hA1.is (e_F35set0_1 c rest p q t n o1)
  rw [hg1]; rw [hf1] at hRS1
  refine rb_drawM (X := X_F35set0_1 p q t n) (full := 511) rfl (H_F35set0_1 p q t n) (T_F35set0_1 p q t n) (d_F35set0_1 (c :: rest) p q t n) (by kernel_rfl) rfl rfl (edges_of rfl (g_F35set0_1 (c :: rest) p q t n)) (Nat.le_trans hR ht1.size) hRS1 fun v1 hRv1 hRSv1 => ?_
  refine solo_rb rfl (okSolo_of (b_F35set0 c rest p q t n)) fun d => ?_
  exact K _ hRv1 (hRSv1.drawn d)
/-! F35set1 -/
def F0_F35set1 (p q t n : Nat) : List Fact := [⟨⟨p, q, none⟩, .int .u32 1, true, some (t, n)⟩]
noncomputable def E_F35set1 (cs : List Frame) (p q t n : Nat) : KG := ⟨run' (Frame.enter Try.prog 35 #[.pointer (some ⟨p, q, none⟩), .bool false, .bool true] .normal) cs, F0_F35set1 p q t n, 0, [], []⟩
def h_F35set1_1 : List Hint := flat [] 5
noncomputable def td_F35set1_1 : List Item := ((krunL Try.prog (fun _ => 0) (chkOf true) h_F35set1_1 (E_F35set1 [] 8 0 9 9) #[]).map fun p => p.1.g.frame.todo).getD []
noncomputable def ops_F35set1_1 : Array Oper := opsOf td_F35set1_1
noncomputable def fr_F35set1_1 (p q _t _n : Nat) : Frame := { fn := 35, tmps := #[.pointer (some ⟨p, q, none⟩), .bool false, .bool true, .tuple #[], .tuple #[], .tuple #[], .bool false, .tuple #[], .tuple #[], .tuple #[], .tuple #[], .tuple #[], .tuple #[], .tuple #[], .tuple #[]], todo := .code (.region 1 ops_F35set1_1 true) :: td_F35set1_1.tail, defers := [], mode := .run, kind := .normal }
def vals_F35set1_1 (p q _t _n : Nat) : List (Nat × Value) := [(7, .pointer (some ⟨p, q, none⟩)), (8, .pointer (some ⟨p, q, none⟩)), (9, .pointer (some ⟨p, q, none⟩)), (10, .bool false), (11, .int .u32 (0)), (12, .bool true), (13, .int .u32 (1)), (14, .bool false), (6, .bool false)]
def hs_F35set1_1 : List (List Hint) := [flat [] 1, flat [] 1, flat [] 1, flat [] 1, flat [] 18, flat [] 1, flat [] 17, flat [(0, [0, 0, 0], none)] 0, flat [] 1]
noncomputable def X_F35set1_1 (p q t n : Nat) : DrawX := { fr := fr_F35set1_1 p q t n, K := td_F35set1_1.tail, ops := ops_F35set1_1, T := fillT (fr_F35set1_1 p q t n).tmps (vals_F35set1_1 p q t n), F := fun m => cond (m.testBit 7) ([⟨⟨p, q, none⟩, .int .u32 1, true, some (t, n)⟩]) (F0_F35set1 p q t n) }
theorem k_F35set1_1 (c : Frame) (rest : List Frame) (p q t n : Nat) (o : Nat → Nat) : ((segA Try.prog (chkOf true) h_F35set1_1 (fun _ => some (E_F35set1 (c :: rest) p q t n)) o).isSome, sumL 0 (segA Try.prog (chkOf true) h_F35set1_1 (fun _ => some (E_F35set1 (c :: rest) p q t n)) o)) = (true, sumR 0 (segA Try.prog (chkOf true) h_F35set1_1 (fun _ => some (E_F35set1 (c :: rest) p q t n)) o)) := by kernel_rfl
theorem e_F35set1_1 (c : Frame) (rest : List Frame) (p q t n : Nat) (o : Nat → Nat) : (nextA (segA Try.prog (chkOf true) h_F35set1_1 (fun _ => some (E_F35set1 (c :: rest) p q t n))) o).map (fun x => (x.g, x.fs)) = some (run' (fr_F35set1_1 p q t n) (c :: rest), F0_F35set1 p q t n) := by kernel_rfl
theorem d_F35set1_1 (cs : List Frame) (p q t n : Nat) : drawData Try.prog ⟨run' (fr_F35set1_1 p q t n) cs, [], 0, [], []⟩ = some (true, false, 9, [[], [0], [1], [], [3], [], [5, 4], [2, 4, 6, 6], [7, 7, 0, 1, 2, 3, 4, 5, 6, 7]], [[], [0], [1], [], [3], [], [5, 4], [2, 4, 6, 6], [7, 7, 0, 1, 2, 3, 4, 5, 6, 7]], [[], [0], [1], [], [3], [], [5, 4], [2, 4, 6, 6], [7, 7, 0, 1, 2, 3, 4, 5, 6, 7]]) := by kernel_rfl
theorem g_F35set1_1 (cs : List Frame) (p q t n : Nat) (l : List Nat) (o : Nat → Nat) : (pairsOf [[0], [1, 8, 32], [3, 9, 33, 24, 40], [7, 11, 35, 25, 41, 56], [15, 39, 27, 43, 57, 120], [31, 47, 59, 121], [63, 123], [127], [255], [511]] [[], [0], [1], [], [3], [], [5, 4], [2, 4, 6, 6], [7, 7, 0, 1, 2, 3, 4, 5, 6, 7]]).map ((X_F35set1_1 p q t n).edgeL Try.prog cs (fun _ i => hs_F35set1_1.getD i []) l o) = (pairsOf [[0], [1, 8, 32], [3, 9, 33, 24, 40], [7, 11, 35, 25, 41, 56], [15, 39, 27, 43, 57, 120], [31, 47, 59, 121], [63, 123], [127], [255], [511]] [[], [0], [1], [], [3], [], [5, 4], [2, 4, 6, 6], [7, 7, 0, 1, 2, 3, 4, 5, 6, 7]]).map ((X_F35set1_1 p q t n).edgeR Try.prog cs (fun _ i => hs_F35set1_1.getD i []) l o) := by kernel_rfl
theorem T_F35set1_1 (p q t n : Nat) : (fr_F35set1_1 p q t n).tmps = (X_F35set1_1 p q t n).T 0 := by kernel_rfl
theorem H_F35set1_1 (p q t n : Nat) : (fr_F35set1_1 p q t n).todo = .code (.region 1 (X_F35set1_1 p q t n).ops true) :: (X_F35set1_1 p q t n).K := by kernel_rfl
theorem b_F35set1 (c : Frame) (rest : List Frame) (p q t n : Nat) : ((soloA Try.prog (fun _ => 0) (chkOf true) 3 ((X_F35set1_1 p q t n).at (c :: rest) 511 []).g).map fun p => (p.1.g, p.1.k, p.1.owe, p.1.oweV, deafBehind 0 p.2)) = some (run' (c.finish (.bool false)) rest, 0, [], [], 0) := by kernel_rfl
theorem C_F35set1 (p q t n : Nat) : CallC Try.prog 35 #[.pointer (some ⟨p, q, none⟩), .bool false, .bool true] (F0_F35set1 p q t n) (.bool false) ([⟨⟨p, q, none⟩, .int .u32 1, true, some (t, n)⟩]) := by
  intro Shun R W w Q' G c rest hR hRS K
  refine rbG_seg (W := W) (G := G) (d' := 0) true (A := (fun _ => some (E_F35set1 (c :: rest) p q t n))) (orc := fun _ => 0) (x := E_F35set1 (c :: rest) p q t n) (fun _ _ => rfl) rfl rfl h_F35set1_1 hR hRS (fun o => ok_of (k_F35set1_1 c rest p q t n o)) fun o1 x1 w1 _ hA1 _ _ _ hRS1 ht1 => ?_
  simp only [if_true]
  obtain ⟨hg1, hf1⟩ := hA1.is (e_F35set1_1 c rest p q t n o1)
  rw [hg1]; rw [hf1] at hRS1
  refine rb_drawM (X := X_F35set1_1 p q t n) (full := 511) rfl (H_F35set1_1 p q t n) (T_F35set1_1 p q t n) (d_F35set1_1 (c :: rest) p q t n) (by kernel_rfl) rfl rfl (edges_of rfl (g_F35set1_1 (c :: rest) p q t n)) (Nat.le_trans hR ht1.size) hRS1 fun v1 hRv1 hRSv1 => ?_
  refine solo_rb rfl (okSolo_of (b_F35set1 c rest p q t n)) fun d => ?_
  exact K _ hRv1 (hRSv1.drawn d)
/-! F35clr0 -/
def F0_F35clr0 (p q t n : Nat) : List Fact := [⟨⟨p, q, none⟩, .int .u32 0, true, some (t, n)⟩]
noncomputable def E_F35clr0 (cs : List Frame) (p q t n : Nat) : KG := ⟨run' (Frame.enter Try.prog 35 #[.pointer (some ⟨p, q, none⟩), .bool true, .bool false] .normal) cs, F0_F35clr0 p q t n, 0, [], []⟩
def h_F35clr0_1 : List Hint := flat [] 5
noncomputable def td_F35clr0_1 : List Item := ((krunL Try.prog (fun _ => 0) (chkOf true) h_F35clr0_1 (E_F35clr0 [] 8 0 9 9) #[]).map fun p => p.1.g.frame.todo).getD []
noncomputable def ops_F35clr0_1 : Array Oper := opsOf td_F35clr0_1
noncomputable def fr_F35clr0_1 (p q _t _n : Nat) : Frame := { fn := 35, tmps := #[.pointer (some ⟨p, q, none⟩), .bool true, .bool false, .tuple #[], .tuple #[], .tuple #[], .bool false, .tuple #[], .tuple #[], .tuple #[], .tuple #[], .tuple #[], .tuple #[], .tuple #[], .tuple #[]], todo := .code (.region 1 ops_F35clr0_1 true) :: td_F35clr0_1.tail, defers := [], mode := .run, kind := .normal }
def vals_F35clr0_1 (p q _t _n : Nat) : List (Nat × Value) := [(7, .pointer (some ⟨p, q, none⟩)), (8, .pointer (some ⟨p, q, none⟩)), (9, .pointer (some ⟨p, q, none⟩)), (10, .bool true), (11, .int .u32 (1)), (12, .bool false), (13, .int .u32 (0)), (14, .bool false), (6, .bool false)]
def hs_F35clr0_1 : List (List Hint) := [flat [] 1, flat [] 1, flat [] 1, flat [] 1, flat [] 17, flat [] 1, flat [] 18, flat [(0, [0, 0, 0], none)] 0, flat [] 1]
noncomputable def X_F35clr0_1 (p q t n : Nat) : DrawX := { fr := fr_F35clr0_1 p q t n, K := td_F35clr0_1.tail, ops := ops_F35clr0_1, T := fillT (fr_F35clr0_1 p q t n).tmps (vals_F35clr0_1 p q t n), F := fun m => cond (m.testBit 7) ([⟨⟨p, q, none⟩, .int .u32 0, true, some (t, n)⟩]) (F0_F35clr0 p q t n) }
theorem k_F35clr0_1 (c : Frame) (rest : List Frame) (p q t n : Nat) (o : Nat → Nat) : ((segA Try.prog (chkOf true) h_F35clr0_1 (fun _ => some (E_F35clr0 (c :: rest) p q t n)) o).isSome, sumL 0 (segA Try.prog (chkOf true) h_F35clr0_1 (fun _ => some (E_F35clr0 (c :: rest) p q t n)) o)) = (true, sumR 0 (segA Try.prog (chkOf true) h_F35clr0_1 (fun _ => some (E_F35clr0 (c :: rest) p q t n)) o)) := by kernel_rfl
theorem e_F35clr0_1 (c : Frame) (rest : List Frame) (p q t n : Nat) (o : Nat → Nat) : (nextA (segA Try.prog (chkOf true) h_F35clr0_1 (fun _ => some (E_F35clr0 (c :: rest) p q t n))) o).map (fun x => (x.g, x.fs)) = some (run' (fr_F35clr0_1 p q t n) (c :: rest), F0_F35clr0 p q t n) := by kernel_rfl
theorem d_F35clr0_1 (cs : List Frame) (p q t n : Nat) : drawData Try.prog ⟨run' (fr_F35clr0_1 p q t n) cs, [], 0, [], []⟩ = some (true, false, 9, [[], [0], [1], [], [3], [], [5, 4], [2, 4, 6, 6], [7, 7, 0, 1, 2, 3, 4, 5, 6, 7]], [[], [0], [1], [], [3], [], [5, 4], [2, 4, 6, 6], [7, 7, 0, 1, 2, 3, 4, 5, 6, 7]], [[], [0], [1], [], [3], [], [5, 4], [2, 4, 6, 6], [7, 7, 0, 1, 2, 3, 4, 5, 6, 7]]) := by kernel_rfl
theorem g_F35clr0_1 (cs : List Frame) (p q t n : Nat) (l : List Nat) (o : Nat → Nat) : (pairsOf [[0], [1, 8, 32], [3, 9, 33, 24, 40], [7, 11, 35, 25, 41, 56], [15, 39, 27, 43, 57, 120], [31, 47, 59, 121], [63, 123], [127], [255], [511]] [[], [0], [1], [], [3], [], [5, 4], [2, 4, 6, 6], [7, 7, 0, 1, 2, 3, 4, 5, 6, 7]]).map ((X_F35clr0_1 p q t n).edgeL Try.prog cs (fun _ i => hs_F35clr0_1.getD i []) l o) = (pairsOf [[0], [1, 8, 32], [3, 9, 33, 24, 40], [7, 11, 35, 25, 41, 56], [15, 39, 27, 43, 57, 120], [31, 47, 59, 121], [63, 123], [127], [255], [511]] [[], [0], [1], [], [3], [], [5, 4], [2, 4, 6, 6], [7, 7, 0, 1, 2, 3, 4, 5, 6, 7]]).map ((X_F35clr0_1 p q t n).edgeR Try.prog cs (fun _ i => hs_F35clr0_1.getD i []) l o) := by kernel_rfl
theorem T_F35clr0_1 (p q t n : Nat) : (fr_F35clr0_1 p q t n).tmps = (X_F35clr0_1 p q t n).T 0 := by kernel_rfl
theorem H_F35clr0_1 (p q t n : Nat) : (fr_F35clr0_1 p q t n).todo = .code (.region 1 (X_F35clr0_1 p q t n).ops true) :: (X_F35clr0_1 p q t n).K := by kernel_rfl
theorem b_F35clr0 (c : Frame) (rest : List Frame) (p q t n : Nat) : ((soloA Try.prog (fun _ => 0) (chkOf true) 3 ((X_F35clr0_1 p q t n).at (c :: rest) 511 []).g).map fun p => (p.1.g, p.1.k, p.1.owe, p.1.oweV, deafBehind 0 p.2)) = some (run' (c.finish (.bool false)) rest, 0, [], [], 0) := by kernel_rfl
theorem C_F35clr0 (p q t n : Nat) : CallC Try.prog 35 #[.pointer (some ⟨p, q, none⟩), .bool true, .bool false] (F0_F35clr0 p q t n) (.bool false) ([⟨⟨p, q, none⟩, .int .u32 0, true, some (t, n)⟩]) := by
  intro Shun R W w Q' G c rest hR hRS K
  refine rbG_seg (W := W) (G := G) (d' := 0) true (A := (fun _ => some (E_F35clr0 (c :: rest) p q t n))) (orc := fun _ => 0) (x := E_F35clr0 (c :: rest) p q t n) (fun _ _ => rfl) rfl rfl h_F35clr0_1 hR hRS (fun o => ok_of (k_F35clr0_1 c rest p q t n o)) fun o1 x1 w1 _ hA1 _ _ _ hRS1 ht1 => ?_
  simp only [if_true]
  obtain ⟨hg1, hf1⟩ := hA1.is (e_F35clr0_1 c rest p q t n o1)
  rw [hg1]; rw [hf1] at hRS1
  refine rb_drawM (X := X_F35clr0_1 p q t n) (full := 511) rfl (H_F35clr0_1 p q t n) (T_F35clr0_1 p q t n) (d_F35clr0_1 (c :: rest) p q t n) (by kernel_rfl) rfl rfl (edges_of rfl (g_F35clr0_1 (c :: rest) p q t n)) (Nat.le_trans hR ht1.size) hRS1 fun v1 hRv1 hRSv1 => ?_
  refine solo_rb rfl (okSolo_of (b_F35clr0 c rest p q t n)) fun d => ?_
  exact K _ hRv1 (hRSv1.drawn d)
/-! F35clr1 -/
def F0_F35clr1 (p q t n : Nat) : List Fact := [⟨⟨p, q, none⟩, .int .u32 1, true, some (t, n)⟩]
noncomputable def E_F35clr1 (cs : List Frame) (p q t n : Nat) : KG := ⟨run' (Frame.enter Try.prog 35 #[.pointer (some ⟨p, q, none⟩), .bool true, .bool false] .normal) cs, F0_F35clr1 p q t n, 0, [], []⟩
def h_F35clr1_1 : List Hint := flat [] 5
noncomputable def td_F35clr1_1 : List Item := ((krunL Try.prog (fun _ => 0) (chkOf true) h_F35clr1_1 (E_F35clr1 [] 8 0 9 9) #[]).map fun p => p.1.g.frame.todo).getD []
noncomputable def ops_F35clr1_1 : Array Oper := opsOf td_F35clr1_1
noncomputable def fr_F35clr1_1 (p q _t _n : Nat) : Frame := { fn := 35, tmps := #[.pointer (some ⟨p, q, none⟩), .bool true, .bool false, .tuple #[], .tuple #[], .tuple #[], .bool false, .tuple #[], .tuple #[], .tuple #[], .tuple #[], .tuple #[], .tuple #[], .tuple #[], .tuple #[]], todo := .code (.region 1 ops_F35clr1_1 true) :: td_F35clr1_1.tail, defers := [], mode := .run, kind := .normal }
def vals_F35clr1_1 (p q _t _n : Nat) : List (Nat × Value) := [(7, .pointer (some ⟨p, q, none⟩)), (8, .pointer (some ⟨p, q, none⟩)), (9, .pointer (some ⟨p, q, none⟩)), (10, .bool true), (11, .int .u32 (1)), (12, .bool false), (13, .int .u32 (0)), (14, .bool true), (6, .bool true)]
def hs_F35clr1_1 : List (List Hint) := [flat [] 1, flat [] 1, flat [] 1, flat [] 1, flat [] 17, flat [] 1, flat [] 18, flat [(0, [0, 0, 0, 0], none)] 0, flat [] 1]
noncomputable def X_F35clr1_1 (p q t n : Nat) : DrawX := { fr := fr_F35clr1_1 p q t n, K := td_F35clr1_1.tail, ops := ops_F35clr1_1, T := fillT (fr_F35clr1_1 p q t n).tmps (vals_F35clr1_1 p q t n), F := fun m => cond (m.testBit 7) ([⟨⟨p, q, none⟩, .int .u32 0, true, some (t, n)⟩]) (F0_F35clr1 p q t n) }
theorem k_F35clr1_1 (c : Frame) (rest : List Frame) (p q t n : Nat) (o : Nat → Nat) : ((segA Try.prog (chkOf true) h_F35clr1_1 (fun _ => some (E_F35clr1 (c :: rest) p q t n)) o).isSome, sumL 0 (segA Try.prog (chkOf true) h_F35clr1_1 (fun _ => some (E_F35clr1 (c :: rest) p q t n)) o)) = (true, sumR 0 (segA Try.prog (chkOf true) h_F35clr1_1 (fun _ => some (E_F35clr1 (c :: rest) p q t n)) o)) := by kernel_rfl
theorem e_F35clr1_1 (c : Frame) (rest : List Frame) (p q t n : Nat) (o : Nat → Nat) : (nextA (segA Try.prog (chkOf true) h_F35clr1_1 (fun _ => some (E_F35clr1 (c :: rest) p q t n))) o).map (fun x => (x.g, x.fs)) = some (run' (fr_F35clr1_1 p q t n) (c :: rest), F0_F35clr1 p q t n) := by kernel_rfl
theorem d_F35clr1_1 (cs : List Frame) (p q t n : Nat) : drawData Try.prog ⟨run' (fr_F35clr1_1 p q t n) cs, [], 0, [], []⟩ = some (true, false, 9, [[], [0], [1], [], [3], [], [5, 4], [2, 4, 6, 6], [7, 7, 0, 1, 2, 3, 4, 5, 6, 7]], [[], [0], [1], [], [3], [], [5, 4], [2, 4, 6, 6], [7, 7, 0, 1, 2, 3, 4, 5, 6, 7]], [[], [0], [1], [], [3], [], [5, 4], [2, 4, 6, 6], [7, 7, 0, 1, 2, 3, 4, 5, 6, 7]]) := by kernel_rfl
theorem g_F35clr1_1 (cs : List Frame) (p q t n : Nat) (l : List Nat) (o : Nat → Nat) : (pairsOf [[0], [1, 8, 32], [3, 9, 33, 24, 40], [7, 11, 35, 25, 41, 56], [15, 39, 27, 43, 57, 120], [31, 47, 59, 121], [63, 123], [127], [255], [511]] [[], [0], [1], [], [3], [], [5, 4], [2, 4, 6, 6], [7, 7, 0, 1, 2, 3, 4, 5, 6, 7]]).map ((X_F35clr1_1 p q t n).edgeL Try.prog cs (fun _ i => hs_F35clr1_1.getD i []) l o) = (pairsOf [[0], [1, 8, 32], [3, 9, 33, 24, 40], [7, 11, 35, 25, 41, 56], [15, 39, 27, 43, 57, 120], [31, 47, 59, 121], [63, 123], [127], [255], [511]] [[], [0], [1], [], [3], [], [5, 4], [2, 4, 6, 6], [7, 7, 0, 1, 2, 3, 4, 5, 6, 7]]).map ((X_F35clr1_1 p q t n).edgeR Try.prog cs (fun _ i => hs_F35clr1_1.getD i []) l o) := by kernel_rfl
theorem T_F35clr1_1 (p q t n : Nat) : (fr_F35clr1_1 p q t n).tmps = (X_F35clr1_1 p q t n).T 0 := by kernel_rfl
theorem H_F35clr1_1 (p q t n : Nat) : (fr_F35clr1_1 p q t n).todo = .code (.region 1 (X_F35clr1_1 p q t n).ops true) :: (X_F35clr1_1 p q t n).K := by kernel_rfl
theorem b_F35clr1 (c : Frame) (rest : List Frame) (p q t n : Nat) : ((soloA Try.prog (fun _ => 0) (chkOf true) 3 ((X_F35clr1_1 p q t n).at (c :: rest) 511 []).g).map fun p => (p.1.g, p.1.k, p.1.owe, p.1.oweV, deafBehind 0 p.2)) = some (run' (c.finish (.bool true)) rest, 0, [], [], 0) := by kernel_rfl
theorem C_F35clr1 (p q t n : Nat) : CallC Try.prog 35 #[.pointer (some ⟨p, q, none⟩), .bool true, .bool false] (F0_F35clr1 p q t n) (.bool true) ([⟨⟨p, q, none⟩, .int .u32 0, true, some (t, n)⟩]) := by
  intro Shun R W w Q' G c rest hR hRS K
  refine rbG_seg (W := W) (G := G) (d' := 0) true (A := (fun _ => some (E_F35clr1 (c :: rest) p q t n))) (orc := fun _ => 0) (x := E_F35clr1 (c :: rest) p q t n) (fun _ _ => rfl) rfl rfl h_F35clr1_1 hR hRS (fun o => ok_of (k_F35clr1_1 c rest p q t n o)) fun o1 x1 w1 _ hA1 _ _ _ hRS1 ht1 => ?_
  simp only [if_true]
  obtain ⟨hg1, hf1⟩ := hA1.is (e_F35clr1_1 c rest p q t n o1)
  rw [hg1]; rw [hf1] at hRS1
  refine rb_drawM (X := X_F35clr1_1 p q t n) (full := 511) rfl (H_F35clr1_1 p q t n) (T_F35clr1_1 p q t n) (d_F35clr1_1 (c :: rest) p q t n) (by kernel_rfl) rfl rfl (edges_of rfl (g_F35clr1_1 (c :: rest) p q t n)) (Nat.le_trans hR ht1.size) hRS1 fun v1 hRv1 hRSv1 => ?_
  refine solo_rb rfl (okSolo_of (b_F35clr1 c rest p q t n)) fun d => ?_
  exact K _ hRv1 (hRSv1.drawn d)

end Go.Proofs
