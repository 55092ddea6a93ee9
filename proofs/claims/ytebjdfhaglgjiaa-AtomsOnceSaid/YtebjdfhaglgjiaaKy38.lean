/- The contract of Store of a bool, called or deferred. No conditions beyond those written in the theorems. -/
import Derived.Test.YtebjdfhaglgjiaaKwB
import Derived.Test.YtebjdfhaglgjiaaKmD
/-! printed by gend.py: functions with a region that draws its order, by their contracts -/
namespace Go.Proofs
open Go Go.Conc Go.Km

/-! F38 -/
def F0_F38 (p q : Nat) (v : Int) (s : Option (TypeId × Nat)) : List Fact := [⟨⟨p, q, none⟩, .int .u32 v, true, s⟩]
noncomputable def E_F38 (cs : List Frame) (p q : Nat) (v : Int) (s : Option (TypeId × Nat)) : KG := ⟨run' (Frame.enter Try.prog 38 #[.pointer (some ⟨p, q, none⟩), .bool true] .normal) cs, F0_F38 p q v s, 0, [], []⟩
def h_F38_1 : List Hint := flat [] 0
noncomputable def td_F38_1 : List Item := ((krunL Try.prog (fun _ => 0) (chkOf true) h_F38_1 (E_F38 [] 8 0 0 none) #[]).map fun p => p.1.g.frame.todo).getD []
noncomputable def ops_F38_1 : Array Oper := opsOf td_F38_1
noncomputable def fr_F38_1 (p q : Nat) (_v : Int) (_s : Option (TypeId × Nat)) : Frame := { fn := 38, tmps := #[.pointer (some ⟨p, q, none⟩), .bool true, .tuple #[], .tuple #[], .tuple #[], .tuple #[], .tuple #[], .tuple #[], .tuple #[], .tuple #[]], todo := .code (.region 0 ops_F38_1 true) :: td_F38_1.tail, defers := [], mode := .run, kind := .normal }
def vals_F38_1 (p q : Nat) (_v : Int) (_s : Option (TypeId × Nat)) : List (Nat × Value) := [(4, .pointer (some ⟨p, q, none⟩)), (5, .pointer (some ⟨p, q, none⟩)), (6, .pointer (some ⟨p, q, none⟩)), (7, .bool true), (8, .int .u32 (1)), (9, .tuple #[])]
def hs_F38_1 : List (List Hint) := [flat [] 1, flat [] 1, flat [] 1, flat [] 1, flat [] 17, flat [(0, [0], none)] 0]
noncomputable def X_F38_1 (p q : Nat) (v : Int) (s : Option (TypeId × Nat)) : DrawX := { fr := fr_F38_1 p q v s, K := td_F38_1.tail, ops := ops_F38_1, T := fillT (fr_F38_1 p q v s).tmps (vals_F38_1 p q v s), F := fun m => cond (m.testBit 5) ([⟨⟨p, q, none⟩, .int .u32 1, true, s⟩]) (F0_F38 p q v s) }
theorem k_F38_1 (c : Frame) (rest : List Frame) (p q : Nat) (v : Int) (s : Option (TypeId × Nat)) (o : Nat → Nat) : ((segA Try.prog (chkOf true) h_F38_1 (fun _ => some (E_F38 (c :: rest) p q v s)) o).isSome, sumL 0 (segA Try.prog (chkOf true) h_F38_1 (fun _ => some (E_F38 (c :: rest) p q v s)) o)) = (true, sumR 0 (segA Try.prog (chkOf true) h_F38_1 (fun _ => some (E_F38 (c :: rest) p q v s)) o)) := by kernel_rfl
theorem e_F38_1 (c : Frame) (rest : List Frame) (p q : Nat) (v : Int) (s : Option (TypeId × Nat)) (o : Nat → Nat) : (nextA (segA Try.prog (chkOf true) h_F38_1 (fun _ => some (E_F38 (c :: rest) p q v s))) o).map (fun x => (x.g, x.fs)) = some (run' (fr_F38_1 p q v s) (c :: rest), F0_F38 p q v s) := by kernel_rfl
theorem d_F38_1 (cs : List Frame) (p q : Nat) (v : Int) (s : Option (TypeId × Nat)) : drawData Try.prog ⟨run' (fr_F38_1 p q v s) cs, [], 0, [], []⟩ = some (true, false, 6, [[], [0], [1], [], [3], [2, 4, 4]], [[], [0], [1], [], [3], [2, 4, 4]], [[], [0], [1], [], [3], [2, 4, 4]]) := by kernel_rfl
theorem g_F38_1 (cs : List Frame) (p q : Nat) (v : Int) (s : Option (TypeId × Nat)) (l : List Nat) (o : Nat → Nat) : (pairsOf [[0], [1, 8], [3, 9, 24], [7, 11, 25], [15, 27], [31], [63]] [[], [0], [1], [], [3], [2, 4, 4]]).map ((X_F38_1 p q v s).edgeL Try.prog cs (fun _ i => hs_F38_1.getD i []) l o) = (pairsOf [[0], [1, 8], [3, 9, 24], [7, 11, 25], [15, 27], [31], [63]] [[], [0], [1], [], [3], [2, 4, 4]]).map ((X_F38_1 p q v s).edgeR Try.prog cs (fun _ i => hs_F38_1.getD i []) l o) := by kernel_rfl
theorem T_F38_1 (p q : Nat) (v : Int) (s : Option (TypeId × Nat)) : (fr_F38_1 p q v s).tmps = (X_F38_1 p q v s).T 0 := by kernel_rfl
theorem H_F38_1 (p q : Nat) (v : Int) (s : Option (TypeId × Nat)) : (fr_F38_1 p q v s).todo = .code (.region 0 (X_F38_1 p q v s).ops true) :: (X_F38_1 p q v s).K := by kernel_rfl
theorem b_F38 (c : Frame) (rest : List Frame) (p q : Nat) (v : Int) (s : Option (TypeId × Nat)) : ((soloA Try.prog (fun _ => 0) (chkOf true) 3 ((X_F38_1 p q v s).at (c :: rest) 63 []).g).map fun p => (p.1.g, p.1.k, p.1.owe, p.1.oweV, deafBehind 0 p.2)) = some (run' (c.finish (.tuple #[])) rest, 0, [], [], 0) := by kernel_rfl
theorem C_F38 (p q : Nat) (v : Int) (s : Option (TypeId × Nat)) : CallC Try.prog 38 #[.pointer (some ⟨p, q, none⟩), .bool true] (F0_F38 p q v s) (.tuple #[]) ([⟨⟨p, q, none⟩, .int .u32 1, true, s⟩]) := by
  intro Shun R W w Q' G c rest hR hRS K
  refine rbG_seg (W := W) (G := G) (d' := 0) true (A := (fun _ => some (E_F38 (c :: rest) p q v s))) (orc := fun _ => 0) (x := E_F38 (c :: rest) p q v s) (fun _ _ => rfl) rfl rfl h_F38_1 hR hRS (fun o => ok_of (k_F38_1 c rest p q v s o)) fun o1 x1 w1 _ hA1 _ _ _ hRS1 ht1 => ?_
  simp only [if_true]
  obtain ⟨hg1, hf1⟩ := hA1.is (e_F38_1 c rest p q v s o1)
  rw [hg1]; rw [hf1] at hRS1
  refine rb_drawM (X := X_F38_1 p q v s) (full := 63) rfl (H_F38_1 p q v s) (T_F38_1 p q v s) (d_F38_1 (c :: rest) p q v s) (by kernel_rfl) rfl rfl (edges_of rfl (g_F38_1 (c :: rest) p q v s)) (Nat.le_trans hR ht1.size) hRS1 fun v1 hRv1 hRSv1 => ?_
  refine solo_rb rfl (okSolo_of (b_F38 c rest p q v s)) fun d => ?_
  exact K _ hRv1 (hRSv1.drawn d)
/-! F38d -/
def F0_F38d (p q : Nat) (v : Int) (s : Option (TypeId × Nat)) : List Fact := [⟨⟨p, q, none⟩, .int .u32 v, true, s⟩]
noncomputable def E_F38d (cs : List Frame) (p q : Nat) (v : Int) (s : Option (TypeId × Nat)) : KG := ⟨run' (Frame.enter Try.prog 38 #[.pointer (some ⟨p, q, none⟩), .bool true] .deferred) cs, F0_F38d p q v s, 0, [], []⟩
def h_F38d_1 : List Hint := flat [] 0
noncomputable def td_F38d_1 : List Item := ((krunL Try.prog (fun _ => 0) (chkOf true) h_F38d_1 (E_F38d [] 8 0 0 none) #[]).map fun p => p.1.g.frame.todo).getD []
noncomputable def ops_F38d_1 : Array Oper := opsOf td_F38d_1
noncomputable def fr_F38d_1 (p q : Nat) (_v : Int) (_s : Option (TypeId × Nat)) : Frame := { fn := 38, tmps := #[.pointer (some ⟨p, q, none⟩), .bool true, .tuple #[], .tuple #[], .tuple #[], .tuple #[], .tuple #[], .tuple #[], .tuple #[], .tuple #[]], todo := .code (.region 0 ops_F38d_1 true) :: td_F38d_1.tail, defers := [], mode := .run, kind := .deferred }
def vals_F38d_1 (p q : Nat) (_v : Int) (_s : Option (TypeId × Nat)) : List (Nat × Value) := [(4, .pointer (some ⟨p, q, none⟩)), (5, .pointer (some ⟨p, q, none⟩)), (6, .pointer (some ⟨p, q, none⟩)), (7, .bool true), (8, .int .u32 (1)), (9, .tuple #[])]
def hs_F38d_1 : List (List Hint) := [flat [] 1, flat [] 1, flat [] 1, flat [] 1, flat [] 17, flat [(0, [0], none)] 0]
noncomputable def X_F38d_1 (p q : Nat) (v : Int) (s : Option (TypeId × Nat)) : DrawX := { fr := fr_F38d_1 p q v s, K := td_F38d_1.tail, ops := ops_F38d_1, T := fillT (fr_F38d_1 p q v s).tmps (vals_F38d_1 p q v s), F := fun m => cond (m.testBit 5) ([⟨⟨p, q, none⟩, .int .u32 1, true, s⟩]) (F0_F38d p q v s) }
theorem k_F38d_1 (c : Frame) (rest : List Frame) (p q : Nat) (v : Int) (s : Option (TypeId × Nat)) (o : Nat → Nat) : ((segA Try.prog (chkOf true) h_F38d_1 (fun _ => some (E_F38d ({ c with mode := .returning } :: rest) p q v s)) o).isSome, sumL 0 (segA Try.prog (chkOf true) h_F38d_1 (fun _ => some (E_F38d ({ c with mode := .returning } :: rest) p q v s)) o)) = (true, sumR 0 (segA Try.prog (chkOf true) h_F38d_1 (fun _ => some (E_F38d ({ c with mode := .returning } :: rest) p q v s)) o)) := by kernel_rfl
theorem e_F38d_1 (c : Frame) (rest : List Frame) (p q : Nat) (v : Int) (s : Option (TypeId × Nat)) (o : Nat → Nat) : (nextA (segA Try.prog (chkOf true) h_F38d_1 (fun _ => some (E_F38d ({ c with mode := .returning } :: rest) p q v s))) o).map (fun x => (x.g, x.fs)) = some (run' (fr_F38d_1 p q v s) ({ c with mode := .returning } :: rest), F0_F38d p q v s) := by kernel_rfl
theorem d_F38d_1 (cs : List Frame) (p q : Nat) (v : Int) (s : Option (TypeId × Nat)) : drawData Try.prog ⟨run' (fr_F38d_1 p q v s) cs, [], 0, [], []⟩ = some (true, false, 6, [[], [0], [1], [], [3], [2, 4, 4]], [[], [0], [1], [], [3], [2, 4, 4]], [[], [0], [1], [], [3], [2, 4, 4]]) := by kernel_rfl
theorem g_F38d_1 (cs : List Frame) (p q : Nat) (v : Int) (s : Option (TypeId × Nat)) (l : List Nat) (o : Nat → Nat) : (pairsOf [[0], [1, 8], [3, 9, 24], [7, 11, 25], [15, 27], [31], [63]] [[], [0], [1], [], [3], [2, 4, 4]]).map ((X_F38d_1 p q v s).edgeL Try.prog cs (fun _ i => hs_F38d_1.getD i []) l o) = (pairsOf [[0], [1, 8], [3, 9, 24], [7, 11, 25], [15, 27], [31], [63]] [[], [0], [1], [], [3], [2, 4, 4]]).map ((X_F38d_1 p q v s).edgeR Try.prog cs (fun _ i => hs_F38d_1.getD i []) l o) := by kernel_rfl
theorem T_F38d_1 (p q : Nat) (v : Int) (s : Option (TypeId × Nat)) : (fr_F38d_1 p q v s).tmps = (X_F38d_1 p q v s).T 0 := by kernel_rfl
theorem H_F38d_1 (p q : Nat) (v : Int) (s : Option (TypeId × Nat)) : (fr_F38d_1 p q v s).todo = .code (.region 0 (X_F38d_1 p q v s).ops true) :: (X_F38d_1 p q v s).K := by kernel_rfl
theorem b_F38d (c : Frame) (rest : List Frame) (p q : Nat) (v : Int) (s : Option (TypeId × Nat)) : ((soloA Try.prog (fun _ => 0) (chkOf true) 3 ((X_F38d_1 p q v s).at ({ c with mode := .returning } :: rest) 63 []).g).map fun p => (p.1.g, p.1.k, p.1.owe, p.1.oweV, deafBehind 0 p.2)) = some (run' { c with mode := .returning } rest, 0, [], [], 0) := by kernel_rfl
theorem C_F38d (p q : Nat) (v : Int) (s : Option (TypeId × Nat)) : CallD Try.prog 38 #[.pointer (some ⟨p, q, none⟩), .bool true] (F0_F38d p q v s) ([⟨⟨p, q, none⟩, .int .u32 1, true, s⟩]) := by
  intro Shun R W w Q' G c rest hcm hR hRS K
  have hc : c = { c with mode := .returning } := by obtain ⟨a1, a2, a3, a4, a5, a6, a7⟩ := c; simp only at hcm; subst hcm; rfl
  rw [hc]; rw [hc] at K
  refine rbG_seg (W := W) (G := G) (d' := 0) true (A := (fun _ => some (E_F38d ({ c with mode := .returning } :: rest) p q v s))) (orc := fun _ => 0) (x := E_F38d ({ c with mode := .returning } :: rest) p q v s) (fun _ _ => rfl) rfl rfl h_F38d_1 hR hRS (fun o => ok_of (k_F38d_1 c rest p q v s o)) fun o1 x1 w1 _ hA1 _ _ _ hRS1 ht1 => ?_
  simp only [if_true]
  obtain ⟨hg1, hf1⟩ := hA1.is (e_F38d_1 c rest p q v s o1)
  rw [hg1]; rw [hf1] at hRS1
  refine rb_drawM (X := X_F38d_1 p q v s) (full := 63) rfl (H_F38d_1 p q v s) (T_F38d_1 p q v s) (d_F38d_1 ({ c with mode := .returning } :: rest) p q v s) (by kernel_rfl) rfl rfl (edges_of rfl (g_F38d_1 ({ c with mode := .returning } :: rest) p q v s)) (Nat.le_trans hR ht1.size) hRS1 fun v1 hRv1 hRSv1 => ?_
  refine solo_rb rfl (okSolo_of (b_F38d c rest p q v s)) fun d => ?_
  exact K _ hRv1 (hRSv1.drawn d)
end Go.Proofs
