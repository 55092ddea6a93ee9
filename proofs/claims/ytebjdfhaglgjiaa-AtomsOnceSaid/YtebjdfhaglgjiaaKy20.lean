/- The contract of Next. No conditions beyond those written in the theorems. -/
import Derived.Test.YtebjdfhaglgjiaaKwB
import Derived.Test.YtebjdfhaglgjiaaKmD
/-! printed by gend.py: functions with a region that draws its order, by their contracts -/
namespace Go.Proofs
open Go Go.Conc Go.Km

def n1 (n : Int) : Int := IntKind.u64.wrap (n + 1)
def fn1 (f n : Int) : Int := IntKind.u64.wrap (f + n1 n)
def nextV (f n : Int) : Int := IntKind.u64.wrap (fn1 f n - 1)
/-! F20 -/
def F0_F20 (p : Nat) (f n : Int) (s s2 : Option (TypeId × Nat)) : List Fact := [⟨⟨p, 0, none⟩, .int .u64 f, true, s⟩, ⟨⟨p, 1, none⟩, .int .u64 n, true, s2⟩]
noncomputable def E_F20 (cs : List Frame) (p : Nat) (f n : Int) (s s2 : Option (TypeId × Nat)) : KG := ⟨run' (Frame.enter Try.prog 20 #[.pointer (some ⟨p, 0, none⟩)] .normal) cs, F0_F20 p f n s s2, 0, [], []⟩
def h_F20_1 : List Hint := flat [] 14
noncomputable def td_F20_1 : List Item := ((krunL Try.prog (fun _ => 0) (chkOf true) h_F20_1 (E_F20 [] 8 7 6 none none) #[]).map fun p => p.1.g.frame.todo).getD []
noncomputable def ops_F20_1 : Array Oper := opsOf td_F20_1
noncomputable def fr_F20_1 (p : Nat) (_f _n : Int) (_s _s2 : Option (TypeId × Nat)) : Frame := { fn := 20, tmps := #[.pointer (some ⟨p, 0, none⟩), .tuple #[], .int .u64 (0), .int .i64 (0), .pointer (some ⟨p, 0, none⟩), .bool false, .tuple #[], .tuple #[], .tuple #[], .tuple #[], .tuple #[], .tuple #[], .tuple #[], .tuple #[], .tuple #[], .tuple #[]], todo := .code (.region 3 ops_F20_1 true) :: td_F20_1.tail, defers := [], mode := .run, kind := .normal }
def vals_F20_1 (p : Nat) (f n : Int) (_s _s2 : Option (TypeId × Nat)) : List (Nat × Value) := [(6, .pointer (some ⟨p, 0, none⟩)), (7, .pointer (some ⟨p, 0, none⟩)), (8, .pointer (some ⟨p, 0, none⟩)), (9, .int .u64 f), (10, .pointer (some ⟨p, 0, none⟩)), (11, .pointer (some ⟨p, 0, none⟩)), (12, .pointer (some ⟨p, 1, none⟩)), (13, .int .u64 (n1 n)), (14, .int .u64 (fn1 f n)), (15, .int .u64 (nextV f n)), (2, .int .u64 (nextV f n)), (3, .int .i64 (0))]
def hs_F20_1 : List (List Hint) := [flat [] 1, flat [] 1, flat [] 1, flat [(0, [0], none)] 0, flat [] 1, flat [] 1, flat [] 1, flat [(11, [1, 1], none)] 4, flat [] 1, flat [] 1, flat [] 1, flat [] 1]
noncomputable def X_F20_1 (p : Nat) (f n : Int) (s s2 : Option (TypeId × Nat)) : DrawX := { fr := fr_F20_1 p f n s s2, K := td_F20_1.tail, ops := ops_F20_1, T := fillT (fr_F20_1 p f n s s2).tmps (vals_F20_1 p f n s s2), F := fun m => cond (m.testBit 7) ([⟨⟨p, 0, none⟩, .int .u64 f, true, s⟩, ⟨⟨p, 1, none⟩, .int .u64 (n1 n), true, s2⟩]) (F0_F20 p f n s s2) }
theorem k_F20_1 (c : Frame) (rest : List Frame) (p : Nat) (f n : Int) (s s2 : Option (TypeId × Nat)) (o : Nat → Nat) : ((segA Try.prog (chkOf true) h_F20_1 (fun _ => some (E_F20 (c :: rest) p f n s s2)) o).isSome, sumL 0 (segA Try.prog (chkOf true) h_F20_1 (fun _ => some (E_F20 (c :: rest) p f n s s2)) o)) = (true, sumR 0 (segA Try.prog (chkOf true) h_F20_1 (fun _ => some (E_F20 (c :: rest) p f n s s2)) o)) := by kernel_rfl
theorem e_F20_1 (c : Frame) (rest : List Frame) (p : Nat) (f n : Int) (s s2 : Option (TypeId × Nat)) (o : Nat → Nat) : (nextA (segA Try.prog (chkOf true) h_F20_1 (fun _ => some (E_F20 (c :: rest) p f n s s2))) o).map (fun x => (x.g, x.fs)) = some (run' (fr_F20_1 p f n s s2) (c :: rest), F0_F20 p f n s s2) := by kernel_rfl
theorem d_F20_1 (cs : List Frame) (p : Nat) (f n : Int) (s s2 : Option (TypeId × Nat)) : drawData Try.prog ⟨run' (fr_F20_1 p f n s s2) cs, [], 0, [], []⟩ = some (true, false, 12, [[], [0], [1], [2], [], [4], [5], [6], [3, 7], [8], [9, 7, 0, 1, 2, 3, 4, 5, 6, 7, 8, 9], [10, 0, 1, 2, 3, 4, 5, 6, 7, 8, 9, 10]], [[], [0], [1], [2], [], [4], [5], [6], [3, 7], [8], [9, 7, 0, 1, 2, 3, 4, 5, 6, 7, 8, 9], [10, 0, 1, 2, 3, 4, 5, 6, 7, 8, 9, 10]], [[], [0], [1], [2], [], [4], [5], [6], [3, 7], [8], [9, 7, 0, 1, 2, 3, 4, 5, 6, 7, 8, 9], [10, 0, 1, 2, 3, 4, 5, 6, 7, 8, 9, 10]]) := by kernel_rfl
theorem g_F20_1 (cs : List Frame) (p : Nat) (f n : Int) (s s2 : Option (TypeId × Nat)) (l : List Nat) (o : Nat → Nat) : (pairsOf [[0], [1, 16], [3, 17, 48], [7, 19, 49, 112], [15, 23, 51, 113, 240], [31, 55, 115, 241], [63, 119, 243], [127, 247], [255], [511], [1023], [2047], [4095]] [[], [0], [1], [2], [], [4], [5], [6], [3, 7], [8], [9, 7, 0, 1, 2, 3, 4, 5, 6, 7, 8, 9], [10, 0, 1, 2, 3, 4, 5, 6, 7, 8, 9, 10]]).map ((X_F20_1 p f n s s2).edgeL Try.prog cs (fun _ i => hs_F20_1.getD i []) l o) = (pairsOf [[0], [1, 16], [3, 17, 48], [7, 19, 49, 112], [15, 23, 51, 113, 240], [31, 55, 115, 241], [63, 119, 243], [127, 247], [255], [511], [1023], [2047], [4095]] [[], [0], [1], [2], [], [4], [5], [6], [3, 7], [8], [9, 7, 0, 1, 2, 3, 4, 5, 6, 7, 8, 9], [10, 0, 1, 2, 3, 4, 5, 6, 7, 8, 9, 10]]).map ((X_F20_1 p f n s s2).edgeR Try.prog cs (fun _ i => hs_F20_1.getD i []) l o) := by kernel_rfl
theorem T_F20_1 (p : Nat) (f n : Int) (s s2 : Option (TypeId × Nat)) : (fr_F20_1 p f n s s2).tmps = (X_F20_1 p f n s s2).T 0 := by kernel_rfl
theorem H_F20_1 (p : Nat) (f n : Int) (s s2 : Option (TypeId × Nat)) : (fr_F20_1 p f n s s2).todo = .code (.region 3 (X_F20_1 p f n s s2).ops true) :: (X_F20_1 p f n s s2).K := by kernel_rfl
theorem b_F20 (c : Frame) (rest : List Frame) (p : Nat) (f n : Int) (s s2 : Option (TypeId × Nat)) : ((soloA Try.prog (fun _ => 0) (chkOf true) 3 ((X_F20_1 p f n s s2).at (c :: rest) 4095 []).g).map fun p => (p.1.g, p.1.k, p.1.owe, p.1.oweV, deafBehind 0 p.2)) = some (run' (c.finish (.tuple #[.int .u64 (nextV f n), .int .i64 0])) rest, 0, [], [], 0) := by kernel_rfl
theorem C_F20 (p : Nat) (f n : Int) (s s2 : Option (TypeId × Nat)) : CallC Try.prog 20 #[.pointer (some ⟨p, 0, none⟩)] (F0_F20 p f n s s2) (.tuple #[.int .u64 (nextV f n), .int .i64 0]) ([⟨⟨p, 0, none⟩, .int .u64 f, true, s⟩, ⟨⟨p, 1, none⟩, .int .u64 (n1 n), true, s2⟩]) := by
  intro Shun R W w Q' G c rest hR hRS K
  refine rbG_seg (W := W) (G := G) (d' := 0) true (A := (fun _ => some (E_F20 (c :: rest) p f n s s2))) (orc := fun _ => 0) (x := E_F20 (c :: rest) p f n s s2) (fun _ _ => rfl) rfl rfl h_F20_1 hR hRS (fun o => ok_of (k_F20_1 c rest p f n s s2 o)) fun o1 x1 w1 _ hA1 _ _ _ hRS1 ht1 => ?_
  simp only [if_true]
  obtain ⟨hg1, hf1⟩ := hA1.is (e_F20_1 c rest p f n s s2 o1)
  rw [hg1]; rw [hf1] at hRS1
  refine rb_drawM (X := X_F20_1 p f n s s2) (full := 4095) rfl (H_F20_1 p f n s s2) (T_F20_1 p f n s s2) (d_F20_1 (c :: rest) p f n s s2) (by kernel_rfl) rfl rfl (edges_of rfl (g_F20_1 (c :: rest) p f n s s2)) (Nat.le_trans hR ht1.size) hRS1 fun v1 hRv1 hRSv1 => ?_
  refine solo_rb rfl (okSolo_of (b_F20 c rest p f n s s2)) fun d => ?_
  exact K _ hRv1 (hRSv1.drawn d)
end Go.Proofs
