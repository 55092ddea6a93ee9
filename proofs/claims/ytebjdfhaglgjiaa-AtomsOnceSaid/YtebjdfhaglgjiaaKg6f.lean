/- AtomsOnce: a case of its switch keeps what is held (6f). No conditions beyond those written in the theorems. -/
import Derived.Test.YtebjdfhaglgjiaaKf1
import Derived.Test.YtebjdfhaglgjiaaKy38
/-! printed by genf4.py: cases of the switch of AtomsOnce -/
set_option maxRecDepth 100000
namespace Go.Proofs
open Go Go.Conc Go.Km

/-! case 6f: kind 6 set false done false full false -/
noncomputable def V6f_0 (k : C4) (set full : Bool) (inn given : Int) (wv : Int) (J : Nat → Value) (i wb bc pb po : Nat) (ps : Option Nat) : (Nat → Nat) → Option KG := fun _ => some ⟨run' (fr4 td_case (tm4c k ⟨set, false, full, 0, inn, given⟩ i J wb 6)) [], FM k ⟨set, false, full, 0, inn, given⟩ bc ++ FS pb po ps 6 wv ++ FW wb wv, 0, [], []⟩
def hV6f_1 : List Hint := flat [(27, [12], none)] 11
noncomputable def V6f_1 (k : C4) (set full : Bool) (inn given : Int) (wv : Int) (J : Nat → Value) (i wb bc pb po : Nat) (ps : Option Nat) := nextA (segA Try.prog noRel hV6f_1 (V6f_0 k set full inn given wv J i wb bc pb po ps))
theorem kV6f_1 (k : C4) (set full : Bool) (inn given : Int) (wv : Int) (J : Nat → Value) (i wb bc pb po : Nat) (ps : Option Nat) (o : Nat → Nat) : ((segA Try.prog noRel hV6f_1 (V6f_0 k set full inn given wv J i wb bc pb po ps) o).isSome, (segA Try.prog noRel hV6f_1 (V6f_0 k set full inn given wv J i wb bc pb po ps) o).map fun p => (p.1.owe.map Prod.fst, p.1.oweV, deafBehind 0 p.2)) = (true, (segA Try.prog noRel hV6f_1 (V6f_0 k set full inn given wv J i wb bc pb po ps) o).map fun p => (p.1.owe.map Prod.snd, [], 0)) := by kernel_rfl
theorem iV6f_2 (k : C4) (set full : Bool) (inn given : Int) (wv : Int) (J : Nat → Value) (i wb bc pb po : Nat) (ps : Option Nat) (o : Nat → Nat) : (V6f_1 k set full inn given wv J i wb bc pb po ps o).map (fun x => opAt Try.prog x) = some (some (valS (Instr.indexAt 32 (.slice k.a k.n k.cap) (.int .i64 ((i : Nat) : Int))))) := by kernel_rfl
noncomputable def V6f_2 (k : C4) (set full : Bool) (inn given : Int) (wv : Int) (J : Nat → Value) (i wb bc pb po : Nat) (ps : Option Nat) := putV (.pointer (some ⟨pb, po, ps⟩)) (V6f_1 k set full inn given wv J i wb bc pb po ps)
def hV6f_3 : List Hint := flat [(1, [9], none), (8, [11], none), (20, [13], none), (6, [13], none), (19, [1], none), (33, [1, 2, 2, 2], none), (10, [1, 1], none), (0, [1], none), (29, [1], none), (20, [15], none), (4, [14], none), (5, [13], none)] 3
noncomputable def V6f_3 (k : C4) (set full : Bool) (inn given : Int) (wv : Int) (J : Nat → Value) (i wb bc pb po : Nat) (ps : Option Nat) := nextA (segA Try.prog noRel hV6f_3 (V6f_2 k set full inn given wv J i wb bc pb po ps))
theorem kV6f_3 (k : C4) (set full : Bool) (inn given : Int) (wv : Int) (J : Nat → Value) (i wb bc pb po : Nat) (ps : Option Nat) (o : Nat → Nat) : ((segA Try.prog noRel hV6f_3 (V6f_2 k set full inn given wv J i wb bc pb po ps) o).isSome, (segA Try.prog noRel hV6f_3 (V6f_2 k set full inn given wv J i wb bc pb po ps) o).map fun p => (p.1.owe.map Prod.fst, p.1.oweV, deafBehind 0 p.2)) = (true, (segA Try.prog noRel hV6f_3 (V6f_2 k set full inn given wv J i wb bc pb po ps) o).map fun p => (p.1.owe.map Prod.snd, [], 0)) := by kernel_rfl
theorem cV6f_4 (k : C4) (set full : Bool) (inn given : Int) (wv : Int) (J : Nat → Value) (i wb bc pb po : Nat) (ps : Option Nat) (o : Nat → Nat) : (topA (V6f_3 k set full inn given wv J i wb bc pb po ps) o, (V6f_3 k set full inn given wv J i wb bc pb po ps o).map fun x => (pickF [4] x.fs, pickF [4] ((setV [(4, .int .u32 (1))]) x.fs), restF [4] ((setV [(4, .int .u32 (1))]) x.fs))) = (some (Frame.enter Try.prog 38 #[.pointer (some ⟨k.bO, 3, none⟩), .bool true] .normal, false, true), (V6f_3 k set full inn given wv J i wb bc pb po ps o).map fun x => (F0_F38 k.bO 3 0 (some (50, 5)), [⟨⟨k.bO, 3, none⟩, .int .u32 1, true, some (50, 5)⟩], restF [4] x.fs)) := by kernel_rfl
noncomputable def V6f_4 (k : C4) (set full : Bool) (inn given : Int) (wv : Int) (J : Nat → Value) (i wb bc pb po : Nat) (ps : Option Nat) := popA (.tuple #[]) (setV [(4, .int .u32 (1))]) (V6f_3 k set full inn given wv J i wb bc pb po ps)
def hV6f_5 : List Hint := flat [] 6
noncomputable def V6f_5 (k : C4) (set full : Bool) (inn given : Int) (wv : Int) (J : Nat → Value) (i wb bc pb po : Nat) (ps : Option Nat) := nextA (segA Try.prog noRel hV6f_5 (V6f_4 k set full inn given wv J i wb bc pb po ps))
theorem kV6f_5 (k : C4) (set full : Bool) (inn given : Int) (wv : Int) (J : Nat → Value) (i wb bc pb po : Nat) (ps : Option Nat) (o : Nat → Nat) : ((segA Try.prog noRel hV6f_5 (V6f_4 k set full inn given wv J i wb bc pb po ps) o).isSome, (segA Try.prog noRel hV6f_5 (V6f_4 k set full inn given wv J i wb bc pb po ps) o).map fun p => (p.1.owe.map Prod.fst, p.1.oweV, deafBehind 0 p.2)) = (true, (segA Try.prog noRel hV6f_5 (V6f_4 k set full inn given wv J i wb bc pb po ps) o).map fun p => (p.1.owe.map Prod.snd, [], 0)) := by kernel_rfl
theorem cV6f_6 (k : C4) (set full : Bool) (inn given : Int) (wv : Int) (J : Nat → Value) (i wb bc pb po : Nat) (ps : Option Nat) (o : Nat → Nat) : (topA (V6f_5 k set full inn given wv J i wb bc pb po ps) o, (V6f_5 k set full inn given wv J i wb bc pb po ps o).map fun x => ((x.g.callers.headD default).mode, pickF [1] x.fs, pickF [1] ((setV [(1, .int .u32 (1))]) x.fs), restF [1] ((setV [(1, .int .u32 (1))]) x.fs))) = (some (Frame.enter Try.prog 38 #[.pointer (some ⟨k.bO, 0, none⟩), .bool true] .deferred, false, true), (V6f_5 k set full inn given wv J i wb bc pb po ps o).map fun x => (.returning, F0_F38d k.bO 0 0 (some (50, 5)), [⟨⟨k.bO, 0, none⟩, .int .u32 1, true, some (50, 5)⟩], restF [1] x.fs)) := by kernel_rfl
noncomputable def V6f_6 (k : C4) (set full : Bool) (inn given : Int) (wv : Int) (J : Nat → Value) (i wb bc pb po : Nat) (ps : Option Nat) := popD (setV [(1, .int .u32 (1))]) (V6f_5 k set full inn given wv J i wb bc pb po ps)
def hV6f_7 : List Hint := flat [(13, [2], none), (4, [1, 1], none), (0, [1], none), (9, [2, 2], none)] 24
noncomputable def V6f_7 (k : C4) (set full : Bool) (inn given : Int) (wv : Int) (J : Nat → Value) (i wb bc pb po : Nat) (ps : Option Nat) := nextA (segA Try.prog noRel hV6f_7 (V6f_6 k set full inn given wv J i wb bc pb po ps))
theorem kV6f_7 (k : C4) (set full : Bool) (inn given : Int) (wv : Int) (J : Nat → Value) (i wb bc pb po : Nat) (ps : Option Nat) (o : Nat → Nat) : ((segA Try.prog noRel hV6f_7 (V6f_6 k set full inn given wv J i wb bc pb po ps) o).isSome, (segA Try.prog noRel hV6f_7 (V6f_6 k set full inn given wv J i wb bc pb po ps) o).map fun p => (p.1.owe.map Prod.fst, p.1.oweV, deafBehind 0 p.2)) = (true, (segA Try.prog noRel hV6f_7 (V6f_6 k set full inn given wv J i wb bc pb po ps) o).map fun p => (p.1.owe.map Prod.snd, [], 0)) := by kernel_rfl
noncomputable def tdV6f_8 : List Item := ((V6f_7 ⟨7, some ⟨3, 0, none⟩, 1, 1, 100, 101, 102, 103⟩ false false 0 0 5 (fun _ => undef) 0 300 110 3 0 none (fun i => i + 200)).map fun x => x.g.frame.todo).getD []
noncomputable def opsV6f_8 : Array Oper := opsOf tdV6f_8
noncomputable def frV6f_8 (k : C4) (_wb : Nat) (_set _full : Bool) (_inn _given : Int) (_wv : Int) (_o0 o1 o2 o3 : Nat) : Frame := { fn := 14, tmps := #[.pointer (some ⟨k.bO, 0, none⟩), .nilFunc, .pointer (some ⟨o1, 0, none⟩), .pointer (some ⟨o2, 0, none⟩), .int .u64 (0), .bool false, .pointer (some ⟨o3, 0, none⟩), .tuple #[], .pointer (some ⟨k.bO, 0, none⟩), .bool false, .tuple #[], .pointer (some ⟨k.bO, 0, none⟩), .pointer (some ⟨k.bO, 0, none⟩), .pointer (some ⟨k.bO, 0, none⟩), .func (.func 37) #[] #[.pointer (some ⟨o3, 0, none⟩), .pointer (some ⟨o2, 0, none⟩), .pointer (some ⟨o1, 0, none⟩)], .tuple #[], .tuple #[], .tuple #[], .tuple #[], .tuple #[], .tuple #[]], todo := .code (.region 6 opsV6f_8 true) :: tdV6f_8.tail, defers := [], mode := .run, kind := .normal }
def valsV6f_8 (k : C4) (_wb : Nat) (_set _full : Bool) (_inn _given : Int) (_wv : Int) (_o0 _o1 _o2 _o3 : Nat) : List (Nat × Value) := [(16, .pointer (some ⟨k.bO, 0, none⟩)), (17, .pointer (some ⟨k.bO, 0, none⟩)), (18, .pointer (some ⟨k.bO, 4, none⟩)), (19, .int .u64 (0)), (20, .bool true), (4, .int .u64 (0)), (5, .bool true)]
def hsV6f_8 : List (List Hint) := [flat [(0, [1], none)] 0, flat [] 1, flat [] 1, flat [(0, [0], none)] 0, flat [(0, [2], none)] 0, flat [] 1, flat [] 1]
noncomputable def XV6f_8 (k : C4) (wb : Nat) (set full : Bool) (inn given : Int) (wv : Int) (o0 o1 o2 o3 : Nat) : DrawX := { fr := frV6f_8 k wb set full inn given wv o0 o1 o2 o3, K := tdV6f_8.tail, ops := opsV6f_8, T := fillT (frV6f_8 k wb set full inn given wv o0 o1 o2 o3).tmps (valsV6f_8 k wb set full inn given wv o0 o1 o2 o3), F := fun _m => [⟨⟨k.bO, 4, none⟩, .int .u64 (0), true, some (50, 5)⟩, ⟨⟨o1, 0, none⟩, .pointer (some ⟨k.bO, 0, none⟩), true, some (41, 1)⟩, ⟨⟨o3, 0, none⟩, .bool true, true, some (4, 1)⟩] }
theorem rV6f_8 (k : C4) (set full : Bool) (inn given : Int) (wv : Int) (J : Nat → Value) (i wb bc pb po : Nat) (ps : Option Nat) (o : Nat → Nat) : (V6f_7 k set full inn given wv J i wb bc pb po ps o).map (fun x => (x.g.frame, x.g.dying.isNone, pickF [5, 13, 15] x.fs, pickF [5, 13, 15] (id x.fs), restF [5, 13, 15] (id x.fs))) = (V6f_7 k set full inn given wv J i wb bc pb po ps o).map fun x => ((XV6f_8 k wb set full inn given wv (o 0) (o 1) (o 2) (o 3)).fr, true, (XV6f_8 k wb set full inn given wv (o 0) (o 1) (o 2) (o 3)).F 0, (XV6f_8 k wb set full inn given wv (o 0) (o 1) (o 2) (o 3)).F 127, restF [5, 13, 15] x.fs) := by kernel_rfl
theorem qV6f_8 (k : C4) (set full : Bool) (inn given : Int) (wv : Int) (J : Nat → Value) (i wb bc pb po : Nat) (ps : Option Nat) (o : Nat → Nat) : (V6f_7 k set full inn given wv J i wb bc pb po ps o).map (·.k) = some 4 := by kernel_rfl
theorem HV6f_8 (k : C4) (wb : Nat) (set full : Bool) (inn given : Int) (wv : Int) (o0 o1 o2 o3 : Nat) : (XV6f_8 k wb set full inn given wv o0 o1 o2 o3).fr.todo = .code (.region 6 (XV6f_8 k wb set full inn given wv o0 o1 o2 o3).ops true) :: (XV6f_8 k wb set full inn given wv o0 o1 o2 o3).K := by kernel_rfl
theorem TV6f_8 (k : C4) (wb : Nat) (set full : Bool) (inn given : Int) (wv : Int) (o0 o1 o2 o3 : Nat) : (XV6f_8 k wb set full inn given wv o0 o1 o2 o3).fr.tmps = (XV6f_8 k wb set full inn given wv o0 o1 o2 o3).T 0 := by kernel_rfl
theorem dV6f_8 (cs : List Frame) (k : C4) (wb : Nat) (set full : Bool) (inn given : Int) (wv : Int) (o0 o1 o2 o3 : Nat) : drawData Try.prog ⟨run' (XV6f_8 k wb set full inn given wv o0 o1 o2 o3).fr cs, [], 0, [], []⟩ = some (true, true, 7, [[], [0], [1], [2], [], [3, 0, 1, 2, 3], [4, 5, 0, 1, 2, 3, 4, 5]], [[], [0], [1], [2], [], [3, 0, 1, 2, 3, 4], [4, 5, 0, 1, 2, 3, 4, 5]], [[], [0], [1], [2], [5], [3, 0, 1, 2, 3], [4, 5, 0, 1, 2, 3, 4, 5]]) := by kernel_rfl
theorem gV6f_8 (cs : List Frame) (k : C4) (wb : Nat) (set full : Bool) (inn given : Int) (wv : Int) (o0 o1 o2 o3 : Nat) (l : List Nat) (o : Nat → Nat) : (pairsOf [[0], [1, 16], [3, 17], [7, 19], [15, 23], [31, 47], [63], [127]] [[], [0], [1], [2], [], [3, 0, 1, 2, 3], [4, 5, 0, 1, 2, 3, 4, 5]]).map ((XV6f_8 k wb set full inn given wv o0 o1 o2 o3).edgeL Try.prog cs (fun _ i => hsV6f_8.getD i []) l o) = (pairsOf [[0], [1, 16], [3, 17], [7, 19], [15, 23], [31, 47], [63], [127]] [[], [0], [1], [2], [], [3, 0, 1, 2, 3], [4, 5, 0, 1, 2, 3, 4, 5]]).map ((XV6f_8 k wb set full inn given wv o0 o1 o2 o3).edgeR Try.prog cs (fun _ i => hsV6f_8.getD i []) l o) := by kernel_rfl
noncomputable def V6f_8 (k : C4) (set full : Bool) (inn given : Int) (wv : Int) (J : Nat → Value) (i wb bc pb po : Nat) (ps : Option Nat) := regA (fun o => XV6f_8 k wb set full inn given wv (o 0) (o 1) (o 2) (o 3)) 127 id (V6f_7 k set full inn given wv J i wb bc pb po ps)
def hV6f_9 : List Hint := flat [(17, [11], none), (14, [12], none)] 8
noncomputable def V6f_9 (k : C4) (set full : Bool) (inn given : Int) (wv : Int) (J : Nat → Value) (i wb bc pb po : Nat) (ps : Option Nat) := nextA (segA Try.prog noRel hV6f_9 (V6f_8 k set full inn given wv J i wb bc pb po ps))
theorem kV6f_9 (k : C4) (set full : Bool) (inn given : Int) (wv : Int) (J : Nat → Value) (i wb bc pb po : Nat) (ps : Option Nat) (o : Nat → Nat) : ((segA Try.prog noRel hV6f_9 (V6f_8 k set full inn given wv J i wb bc pb po ps) o).isSome, (segA Try.prog noRel hV6f_9 (V6f_8 k set full inn given wv J i wb bc pb po ps) o).map fun p => (p.1.owe.map Prod.fst, p.1.oweV, deafBehind 0 p.2)) = (true, (segA Try.prog noRel hV6f_9 (V6f_8 k set full inn given wv J i wb bc pb po ps) o).map fun p => (p.1.owe.map Prod.snd, [], 0)) := by kernel_rfl
theorem iV6f_10 (k : C4) (set full : Bool) (inn given : Int) (wv : Int) (J : Nat → Value) (i wb bc pb po : Nat) (ps : Option Nat) (o : Nat → Nat) : (V6f_9 k set full inn given wv J i wb bc pb po ps o).map (fun x => opAt Try.prog x) = some (some (valS (Instr.indexAt 32 (.slice k.a k.n k.cap) (.int .i64 ((i : Nat) : Int))))) := by kernel_rfl
noncomputable def V6f_10 (k : C4) (set full : Bool) (inn given : Int) (wv : Int) (J : Nat → Value) (i wb bc pb po : Nat) (ps : Option Nat) := putV (.pointer (some ⟨pb, po, ps⟩)) (V6f_9 k set full inn given wv J i wb bc pb po ps)
def hV6f_11 : List Hint := flat [(1, [9], none)] 17
noncomputable def V6f_11 (k : C4) (set full : Bool) (inn given : Int) (wv : Int) (J : Nat → Value) (i wb bc pb po : Nat) (ps : Option Nat) := nextA (segA Try.prog noRel hV6f_11 (V6f_10 k set full inn given wv J i wb bc pb po ps))
theorem kV6f_11 (k : C4) (set full : Bool) (inn given : Int) (wv : Int) (J : Nat → Value) (i wb bc pb po : Nat) (ps : Option Nat) (o : Nat → Nat) : ((segA Try.prog noRel hV6f_11 (V6f_10 k set full inn given wv J i wb bc pb po ps) o).isSome, (segA Try.prog noRel hV6f_11 (V6f_10 k set full inn given wv J i wb bc pb po ps) o).map fun p => (p.1.owe.map Prod.fst, p.1.oweV, deafBehind 0 p.2)) = (true, (segA Try.prog noRel hV6f_11 (V6f_10 k set full inn given wv J i wb bc pb po ps) o).map fun p => (p.1.owe.map Prod.snd, [], 0)) := by kernel_rfl
theorem zV6f (k : C4) (set full : Bool) (inn given : Int) (wv : Int) (J : Nat → Value) (i wb bc pb po : Nat) (ps : Option Nat) (o : Nat → Nat) : (f4A L4 (V6f_11 k set full inn given wv J i wb bc pb po ps) o, (V6f_11 k set full inn given wv J i wb bc pb po ps o).map fun x => pickF [0, 1, 2, 3, 4, 5, 6, 7, 8] x.fs) = (some (true, true, fr4 td_tail #[], 266, lv4 k ⟨set, true, full, 0, inn, given⟩ i), some (FM k ⟨set, true, full, 0, inn, given⟩ bc)) := by kernel_rfl
theorem C_V6f (set full : Bool) (inn given : Int) (wv : Int) : CaseC ⟨set, false, full, 0, inn, given⟩ ⟨set, true, full, 0, inn, given⟩ 6 wv := by
  intro k R W w Q' J i wb bc pb po ps hR hi hp hRS K
  have hA0 : At (V6f_0 k set full inn given wv J i wb bc pb po ps) (fun _ => 0) ⟨run' (fr4 td_case (tm4c k ⟨set, false, full, 0, inn, given⟩ i J wb 6)) [], FM k ⟨set, false, full, 0, inn, given⟩ bc ++ FS pb po ps 6 wv ++ FW wb wv, 0, [], []⟩ := fun _ _ => rfl
  have hr0 : (⟨run' (fr4 td_case (tm4c k ⟨set, false, full, 0, inn, given⟩ i J wb 6)) [], FM k ⟨set, false, full, 0, inn, given⟩ bc ++ FS pb po ps 6 wv ++ FW wb wv, 0, [], []⟩ : KG).g.status = .running := rfl
  have ho0 : (⟨run' (fr4 td_case (tm4c k ⟨set, false, full, 0, inn, given⟩ i J wb 6)) [], FM k ⟨set, false, full, 0, inn, given⟩ bc ++ FS pb po ps 6 wv ++ FW wb wv, 0, [], []⟩ : KG).g.offers = none := rfl
  have hR0 : R ≤ w.heap.size := hR
  have hRS0 := hRS
  refine rbG_segD (G := (CT ⟨set, false, full, 0, inn, given⟩ bc)) hA0 hr0 ho0 hV6f_1 hR0 hRS0 (fun o => ok_of2 (kV6f_1 k set full inn given wv J i wb bc pb po ps o) (by simp)) fun o1 x1 w1 _ hA1 hk1 hr1 ho1 hRS1 ht1 => ?_
  have hA1 : At (V6f_1 k set full inn given wv J i wb bc pb po ps) o1 x1 := hA1
  have hR1 := Nat.le_trans hR0 ht1.size
  refine rb_idx4 hr1 (hA1.op (iV6f_2 k set full inn given wv J i wb bc pb po ps o1)) hi hp fun d2 => ?_
  have hA2 : At (V6f_2 k set full inn given wv J i wb bc pb po ps) o1 _ := hA1.put (.pointer (some ⟨pb, po, ps⟩))
  have hr2 : (run' (x1.g.frame.finish (.pointer (some ⟨pb, po, ps⟩))) x1.g.callers).status = .running := rfl
  have ho2 : (run' (x1.g.frame.finish (.pointer (some ⟨pb, po, ps⟩))) x1.g.callers).offers = none := rfl
  have hR2 := hR1
  have hRS2 := hRS1.drawn d2
  refine rbG_segD (G := (CT ⟨set, false, full, 0, inn, given⟩ bc)) hA2 hr2 ho2 hV6f_3 hR2 hRS2 (fun o => ok_of2 (kV6f_3 k set full inn given wv J i wb bc pb po ps o) (by simp)) fun o3 x3 w3 _ hA3 hk3 hr3 ho3 hRS3 ht3 => ?_
  have hA3 : At (V6f_3 k set full inn given wv J i wb bc pb po ps) o3 x3 := hA3
  have hR3 := Nat.le_trans hR2 ht3.size
  refine rb_call2 (G := (CT ⟨set, false, full, 0, inn, given⟩ bc)) (C_F38 k.bO 3 0 (some (50, 5))) hA3 hr3 ho3 [4] (setV [(4, .int .u32 (1))]) (cV6f_4 k set full inn given wv J i wb bc pb po ps o3) hR3 hRS3 fun x4 w4 hA4 hk4 hr4 ho4 hR4 hRS4 => ?_
  have hA4 : At (V6f_4 k set full inn given wv J i wb bc pb po ps) o3 x4 := hA4
  refine rbG_segD (G := (CT ⟨set, false, full, 0, inn, given⟩ bc)) hA4 hr4 ho4 hV6f_5 hR4 hRS4 (fun o => ok_of2 (kV6f_5 k set full inn given wv J i wb bc pb po ps o) (by simp)) fun o5 x5 w5 _ hA5 hk5 hr5 ho5 hRS5 ht5 => ?_
  have hA5 : At (V6f_5 k set full inn given wv J i wb bc pb po ps) o5 x5 := hA5
  have hR5 := Nat.le_trans hR4 ht5.size
  refine rb_callD (G := (CT ⟨set, false, full, 0, inn, given⟩ bc)) (C_F38d k.bO 0 0 (some (50, 5))) hA5 hr5 ho5 [1] (setV [(1, .int .u32 (1))]) (cV6f_6 k set full inn given wv J i wb bc pb po ps o5) hR5 hRS5 fun x6 w6 hA6 hk6 hr6 ho6 hR6 hRS6 => ?_
  have hA6 : At (V6f_6 k set full inn given wv J i wb bc pb po ps) o5 x6 := hA6
  refine rbG_segD (G := (CT ⟨set, false, full, 0, inn, given⟩ bc)) hA6 hr6 ho6 hV6f_7 hR6 hRS6 (fun o => ok_of2 (kV6f_7 k set full inn given wv J i wb bc pb po ps o) (by simp)) fun o7 x7 w7 _ hA7 hk7 hr7 ho7 hRS7 ht7 => ?_
  have hA7 : At (V6f_7 k set full inn given wv J i wb bc pb po ps) o7 x7 := hA7
  have hR7 := Nat.le_trans hR6 ht7.size
  have hq7 : x7.k = 4 := hA7.kIs (qV6f_8 k set full inn given wv J i wb bc pb po ps o7)
  refine rb_region (G := (CT ⟨set, false, full, 0, inn, given⟩ bc)) (X := fun o => XV6f_8 k wb set full inn given wv (o 0) (o 1) (o 2) (o 3)) hA7 hr7 ho7 [5, 13, 15] id (rV6f_8 k set full inn given wv J i wb bc pb po ps o7) (fun o' ho' => by rw [ho' 0 (by omega), ho' 1 (by omega), ho' 2 (by omega), ho' 3 (by omega)]) (HV6f_8 k wb set full inn given wv (o7 0) (o7 1) (o7 2) (o7 3)) (TV6f_8 k wb set full inn given wv (o7 0) (o7 1) (o7 2) (o7 3)) (fun cs => dV6f_8 cs k wb set full inn given wv (o7 0) (o7 1) (o7 2) (o7 3)) (by kernel_rfl) rfl rfl (fun cs => edges_of rfl (gV6f_8 cs k wb set full inn given wv (o7 0) (o7 1) (o7 2) (o7 3))) hR7 hRS7 fun x8 w8 hA8 hk8 hr8 ho8 hR8 hRS8 => ?_
  have hA8 : At (V6f_8 k set full inn given wv J i wb bc pb po ps) o7 x8 := hA8
  refine rbG_segD (G := (CT ⟨set, false, full, 0, inn, given⟩ bc)) hA8 hr8 ho8 hV6f_9 hR8 hRS8 (fun o => ok_of2 (kV6f_9 k set full inn given wv J i wb bc pb po ps o) (by simp)) fun o9 x9 w9 _ hA9 hk9 hr9 ho9 hRS9 ht9 => ?_
  have hA9 : At (V6f_9 k set full inn given wv J i wb bc pb po ps) o9 x9 := hA9
  have hR9 := Nat.le_trans hR8 ht9.size
  refine rb_idx4 hr9 (hA9.op (iV6f_10 k set full inn given wv J i wb bc pb po ps o9)) hi hp fun d10 => ?_
  have hA10 : At (V6f_10 k set full inn given wv J i wb bc pb po ps) o9 _ := hA9.put (.pointer (some ⟨pb, po, ps⟩))
  have hr10 : (run' (x9.g.frame.finish (.pointer (some ⟨pb, po, ps⟩))) x9.g.callers).status = .running := rfl
  have ho10 : (run' (x9.g.frame.finish (.pointer (some ⟨pb, po, ps⟩))) x9.g.callers).offers = none := rfl
  have hR10 := hR9
  have hRS10 := hRS9.drawn d10
  refine rbG_segD (G := (CT ⟨set, false, full, 0, inn, given⟩ bc)) hA10 hr10 ho10 hV6f_11 hR10 hRS10 (fun o => ok_of2 (kV6f_11 k set full inn given wv J i wb bc pb po ps o) (by simp)) fun o11 x11 w11 _ hA11 hk11 hr11 ho11 hRS11 ht11 => ?_
  have hA11 : At (V6f_11 k set full inn given wv J i wb bc pb po ps) o11 x11 := hA11
  have hR11 := Nat.le_trans hR10 ht11.size
  obtain ⟨hz1, hz2⟩ := Prod.mk.inj (zV6f k set full inn given wv J i wb bc pb po ps o11)
  obtain ⟨hg, hs, hl⟩ := f4At hA11 hr11 ho11 hz1
  obtain ⟨J', hJ⟩ := tm_of hs hl
  rw [hA11.here] at hz2
  simp only [Option.map_some, Option.some.injEq] at hz2
  rw [hg, hJ]
  have hF := RS.out [0, 1, 2, 3, 4, 5, 6, 7, 8] rfl hz2 hRS11
  exact K J' bc _ hR11 (RS.keep3 hF)
end Go.Proofs
