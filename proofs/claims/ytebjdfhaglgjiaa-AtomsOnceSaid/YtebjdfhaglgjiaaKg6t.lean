/- AtomsOnce: a case of its switch keeps what is held (6t). No conditions beyond those written in the theorems. -/
import Derived.Test.YtebjdfhaglgjiaaKf1
/-! printed by genf4.py: cases of the switch of AtomsOnce -/
set_option maxRecDepth 100000
namespace Go.Proofs
open Go Go.Conc Go.Km

/-! case 6t: kind 6 set false done true full false -/
noncomputable def V6t_0 (k : C4) (set full : Bool) (kept inn given : Int) (wv : Int) (J : Nat → Value) (i wb bc pb po : Nat) (ps : Option Nat) : (Nat → Nat) → Option KG := fun _ => some ⟨run' (fr4 td_case (tm4c k ⟨set, true, full, kept, inn, given⟩ i J wb 6)) [], FM k ⟨set, true, full, kept, inn, given⟩ bc ++ FS pb po ps 6 wv ++ FW wb wv, 0, [], []⟩
def hV6t_1 : List Hint := flat [(27, [12], none)] 11
noncomputable def V6t_1 (k : C4) (set full : Bool) (kept inn given : Int) (wv : Int) (J : Nat → Value) (i wb bc pb po : Nat) (ps : Option Nat) := nextA (segA Try.prog noRel hV6t_1 (V6t_0 k set full kept inn given wv J i wb bc pb po ps))
theorem kV6t_1 (k : C4) (set full : Bool) (kept inn given : Int) (wv : Int) (J : Nat → Value) (i wb bc pb po : Nat) (ps : Option Nat) (o : Nat → Nat) : ((segA Try.prog noRel hV6t_1 (V6t_0 k set full kept inn given wv J i wb bc pb po ps) o).isSome, (segA Try.prog noRel hV6t_1 (V6t_0 k set full kept inn given wv J i wb bc pb po ps) o).map fun p => (p.1.owe.map Prod.fst, p.1.oweV, deafBehind 0 p.2)) = (true, (segA Try.prog noRel hV6t_1 (V6t_0 k set full kept inn given wv J i wb bc pb po ps) o).map fun p => (p.1.owe.map Prod.snd, [], 0)) := by kernel_rfl
theorem iV6t_2 (k : C4) (set full : Bool) (kept inn given : Int) (wv : Int) (J : Nat → Value) (i wb bc pb po : Nat) (ps : Option Nat) (o : Nat → Nat) : (V6t_1 k set full kept inn given wv J i wb bc pb po ps o).map (fun x => opAt Try.prog x) = some (some (valS (Instr.indexAt 32 (.slice k.a k.n k.cap) (.int .i64 ((i : Nat) : Int))))) := by kernel_rfl
noncomputable def V6t_2 (k : C4) (set full : Bool) (kept inn given : Int) (wv : Int) (J : Nat → Value) (i wb bc pb po : Nat) (ps : Option Nat) := putV (.pointer (some ⟨pb, po, ps⟩)) (V6t_1 k set full kept inn given wv J i wb bc pb po ps)
def hV6t_3 : List Hint := flat [(1, [9], none), (8, [11], none), (20, [13], none), (6, [13], none), (19, [1], none)] 13
noncomputable def V6t_3 (k : C4) (set full : Bool) (kept inn given : Int) (wv : Int) (J : Nat → Value) (i wb bc pb po : Nat) (ps : Option Nat) := nextA (segA Try.prog noRel hV6t_3 (V6t_2 k set full kept inn given wv J i wb bc pb po ps))
theorem kV6t_3 (k : C4) (set full : Bool) (kept inn given : Int) (wv : Int) (J : Nat → Value) (i wb bc pb po : Nat) (ps : Option Nat) (o : Nat → Nat) : ((segA Try.prog noRel hV6t_3 (V6t_2 k set full kept inn given wv J i wb bc pb po ps) o).isSome, (segA Try.prog noRel hV6t_3 (V6t_2 k set full kept inn given wv J i wb bc pb po ps) o).map fun p => (p.1.owe.map Prod.fst, p.1.oweV, deafBehind 0 p.2)) = (true, (segA Try.prog noRel hV6t_3 (V6t_2 k set full kept inn given wv J i wb bc pb po ps) o).map fun p => (p.1.owe.map Prod.snd, [], 0)) := by kernel_rfl
noncomputable def tdV6t_4 : List Item := ((V6t_3 ⟨7, some ⟨3, 0, none⟩, 1, 1, 100, 101, 102, 103⟩ false false 0 0 0 5 (fun _ => undef) 0 300 110 3 0 none (fun i => i + 200)).map fun x => x.g.frame.todo).getD []
noncomputable def opsV6t_4 : Array Oper := opsOf tdV6t_4
noncomputable def frV6t_4 (k : C4) (_wb : Nat) (_set _full : Bool) (_kept _inn _given : Int) (_wv : Int) (_o0 o1 o2 o3 : Nat) : Frame := { fn := 14, tmps := #[.pointer (some ⟨k.bO, 0, none⟩), .nilFunc, .pointer (some ⟨o1, 0, none⟩), .pointer (some ⟨o2, 0, none⟩), .int .u64 (0), .bool false, .pointer (some ⟨o3, 0, none⟩), .tuple #[], .pointer (some ⟨k.bO, 0, none⟩), .bool false, .tuple #[], .pointer (some ⟨k.bO, 0, none⟩), .pointer (some ⟨k.bO, 0, none⟩), .pointer (some ⟨k.bO, 0, none⟩), .func (.func 37) #[] #[.pointer (some ⟨o3, 0, none⟩), .pointer (some ⟨o2, 0, none⟩), .pointer (some ⟨o1, 0, none⟩)], .tuple #[], .tuple #[], .tuple #[], .tuple #[], .tuple #[], .tuple #[]], todo := .code (.region 6 opsV6t_4 true) :: tdV6t_4.tail, defers := [], mode := .run, kind := .normal }
def valsV6t_4 (k : C4) (_wb : Nat) (_set _full : Bool) (kept _inn _given : Int) (_wv : Int) (_o0 _o1 _o2 _o3 : Nat) : List (Nat × Value) := [(16, .pointer (some ⟨k.bO, 0, none⟩)), (17, .pointer (some ⟨k.bO, 0, none⟩)), (18, .pointer (some ⟨k.bO, 4, none⟩)), (19, .int .u64 kept), (20, .bool false), (4, .int .u64 kept), (5, .bool false)]
def hsV6t_4 : List (List Hint) := [flat [(0, [1], none)] 0, flat [] 1, flat [] 1, flat [(0, [0], none)] 0, flat [(0, [2], none)] 0, flat [] 1, flat [] 1]
noncomputable def XV6t_4 (k : C4) (wb : Nat) (set full : Bool) (kept inn given : Int) (wv : Int) (o0 o1 o2 o3 : Nat) : DrawX := { fr := frV6t_4 k wb set full kept inn given wv o0 o1 o2 o3, K := tdV6t_4.tail, ops := opsV6t_4, T := fillT (frV6t_4 k wb set full kept inn given wv o0 o1 o2 o3).tmps (valsV6t_4 k wb set full kept inn given wv o0 o1 o2 o3), F := fun _m => [⟨⟨k.bO, 4, none⟩, .int .u64 kept, true, some (50, 5)⟩, ⟨⟨o1, 0, none⟩, .pointer (some ⟨k.bO, 0, none⟩), true, some (41, 1)⟩, ⟨⟨o3, 0, none⟩, .bool false, true, some (4, 1)⟩] }
theorem rV6t_4 (k : C4) (set full : Bool) (kept inn given : Int) (wv : Int) (J : Nat → Value) (i wb bc pb po : Nat) (ps : Option Nat) (o : Nat → Nat) : (V6t_3 k set full kept inn given wv J i wb bc pb po ps o).map (fun x => (x.g.frame, x.g.dying.isNone, pickF [5, 13, 15] x.fs, pickF [5, 13, 15] (id x.fs), restF [5, 13, 15] (id x.fs))) = (V6t_3 k set full kept inn given wv J i wb bc pb po ps o).map fun x => ((XV6t_4 k wb set full kept inn given wv (o 0) (o 1) (o 2) (o 3)).fr, true, (XV6t_4 k wb set full kept inn given wv (o 0) (o 1) (o 2) (o 3)).F 0, (XV6t_4 k wb set full kept inn given wv (o 0) (o 1) (o 2) (o 3)).F 127, restF [5, 13, 15] x.fs) := by kernel_rfl
theorem qV6t_4 (k : C4) (set full : Bool) (kept inn given : Int) (wv : Int) (J : Nat → Value) (i wb bc pb po : Nat) (ps : Option Nat) (o : Nat → Nat) : (V6t_3 k set full kept inn given wv J i wb bc pb po ps o).map (·.k) = some 4 := by kernel_rfl
theorem HV6t_4 (k : C4) (wb : Nat) (set full : Bool) (kept inn given : Int) (wv : Int) (o0 o1 o2 o3 : Nat) : (XV6t_4 k wb set full kept inn given wv o0 o1 o2 o3).fr.todo = .code (.region 6 (XV6t_4 k wb set full kept inn given wv o0 o1 o2 o3).ops true) :: (XV6t_4 k wb set full kept inn given wv o0 o1 o2 o3).K := by kernel_rfl
theorem TV6t_4 (k : C4) (wb : Nat) (set full : Bool) (kept inn given : Int) (wv : Int) (o0 o1 o2 o3 : Nat) : (XV6t_4 k wb set full kept inn given wv o0 o1 o2 o3).fr.tmps = (XV6t_4 k wb set full kept inn given wv o0 o1 o2 o3).T 0 := by kernel_rfl
theorem dV6t_4 (cs : List Frame) (k : C4) (wb : Nat) (set full : Bool) (kept inn given : Int) (wv : Int) (o0 o1 o2 o3 : Nat) : drawData Try.prog ⟨run' (XV6t_4 k wb set full kept inn given wv o0 o1 o2 o3).fr cs, [], 0, [], []⟩ = some (true, true, 7, [[], [0], [1], [2], [], [3, 0, 1, 2, 3], [4, 5, 0, 1, 2, 3, 4, 5]], [[], [0], [1], [2], [], [3, 0, 1, 2, 3, 4], [4, 5, 0, 1, 2, 3, 4, 5]], [[], [0], [1], [2], [5], [3, 0, 1, 2, 3], [4, 5, 0, 1, 2, 3, 4, 5]]) := by kernel_rfl
theorem gV6t_4 (cs : List Frame) (k : C4) (wb : Nat) (set full : Bool) (kept inn given : Int) (wv : Int) (o0 o1 o2 o3 : Nat) (l : List Nat) (o : Nat → Nat) : (pairsOf [[0], [1, 16], [3, 17], [7, 19], [15, 23], [31, 47], [63], [127]] [[], [0], [1], [2], [], [3, 0, 1, 2, 3], [4, 5, 0, 1, 2, 3, 4, 5]]).map ((XV6t_4 k wb set full kept inn given wv o0 o1 o2 o3).edgeL Try.prog cs (fun _ i => hsV6t_4.getD i []) l o) = (pairsOf [[0], [1, 16], [3, 17], [7, 19], [15, 23], [31, 47], [63], [127]] [[], [0], [1], [2], [], [3, 0, 1, 2, 3], [4, 5, 0, 1, 2, 3, 4, 5]]).map ((XV6t_4 k wb set full kept inn given wv o0 o1 o2 o3).edgeR Try.prog cs (fun _ i => hsV6t_4.getD i []) l o) := by kernel_rfl
noncomputable def V6t_4 (k : C4) (set full : Bool) (kept inn given : Int) (wv : Int) (J : Nat → Value) (i wb bc pb po : Nat) (ps : Option Nat) := regA (fun o => XV6t_4 k wb set full kept inn given wv (o 0) (o 1) (o 2) (o 3)) 127 id (V6t_3 k set full kept inn given wv J i wb bc pb po ps)
def hV6t_5 : List Hint := flat [(22, [], some (.bool false)), (6, [12], none)] 8
noncomputable def V6t_5 (k : C4) (set full : Bool) (kept inn given : Int) (wv : Int) (J : Nat → Value) (i wb bc pb po : Nat) (ps : Option Nat) := nextA (segA Try.prog noRel hV6t_5 (V6t_4 k set full kept inn given wv J i wb bc pb po ps))
theorem kV6t_5 (k : C4) (set full : Bool) (kept inn given : Int) (wv : Int) (J : Nat → Value) (i wb bc pb po : Nat) (ps : Option Nat) (o : Nat → Nat) : ((segA Try.prog noRel hV6t_5 (V6t_4 k set full kept inn given wv J i wb bc pb po ps) o).isSome, (segA Try.prog noRel hV6t_5 (V6t_4 k set full kept inn given wv J i wb bc pb po ps) o).map fun p => (p.1.owe.map Prod.fst, p.1.oweV, deafBehind 0 p.2)) = (true, (segA Try.prog noRel hV6t_5 (V6t_4 k set full kept inn given wv J i wb bc pb po ps) o).map fun p => (p.1.owe.map Prod.snd, [(.bool (kept != kept), .bool false)], 0)) := by kernel_rfl
theorem iV6t_6 (k : C4) (set full : Bool) (kept inn given : Int) (wv : Int) (J : Nat → Value) (i wb bc pb po : Nat) (ps : Option Nat) (o : Nat → Nat) : (V6t_5 k set full kept inn given wv J i wb bc pb po ps o).map (fun x => opAt Try.prog x) = some (some (valS (Instr.indexAt 32 (.slice k.a k.n k.cap) (.int .i64 ((i : Nat) : Int))))) := by kernel_rfl
noncomputable def V6t_6 (k : C4) (set full : Bool) (kept inn given : Int) (wv : Int) (J : Nat → Value) (i wb bc pb po : Nat) (ps : Option Nat) := putV (.pointer (some ⟨pb, po, ps⟩)) (V6t_5 k set full kept inn given wv J i wb bc pb po ps)
def hV6t_7 : List Hint := flat [(1, [9], none)] 17
noncomputable def V6t_7 (k : C4) (set full : Bool) (kept inn given : Int) (wv : Int) (J : Nat → Value) (i wb bc pb po : Nat) (ps : Option Nat) := nextA (segA Try.prog noRel hV6t_7 (V6t_6 k set full kept inn given wv J i wb bc pb po ps))
theorem kV6t_7 (k : C4) (set full : Bool) (kept inn given : Int) (wv : Int) (J : Nat → Value) (i wb bc pb po : Nat) (ps : Option Nat) (o : Nat → Nat) : ((segA Try.prog noRel hV6t_7 (V6t_6 k set full kept inn given wv J i wb bc pb po ps) o).isSome, (segA Try.prog noRel hV6t_7 (V6t_6 k set full kept inn given wv J i wb bc pb po ps) o).map fun p => (p.1.owe.map Prod.fst, p.1.oweV, deafBehind 0 p.2)) = (true, (segA Try.prog noRel hV6t_7 (V6t_6 k set full kept inn given wv J i wb bc pb po ps) o).map fun p => (p.1.owe.map Prod.snd, [(.bool (kept != kept), .bool false)], 0)) := by kernel_rfl
theorem zV6t (k : C4) (set full : Bool) (kept inn given : Int) (wv : Int) (J : Nat → Value) (i wb bc pb po : Nat) (ps : Option Nat) (o : Nat → Nat) : (f4A L4 (V6t_7 k set full kept inn given wv J i wb bc pb po ps) o, (V6t_7 k set full kept inn given wv J i wb bc pb po ps o).map fun x => pickF [0, 1, 2, 3, 4, 5, 6, 7, 8] x.fs) = (some (true, true, fr4 td_tail #[], 266, lv4 k ⟨set, true, full, kept, inn, given⟩ i), some (FM k ⟨set, true, full, kept, inn, given⟩ bc)) := by kernel_rfl
theorem C_V6t (set full : Bool) (kept inn given : Int) (wv : Int) : CaseC ⟨set, true, full, kept, inn, given⟩ ⟨set, true, full, kept, inn, given⟩ 6 wv := by
  intro k R W w Q' J i wb bc pb po ps hR hi hp hRS K
  have hA0 : At (V6t_0 k set full kept inn given wv J i wb bc pb po ps) (fun _ => 0) ⟨run' (fr4 td_case (tm4c k ⟨set, true, full, kept, inn, given⟩ i J wb 6)) [], FM k ⟨set, true, full, kept, inn, given⟩ bc ++ FS pb po ps 6 wv ++ FW wb wv, 0, [], []⟩ := fun _ _ => rfl
  have hr0 : (⟨run' (fr4 td_case (tm4c k ⟨set, true, full, kept, inn, given⟩ i J wb 6)) [], FM k ⟨set, true, full, kept, inn, given⟩ bc ++ FS pb po ps 6 wv ++ FW wb wv, 0, [], []⟩ : KG).g.status = .running := rfl
  have ho0 : (⟨run' (fr4 td_case (tm4c k ⟨set, true, full, kept, inn, given⟩ i J wb 6)) [], FM k ⟨set, true, full, kept, inn, given⟩ bc ++ FS pb po ps 6 wv ++ FW wb wv, 0, [], []⟩ : KG).g.offers = none := rfl
  have hR0 : R ≤ w.heap.size := hR
  have hRS0 := hRS
  refine rbG_segD (G := (CT ⟨set, true, full, kept, inn, given⟩ bc)) hA0 hr0 ho0 hV6t_1 hR0 hRS0 (fun o => ok_of2 (kV6t_1 k set full kept inn given wv J i wb bc pb po ps o) (by simp)) fun o1 x1 w1 _ hA1 hk1 hr1 ho1 hRS1 ht1 => ?_
  have hA1 : At (V6t_1 k set full kept inn given wv J i wb bc pb po ps) o1 x1 := hA1
  have hR1 := Nat.le_trans hR0 ht1.size
  refine rb_idx4 hr1 (hA1.op (iV6t_2 k set full kept inn given wv J i wb bc pb po ps o1)) hi hp fun d2 => ?_
  have hA2 : At (V6t_2 k set full kept inn given wv J i wb bc pb po ps) o1 _ := hA1.put (.pointer (some ⟨pb, po, ps⟩))
  have hr2 : (run' (x1.g.frame.finish (.pointer (some ⟨pb, po, ps⟩))) x1.g.callers).status = .running := rfl
  have ho2 : (run' (x1.g.frame.finish (.pointer (some ⟨pb, po, ps⟩))) x1.g.callers).offers = none := rfl
  have hR2 := hR1
  have hRS2 := hRS1.drawn d2
  refine rbG_segD (G := (CT ⟨set, true, full, kept, inn, given⟩ bc)) hA2 hr2 ho2 hV6t_3 hR2 hRS2 (fun o => ok_of2 (kV6t_3 k set full kept inn given wv J i wb bc pb po ps o) (by simp)) fun o3 x3 w3 _ hA3 hk3 hr3 ho3 hRS3 ht3 => ?_
  have hA3 : At (V6t_3 k set full kept inn given wv J i wb bc pb po ps) o3 x3 := hA3
  have hR3 := Nat.le_trans hR2 ht3.size
  have hq3 : x3.k = 4 := hA3.kIs (qV6t_4 k set full kept inn given wv J i wb bc pb po ps o3)
  refine rb_region (G := (CT ⟨set, true, full, kept, inn, given⟩ bc)) (X := fun o => XV6t_4 k wb set full kept inn given wv (o 0) (o 1) (o 2) (o 3)) hA3 hr3 ho3 [5, 13, 15] id (rV6t_4 k set full kept inn given wv J i wb bc pb po ps o3) (fun o' ho' => by rw [ho' 0 (by omega), ho' 1 (by omega), ho' 2 (by omega), ho' 3 (by omega)]) (HV6t_4 k wb set full kept inn given wv (o3 0) (o3 1) (o3 2) (o3 3)) (TV6t_4 k wb set full kept inn given wv (o3 0) (o3 1) (o3 2) (o3 3)) (fun cs => dV6t_4 cs k wb set full kept inn given wv (o3 0) (o3 1) (o3 2) (o3 3)) (by kernel_rfl) rfl rfl (fun cs => edges_of rfl (gV6t_4 cs k wb set full kept inn given wv (o3 0) (o3 1) (o3 2) (o3 3))) hR3 hRS3 fun x4 w4 hA4 hk4 hr4 ho4 hR4 hRS4 => ?_
  have hA4 : At (V6t_4 k set full kept inn given wv J i wb bc pb po ps) o3 x4 := hA4
  refine rbG_segD (G := (CT ⟨set, true, full, kept, inn, given⟩ bc)) hA4 hr4 ho4 hV6t_5 hR4 hRS4 (fun o => ok_of2 (kV6t_5 k set full kept inn given wv J i wb bc pb po ps o) (by simp)) fun o5 x5 w5 _ hA5 hk5 hr5 ho5 hRS5 ht5 => ?_
  have hA5 : At (V6t_5 k set full kept inn given wv J i wb bc pb po ps) o5 x5 := hA5
  have hR5 := Nat.le_trans hR4 ht5.size
  refine rb_idx4 hr5 (hA5.op (iV6t_6 k set full kept inn given wv J i wb bc pb po ps o5)) hi hp fun d6 => ?_
  have hA6 : At (V6t_6 k set full kept inn given wv J i wb bc pb po ps) o5 _ := hA5.put (.pointer (some ⟨pb, po, ps⟩))
  have hr6 : (run' (x5.g.frame.finish (.pointer (some ⟨pb, po, ps⟩))) x5.g.callers).status = .running := rfl
  have ho6 : (run' (x5.g.frame.finish (.pointer (some ⟨pb, po, ps⟩))) x5.g.callers).offers = none := rfl
  have hR6 := hR5
  have hRS6 := hRS5.drawn d6
  refine rbG_segD (G := (CT ⟨set, true, full, kept, inn, given⟩ bc)) hA6 hr6 ho6 hV6t_7 hR6 hRS6 (fun o => ok_of2 (kV6t_7 k set full kept inn given wv J i wb bc pb po ps o) (by simp)) fun o7 x7 w7 _ hA7 hk7 hr7 ho7 hRS7 ht7 => ?_
  have hA7 : At (V6t_7 k set full kept inn given wv J i wb bc pb po ps) o7 x7 := hA7
  have hR7 := Nat.le_trans hR6 ht7.size
  obtain ⟨hz1, hz2⟩ := Prod.mk.inj (zV6t k set full kept inn given wv J i wb bc pb po ps o7)
  obtain ⟨hg, hs, hl⟩ := f4At hA7 hr7 ho7 hz1
  obtain ⟨J', hJ⟩ := tm_of hs hl
  rw [hA7.here] at hz2
  simp only [Option.map_some, Option.some.injEq] at hz2
  rw [hg, hJ]
  have hF := RS.out [0, 1, 2, 3, 4, 5, 6, 7, 8] rfl hz2 hRS7
  exact K J' bc _ hR7 (RS.keep3 hF)
end Go.Proofs
