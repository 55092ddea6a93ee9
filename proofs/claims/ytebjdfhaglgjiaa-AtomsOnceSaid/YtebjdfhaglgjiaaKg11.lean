/- AtomsOnce: a case of its switch keeps what is held (11). No conditions beyond those written in the theorems. -/
import Derived.Test.YtebjdfhaglgjiaaKf1
import Derived.Test.YtebjdfhaglgjiaaKy20
/-! printed by genf4.py: cases of the switch of AtomsOnce -/
set_option maxRecDepth 100000
namespace Go.Proofs
open Go Go.Conc Go.Km

/-! case 11: kind 11 set false done false full false -/
noncomputable def V11_0 (k : C4) (set done full : Bool) (kept inn given : Int) (wv : Int) (J : Nat → Value) (i wb bc pb po : Nat) (ps : Option Nat) : (Nat → Nat) → Option KG := fun _ => some ⟨run' (fr4 td_case (tm4c k ⟨set, done, full, kept, inn, given⟩ i J wb 11)) [], FM k ⟨set, done, full, kept, inn, given⟩ bc ++ FS pb po ps 11 wv ++ FW wb wv, 0, [], []⟩
def hV11_1 : List Hint := flat [] 58
noncomputable def V11_1 (k : C4) (set done full : Bool) (kept inn given : Int) (wv : Int) (J : Nat → Value) (i wb bc pb po : Nat) (ps : Option Nat) := nextA (segA Try.prog noRel hV11_1 (V11_0 k set done full kept inn given wv J i wb bc pb po ps))
theorem kV11_1 (k : C4) (set done full : Bool) (kept inn given : Int) (wv : Int) (J : Nat → Value) (i wb bc pb po : Nat) (ps : Option Nat) (o : Nat → Nat) : ((segA Try.prog noRel hV11_1 (V11_0 k set done full kept inn given wv J i wb bc pb po ps) o).isSome, (segA Try.prog noRel hV11_1 (V11_0 k set done full kept inn given wv J i wb bc pb po ps) o).map fun p => (p.1.owe.map Prod.fst, p.1.oweV, deafBehind 0 p.2)) = (true, (segA Try.prog noRel hV11_1 (V11_0 k set done full kept inn given wv J i wb bc pb po ps) o).map fun p => (p.1.owe.map Prod.snd, [], 0)) := by kernel_rfl
theorem cV11_2 (k : C4) (set done full : Bool) (kept inn given : Int) (wv : Int) (J : Nat → Value) (i wb bc pb po : Nat) (ps : Option Nat) (o : Nat → Nat) : (topA (V11_1 k set done full kept inn given wv J i wb bc pb po ps) o, (V11_1 k set done full kept inn given wv J i wb bc pb po ps o).map fun x => (pickF [7, 8] x.fs, pickF [7, 8] ((setV [(8, .int .u64 (n1 given))]) x.fs), restF [7, 8] ((setV [(8, .int .u64 (n1 given))]) x.fs))) = (some (Frame.enter Try.prog 20 #[.pointer (some ⟨k.bT, 0, none⟩)] .normal, false, true), (V11_1 k set done full kept inn given wv J i wb bc pb po ps o).map fun x => (F0_F20 k.bT k.first given (some (95, 2)) (some (95, 2)), [⟨⟨k.bT, 0, none⟩, .int .u64 k.first, true, some (95, 2)⟩, ⟨⟨k.bT, 1, none⟩, .int .u64 (n1 given), true, some (95, 2)⟩], restF [7, 8] x.fs)) := by kernel_rfl
noncomputable def V11_2 (k : C4) (set done full : Bool) (kept inn given : Int) (wv : Int) (J : Nat → Value) (i wb bc pb po : Nat) (ps : Option Nat) := popA (.tuple #[.int .u64 (nextV k.first given), .int .i64 0]) (setV [(8, .int .u64 (n1 given))]) (V11_1 k set done full kept inn given wv J i wb bc pb po ps)
def hV11_3 : List Hint := flat [(13, [], some (.bool false))] 25
noncomputable def V11_3 (k : C4) (set done full : Bool) (kept inn given : Int) (wv : Int) (J : Nat → Value) (i wb bc pb po : Nat) (ps : Option Nat) := nextA (segA Try.prog noRel hV11_3 (V11_2 k set done full kept inn given wv J i wb bc pb po ps))
theorem kV11_3 (k : C4) (set done full : Bool) (kept inn given : Int) (wv : Int) (J : Nat → Value) (i wb bc pb po : Nat) (ps : Option Nat) (o : Nat → Nat) : ((segA Try.prog noRel hV11_3 (V11_2 k set done full kept inn given wv J i wb bc pb po ps) o).isSome, (segA Try.prog noRel hV11_3 (V11_2 k set done full kept inn given wv J i wb bc pb po ps) o).map fun p => (p.1.owe.map Prod.fst, p.1.oweV, deafBehind 0 p.2)) = (true, (segA Try.prog noRel hV11_3 (V11_2 k set done full kept inn given wv J i wb bc pb po ps) o).map fun p => (p.1.owe.map Prod.snd, [(.bool (nextV k.first given != IntKind.u64.wrap (k.first + given)), .bool false)], 0)) := by kernel_rfl
theorem zV11 (k : C4) (set done full : Bool) (kept inn given : Int) (wv : Int) (J : Nat → Value) (i wb bc pb po : Nat) (ps : Option Nat) (o : Nat → Nat) : (f4A L4 (V11_3 k set done full kept inn given wv J i wb bc pb po ps) o, (V11_3 k set done full kept inn given wv J i wb bc pb po ps o).map fun x => pickF [0, 1, 2, 3, 4, 5, 6, 7, 8] x.fs) = (some (true, true, fr4 td_tail #[], 266, lv4 k ⟨set, done, full, kept, inn, n1 given⟩ i), some (FM k ⟨set, done, full, kept, inn, n1 given⟩ bc)) := by kernel_rfl
theorem C_V11 (set done full : Bool) (kept inn given : Int) (wv : Int) : CaseC ⟨set, done, full, kept, inn, given⟩ ⟨set, done, full, kept, inn, n1 given⟩ 11 wv := by
  intro k R W w Q' J i wb bc pb po ps hR hi hp hRS K
  have hA0 : At (V11_0 k set done full kept inn given wv J i wb bc pb po ps) (fun _ => 0) ⟨run' (fr4 td_case (tm4c k ⟨set, done, full, kept, inn, given⟩ i J wb 11)) [], FM k ⟨set, done, full, kept, inn, given⟩ bc ++ FS pb po ps 11 wv ++ FW wb wv, 0, [], []⟩ := fun _ _ => rfl
  have hr0 : (⟨run' (fr4 td_case (tm4c k ⟨set, done, full, kept, inn, given⟩ i J wb 11)) [], FM k ⟨set, done, full, kept, inn, given⟩ bc ++ FS pb po ps 11 wv ++ FW wb wv, 0, [], []⟩ : KG).g.status = .running := rfl
  have ho0 : (⟨run' (fr4 td_case (tm4c k ⟨set, done, full, kept, inn, given⟩ i J wb 11)) [], FM k ⟨set, done, full, kept, inn, given⟩ bc ++ FS pb po ps 11 wv ++ FW wb wv, 0, [], []⟩ : KG).g.offers = none := rfl
  have hR0 : R ≤ w.heap.size := hR
  have hRS0 := hRS
  refine rbG_segD (G := (CT ⟨set, done, full, kept, inn, given⟩ bc)) hA0 hr0 ho0 hV11_1 hR0 hRS0 (fun o => ok_of2 (kV11_1 k set done full kept inn given wv J i wb bc pb po ps o) (by simp)) fun o1 x1 w1 _ hA1 hk1 hr1 ho1 hRS1 ht1 => ?_
  have hA1 : At (V11_1 k set done full kept inn given wv J i wb bc pb po ps) o1 x1 := hA1
  have hR1 := Nat.le_trans hR0 ht1.size
  refine rb_call2 (G := (CT ⟨set, done, full, kept, inn, given⟩ bc)) (C_F20 k.bT k.first given (some (95, 2)) (some (95, 2))) hA1 hr1 ho1 [7, 8] (setV [(8, .int .u64 (n1 given))]) (cV11_2 k set done full kept inn given wv J i wb bc pb po ps o1) hR1 hRS1 fun x2 w2 hA2 hk2 hr2 ho2 hR2 hRS2 => ?_
  have hA2 : At (V11_2 k set done full kept inn given wv J i wb bc pb po ps) o1 x2 := hA2
  refine rbG_segD (G := (CT ⟨set, done, full, kept, inn, given⟩ bc)) hA2 hr2 ho2 hV11_3 hR2 hRS2 (fun o => ok_of2 (kV11_3 k set done full kept inn given wv J i wb bc pb po ps o) (by simp [next_eq])) fun o3 x3 w3 _ hA3 hk3 hr3 ho3 hRS3 ht3 => ?_
  have hA3 : At (V11_3 k set done full kept inn given wv J i wb bc pb po ps) o3 x3 := hA3
  have hR3 := Nat.le_trans hR2 ht3.size
  obtain ⟨hz1, hz2⟩ := Prod.mk.inj (zV11 k set done full kept inn given wv J i wb bc pb po ps o3)
  obtain ⟨hg, hs, hl⟩ := f4At hA3 hr3 ho3 hz1
  obtain ⟨J', hJ⟩ := tm_of hs hl
  rw [hA3.here] at hz2
  simp only [Option.map_some, Option.some.injEq] at hz2
  rw [hg, hJ]
  have hF := RS.out [0, 1, 2, 3, 4, 5, 6, 7, 8] rfl hz2 hRS3
  exact K J' bc _ hR3 (RS.keep3 hF)
end Go.Proofs
