/- AtomsOnce: a case of its switch keeps what is held (7). No conditions beyond those written in the theorems. -/
import Derived.Test.YtebjdfhaglgjiaaKf1
/-! printed by genf4.py: cases of the switch of AtomsOnce -/
set_option maxRecDepth 100000
namespace Go.Proofs
open Go Go.Conc Go.Km

/-! case 7f: kind 7 set false done false full false -/
noncomputable def V7f_0 (k : C4) (set done : Bool) (kept given : Int) (wv : Int) (J : Nat → Value) (i wb bc pb po : Nat) (ps : Option Nat) : (Nat → Nat) → Option KG := fun _ => some ⟨run' (fr4 td_case (tm4c k ⟨set, done, false, kept, 0, given⟩ i J wb 7)) [], FM k ⟨set, done, false, kept, 0, given⟩ bc ++ FS pb po ps 7 wv ++ FW wb wv ++ CT ⟨set, done, false, kept, 0, given⟩ bc, 0, [], []⟩
def hV7f_1 : List Hint := flat [(62, [6], none)] 57
noncomputable def V7f_1 (k : C4) (set done : Bool) (kept given : Int) (wv : Int) (J : Nat → Value) (i wb bc pb po : Nat) (ps : Option Nat) := nextA (segA Try.prog noRel hV7f_1 (V7f_0 k set done kept given wv J i wb bc pb po ps))
theorem kV7f_1 (k : C4) (set done : Bool) (kept given : Int) (wv : Int) (J : Nat → Value) (i wb bc pb po : Nat) (ps : Option Nat) (o : Nat → Nat) : ((segA Try.prog noRel hV7f_1 (V7f_0 k set done kept given wv J i wb bc pb po ps) o).isSome, (segA Try.prog noRel hV7f_1 (V7f_0 k set done kept given wv J i wb bc pb po ps) o).map fun p => (p.1.owe.map Prod.fst, p.1.oweV, deafBehind 0 p.2)) = (true, (segA Try.prog noRel hV7f_1 (V7f_0 k set done kept given wv J i wb bc pb po ps) o).map fun p => (p.1.owe.map Prod.snd, [], 0)) := by kernel_rfl
theorem zV7f (k : C4) (set done : Bool) (kept given : Int) (wv : Int) (J : Nat → Value) (i wb bc pb po : Nat) (ps : Option Nat) (o : Nat → Nat) : (f4A L4 (V7f_1 k set done kept given wv J i wb bc pb po ps) o, (V7f_1 k set done kept given wv J i wb bc pb po ps o).map fun x => pickF [0, 1, 2, 3, 4, 5, 6, 7, 8] x.fs) = (some (true, true, fr4 td_tail #[], 266, lv4 k ⟨set, done, false, kept, 0, given⟩ i), some (FM k ⟨set, done, false, kept, 0, given⟩ bc ++ CT ⟨set, done, false, kept, 0, given⟩ bc)) := by kernel_rfl
theorem C_V7f (set done : Bool) (kept given : Int) (wv : Int) : CaseC ⟨set, done, false, kept, 0, given⟩ ⟨set, done, false, kept, 0, given⟩ 7 wv := by
  intro k R W w Q' J i wb bc pb po ps hR hi hp hRS K
  have hRS : RS S0 W ([] ++ (FM k ⟨set, done, false, kept, 0, given⟩ bc ++ FS pb po ps 7 wv ++ FW wb wv ++ CT ⟨set, done, false, kept, 0, given⟩ bc)) w := hRS.perm List.perm_append_comm
  have hA0 : At (V7f_0 k set done kept given wv J i wb bc pb po ps) (fun _ => 0) ⟨run' (fr4 td_case (tm4c k ⟨set, done, false, kept, 0, given⟩ i J wb 7)) [], FM k ⟨set, done, false, kept, 0, given⟩ bc ++ FS pb po ps 7 wv ++ FW wb wv ++ CT ⟨set, done, false, kept, 0, given⟩ bc, 0, [], []⟩ := fun _ _ => rfl
  have hr0 : (⟨run' (fr4 td_case (tm4c k ⟨set, done, false, kept, 0, given⟩ i J wb 7)) [], FM k ⟨set, done, false, kept, 0, given⟩ bc ++ FS pb po ps 7 wv ++ FW wb wv ++ CT ⟨set, done, false, kept, 0, given⟩ bc, 0, [], []⟩ : KG).g.status = .running := rfl
  have ho0 : (⟨run' (fr4 td_case (tm4c k ⟨set, done, false, kept, 0, given⟩ i J wb 7)) [], FM k ⟨set, done, false, kept, 0, given⟩ bc ++ FS pb po ps 7 wv ++ FW wb wv ++ CT ⟨set, done, false, kept, 0, given⟩ bc, 0, [], []⟩ : KG).g.offers = none := rfl
  have hR0 : R ≤ w.heap.size := hR
  have hRS0 := hRS
  refine rbG_segD (G := []) hA0 hr0 ho0 hV7f_1 hR0 hRS0 (fun o => ok_of2 (kV7f_1 k set done kept given wv J i wb bc pb po ps o) (by simp)) fun o1 x1 w1 _ hA1 hk1 hr1 ho1 hRS1 ht1 => ?_
  have hA1 : At (V7f_1 k set done kept given wv J i wb bc pb po ps) o1 x1 := hA1
  have hR1 := Nat.le_trans hR0 ht1.size
  obtain ⟨hz1, hz2⟩ := Prod.mk.inj (zV7f k set done kept given wv J i wb bc pb po ps o1)
  obtain ⟨hg, hs, hl⟩ := f4At hA1 hr1 ho1 hz1
  obtain ⟨J', hJ⟩ := tm_of hs hl
  rw [hA1.here] at hz2
  simp only [Option.map_some, Option.some.injEq] at hz2
  rw [hg, hJ]
  have hF := RS.only [0, 1, 2, 3, 4, 5, 6, 7, 8] hRS1
  rw [hz2] at hF
  exact K J' bc _ hR1 hF
/-! case 7t: kind 7 set false done false full true -/
noncomputable def V7t_0 (k : C4) (set done : Bool) (kept inn given : Int) (wv : Int) (J : Nat → Value) (i wb bc pb po : Nat) (ps : Option Nat) : (Nat → Nat) → Option KG := fun _ => some ⟨run' (fr4 td_case (tm4c k ⟨set, done, true, kept, inn, given⟩ i J wb 7)) [], FM k ⟨set, done, true, kept, inn, given⟩ bc ++ FS pb po ps 7 wv ++ FW wb wv ++ CT ⟨set, done, true, kept, inn, given⟩ bc, 0, [], []⟩
def hV7t_1 : List Hint := flat [(62, [6], none), (0, [12, 12], none), (22, [12], none), (22, [], some (.bool false))] 9
noncomputable def V7t_1 (k : C4) (set done : Bool) (kept inn given : Int) (wv : Int) (J : Nat → Value) (i wb bc pb po : Nat) (ps : Option Nat) := nextA (segA Try.prog noRel hV7t_1 (V7t_0 k set done kept inn given wv J i wb bc pb po ps))
theorem kV7t_1 (k : C4) (set done : Bool) (kept inn given : Int) (wv : Int) (J : Nat → Value) (i wb bc pb po : Nat) (ps : Option Nat) (o : Nat → Nat) : ((segA Try.prog noRel hV7t_1 (V7t_0 k set done kept inn given wv J i wb bc pb po ps) o).isSome, (segA Try.prog noRel hV7t_1 (V7t_0 k set done kept inn given wv J i wb bc pb po ps) o).map fun p => (p.1.owe.map Prod.fst, p.1.oweV, deafBehind 0 p.2)) = (true, (segA Try.prog noRel hV7t_1 (V7t_0 k set done kept inn given wv J i wb bc pb po ps) o).map fun p => (p.1.owe.map Prod.snd, [(.bool (inn != inn), .bool false)], 0)) := by kernel_rfl
theorem zV7t (k : C4) (set done : Bool) (kept inn given : Int) (wv : Int) (J : Nat → Value) (i wb bc pb po : Nat) (ps : Option Nat) (o : Nat → Nat) : (f4A L4 (V7t_1 k set done kept inn given wv J i wb bc pb po ps) o, (V7t_1 k set done kept inn given wv J i wb bc pb po ps o).map fun x => pickF [0, 1, 2, 3, 4, 5, 6, 7, 8, 12] x.fs) = (some (true, true, fr4 td_tail #[], 266, lv4 k ⟨set, done, true, kept, inn, given⟩ i), some (FM k ⟨set, done, true, kept, inn, given⟩ bc ++ CT ⟨set, done, true, kept, inn, given⟩ bc)) := by kernel_rfl
theorem C_V7t (set done : Bool) (kept inn given : Int) (wv : Int) : CaseC ⟨set, done, true, kept, inn, given⟩ ⟨set, done, true, kept, inn, given⟩ 7 wv := by
  intro k R W w Q' J i wb bc pb po ps hR hi hp hRS K
  have hRS : RS S0 W ([] ++ (FM k ⟨set, done, true, kept, inn, given⟩ bc ++ FS pb po ps 7 wv ++ FW wb wv ++ CT ⟨set, done, true, kept, inn, given⟩ bc)) w := hRS.perm List.perm_append_comm
  have hA0 : At (V7t_0 k set done kept inn given wv J i wb bc pb po ps) (fun _ => 0) ⟨run' (fr4 td_case (tm4c k ⟨set, done, true, kept, inn, given⟩ i J wb 7)) [], FM k ⟨set, done, true, kept, inn, given⟩ bc ++ FS pb po ps 7 wv ++ FW wb wv ++ CT ⟨set, done, true, kept, inn, given⟩ bc, 0, [], []⟩ := fun _ _ => rfl
  have hr0 : (⟨run' (fr4 td_case (tm4c k ⟨set, done, true, kept, inn, given⟩ i J wb 7)) [], FM k ⟨set, done, true, kept, inn, given⟩ bc ++ FS pb po ps 7 wv ++ FW wb wv ++ CT ⟨set, done, true, kept, inn, given⟩ bc, 0, [], []⟩ : KG).g.status = .running := rfl
  have ho0 : (⟨run' (fr4 td_case (tm4c k ⟨set, done, true, kept, inn, given⟩ i J wb 7)) [], FM k ⟨set, done, true, kept, inn, given⟩ bc ++ FS pb po ps 7 wv ++ FW wb wv ++ CT ⟨set, done, true, kept, inn, given⟩ bc, 0, [], []⟩ : KG).g.offers = none := rfl
  have hR0 : R ≤ w.heap.size := hR
  have hRS0 := hRS
  refine rbG_segD (G := []) hA0 hr0 ho0 hV7t_1 hR0 hRS0 (fun o => ok_of2 (kV7t_1 k set done kept inn given wv J i wb bc pb po ps o) (by simp)) fun o1 x1 w1 _ hA1 hk1 hr1 ho1 hRS1 ht1 => ?_
  have hA1 : At (V7t_1 k set done kept inn given wv J i wb bc pb po ps) o1 x1 := hA1
  have hR1 := Nat.le_trans hR0 ht1.size
  obtain ⟨hz1, hz2⟩ := Prod.mk.inj (zV7t k set done kept inn given wv J i wb bc pb po ps o1)
  obtain ⟨hg, hs, hl⟩ := f4At hA1 hr1 ho1 hz1
  obtain ⟨J', hJ⟩ := tm_of hs hl
  rw [hA1.here] at hz2
  simp only [Option.map_some, Option.some.injEq] at hz2
  rw [hg, hJ]
  have hF := RS.only [0, 1, 2, 3, 4, 5, 6, 7, 8, 12] hRS1
  rw [hz2] at hF
  exact K J' bc _ hR1 hF
/-! case 8: kind 8 set false done false full false -/
noncomputable def V8_0 (k : C4) (set done full : Bool) (kept inn given : Int) (wv : Int) (J : Nat → Value) (i wb bc pb po : Nat) (ps : Option Nat) : (Nat → Nat) → Option KG := fun _ => some ⟨run' (fr4 td_case (tm4c k ⟨set, done, full, kept, inn, given⟩ i J wb 8)) [], FM k ⟨set, done, full, kept, inn, given⟩ bc ++ FS pb po ps 8 wv ++ FW wb wv, 0, [], []⟩
def hV8_1 : List Hint := flat [(40, [11], none), (25, [12, 12], none), (0, [6], none), (28, [11], none)] 6
noncomputable def V8_1 (k : C4) (set done full : Bool) (kept inn given : Int) (wv : Int) (J : Nat → Value) (i wb bc pb po : Nat) (ps : Option Nat) := nextA (segA Try.prog noRel hV8_1 (V8_0 k set done full kept inn given wv J i wb bc pb po ps))
theorem kV8_1 (k : C4) (set done full : Bool) (kept inn given : Int) (wv : Int) (J : Nat → Value) (i wb bc pb po : Nat) (ps : Option Nat) (o : Nat → Nat) : ((segA Try.prog noRel hV8_1 (V8_0 k set done full kept inn given wv J i wb bc pb po ps) o).isSome, (segA Try.prog noRel hV8_1 (V8_0 k set done full kept inn given wv J i wb bc pb po ps) o).map fun p => (p.1.owe.map Prod.fst, p.1.oweV, deafBehind 0 p.2)) = (true, (segA Try.prog noRel hV8_1 (V8_0 k set done full kept inn given wv J i wb bc pb po ps) o).map fun p => (p.1.owe.map Prod.snd, [], 0)) := by kernel_rfl
theorem zV8 (k : C4) (set done full : Bool) (kept inn given : Int) (wv : Int) (J : Nat → Value) (i wb bc pb po : Nat) (ps : Option Nat) (o : Nat → Nat) : (f4A L4 (V8_1 k set done full kept inn given wv J i wb bc pb po ps) o, (V8_1 k set done full kept inn given wv J i wb bc pb po ps o).map fun x => pickF [0, 1, 2, 3, 4, 5, 6, 7, 8, 12] x.fs) = (some (true, true, fr4 td_tail #[], 266, lv4 k ⟨set, done, true, kept, wv, given⟩ i), some (FM k ⟨set, done, true, kept, wv, given⟩ (o 0) ++ CT ⟨set, done, true, kept, wv, given⟩ (o 0))) := by kernel_rfl
theorem C_V8 (set done full : Bool) (kept inn given : Int) (wv : Int) : CaseC ⟨set, done, full, kept, inn, given⟩ ⟨set, done, true, kept, wv, given⟩ 8 wv := by
  intro k R W w Q' J i wb bc pb po ps hR hi hp hRS K
  have hA0 : At (V8_0 k set done full kept inn given wv J i wb bc pb po ps) (fun _ => 0) ⟨run' (fr4 td_case (tm4c k ⟨set, done, full, kept, inn, given⟩ i J wb 8)) [], FM k ⟨set, done, full, kept, inn, given⟩ bc ++ FS pb po ps 8 wv ++ FW wb wv, 0, [], []⟩ := fun _ _ => rfl
  have hr0 : (⟨run' (fr4 td_case (tm4c k ⟨set, done, full, kept, inn, given⟩ i J wb 8)) [], FM k ⟨set, done, full, kept, inn, given⟩ bc ++ FS pb po ps 8 wv ++ FW wb wv, 0, [], []⟩ : KG).g.status = .running := rfl
  have ho0 : (⟨run' (fr4 td_case (tm4c k ⟨set, done, full, kept, inn, given⟩ i J wb 8)) [], FM k ⟨set, done, full, kept, inn, given⟩ bc ++ FS pb po ps 8 wv ++ FW wb wv, 0, [], []⟩ : KG).g.offers = none := rfl
  have hR0 : R ≤ w.heap.size := hR
  have hRS0 := hRS
  refine rbG_segD (G := (CT ⟨set, done, full, kept, inn, given⟩ bc)) hA0 hr0 ho0 hV8_1 hR0 hRS0 (fun o => ok_of2 (kV8_1 k set done full kept inn given wv J i wb bc pb po ps o) (by simp)) fun o1 x1 w1 _ hA1 hk1 hr1 ho1 hRS1 ht1 => ?_
  have hA1 : At (V8_1 k set done full kept inn given wv J i wb bc pb po ps) o1 x1 := hA1
  have hR1 := Nat.le_trans hR0 ht1.size
  obtain ⟨hz1, hz2⟩ := Prod.mk.inj (zV8 k set done full kept inn given wv J i wb bc pb po ps o1)
  obtain ⟨hg, hs, hl⟩ := f4At hA1 hr1 ho1 hz1
  obtain ⟨J', hJ⟩ := tm_of hs hl
  rw [hA1.here] at hz2
  simp only [Option.map_some, Option.some.injEq] at hz2
  rw [hg, hJ]
  have hF := RS.only [0, 1, 2, 3, 4, 5, 6, 7, 8, 12] hRS1
  rw [hz2] at hF
  exact K J' (o1 0) _ hR1 hF
end Go.Proofs
