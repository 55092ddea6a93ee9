/- AtomsOnce: a case of its switch keeps what is held (9). No conditions beyond those written in the theorems. -/
import Derived.Test.YtebjdfhaglgjiaaKf1
/-! printed by genf4.py: cases of the switch of AtomsOnce -/
set_option maxRecDepth 100000
namespace Go.Proofs
open Go Go.Conc Go.Km

/-! case 9f: kind 9 set false done false full false -/
noncomputable def V9f_0 (k : C4) (set done : Bool) (kept given : Int) (wv : Int) (J : Nat → Value) (i wb bc pb po : Nat) (ps : Option Nat) : (Nat → Nat) → Option KG := fun _ => some ⟨run' (fr4 td_case (tm4c k ⟨set, done, false, kept, 0, given⟩ i J wb 9)) [], FM k ⟨set, done, false, kept, 0, given⟩ bc ++ FS pb po ps 9 wv ++ FW wb wv ++ CT ⟨set, done, false, kept, 0, given⟩ bc, 0, [], []⟩
def hV9f_1 : List Hint := flat [(45, [11], none), (32, [12, 12], none), (0, [6, 6], none), (86, [11], none)] 6
noncomputable def V9f_1 (k : C4) (set done : Bool) (kept given : Int) (wv : Int) (J : Nat → Value) (i wb bc pb po : Nat) (ps : Option Nat) := nextA (segA Try.prog noRel hV9f_1 (V9f_0 k set done kept given wv J i wb bc pb po ps))
theorem kV9f_1 (k : C4) (set done : Bool) (kept given : Int) (wv : Int) (J : Nat → Value) (i wb bc pb po : Nat) (ps : Option Nat) (o : Nat → Nat) : ((segA Try.prog noRel hV9f_1 (V9f_0 k set done kept given wv J i wb bc pb po ps) o).isSome, (segA Try.prog noRel hV9f_1 (V9f_0 k set done kept given wv J i wb bc pb po ps) o).map fun p => (p.1.owe.map Prod.fst, p.1.oweV, deafBehind 0 p.2)) = (true, (segA Try.prog noRel hV9f_1 (V9f_0 k set done kept given wv J i wb bc pb po ps) o).map fun p => (p.1.owe.map Prod.snd, [], 0)) := by kernel_rfl
theorem zV9f (k : C4) (set done : Bool) (kept given : Int) (wv : Int) (J : Nat → Value) (i wb bc pb po : Nat) (ps : Option Nat) (o : Nat → Nat) : (f4A L4 (V9f_1 k set done kept given wv J i wb bc pb po ps) o, (V9f_1 k set done kept given wv J i wb bc pb po ps o).map fun x => pickF [0, 1, 2, 3, 4, 5, 6, 7, 8, 12] x.fs) = (some (true, true, fr4 td_tail #[], 266, lv4 k ⟨set, done, true, kept, wv, given⟩ i), some (FM k ⟨set, done, true, kept, wv, given⟩ (o 0) ++ CT ⟨set, done, true, kept, wv, given⟩ (o 0))) := by kernel_rfl
theorem C_V9f (set done : Bool) (kept given : Int) (wv : Int) : CaseC ⟨set, done, false, kept, 0, given⟩ ⟨set, done, true, kept, wv, given⟩ 9 wv := by
  intro k R W w Q' J i wb bc pb po ps hR hi hp hRS K
  have hRS : RS S0 W ([] ++ (FM k ⟨set, done, false, kept, 0, given⟩ bc ++ FS pb po ps 9 wv ++ FW wb wv ++ CT ⟨set, done, false, kept, 0, given⟩ bc)) w := hRS.perm List.perm_append_comm
  have hA0 : At (V9f_0 k set done kept given wv J i wb bc pb po ps) (fun _ => 0) ⟨run' (fr4 td_case (tm4c k ⟨set, done, false, kept, 0, given⟩ i J wb 9)) [], FM k ⟨set, done, false, kept, 0, given⟩ bc ++ FS pb po ps 9 wv ++ FW wb wv ++ CT ⟨set, done, false, kept, 0, given⟩ bc, 0, [], []⟩ := fun _ _ => rfl
  have hr0 : (⟨run' (fr4 td_case (tm4c k ⟨set, done, false, kept, 0, given⟩ i J wb 9)) [], FM k ⟨set, done, false, kept, 0, given⟩ bc ++ FS pb po ps 9 wv ++ FW wb wv ++ CT ⟨set, done, false, kept, 0, given⟩ bc, 0, [], []⟩ : KG).g.status = .running := rfl
  have ho0 : (⟨run' (fr4 td_case (tm4c k ⟨set, done, false, kept, 0, given⟩ i J wb 9)) [], FM k ⟨set, done, false, kept, 0, given⟩ bc ++ FS pb po ps 9 wv ++ FW wb wv ++ CT ⟨set, done, false, kept, 0, given⟩ bc, 0, [], []⟩ : KG).g.offers = none := rfl
  have hR0 : R ≤ w.heap.size := hR
  have hRS0 := hRS
  refine rbG_segD (G := []) hA0 hr0 ho0 hV9f_1 hR0 hRS0 (fun o => ok_of2 (kV9f_1 k set done kept given wv J i wb bc pb po ps o) (by simp)) fun o1 x1 w1 _ hA1 hk1 hr1 ho1 hRS1 ht1 => ?_
  have hA1 : At (V9f_1 k set done kept given wv J i wb bc pb po ps) o1 x1 := hA1
  have hR1 := Nat.le_trans hR0 ht1.size
  obtain ⟨hz1, hz2⟩ := Prod.mk.inj (zV9f k set done kept given wv J i wb bc pb po ps o1)
  obtain ⟨hg, hs, hl⟩ := f4At hA1 hr1 ho1 hz1
  obtain ⟨J', hJ⟩ := tm_of hs hl
  rw [hA1.here] at hz2
  simp only [Option.map_some, Option.some.injEq] at hz2
  rw [hg, hJ]
  have hF := RS.only [0, 1, 2, 3, 4, 5, 6, 7, 8, 12] hRS1
  rw [hz2] at hF
  exact K J' (o1 0) _ hR1 hF
/-! case 9t: kind 9 set false done false full true -/
noncomputable def V9t_0 (k : C4) (set done : Bool) (kept inn given : Int) (wv : Int) (J : Nat → Value) (i wb bc pb po : Nat) (ps : Option Nat) : (Nat → Nat) → Option KG := fun _ => some ⟨run' (fr4 td_case (tm4c k ⟨set, done, true, kept, inn, given⟩ i J wb 9)) [], FM k ⟨set, done, true, kept, inn, given⟩ bc ++ FS pb po ps 9 wv ++ FW wb wv ++ CT ⟨set, done, true, kept, inn, given⟩ bc, 0, [], []⟩
def hV9t_1 : List Hint := flat [(45, [11], none), (32, [13, 13], none), (0, [6, 6], none), (0, [12, 12], none), (22, [12], none), (34, [], some (.bool false)), (26, [11], none)] 6
noncomputable def V9t_1 (k : C4) (set done : Bool) (kept inn given : Int) (wv : Int) (J : Nat → Value) (i wb bc pb po : Nat) (ps : Option Nat) := nextA (segA Try.prog noRel hV9t_1 (V9t_0 k set done kept inn given wv J i wb bc pb po ps))
theorem kV9t_1 (k : C4) (set done : Bool) (kept inn given : Int) (wv : Int) (J : Nat → Value) (i wb bc pb po : Nat) (ps : Option Nat) (o : Nat → Nat) : ((segA Try.prog noRel hV9t_1 (V9t_0 k set done kept inn given wv J i wb bc pb po ps) o).isSome, (segA Try.prog noRel hV9t_1 (V9t_0 k set done kept inn given wv J i wb bc pb po ps) o).map fun p => (p.1.owe.map Prod.fst, p.1.oweV, deafBehind 0 p.2)) = (true, (segA Try.prog noRel hV9t_1 (V9t_0 k set done kept inn given wv J i wb bc pb po ps) o).map fun p => (p.1.owe.map Prod.snd, [(.bool (inn != inn), .bool false)], 0)) := by kernel_rfl
theorem zV9t (k : C4) (set done : Bool) (kept inn given : Int) (wv : Int) (J : Nat → Value) (i wb bc pb po : Nat) (ps : Option Nat) (o : Nat → Nat) : (f4A L4 (V9t_1 k set done kept inn given wv J i wb bc pb po ps) o, (V9t_1 k set done kept inn given wv J i wb bc pb po ps o).map fun x => pickF [0, 1, 2, 3, 4, 5, 6, 7, 8, 13] x.fs) = (some (true, true, fr4 td_tail #[], 266, lv4 k ⟨set, done, true, kept, wv, given⟩ i), some (FM k ⟨set, done, true, kept, wv, given⟩ (o 0) ++ CT ⟨set, done, true, kept, wv, given⟩ (o 0))) := by kernel_rfl
theorem C_V9t (set done : Bool) (kept inn given : Int) (wv : Int) : CaseC ⟨set, done, true, kept, inn, given⟩ ⟨set, done, true, kept, wv, given⟩ 9 wv := by
  intro k R W w Q' J i wb bc pb po ps hR hi hp hRS K
  have hRS : RS S0 W ([] ++ (FM k ⟨set, done, true, kept, inn, given⟩ bc ++ FS pb po ps 9 wv ++ FW wb wv ++ CT ⟨set, done, true, kept, inn, given⟩ bc)) w := hRS.perm List.perm_append_comm
  have hA0 : At (V9t_0 k set done kept inn given wv J i wb bc pb po ps) (fun _ => 0) ⟨run' (fr4 td_case (tm4c k ⟨set, done, true, kept, inn, given⟩ i J wb 9)) [], FM k ⟨set, done, true, kept, inn, given⟩ bc ++ FS pb po ps 9 wv ++ FW wb wv ++ CT ⟨set, done, true, kept, inn, given⟩ bc, 0, [], []⟩ := fun _ _ => rfl
  have hr0 : (⟨run' (fr4 td_case (tm4c k ⟨set, done, true, kept, inn, given⟩ i J wb 9)) [], FM k ⟨set, done, true, kept, inn, given⟩ bc ++ FS pb po ps 9 wv ++ FW wb wv ++ CT ⟨set, done, true, kept, inn, given⟩ bc, 0, [], []⟩ : KG).g.status = .running := rfl
  have ho0 : (⟨run' (fr4 td_case (tm4c k ⟨set, done, true, kept, inn, given⟩ i J wb 9)) [], FM k ⟨set, done, true, kept, inn, given⟩ bc ++ FS pb po ps 9 wv ++ FW wb wv ++ CT ⟨set, done, true, kept, inn, given⟩ bc, 0, [], []⟩ : KG).g.offers = none := rfl
  have hR0 : R ≤ w.heap.size := hR
  have hRS0 := hRS
  refine rbG_segD (G := []) hA0 hr0 ho0 hV9t_1 hR0 hRS0 (fun o => ok_of2 (kV9t_1 k set done kept inn given wv J i wb bc pb po ps o) (by simp)) fun o1 x1 w1 _ hA1 hk1 hr1 ho1 hRS1 ht1 => ?_
  have hA1 : At (V9t_1 k set done kept inn given wv J i wb bc pb po ps) o1 x1 := hA1
  have hR1 := Nat.le_trans hR0 ht1.size
  obtain ⟨hz1, hz2⟩ := Prod.mk.inj (zV9t k set done kept inn given wv J i wb bc pb po ps o1)
  obtain ⟨hg, hs, hl⟩ := f4At hA1 hr1 ho1 hz1
  obtain ⟨J', hJ⟩ := tm_of hs hl
  rw [hA1.here] at hz2
  simp only [Option.map_some, Option.some.injEq] at hz2
  rw [hg, hJ]
  have hF := RS.only [0, 1, 2, 3, 4, 5, 6, 7, 8, 13] hRS1
  rw [hz2] at hF
  exact K J' (o1 0) _ hR1 hF
end Go.Proofs
