/- AtomsOnce: a case of its switch keeps what is held (10f). No conditions beyond those written in the theorems. -/
import Derived.Test.YtebjdfhaglgjiaaKf1
/-! printed by genf4.py: cases of the switch of AtomsOnce -/
set_option maxRecDepth 100000
namespace Go.Proofs
open Go Go.Conc Go.Km

/-! case 10f: kind 10 set false done false full false -/
noncomputable def V10f_0 (k : C4) (set done : Bool) (kept given : Int) (wv : Int) (J : Nat → Value) (i wb bc pb po : Nat) (ps : Option Nat) : (Nat → Nat) → Option KG := fun _ => some ⟨run' (fr4 td_case (tm4c k ⟨set, done, false, kept, 0, given⟩ i J wb 10)) [], FM k ⟨set, done, false, kept, 0, given⟩ bc ++ FS pb po ps 10 wv ++ FW wb wv ++ CT ⟨set, done, false, kept, 0, given⟩ bc, 0, [], []⟩
def hV10f_1 : List Hint := flat [(52, [12], none), (5, [13], none), (4, [14], none), (80, [6], none), (39, [15], none), (5, [15], none), (8, [14], none), (2, [12], none), (4, [13], none), (2, [14], none), (4, [11], none), (5, [15], none), (20, [15, 15], none), (0, [6, 6, 6, 6], none), (8, [15], none), (16, [11], none), (1, [], some (.bool false)), (17, [14], none), (8, [11], none)] 7
noncomputable def V10f_1 (k : C4) (set done : Bool) (kept given : Int) (wv : Int) (J : Nat → Value) (i wb bc pb po : Nat) (ps : Option Nat) := nextA (segA Try.prog noRel hV10f_1 (V10f_0 k set done kept given wv J i wb bc pb po ps))
theorem kV10f_1 (k : C4) (set done : Bool) (kept given : Int) (wv : Int) (J : Nat → Value) (i wb bc pb po : Nat) (ps : Option Nat) (o : Nat → Nat) : ((segA Try.prog noRel hV10f_1 (V10f_0 k set done kept given wv J i wb bc pb po ps) o).isSome, (segA Try.prog noRel hV10f_1 (V10f_0 k set done kept given wv J i wb bc pb po ps) o).map fun p => (p.1.owe.map Prod.fst, p.1.oweV, deafBehind 0 p.2)) = (true, (segA Try.prog noRel hV10f_1 (V10f_0 k set done kept given wv J i wb bc pb po ps) o).map fun p => (p.1.owe.map Prod.snd, [(.bool (IntKind.u64.wrap (0 + wv) != IntKind.u64.wrap (0 + wv)), .bool false)], 0)) := by kernel_rfl
theorem zV10f (k : C4) (set done : Bool) (kept given : Int) (wv : Int) (J : Nat → Value) (i wb bc pb po : Nat) (ps : Option Nat) (o : Nat → Nat) : (f4A L4 (V10f_1 k set done kept given wv J i wb bc pb po ps) o, (V10f_1 k set done kept given wv J i wb bc pb po ps o).map fun x => pickF [0, 1, 2, 3, 4, 5, 6, 7, 8, 15] x.fs) = (some (true, true, fr4 td_tail #[], 266, lv4 k ⟨set, done, true, kept, IntKind.u64.wrap (0 + wv), given⟩ i), some (FM k ⟨set, done, true, kept, IntKind.u64.wrap (0 + wv), given⟩ (o 3) ++ CT ⟨set, done, true, kept, IntKind.u64.wrap (0 + wv), given⟩ (o 3))) := by kernel_rfl
theorem C_V10f (set done : Bool) (kept given : Int) (wv : Int) : CaseC ⟨set, done, false, kept, 0, given⟩ ⟨set, done, true, kept, IntKind.u64.wrap (0 + wv), given⟩ 10 wv := by
  intro k R W w Q' J i wb bc pb po ps hR hi hp hRS K
  have hRS : RS S0 W ([] ++ (FM k ⟨set, done, false, kept, 0, given⟩ bc ++ FS pb po ps 10 wv ++ FW wb wv ++ CT ⟨set, done, false, kept, 0, given⟩ bc)) w := hRS.perm List.perm_append_comm
  have hA0 : At (V10f_0 k set done kept given wv J i wb bc pb po ps) (fun _ => 0) ⟨run' (fr4 td_case (tm4c k ⟨set, done, false, kept, 0, given⟩ i J wb 10)) [], FM k ⟨set, done, false, kept, 0, given⟩ bc ++ FS pb po ps 10 wv ++ FW wb wv ++ CT ⟨set, done, false, kept, 0, given⟩ bc, 0, [], []⟩ := fun _ _ => rfl
  have hr0 : (⟨run' (fr4 td_case (tm4c k ⟨set, done, false, kept, 0, given⟩ i J wb 10)) [], FM k ⟨set, done, false, kept, 0, given⟩ bc ++ FS pb po ps 10 wv ++ FW wb wv ++ CT ⟨set, done, false, kept, 0, given⟩ bc, 0, [], []⟩ : KG).g.status = .running := rfl
  have ho0 : (⟨run' (fr4 td_case (tm4c k ⟨set, done, false, kept, 0, given⟩ i J wb 10)) [], FM k ⟨set, done, false, kept, 0, given⟩ bc ++ FS pb po ps 10 wv ++ FW wb wv ++ CT ⟨set, done, false, kept, 0, given⟩ bc, 0, [], []⟩ : KG).g.offers = none := rfl
  have hR0 : R ≤ w.heap.size := hR
  have hRS0 := hRS
  refine rbG_segD (G := []) hA0 hr0 ho0 hV10f_1 hR0 hRS0 (fun o => ok_of2 (kV10f_1 k set done kept given wv J i wb bc pb po ps o) (by simp)) fun o1 x1 w1 _ hA1 hk1 hr1 ho1 hRS1 ht1 => ?_
  have hA1 : At (V10f_1 k set done kept given wv J i wb bc pb po ps) o1 x1 := hA1
  have hR1 := Nat.le_trans hR0 ht1.size
  obtain ⟨hz1, hz2⟩ := Prod.mk.inj (zV10f k set done kept given wv J i wb bc pb po ps o1)
  obtain ⟨hg, hs, hl⟩ := f4At hA1 hr1 ho1 hz1
  obtain ⟨J', hJ⟩ := tm_of hs hl
  rw [hA1.here] at hz2
  simp only [Option.map_some, Option.some.injEq] at hz2
  rw [hg, hJ]
  have hF := RS.only [0, 1, 2, 3, 4, 5, 6, 7, 8, 15] hRS1
  rw [hz2] at hF
  exact K J' (o1 3) _ hR1 hF
end Go.Proofs
