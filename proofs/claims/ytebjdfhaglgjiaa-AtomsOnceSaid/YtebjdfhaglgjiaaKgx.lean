/- AtomsOnce: a case of its switch keeps what is held (x). No conditions beyond those written in the theorems. -/
import Derived.Test.YtebjdfhaglgjiaaKf1
/-! printed by genf4.py: cases of the switch of AtomsOnce -/
set_option maxRecDepth 100000
namespace Go.Proofs
open Go Go.Conc Go.Km

/-! case x: kind 8000000001 set false done false full false -/
noncomputable def Vx_0 (k : C4) (set done full : Bool) (kept inn given kv : Int) (wv : Int) (J : Nat → Value) (i wb bc pb po : Nat) (ps : Option Nat) : (Nat → Nat) → Option KG := fun _ => some ⟨run' (fr4 td_case (tm4c k ⟨set, done, full, kept, inn, given⟩ i J wb kv)) [], FM k ⟨set, done, full, kept, inn, given⟩ bc ++ FS pb po ps kv wv ++ FW wb wv, 0, [], []⟩
def hVx_1 : List Hint := flat [(2, [], some (.bool false)), (5, [], some (.bool false)), (6, [], some (.bool false)), (4, [], some (.bool false)), (5, [], some (.bool false)), (5, [], some (.bool false)), (5, [], some (.bool false)), (5, [], some (.bool false)), (5, [], some (.bool false))] 5
noncomputable def Vx_1 (k : C4) (set done full : Bool) (kept inn given kv : Int) (wv : Int) (J : Nat → Value) (i wb bc pb po : Nat) (ps : Option Nat) := nextA (segA Try.prog noRel hVx_1 (Vx_0 k set done full kept inn given kv wv J i wb bc pb po ps))
theorem kVx_1 (k : C4) (set done full : Bool) (kept inn given kv : Int) (wv : Int) (J : Nat → Value) (i wb bc pb po : Nat) (ps : Option Nat) (o : Nat → Nat) : ((segA Try.prog noRel hVx_1 (Vx_0 k set done full kept inn given kv wv J i wb bc pb po ps) o).isSome, (segA Try.prog noRel hVx_1 (Vx_0 k set done full kept inn given kv wv J i wb bc pb po ps) o).map fun p => (p.1.owe.map Prod.fst, p.1.oweV, deafBehind 0 p.2)) = (true, (segA Try.prog noRel hVx_1 (Vx_0 k set done full kept inn given kv wv J i wb bc pb po ps) o).map fun p => (p.1.owe.map Prod.snd, [(.bool (kv == 11), .bool false), (.bool (kv == 10), .bool false), (.bool (kv == 9), .bool false), (.bool (kv == 8), .bool false), (.bool (kv == 7), .bool false), (.bool (kv == 6), .bool false), (.bool (kv == 4), .bool false), (.bool (kv == 2), .bool false), (.bool (kv == 1), .bool false)], 0)) := by kernel_rfl
theorem zVx (k : C4) (set done full : Bool) (kept inn given kv : Int) (wv : Int) (J : Nat → Value) (i wb bc pb po : Nat) (ps : Option Nat) (o : Nat → Nat) : (f4A L4 (Vx_1 k set done full kept inn given kv wv J i wb bc pb po ps) o, (Vx_1 k set done full kept inn given kv wv J i wb bc pb po ps o).map fun x => pickF [0, 1, 2, 3, 4, 5, 6, 7, 8] x.fs) = (some (true, true, fr4 td_tail #[], 266, lv4 k ⟨set, done, full, kept, inn, given⟩ i), some (FM k ⟨set, done, full, kept, inn, given⟩ bc)) := by kernel_rfl
theorem C_Vx (set done full : Bool) (kept inn given kv : Int) (wv : Int) (h1 : kv ≠ 1) (h2 : kv ≠ 2) (h4 : kv ≠ 4) (h6 : kv ≠ 6) (h7 : kv ≠ 7) (h8 : kv ≠ 8) (h9 : kv ≠ 9) (h10 : kv ≠ 10) (h11 : kv ≠ 11) : CaseC ⟨set, done, full, kept, inn, given⟩ ⟨set, done, full, kept, inn, given⟩ kv wv := by
  intro k R W w Q' J i wb bc pb po ps hR hi hp hRS K
  have hA0 : At (Vx_0 k set done full kept inn given kv wv J i wb bc pb po ps) (fun _ => 0) ⟨run' (fr4 td_case (tm4c k ⟨set, done, full, kept, inn, given⟩ i J wb kv)) [], FM k ⟨set, done, full, kept, inn, given⟩ bc ++ FS pb po ps kv wv ++ FW wb wv, 0, [], []⟩ := fun _ _ => rfl
  have hr0 : (⟨run' (fr4 td_case (tm4c k ⟨set, done, full, kept, inn, given⟩ i J wb kv)) [], FM k ⟨set, done, full, kept, inn, given⟩ bc ++ FS pb po ps kv wv ++ FW wb wv, 0, [], []⟩ : KG).g.status = .running := rfl
  have ho0 : (⟨run' (fr4 td_case (tm4c k ⟨set, done, full, kept, inn, given⟩ i J wb kv)) [], FM k ⟨set, done, full, kept, inn, given⟩ bc ++ FS pb po ps kv wv ++ FW wb wv, 0, [], []⟩ : KG).g.offers = none := rfl
  have hR0 : R ≤ w.heap.size := hR
  have hRS0 := hRS
  refine rbG_segD (G := (CT ⟨set, done, full, kept, inn, given⟩ bc)) hA0 hr0 ho0 hVx_1 hR0 hRS0 (fun o => ok_of2 (kVx_1 k set done full kept inn given kv wv J i wb bc pb po ps o) (by simp [h1, h2, h4, h6, h7, h8, h9, h10, h11])) fun o1 x1 w1 _ hA1 hk1 hr1 ho1 hRS1 ht1 => ?_
  have hA1 : At (Vx_1 k set done full kept inn given kv wv J i wb bc pb po ps) o1 x1 := hA1
  have hR1 := Nat.le_trans hR0 ht1.size
  obtain ⟨hz1, hz2⟩ := Prod.mk.inj (zVx k set done full kept inn given kv wv J i wb bc pb po ps o1)
  obtain ⟨hg, hs, hl⟩ := f4At hA1 hr1 ho1 hz1
  obtain ⟨J', hJ⟩ := tm_of hs hl
  rw [hA1.here] at hz2
  simp only [Option.map_some, Option.some.injEq] at hz2
  rw [hg, hJ]
  have hF := RS.out [0, 1, 2, 3, 4, 5, 6, 7, 8] rfl hz2 hRS1
  exact K J' bc _ hR1 (RS.keep3 hF)
end Go.Proofs
