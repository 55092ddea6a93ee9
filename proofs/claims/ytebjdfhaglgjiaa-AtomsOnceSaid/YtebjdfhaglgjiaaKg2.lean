/- AtomsOnce: a case of its switch keeps what is held (2). No conditions beyond those written in the theorems. -/
import Derived.Test.YtebjdfhaglgjiaaKf1
import Derived.Test.YtebjdfhaglgjiaaKy35
/-! printed by genf4.py: cases of the switch of AtomsOnce -/
set_option maxRecDepth 100000
namespace Go.Proofs
open Go Go.Conc Go.Km

/-! case 2f: kind 2 set false done false full false -/
noncomputable def V2f_0 (k : C4) (done full : Bool) (kept inn given : Int) (wv : Int) (J : Nat → Value) (i wb bc pb po : Nat) (ps : Option Nat) : (Nat → Nat) → Option KG := fun _ => some ⟨run' (fr4 td_case (tm4c k ⟨false, done, full, kept, inn, given⟩ i J wb 2)) [], FM k ⟨false, done, full, kept, inn, given⟩ bc ++ FS pb po ps 2 wv ++ FW wb wv, 0, [], []⟩
def hV2f_1 : List Hint := flat [] 30
noncomputable def V2f_1 (k : C4) (done full : Bool) (kept inn given : Int) (wv : Int) (J : Nat → Value) (i wb bc pb po : Nat) (ps : Option Nat) := nextA (segA Try.prog noRel hV2f_1 (V2f_0 k done full kept inn given wv J i wb bc pb po ps))
theorem kV2f_1 (k : C4) (done full : Bool) (kept inn given : Int) (wv : Int) (J : Nat → Value) (i wb bc pb po : Nat) (ps : Option Nat) (o : Nat → Nat) : ((segA Try.prog noRel hV2f_1 (V2f_0 k done full kept inn given wv J i wb bc pb po ps) o).isSome, (segA Try.prog noRel hV2f_1 (V2f_0 k done full kept inn given wv J i wb bc pb po ps) o).map fun p => (p.1.owe.map Prod.fst, p.1.oweV, deafBehind 0 p.2)) = (true, (segA Try.prog noRel hV2f_1 (V2f_0 k done full kept inn given wv J i wb bc pb po ps) o).map fun p => (p.1.owe.map Prod.snd, [], 0)) := by kernel_rfl
theorem cV2f_2 (k : C4) (done full : Bool) (kept inn given : Int) (wv : Int) (J : Nat → Value) (i wb bc pb po : Nat) (ps : Option Nat) (o : Nat → Nat) : (topA (V2f_1 k done full kept inn given wv J i wb bc pb po ps) o, (V2f_1 k done full kept inn given wv J i wb bc pb po ps o).map fun x => (pickF [0] x.fs, pickF [0] (id x.fs), restF [0] (id x.fs))) = (some (Frame.enter Try.prog 35 #[.pointer (some ⟨k.bF, 0, none⟩), .bool true, .bool false] .normal, false, true), (V2f_1 k done full kept inn given wv J i wb bc pb po ps o).map fun x => (F0_F35clr0 k.bF 0 40 1, [⟨⟨k.bF, 0, none⟩, .int .u32 0, true, some (40, 1)⟩], restF [0] x.fs)) := by kernel_rfl
noncomputable def V2f_2 (k : C4) (done full : Bool) (kept inn given : Int) (wv : Int) (J : Nat → Value) (i wb bc pb po : Nat) (ps : Option Nat) := popA (.bool false) id (V2f_1 k done full kept inn given wv J i wb bc pb po ps)
def hV2f_3 : List Hint := flat [] 14
noncomputable def V2f_3 (k : C4) (done full : Bool) (kept inn given : Int) (wv : Int) (J : Nat → Value) (i wb bc pb po : Nat) (ps : Option Nat) := nextA (segA Try.prog noRel hV2f_3 (V2f_2 k done full kept inn given wv J i wb bc pb po ps))
theorem kV2f_3 (k : C4) (done full : Bool) (kept inn given : Int) (wv : Int) (J : Nat → Value) (i wb bc pb po : Nat) (ps : Option Nat) (o : Nat → Nat) : ((segA Try.prog noRel hV2f_3 (V2f_2 k done full kept inn given wv J i wb bc pb po ps) o).isSome, (segA Try.prog noRel hV2f_3 (V2f_2 k done full kept inn given wv J i wb bc pb po ps) o).map fun p => (p.1.owe.map Prod.fst, p.1.oweV, deafBehind 0 p.2)) = (true, (segA Try.prog noRel hV2f_3 (V2f_2 k done full kept inn given wv J i wb bc pb po ps) o).map fun p => (p.1.owe.map Prod.snd, [], 0)) := by kernel_rfl
theorem zV2f (k : C4) (done full : Bool) (kept inn given : Int) (wv : Int) (J : Nat → Value) (i wb bc pb po : Nat) (ps : Option Nat) (o : Nat → Nat) : (f4A L4 (V2f_3 k done full kept inn given wv J i wb bc pb po ps) o, (V2f_3 k done full kept inn given wv J i wb bc pb po ps o).map fun x => pickF [0, 1, 2, 3, 4, 5, 6, 7, 8] x.fs) = (some (true, true, fr4 td_tail #[], 266, lv4 k ⟨false, done, full, kept, inn, given⟩ i), some (FM k ⟨false, done, full, kept, inn, given⟩ bc)) := by kernel_rfl
theorem C_V2f (done full : Bool) (kept inn given : Int) (wv : Int) : CaseC ⟨false, done, full, kept, inn, given⟩ ⟨false, done, full, kept, inn, given⟩ 2 wv := by
  intro k R W w Q' J i wb bc pb po ps hR hi hp hRS K
  have hA0 : At (V2f_0 k done full kept inn given wv J i wb bc pb po ps) (fun _ => 0) ⟨run' (fr4 td_case (tm4c k ⟨false, done, full, kept, inn, given⟩ i J wb 2)) [], FM k ⟨false, done, full, kept, inn, given⟩ bc ++ FS pb po ps 2 wv ++ FW wb wv, 0, [], []⟩ := fun _ _ => rfl
  have hr0 : (⟨run' (fr4 td_case (tm4c k ⟨false, done, full, kept, inn, given⟩ i J wb 2)) [], FM k ⟨false, done, full, kept, inn, given⟩ bc ++ FS pb po ps 2 wv ++ FW wb wv, 0, [], []⟩ : KG).g.status = .running := rfl
  have ho0 : (⟨run' (fr4 td_case (tm4c k ⟨false, done, full, kept, inn, given⟩ i J wb 2)) [], FM k ⟨false, done, full, kept, inn, given⟩ bc ++ FS pb po ps 2 wv ++ FW wb wv, 0, [], []⟩ : KG).g.offers = none := rfl
  have hR0 : R ≤ w.heap.size := hR
  have hRS0 := hRS
  refine rbG_segD (G := (CT ⟨false, done, full, kept, inn, given⟩ bc)) hA0 hr0 ho0 hV2f_1 hR0 hRS0 (fun o => ok_of2 (kV2f_1 k done full kept inn given wv J i wb bc pb po ps o) (by simp)) fun o1 x1 w1 _ hA1 hk1 hr1 ho1 hRS1 ht1 => ?_
  have hA1 : At (V2f_1 k done full kept inn given wv J i wb bc pb po ps) o1 x1 := hA1
  have hR1 := Nat.le_trans hR0 ht1.size
  refine rb_call2 (G := (CT ⟨false, done, full, kept, inn, given⟩ bc)) (C_F35clr0 k.bF 0 40 1) hA1 hr1 ho1 [0] id (cV2f_2 k done full kept inn given wv J i wb bc pb po ps o1) hR1 hRS1 fun x2 w2 hA2 hk2 hr2 ho2 hR2 hRS2 => ?_
  have hA2 : At (V2f_2 k done full kept inn given wv J i wb bc pb po ps) o1 x2 := hA2
  refine rbG_segD (G := (CT ⟨false, done, full, kept, inn, given⟩ bc)) hA2 hr2 ho2 hV2f_3 hR2 hRS2 (fun o => ok_of2 (kV2f_3 k done full kept inn given wv J i wb bc pb po ps o) (by simp)) fun o3 x3 w3 _ hA3 hk3 hr3 ho3 hRS3 ht3 => ?_
  have hA3 : At (V2f_3 k done full kept inn given wv J i wb bc pb po ps) o3 x3 := hA3
  have hR3 := Nat.le_trans hR2 ht3.size
  obtain ⟨hz1, hz2⟩ := Prod.mk.inj (zV2f k done full kept inn given wv J i wb bc pb po ps o3)
  obtain ⟨hg, hs, hl⟩ := f4At hA3 hr3 ho3 hz1
  obtain ⟨J', hJ⟩ := tm_of hs hl
  rw [hA3.here] at hz2
  simp only [Option.map_some, Option.some.injEq] at hz2
  rw [hg, hJ]
  have hF := RS.out [0, 1, 2, 3, 4, 5, 6, 7, 8] rfl hz2 hRS3
  exact K J' bc _ hR3 (RS.keep3 hF)
/-! case 2t: kind 2 set true done false full false -/
noncomputable def V2t_0 (k : C4) (done full : Bool) (kept inn given : Int) (wv : Int) (J : Nat → Value) (i wb bc pb po : Nat) (ps : Option Nat) : (Nat → Nat) → Option KG := fun _ => some ⟨run' (fr4 td_case (tm4c k ⟨true, done, full, kept, inn, given⟩ i J wb 2)) [], FM k ⟨true, done, full, kept, inn, given⟩ bc ++ FS pb po ps 2 wv ++ FW wb wv, 0, [], []⟩
def hV2t_1 : List Hint := flat [] 30
noncomputable def V2t_1 (k : C4) (done full : Bool) (kept inn given : Int) (wv : Int) (J : Nat → Value) (i wb bc pb po : Nat) (ps : Option Nat) := nextA (segA Try.prog noRel hV2t_1 (V2t_0 k done full kept inn given wv J i wb bc pb po ps))
theorem kV2t_1 (k : C4) (done full : Bool) (kept inn given : Int) (wv : Int) (J : Nat → Value) (i wb bc pb po : Nat) (ps : Option Nat) (o : Nat → Nat) : ((segA Try.prog noRel hV2t_1 (V2t_0 k done full kept inn given wv J i wb bc pb po ps) o).isSome, (segA Try.prog noRel hV2t_1 (V2t_0 k done full kept inn given wv J i wb bc pb po ps) o).map fun p => (p.1.owe.map Prod.fst, p.1.oweV, deafBehind 0 p.2)) = (true, (segA Try.prog noRel hV2t_1 (V2t_0 k done full kept inn given wv J i wb bc pb po ps) o).map fun p => (p.1.owe.map Prod.snd, [], 0)) := by kernel_rfl
theorem cV2t_2 (k : C4) (done full : Bool) (kept inn given : Int) (wv : Int) (J : Nat → Value) (i wb bc pb po : Nat) (ps : Option Nat) (o : Nat → Nat) : (topA (V2t_1 k done full kept inn given wv J i wb bc pb po ps) o, (V2t_1 k done full kept inn given wv J i wb bc pb po ps o).map fun x => (pickF [0] x.fs, pickF [0] ((setV [(0, .int .u32 (0))]) x.fs), restF [0] ((setV [(0, .int .u32 (0))]) x.fs))) = (some (Frame.enter Try.prog 35 #[.pointer (some ⟨k.bF, 0, none⟩), .bool true, .bool false] .normal, false, true), (V2t_1 k done full kept inn given wv J i wb bc pb po ps o).map fun x => (F0_F35clr1 k.bF 0 40 1, [⟨⟨k.bF, 0, none⟩, .int .u32 0, true, some (40, 1)⟩], restF [0] x.fs)) := by kernel_rfl
noncomputable def V2t_2 (k : C4) (done full : Bool) (kept inn given : Int) (wv : Int) (J : Nat → Value) (i wb bc pb po : Nat) (ps : Option Nat) := popA (.bool true) (setV [(0, .int .u32 (0))]) (V2t_1 k done full kept inn given wv J i wb bc pb po ps)
def hV2t_3 : List Hint := flat [] 14
noncomputable def V2t_3 (k : C4) (done full : Bool) (kept inn given : Int) (wv : Int) (J : Nat → Value) (i wb bc pb po : Nat) (ps : Option Nat) := nextA (segA Try.prog noRel hV2t_3 (V2t_2 k done full kept inn given wv J i wb bc pb po ps))
theorem kV2t_3 (k : C4) (done full : Bool) (kept inn given : Int) (wv : Int) (J : Nat → Value) (i wb bc pb po : Nat) (ps : Option Nat) (o : Nat → Nat) : ((segA Try.prog noRel hV2t_3 (V2t_2 k done full kept inn given wv J i wb bc pb po ps) o).isSome, (segA Try.prog noRel hV2t_3 (V2t_2 k done full kept inn given wv J i wb bc pb po ps) o).map fun p => (p.1.owe.map Prod.fst, p.1.oweV, deafBehind 0 p.2)) = (true, (segA Try.prog noRel hV2t_3 (V2t_2 k done full kept inn given wv J i wb bc pb po ps) o).map fun p => (p.1.owe.map Prod.snd, [], 0)) := by kernel_rfl
theorem zV2t (k : C4) (done full : Bool) (kept inn given : Int) (wv : Int) (J : Nat → Value) (i wb bc pb po : Nat) (ps : Option Nat) (o : Nat → Nat) : (f4A L4 (V2t_3 k done full kept inn given wv J i wb bc pb po ps) o, (V2t_3 k done full kept inn given wv J i wb bc pb po ps o).map fun x => pickF [0, 1, 2, 3, 4, 5, 6, 7, 8] x.fs) = (some (true, true, fr4 td_tail #[], 266, lv4 k ⟨false, done, full, kept, inn, given⟩ i), some (FM k ⟨false, done, full, kept, inn, given⟩ bc)) := by kernel_rfl
theorem C_V2t (done full : Bool) (kept inn given : Int) (wv : Int) : CaseC ⟨true, done, full, kept, inn, given⟩ ⟨false, done, full, kept, inn, given⟩ 2 wv := by
  intro k R W w Q' J i wb bc pb po ps hR hi hp hRS K
  have hA0 : At (V2t_0 k done full kept inn given wv J i wb bc pb po ps) (fun _ => 0) ⟨run' (fr4 td_case (tm4c k ⟨true, done, full, kept, inn, given⟩ i J wb 2)) [], FM k ⟨true, done, full, kept, inn, given⟩ bc ++ FS pb po ps 2 wv ++ FW wb wv, 0, [], []⟩ := fun _ _ => rfl
  have hr0 : (⟨run' (fr4 td_case (tm4c k ⟨true, done, full, kept, inn, given⟩ i J wb 2)) [], FM k ⟨true, done, full, kept, inn, given⟩ bc ++ FS pb po ps 2 wv ++ FW wb wv, 0, [], []⟩ : KG).g.status = .running := rfl
  have ho0 : (⟨run' (fr4 td_case (tm4c k ⟨true, done, full, kept, inn, given⟩ i J wb 2)) [], FM k ⟨true, done, full, kept, inn, given⟩ bc ++ FS pb po ps 2 wv ++ FW wb wv, 0, [], []⟩ : KG).g.offers = none := rfl
  have hR0 : R ≤ w.heap.size := hR
  have hRS0 := hRS
  refine rbG_segD (G := (CT ⟨true, done, full, kept, inn, given⟩ bc)) hA0 hr0 ho0 hV2t_1 hR0 hRS0 (fun o => ok_of2 (kV2t_1 k done full kept inn given wv J i wb bc pb po ps o) (by simp)) fun o1 x1 w1 _ hA1 hk1 hr1 ho1 hRS1 ht1 => ?_
  have hA1 : At (V2t_1 k done full kept inn given wv J i wb bc pb po ps) o1 x1 := hA1
  have hR1 := Nat.le_trans hR0 ht1.size
  refine rb_call2 (G := (CT ⟨true, done, full, kept, inn, given⟩ bc)) (C_F35clr1 k.bF 0 40 1) hA1 hr1 ho1 [0] (setV [(0, .int .u32 (0))]) (cV2t_2 k done full kept inn given wv J i wb bc pb po ps o1) hR1 hRS1 fun x2 w2 hA2 hk2 hr2 ho2 hR2 hRS2 => ?_
  have hA2 : At (V2t_2 k done full kept inn given wv J i wb bc pb po ps) o1 x2 := hA2
  refine rbG_segD (G := (CT ⟨true, done, full, kept, inn, given⟩ bc)) hA2 hr2 ho2 hV2t_3 hR2 hRS2 (fun o => ok_of2 (kV2t_3 k done full kept inn given wv J i wb bc pb po ps o) (by simp)) fun o3 x3 w3 _ hA3 hk3 hr3 ho3 hRS3 ht3 => ?_
  have hA3 : At (V2t_3 k done full kept inn given wv J i wb bc pb po ps) o3 x3 := hA3
  have hR3 := Nat.le_trans hR2 ht3.size
  obtain ⟨hz1, hz2⟩ := Prod.mk.inj (zV2t k done full kept inn given wv J i wb bc pb po ps o3)
  obtain ⟨hg, hs, hl⟩ := f4At hA3 hr3 ho3 hz1
  obtain ⟨J', hJ⟩ := tm_of hs hl
  rw [hA3.here] at hz2
  simp only [Option.map_some, Option.some.injEq] at hz2
  rw [hg, hJ]
  have hF := RS.out [0, 1, 2, 3, 4, 5, 6, 7, 8] rfl hz2 hRS3
  exact K J' bc _ hR3 (RS.keep3 hF)
end Go.Proofs
