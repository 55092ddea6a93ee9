/- AtomsOnce: a case of its switch keeps what is held (10t). No conditions beyond those written in the theorems. -/
import Derived.Test.YtebjdfhaglgjiaaKf2
/-! printed by genf4.py: cases of the switch of AtomsOnce -/
set_option maxRecDepth 100000
namespace Go.Proofs
open Go Go.Conc Go.Km

/-! case 10t: kind 10 set false done false full true -/
noncomputable def V10t_0 (k : C4) (set done : Bool) (kept inn given : Int) (wv : Int) (J : Nat → Value) (i wb bc pb po : Nat) (ps : Option Nat) : (Nat → Nat) → Option KG := fun _ => some ⟨run' (fr4 td_case (tm4c k ⟨set, done, true, kept, inn, given⟩ i J wb 10)) [], FM k ⟨set, done, true, kept, inn, given⟩ bc ++ FS pb po ps 10 wv ++ FW wb wv ++ CT ⟨set, done, true, kept, inn, given⟩ bc, 0, [], []⟩
def hV10t_1 : List Hint := flat [(52, [13], none), (5, [14], none), (4, [15], none), (80, [6], none), (0, [12, 12], none), (27, [12], none), (9, [16], none), (5, [16], none), (8, [15], none), (2, [13], none), (0, [], some (.bool true)), (3, [14], none), (2, [15], none), (4, [11], none), (5, [16], none), (18, [12, 12], none), (1, [16, 16], none)] 0
noncomputable def V10t_1 (k : C4) (set done : Bool) (kept inn given : Int) (wv : Int) (J : Nat → Value) (i wb bc pb po : Nat) (ps : Option Nat) := nextA (segA Try.prog noRel hV10t_1 (V10t_0 k set done kept inn given wv J i wb bc pb po ps))
theorem kV10t_1 (k : C4) (set done : Bool) (kept inn given : Int) (wv : Int) (J : Nat → Value) (i wb bc pb po : Nat) (ps : Option Nat) (o : Nat → Nat) : ((segA Try.prog noRel hV10t_1 (V10t_0 k set done kept inn given wv J i wb bc pb po ps) o).isSome, (segA Try.prog noRel hV10t_1 (V10t_0 k set done kept inn given wv J i wb bc pb po ps) o).map fun p => (p.1.owe.map Prod.fst, p.1.oweV, deafBehind 0 p.2)) = (true, (segA Try.prog noRel hV10t_1 (V10t_0 k set done kept inn given wv J i wb bc pb po ps) o).map fun p => (p.1.owe.map Prod.snd, [(.bool (inn == inn), .bool true)], 0)) := by kernel_rfl
theorem iV10t_2 (k : C4) (set done : Bool) (kept inn given : Int) (wv : Int) (J : Nat → Value) (i wb bc pb po : Nat) (ps : Option Nat) (o : Nat → Nat) : (V10t_1 k set done kept inn given wv J i wb bc pb po ps o).map (fun x => opAt Try.prog x) = some (some (callFunc 67 #[.pointer (some ⟨k.bB, 0, none⟩), .pointer (some ⟨bc, 0, none⟩), .pointer (some ⟨o 3, 0, none⟩)])) := by kernel_rfl
theorem jV10t_2 (k : C4) (set done : Bool) (kept inn given : Int) (wv : Int) (J : Nat → Value) (i wb bc pb po : Nat) (ps : Option Nat) (o : Nat → Nat) : (V10t_1 k set done kept inn given wv J i wb bc pb po ps o).map (fun x => x.fs[6]?) = some (some ⟨⟨k.bB, 0, none⟩, .pointer (some ⟨bc, 0, none⟩), true, some (58, 1)⟩) := by kernel_rfl
theorem qV10t_2 (k : C4) (set done : Bool) (kept inn given : Int) (wv : Int) (J : Nat → Value) (i wb bc pb po : Nat) (ps : Option Nat) (o : Nat → Nat) : (V10t_1 k set done kept inn given wv J i wb bc pb po ps o).map (·.k) = some 4 := by kernel_rfl
noncomputable def V10t_2 (k : C4) (set done : Bool) (kept inn given : Int) (wv : Int) (J : Nat → Value) (i wb bc pb po : Nat) (ps : Option Nat) : (Nat → Nat) → Option KG := fun o => casA 6 (.pointer (some ⟨o 3, 0, none⟩)) (V10t_1 k set done kept inn given wv J i wb bc pb po ps) o
def hV10t_3 : List Hint := flat [(8, [16], none), (16, [11], none), (1, [], some (.bool false)), (17, [15], none), (8, [11], none)] 7
noncomputable def V10t_3 (k : C4) (set done : Bool) (kept inn given : Int) (wv : Int) (J : Nat → Value) (i wb bc pb po : Nat) (ps : Option Nat) := nextA (segA Try.prog noRel hV10t_3 (V10t_2 k set done kept inn given wv J i wb bc pb po ps))
theorem kV10t_3 (k : C4) (set done : Bool) (kept inn given : Int) (wv : Int) (J : Nat → Value) (i wb bc pb po : Nat) (ps : Option Nat) (o : Nat → Nat) : ((segA Try.prog noRel hV10t_3 (V10t_2 k set done kept inn given wv J i wb bc pb po ps) o).isSome, (segA Try.prog noRel hV10t_3 (V10t_2 k set done kept inn given wv J i wb bc pb po ps) o).map fun p => (p.1.owe.map Prod.fst, p.1.oweV, deafBehind 0 p.2)) = (true, (segA Try.prog noRel hV10t_3 (V10t_2 k set done kept inn given wv J i wb bc pb po ps) o).map fun p => (p.1.owe.map Prod.snd, [(.bool (IntKind.u64.wrap (inn + wv) != IntKind.u64.wrap (inn + wv)), .bool false), (.bool (inn == inn), .bool true)], 0)) := by kernel_rfl
theorem zV10t (k : C4) (set done : Bool) (kept inn given : Int) (wv : Int) (J : Nat → Value) (i wb bc pb po : Nat) (ps : Option Nat) (o : Nat → Nat) : (f4A L4 (V10t_3 k set done kept inn given wv J i wb bc pb po ps) o, (V10t_3 k set done kept inn given wv J i wb bc pb po ps o).map fun x => pickF [0, 1, 2, 3, 4, 5, 6, 7, 8, 16] x.fs) = (some (true, true, fr4 td_tail #[], 266, lv4 k ⟨set, done, true, kept, IntKind.u64.wrap (inn + wv), given⟩ i), some (FM k ⟨set, done, true, kept, IntKind.u64.wrap (inn + wv), given⟩ (o 3) ++ CT ⟨set, done, true, kept, IntKind.u64.wrap (inn + wv), given⟩ (o 3))) := by kernel_rfl
theorem C_V10t (set done : Bool) (kept inn given : Int) (wv : Int) : CaseC ⟨set, done, true, kept, inn, given⟩ ⟨set, done, true, kept, IntKind.u64.wrap (inn + wv), given⟩ 10 wv := by
  intro k R W w Q' J i wb bc pb po ps hR hi hp hRS K
  have hRS : RS S0 W ([] ++ (FM k ⟨set, done, true, kept, inn, given⟩ bc ++ FS pb po ps 10 wv ++ FW wb wv ++ CT ⟨set, done, true, kept, inn, given⟩ bc)) w := hRS.perm List.perm_append_comm
  have hA0 : At (V10t_0 k set done kept inn given wv J i wb bc pb po ps) (fun _ => 0) ⟨run' (fr4 td_case (tm4c k ⟨set, done, true, kept, inn, given⟩ i J wb 10)) [], FM k ⟨set, done, true, kept, inn, given⟩ bc ++ FS pb po ps 10 wv ++ FW wb wv ++ CT ⟨set, done, true, kept, inn, given⟩ bc, 0, [], []⟩ := fun _ _ => rfl
  have hr0 : (⟨run' (fr4 td_case (tm4c k ⟨set, done, true, kept, inn, given⟩ i J wb 10)) [], FM k ⟨set, done, true, kept, inn, given⟩ bc ++ FS pb po ps 10 wv ++ FW wb wv ++ CT ⟨set, done, true, kept, inn, given⟩ bc, 0, [], []⟩ : KG).g.status = .running := rfl
  have ho0 : (⟨run' (fr4 td_case (tm4c k ⟨set, done, true, kept, inn, given⟩ i J wb 10)) [], FM k ⟨set, done, true, kept, inn, given⟩ bc ++ FS pb po ps 10 wv ++ FW wb wv ++ CT ⟨set, done, true, kept, inn, given⟩ bc, 0, [], []⟩ : KG).g.offers = none := rfl
  have hR0 : R ≤ w.heap.size := hR
  have hRS0 := hRS
  refine rbG_segD (G := []) hA0 hr0 ho0 hV10t_1 hR0 hRS0 (fun o => ok_of2 (kV10t_1 k set done kept inn given wv J i wb bc pb po ps o) (by simp)) fun o1 x1 w1 _ hA1 hk1 hr1 ho1 hRS1 ht1 => ?_
  have hA1 : At (V10t_1 k set done kept inn given wv J i wb bc pb po ps) o1 x1 := hA1
  have hR1 := Nat.le_trans hR0 ht1.size
  have hq1 : x1.k = 4 := hA1.kIs (qV10t_2 k set done kept inn given wv J i wb bc pb po ps o1)
  refine rb_casP (G := []) (i := 6) hA1 hr1 ho1 (iV10t_2 k set done kept inn given wv J i wb bc pb po ps o1) (jV10t_2 k set done kept inn given wv J i wb bc pb po ps o1) hR1 hRS1 fun x2 w2 hA2 hk2 hr2 ho2 hR2 hRS2 => ?_
  have hA2 : At (V10t_2 k set done kept inn given wv J i wb bc pb po ps) o1 x2 := fun o' ho' => by have := hA2 o' ho'; show casA 6 (.pointer (some ⟨o' 3, 0, none⟩)) _ o' = _; rw [ho' 3 (by omega)]; exact this
  refine rbG_segD (G := []) hA2 hr2 ho2 hV10t_3 hR2 hRS2 (fun o => ok_of2 (kV10t_3 k set done kept inn given wv J i wb bc pb po ps o) (by simp)) fun o3 x3 w3 _ hA3 hk3 hr3 ho3 hRS3 ht3 => ?_
  have hA3 : At (V10t_3 k set done kept inn given wv J i wb bc pb po ps) o3 x3 := hA3
  have hR3 := Nat.le_trans hR2 ht3.size
  obtain ⟨hz1, hz2⟩ := Prod.mk.inj (zV10t k set done kept inn given wv J i wb bc pb po ps o3)
  obtain ⟨hg, hs, hl⟩ := f4At hA3 hr3 ho3 hz1
  obtain ⟨J', hJ⟩ := tm_of hs hl
  rw [hA3.here] at hz2
  simp only [Option.map_some, Option.some.injEq] at hz2
  rw [hg, hJ]
  have hF := RS.only [0, 1, 2, 3, 4, 5, 6, 7, 8, 16] hRS3
  rw [hz2] at hF
  exact K J' (o3 3) _ hR3 hF
end Go.Proofs
