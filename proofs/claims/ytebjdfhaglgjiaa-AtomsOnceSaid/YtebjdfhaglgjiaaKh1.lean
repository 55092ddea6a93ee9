/- AtomsOnce: the front and the tail of a round. No conditions beyond those written in the theorems. -/
import Derived.Test.YtebjdfhaglgjiaaKf1
import Derived.IntWalk
/-! AtomsOnce: a round's front and its tail -/
set_option maxRecDepth 100000
namespace Go.Proofs
open Go Go.Conc Go.Km

/-! ### the front -/
noncomputable def Fr0 (k : C4) (s : S4) (i : Nat) (J : Nat → Value) (bc pb po : Nat) (ps : Option Nat) (kv wv : Int) : (Nat → Nat) → Option KG := fun _ => some ⟨run' (fr4 td_head (tm4 k s i J)) [], FM k s bc ++ FS pb po ps kv wv, 0, [], []⟩
def hFr1 : List Hint := flat [(6, [], some (.bool true))] 9
noncomputable def Fr1 (k : C4) (s : S4) (i : Nat) (J : Nat → Value) (bc pb po : Nat) (ps : Option Nat) (kv wv : Int) := nextA (segA Try.prog noRel hFr1 (Fr0 k s i J bc pb po ps kv wv))
theorem kFr1 (k : C4) (s : S4) (i : Nat) (J : Nat → Value) (bc pb po : Nat) (ps : Option Nat) (kv wv : Int) (o : Nat → Nat) : ((segA Try.prog noRel hFr1 (Fr0 k s i J bc pb po ps kv wv) o).isSome, (segA Try.prog noRel hFr1 (Fr0 k s i J bc pb po ps kv wv) o).map fun p => (p.1.owe.map Prod.fst, p.1.oweV, deafBehind 0 p.2)) = (true, (segA Try.prog noRel hFr1 (Fr0 k s i J bc pb po ps kv wv) o).map fun p => (p.1.owe.map Prod.snd, [(.bool (decide (((i : Nat) : Int) < ((k.n : Nat) : Int))), .bool true)], 0)) := by kernel_rfl
theorem iFr1 (k : C4) (s : S4) (i : Nat) (J : Nat → Value) (bc pb po : Nat) (ps : Option Nat) (kv wv : Int) (o : Nat → Nat) : (Fr1 k s i J bc pb po ps kv wv o).map (fun x => opAt Try.prog x) = some (some (valS (Instr.indexAt 32 (.slice k.a k.n k.cap) (.int .i64 ((i : Nat) : Int))))) := by kernel_rfl
noncomputable def Fr2 (k : C4) (s : S4) (i : Nat) (J : Nat → Value) (bc pb po : Nat) (ps : Option Nat) (kv wv : Int) := putV (.pointer (some ⟨pb, po, ps⟩)) (Fr1 k s i J bc pb po ps kv wv)
def hFr3 : List Hint := flat [(1, [10], none), (1, [11], none)] 6
noncomputable def Fr3 (k : C4) (s : S4) (i : Nat) (J : Nat → Value) (bc pb po : Nat) (ps : Option Nat) (kv wv : Int) := nextA (segA Try.prog noRel hFr3 (Fr2 k s i J bc pb po ps kv wv))
theorem kFr3 (k : C4) (s : S4) (i : Nat) (J : Nat → Value) (bc pb po : Nat) (ps : Option Nat) (kv wv : Int) (o : Nat → Nat) : ((segA Try.prog noRel hFr3 (Fr2 k s i J bc pb po ps kv wv) o).isSome, (segA Try.prog noRel hFr3 (Fr2 k s i J bc pb po ps kv wv) o).map fun p => (p.1.owe.map Prod.fst, p.1.oweV, deafBehind 0 p.2)) = (true, (segA Try.prog noRel hFr3 (Fr2 k s i J bc pb po ps kv wv) o).map fun p => (p.1.owe.map Prod.snd, [(.bool (decide (((i : Nat) : Int) < ((k.n : Nat) : Int))), .bool true)], 0)) := by kernel_rfl
theorem iFr3 (k : C4) (s : S4) (i : Nat) (J : Nat → Value) (bc pb po : Nat) (ps : Option Nat) (kv wv : Int) (o : Nat → Nat) : (Fr3 k s i J bc pb po ps kv wv o).map (fun x => opAt Try.prog x) = some (some (valS (Instr.indexAt 32 (.slice k.a k.n k.cap) (.int .i64 ((i : Nat) : Int))))) := by kernel_rfl
noncomputable def Fr4 (k : C4) (s : S4) (i : Nat) (J : Nat → Value) (bc pb po : Nat) (ps : Option Nat) (kv wv : Int) := putV (.pointer (some ⟨pb, po, ps⟩)) (Fr3 k s i J bc pb po ps kv wv)
def hFr5 : List Hint := flat [(1, [9], none)] 2
noncomputable def Fr5 (k : C4) (s : S4) (i : Nat) (J : Nat → Value) (bc pb po : Nat) (ps : Option Nat) (kv wv : Int) := nextA (segA Try.prog noRel hFr5 (Fr4 k s i J bc pb po ps kv wv))
theorem kFr5 (k : C4) (s : S4) (i : Nat) (J : Nat → Value) (bc pb po : Nat) (ps : Option Nat) (kv wv : Int) (o : Nat → Nat) : ((segA Try.prog noRel hFr5 (Fr4 k s i J bc pb po ps kv wv) o).isSome, (segA Try.prog noRel hFr5 (Fr4 k s i J bc pb po ps kv wv) o).map fun p => (p.1.owe.map Prod.fst, p.1.oweV, deafBehind 0 p.2)) = (true, (segA Try.prog noRel hFr5 (Fr4 k s i J bc pb po ps kv wv) o).map fun p => (p.1.owe.map Prod.snd, [(.bool (decide (((i : Nat) : Int) < ((k.n : Nat) : Int))), .bool true)], 0)) := by kernel_rfl
theorem zFr (k : C4) (s : S4) (i : Nat) (J : Nat → Value) (bc pb po : Nat) (ps : Option Nat) (kv wv : Int) (o : Nat → Nat) : (f4A L4c (Fr5 k s i J bc pb po ps kv wv) o, (Fr5 k s i J bc pb po ps kv wv o).map (·.fs)) = (some (true, true, fr4 td_case #[], 266, lv4c k s i (o 0) kv), some (FM k s bc ++ FS pb po ps kv wv ++ FW (o 0) wv)) := by kernel_rfl

section
variable {R : Nat} {w W : World} {Q' : (Loc → Prop) → Nat → Goroutine → World → Prop} {G : List Fact}
theorem front_rb (k : C4) (s : S4) (i : Nat) (J : Nat → Value) (bc pb po : Nat) (ps : Option Nat) (kv wv : Int) (hR : R ≤ w.heap.size) (hi : i < k.n) (hp : k.a.map (fun a => a.add (i * 2)) = some ⟨pb, po, ps⟩) (hRS : RS S0 W (G ++ (FM k s bc ++ FS pb po ps kv wv)) w)
    (K : ∀ J' wb w', R ≤ w'.heap.size → RS S0 W (G ++ (FM k s bc ++ FS pb po ps kv wv ++ FW wb wv)) w' → Rb Try.prog S0 R (run' (fr4 td_case (tm4c k s i J' wb kv)) []) w' Q') :
    Rb Try.prog S0 R (run' (fr4 td_head (tm4 k s i J)) []) w Q' := by
  have hlt : ∀ p ∈ [((.bool (decide (((i : Nat) : Int) < ((k.n : Nat) : Int))), .bool true) : Value × Value)], p.1 = p.2 := by simp; omega
  have hA0 : At (Fr0 k s i J bc pb po ps kv wv) (fun _ => 0) ⟨run' (fr4 td_head (tm4 k s i J)) [], FM k s bc ++ FS pb po ps kv wv, 0, [], []⟩ := fun _ _ => rfl
  refine rbG_segD (G := G) (x := ⟨run' (fr4 td_head (tm4 k s i J)) [], FM k s bc ++ FS pb po ps kv wv, 0, [], []⟩) hA0 rfl rfl hFr1 hR hRS (fun o => ok_of2 (kFr1 k s i J bc pb po ps kv wv o) hlt) fun o1 x1 w1 _ hA1 _ hr1 ho1 hRS1 ht1 => ?_
  have hA1 : At (Fr1 k s i J bc pb po ps kv wv) o1 x1 := hA1
  have hR1 := Nat.le_trans hR ht1.size
  refine rb_idx4 hr1 (hA1.op (iFr1 k s i J bc pb po ps kv wv o1)) hi hp fun d2 => ?_
  have hA2 : At (Fr2 k s i J bc pb po ps kv wv) o1 _ := hA1.put (.pointer (some ⟨pb, po, ps⟩))
  refine rbG_segD (G := G) hA2 rfl rfl hFr3 hR1 (hRS1.drawn d2) (fun o => ok_of2 (kFr3 k s i J bc pb po ps kv wv o) hlt) fun o3 x3 w3 _ hA3 _ hr3 ho3 hRS3 ht3 => ?_
  have hA3 : At (Fr3 k s i J bc pb po ps kv wv) o3 x3 := hA3
  have hR3 := Nat.le_trans hR1 ht3.size
  refine rb_idx4 hr3 (hA3.op (iFr3 k s i J bc pb po ps kv wv o3)) hi hp fun d4 => ?_
  have hA4 : At (Fr4 k s i J bc pb po ps kv wv) o3 _ := hA3.put (.pointer (some ⟨pb, po, ps⟩))
  refine rbG_segD (G := G) hA4 rfl rfl hFr5 hR3 (hRS3.drawn d4) (fun o => ok_of2 (kFr5 k s i J bc pb po ps kv wv o) hlt) fun o5 x5 w5 _ hA5 _ hr5 ho5 hRS5 ht5 => ?_
  have hA5 : At (Fr5 k s i J bc pb po ps kv wv) o5 x5 := hA5
  have hR5 := Nat.le_trans hR3 ht5.size
  obtain ⟨hz1, hz2⟩ := Prod.mk.inj (zFr k s i J bc pb po ps kv wv o5)
  obtain ⟨hg, hs, hl⟩ := f4At hA5 hr5 ho5 hz1
  obtain ⟨J', hJ⟩ := tm_of_c hs hl
  rw [hA5.fsIs hz2] at hRS5
  rw [hg, hJ]
  exact K J' (o5 0) w5 hR5 hRS5
end

/-! ### the tail -/
noncomputable def Tl0 (k : C4) (s : S4) (i : Nat) (J : Nat → Value) (bc : Nat) : (Nat → Nat) → Option KG := fun _ => some ⟨run' (fr4 td_tail (tm4 k s i J)) [], FM k s bc ++ CT s bc, 0, [], []⟩
def hTlf (i : Nat) : List Hint := flat [(32, [6], none), (69, [0], none), (37, [4], none), (43, [8], none), (9, [], some (.bool false)), (17, [], some (.int .i64 ((i + 1 : Nat) : Int)))] 3
def hTlt (i : Nat) : List Hint := flat [(32, [6], none), (0, [9, 9], none), (22, [9], none), (44, [0], none), (37, [4], none), (43, [8], none), (9, [], some (.bool false)), (4, [], some (.bool false)), (12, [], some (.int .i64 ((i + 1 : Nat) : Int)))] 3
noncomputable def Tlf (k : C4) (s : S4) (i : Nat) (J : Nat → Value) (bc : Nat) := segA Try.prog noRel (hTlf i) (Tl0 k s i J bc)
noncomputable def Tlt (k : C4) (s : S4) (i : Nat) (J : Nat → Value) (bc : Nat) := segA Try.prog noRel (hTlt i) (Tl0 k s i J bc)
theorem kTlf (k : C4) (set done : Bool) (kept given : Int) (i : Nat) (J : Nat → Value) (bc : Nat) (o : Nat → Nat) : ((Tlf k ⟨set, done, false, kept, 0, given⟩ i J bc o).isSome, (Tlf k ⟨set, done, false, kept, 0, given⟩ i J bc o).map fun p => (p.1.owe.map Prod.fst, p.1.oweV, deafBehind 0 p.2)) = (true, (Tlf k ⟨set, done, false, kept, 0, given⟩ i J bc o).map fun p => (p.1.owe.map Prod.snd, [(.int .i64 (IntKind.i64.wrap (((i : Nat) : Int) + 1)), .int .i64 ((i + 1 : Nat) : Int)), (.bool (given != given), .bool false)], 0)) := by
  cases set <;> cases done <;> kernel_rfl
theorem kTlt (k : C4) (set done : Bool) (kept inn given : Int) (i : Nat) (J : Nat → Value) (bc : Nat) (o : Nat → Nat) : ((Tlt k ⟨set, done, true, kept, inn, given⟩ i J bc o).isSome, (Tlt k ⟨set, done, true, kept, inn, given⟩ i J bc o).map fun p => (p.1.owe.map Prod.fst, p.1.oweV, deafBehind 0 p.2)) = (true, (Tlt k ⟨set, done, true, kept, inn, given⟩ i J bc o).map fun p => (p.1.owe.map Prod.snd, [(.int .i64 (IntKind.i64.wrap (((i : Nat) : Int) + 1)), .int .i64 ((i + 1 : Nat) : Int)), (.bool (inn != inn), .bool false), (.bool (given != given), .bool false)], 0)) := by
  cases set <;> cases done <;> kernel_rfl
theorem zTlf (k : C4) (set done : Bool) (kept given : Int) (i : Nat) (J : Nat → Value) (bc : Nat) (o : Nat → Nat) : (f4A L4 (nextA (Tlf k ⟨set, done, false, kept, 0, given⟩ i J bc)) o, (nextA (Tlf k ⟨set, done, false, kept, 0, given⟩ i J bc) o).map (·.fs)) = (some (true, true, fr4 td_head #[], 266, lv4 k ⟨set, done, false, kept, 0, given⟩ (i + 1)), some (FM k ⟨set, done, false, kept, 0, given⟩ bc ++ CT ⟨set, done, false, kept, 0, given⟩ bc)) := by
  cases set <;> cases done <;> kernel_rfl
theorem zTlt (k : C4) (set done : Bool) (kept inn given : Int) (i : Nat) (J : Nat → Value) (bc : Nat) (o : Nat → Nat) : (f4A L4 (nextA (Tlt k ⟨set, done, true, kept, inn, given⟩ i J bc)) o, (nextA (Tlt k ⟨set, done, true, kept, inn, given⟩ i J bc) o).map (·.fs)) = (some (true, true, fr4 td_head #[], 266, lv4 k ⟨set, done, true, kept, inn, given⟩ (i + 1)), some (FM k ⟨set, done, true, kept, inn, given⟩ bc ++ CT ⟨set, done, true, kept, inn, given⟩ bc)) := by
  cases set <;> cases done <;> kernel_rfl

section
variable {R : Nat} {w W : World} {Q' : (Loc → Prop) → Nat → Goroutine → World → Prop}
theorem wrap_succ (i : Nat) (h : i < 9223372036854775807) : IntKind.i64.wrap (((i : Nat) : Int) + 1) = ((i + 1 : Nat) : Int) := by
  rw [IntWalk.i64_in _ (by omega)]
  omega
theorem tail_rb (k : C4) (s : S4) (i : Nat) (J : Nat → Value) (bc : Nat) (hfull : s.full = false → s.inn = 0) (hi : i < 9223372036854775807) (hR : R ≤ w.heap.size) (hRS : RS S0 W ([] ++ (FM k s bc ++ CT s bc)) w)
    (K : ∀ J' w', R ≤ w'.heap.size → RS S0 W ([] ++ (FM k s bc ++ CT s bc)) w' → Rb Try.prog S0 R (run' (fr4 td_head (tm4 k s (i + 1) J')) []) w' Q') :
    Rb Try.prog S0 R (run' (fr4 td_tail (tm4 k s i J)) []) w Q' := by
  obtain ⟨set, done, full, kept, inn, given⟩ := s
  have hw := wrap_succ i hi
  cases full with
  | false =>
    obtain rfl : inn = 0 := hfull rfl
    have hA0 : At (Tl0 k ⟨set, done, false, kept, 0, given⟩ i J bc) (fun _ => 0) ⟨run' (fr4 td_tail (tm4 k ⟨set, done, false, kept, 0, given⟩ i J)) [], FM k ⟨set, done, false, kept, 0, given⟩ bc ++ CT ⟨set, done, false, kept, 0, given⟩ bc, 0, [], []⟩ := fun _ _ => rfl
    refine rbG_segD (G := []) (x := ⟨run' (fr4 td_tail (tm4 k ⟨set, done, false, kept, 0, given⟩ i J)) [], FM k ⟨set, done, false, kept, 0, given⟩ bc ++ CT ⟨set, done, false, kept, 0, given⟩ bc, 0, [], []⟩) hA0 rfl rfl (hTlf i) hR hRS (fun o => ok_of2 (kTlf k set done kept given i J bc o) (by simp [hw])) fun o1 x1 w1 _ hA1 _ hr1 ho1 hRS1 ht1 => ?_
    have hA1 : At (nextA (Tlf k ⟨set, done, false, kept, 0, given⟩ i J bc)) o1 x1 := hA1
    obtain ⟨hz1, hz2⟩ := Prod.mk.inj (zTlf k set done kept given i J bc o1)
    obtain ⟨hg, hs, hl⟩ := f4At hA1 hr1 ho1 hz1
    obtain ⟨J', hJ⟩ := tm_of hs hl
    rw [hA1.fsIs hz2] at hRS1
    rw [hg, hJ]
    exact K J' w1 (Nat.le_trans hR ht1.size) hRS1
  | true =>
    have hA0 : At (Tl0 k ⟨set, done, true, kept, inn, given⟩ i J bc) (fun _ => 0) ⟨run' (fr4 td_tail (tm4 k ⟨set, done, true, kept, inn, given⟩ i J)) [], FM k ⟨set, done, true, kept, inn, given⟩ bc ++ CT ⟨set, done, true, kept, inn, given⟩ bc, 0, [], []⟩ := fun _ _ => rfl
    refine rbG_segD (G := []) (x := ⟨run' (fr4 td_tail (tm4 k ⟨set, done, true, kept, inn, given⟩ i J)) [], FM k ⟨set, done, true, kept, inn, given⟩ bc ++ CT ⟨set, done, true, kept, inn, given⟩ bc, 0, [], []⟩) hA0 rfl rfl (hTlt i) hR hRS (fun o => ok_of2 (kTlt k set done kept inn given i J bc o) (by simp [hw])) fun o1 x1 w1 _ hA1 _ hr1 ho1 hRS1 ht1 => ?_
    have hA1 : At (nextA (Tlt k ⟨set, done, true, kept, inn, given⟩ i J bc)) o1 x1 := hA1
    obtain ⟨hz1, hz2⟩ := Prod.mk.inj (zTlt k set done kept inn given i J bc o1)
    obtain ⟨hg, hs, hl⟩ := f4At hA1 hr1 ho1 hz1
    obtain ⟨J', hJ⟩ := tm_of hs hl
    rw [hA1.fsIs hz2] at hRS1
    rw [hg, hJ]
    exact K J' w1 (Nat.le_trans hR ht1.size) hRS1
end
end Go.Proofs
