/- The function works returns true on every tape. No conditions beyond those written in the theorems. -/
import Derived.Test.YtebjdfhaglgjiaaKwJ
import Derived.Test.YtebjdfhaglgjiaaKmD
import Derived.Test.YtebjdfhaglgjiaaKx34
import Derived.Test.YtebjdfhaglgjiaaKy20
import Derived.Test.YtebjdfhaglgjiaaKy28
/-! works(): goroutine 0's way from behind its crew to its return, with the answer 'true' -/
namespace Go.Proofs
open Go Go.Conc Go.Km

def two (B n : Nat) (v0 v1 : Int) : List Fact := [⟨⟨B, 0, none⟩, .int .u64 v0, true, some (30, n)⟩, ⟨⟨B, 1, none⟩, .int .u64 v1, true, some (30, n)⟩]
noncomputable def Sw0 (c : Frame) (rest : List Frame) := onFs (fun o l => pickF [0, 1, 3, 4, 5, 17, 18] (cF (o 9) 7 1 ++ l)) (M11 c rest)
theorem kS0 (c : Frame) (rest : List Frame) (o : Nat → Nat) : (M11 c rest o).map (·.k) = some 19 := by kernel_rfl
def hS1 : List Hint := flat [(6, [6], none)] 1
noncomputable def Sw1 (c : Frame) (rest : List Frame) := nextA (segA Try.prog (chkOf true) hS1 (Sw0 c rest))
theorem kS1 (c : Frame) (rest : List Frame) (o : Nat → Nat) : ((segA Try.prog (chkOf true) hS1 (Sw0 c rest) o).isSome, sumL 0 (segA Try.prog (chkOf true) hS1 (Sw0 c rest) o)) = (true, sumR 0 (segA Try.prog (chkOf true) hS1 (Sw0 c rest) o)) := by kernel_rfl
theorem cS1 (c : Frame) (rest : List Frame) (o : Nat → Nat) : (topA (Sw1 c rest) o, (Sw1 c rest o).map fun x => pickF [0, 1, 5] x.fs) = (some (Frame.enter Try.prog 34 #[.pointer (some ⟨o 10, 0, none⟩)] .normal, false, true), some (f34 (o 10) (o 9) 7 1 true)) := by kernel_rfl
noncomputable def Sw2 (c : Frame) (rest : List Frame) (B cap n : Nat) := popA (.slice (some ⟨B, 0, none⟩) 2 cap) (fun l => l ++ two B n 7 1) (Sw1 c rest)
noncomputable def Sw3 (c : Frame) (rest : List Frame) (B cap n : Nat) := nextA (segA Try.prog (chkOf true) (List.replicate 33 {}) (Sw2 c rest B cap n))
theorem kS3 (c : Frame) (rest : List Frame) (B cap n : Nat) (o : Nat → Nat) : ((segA Try.prog (chkOf true) (List.replicate 33 {}) (Sw2 c rest B cap n) o).isSome, sumL 0 (segA Try.prog (chkOf true) (List.replicate 33 {}) (Sw2 c rest B cap n) o)) = (true, sumR 0 (segA Try.prog (chkOf true) (List.replicate 33 {}) (Sw2 c rest B cap n) o)) := by kernel_rfl
theorem cS3 (c : Frame) (rest : List Frame) (B cap n : Nat) (o : Nat → Nat) : (topA (Sw3 c rest B cap n) o, (Sw3 c rest B cap n o).map fun x => (pickF [9, 10] x.fs, pickF [9, 10] (setV [(10, .int .u64 (n1 0))] x.fs), restF [9, 10] (setV [(10, .int .u64 (n1 0))] x.fs))) = (some (Frame.enter Try.prog 20 #[.pointer (some ⟨o 19, 0, none⟩)] .normal, false, true), (Sw3 c rest B cap n o).map fun x => (F0_F20 (o 19) 3 0 (some (95, 2)) (some (95, 2)), [⟨⟨o 19, 0, none⟩, .int .u64 3, true, some (95, 2)⟩, ⟨⟨o 19, 1, none⟩, .int .u64 (n1 0), true, some (95, 2)⟩], restF [9, 10] x.fs)) := by kernel_rfl
noncomputable def Sw4 (c : Frame) (rest : List Frame) (B cap n : Nat) := popA (.tuple #[.int .u64 (nextV 3 0), .int .i64 0]) (setV [(10, .int .u64 (n1 0))]) (Sw3 c rest B cap n)
noncomputable def Sw5 (c : Frame) (rest : List Frame) (B cap n : Nat) := nextA (segA Try.prog (chkOf true) (List.replicate 36 {}) (Sw4 c rest B cap n))
theorem kS5 (c : Frame) (rest : List Frame) (B cap n : Nat) (o : Nat → Nat) : ((segA Try.prog (chkOf true) (List.replicate 36 {}) (Sw4 c rest B cap n) o).isSome, sumL 0 (segA Try.prog (chkOf true) (List.replicate 36 {}) (Sw4 c rest B cap n) o)) = (true, sumR 0 (segA Try.prog (chkOf true) (List.replicate 36 {}) (Sw4 c rest B cap n) o)) := by kernel_rfl
theorem cS5 (c : Frame) (rest : List Frame) (B cap n : Nat) (o : Nat → Nat) : (topA (Sw5 c rest B cap n) o, (Sw5 c rest B cap n o).map fun x => pickF [2, 3, 4] x.fs) = (some (Frame.enter Try.prog 34 #[.pointer (some ⟨o 2, 0, none⟩)] .normal, false, true), some (f34 (o 2) (o 1) 5 0 false)) := by kernel_rfl
noncomputable def Sw6 (c : Frame) (rest : List Frame) (B cap n B' cap' n' : Nat) := popA (.slice (some ⟨B', 0, none⟩) 2 cap') (fun l => l ++ two B' n' 5 0) (Sw5 c rest B cap n)
noncomputable def Sw7 (c : Frame) (rest : List Frame) (B cap n B' cap' n' : Nat) := nextA (segA Try.prog (chkOf true) (List.replicate 2 {}) (Sw6 c rest B cap n B' cap' n'))
theorem kS7 (c : Frame) (rest : List Frame) (B cap n B' cap' n' : Nat) (o : Nat → Nat) : ((segA Try.prog (chkOf true) (List.replicate 2 {}) (Sw6 c rest B cap n B' cap' n') o).isSome, sumL 0 (segA Try.prog (chkOf true) (List.replicate 2 {}) (Sw6 c rest B cap n B' cap' n') o)) = (true, sumR 0 (segA Try.prog (chkOf true) (List.replicate 2 {}) (Sw6 c rest B cap n B' cap' n') o)) := by kernel_rfl
theorem cS7 (c : Frame) (rest : List Frame) (B cap n B' cap' n' : Nat) (o : Nat → Nat) : (topA (Sw7 c rest B cap n B' cap' n') o, (Sw7 c rest B cap n B' cap' n' o).map fun x => (pickF [11, 12, 13, 14] x.fs, pickF [11, 12, 13, 14] x.fs, restF [11, 12, 13, 14] x.fs)) = (some (Frame.enter Try.prog 28 #[.slice (some ⟨B', 0, none⟩) 2 cap', .slice (some ⟨o 20, 0, none⟩) 2 2] .normal, false, true), (Sw7 c rest B cap n B' cap' n' o).map fun x => (F0_F28 B' (o 20) cap' 2 true true true true (some (30, n')) (some (30, n')) (some (30, 2)) (some (30, 2)), F0_F28 B' (o 20) cap' 2 true true true true (some (30, n')) (some (30, n')) (some (30, 2)) (some (30, 2)), restF [11, 12, 13, 14] x.fs)) := by kernel_rfl
noncomputable def Sw8 (c : Frame) (rest : List Frame) (B cap n B' cap' n' : Nat) := popA (.bool true) id (Sw7 c rest B cap n B' cap' n')
noncomputable def Sw9 (c : Frame) (rest : List Frame) (B cap n B' cap' n' : Nat) := nextA (segA Try.prog (chkOf true) (List.replicate 21 {}) (Sw8 c rest B cap n B' cap' n'))
theorem kS9 (c : Frame) (rest : List Frame) (B cap n B' cap' n' : Nat) (o : Nat → Nat) : ((segA Try.prog (chkOf true) (List.replicate 21 {}) (Sw8 c rest B cap n B' cap' n') o).isSome, sumL 0 (segA Try.prog (chkOf true) (List.replicate 21 {}) (Sw8 c rest B cap n B' cap' n') o)) = (true, sumR 0 (segA Try.prog (chkOf true) (List.replicate 21 {}) (Sw8 c rest B cap n B' cap' n') o)) := by kernel_rfl
theorem cS9 (c : Frame) (rest : List Frame) (B cap n B' cap' n' : Nat) (o : Nat → Nat) : (topA (Sw9 c rest B cap n B' cap' n') o, (Sw9 c rest B cap n B' cap' n' o).map fun x => (pickF [7, 8, 15, 16] x.fs, pickF [7, 8, 15, 16] x.fs, restF [7, 8, 15, 16] x.fs)) = (some (Frame.enter Try.prog 28 #[.slice (some ⟨B, 0, none⟩) 2 cap, .slice (some ⟨o 21, 0, none⟩) 2 2] .normal, false, true), (Sw9 c rest B cap n B' cap' n' o).map fun x => (F0_F28b B (o 21) cap 2 true true true true (some (30, n)) (some (30, n)) (some (30, 2)) (some (30, 2)), F0_F28b B (o 21) cap 2 true true true true (some (30, n)) (some (30, n)) (some (30, 2)) (some (30, 2)), restF [7, 8, 15, 16] x.fs)) := by kernel_rfl
noncomputable def Sw10 (c : Frame) (rest : List Frame) (B cap n B' cap' n' : Nat) := popA (.bool true) id (Sw9 c rest B cap n B' cap' n')
def hS11 : List Hint := flat [(35, [10], none)] 14
noncomputable def Sw11 (c : Frame) (rest : List Frame) (B cap n B' cap' n' : Nat) := nextA (segA Try.prog (chkOf true) hS11 (Sw10 c rest B cap n B' cap' n'))
theorem kS11 (c : Frame) (rest : List Frame) (B cap n B' cap' n' : Nat) (o : Nat → Nat) : ((segA Try.prog (chkOf true) hS11 (Sw10 c rest B cap n B' cap' n') o).isSome, sumL 0 (segA Try.prog (chkOf true) hS11 (Sw10 c rest B cap n B' cap' n') o)) = (true, sumR 0 (segA Try.prog (chkOf true) hS11 (Sw10 c rest B cap n B' cap' n') o)) := by kernel_rfl
theorem gS11 (c : Frame) (rest : List Frame) (B cap n B' cap' n' : Nat) (o : Nat → Nat) : (Sw11 c rest B cap n B' cap' n' o).map (·.g) = some (run' (c.finish (.bool true)) rest) := by kernel_rfl
end Go.Proofs

namespace Go.Proofs
open Go Go.Conc Go.Km

section
variable {Shun : Loc → Prop} {R : Nat} {w W : World} {Q' : (Loc → Prop) → Nat → Goroutine → World → Prop} {G : List Fact} {c : Frame} {rest : List Frame} {p q : Nat} {v0 v1 : Int} {u : Bool}

/-- Words, by its two cells -/
theorem words2 (hR : R ≤ w.heap.size) (hRS : RS Shun W (G ++ f34 p q v0 v1 u) w)
    (K : ∀ B cap n w', RS Shun W ((G ++ f34 p q v0 v1 u) ++ two B n v0 v1) w' → R ≤ w'.heap.size → Rb Try.prog Shun R (run' (c.finish (.slice (some ⟨B, 0, none⟩) 2 cap)) rest) w' Q') :
    Rb Try.prog Shun R (run' (Frame.enter Try.prog 34 #[.pointer (some ⟨p, 0, none⟩)] .normal) (c :: rest)) w Q' := by
  refine words_rb hR hRS fun B cap zs w' h _ hR' => ?_
  refine K B cap (Value.int .u64 v0 :: .int .u64 v1 :: zs).length w' ?_ hR'
  have : newFacts B (some (30, (Value.int .u64 v0 :: .int .u64 v1 :: zs).length)) (.int .u64 v0 :: .int .u64 v1 :: zs) 0 = two B (Value.int .u64 v0 :: .int .u64 v1 :: zs).length v0 v1 ++ newFacts B (some (30, (Value.int .u64 v0 :: .int .u64 v1 :: zs).length)) zs 2 := rfl
  rw [this, ← List.append_assoc] at h
  exact h.init

theorem words_call {A : (Nat → Nat) → Option KG} {o : Nat → Nat} {x : KG} (hA : At A o x) (hrun : x.g.status = .running) (hoff : x.g.offers = none) (idx : List Nat)
    (h : (topA A o, (A o).map fun x => pickF idx x.fs) = (some (Frame.enter Try.prog 34 #[.pointer (some ⟨p, 0, none⟩)] .normal, false, true), some (f34 p q v0 v1 u))) (hidx : ∀ (l t : List Fact), l = x.fs → t.length = 2 → restF idx (l ++ t) = restF idx l ++ t ∧ pickF idx (l ++ t) = pickF idx l) (hR : R ≤ w.heap.size) (hRS : RS Shun W (G ++ x.fs) w)
    (K : ∀ B cap n x' w', At (popA (.slice (some ⟨B, 0, none⟩) 2 cap) (fun l => l ++ two B n v0 v1) A) o x' → x'.k = x.k → x'.g.status = .running → x'.g.offers = none → R ≤ w'.heap.size → RS Shun W (G ++ x'.fs) w' → Rb Try.prog Shun R x'.g w' Q') : Rb Try.prog Shun R x.g w Q' := by
  obtain ⟨h1, h2⟩ := Prod.mk.inj h
  obtain ⟨c, rest, hc, hg⟩ := hA.top hrun hoff h1
  rw [hA.here] at h2
  simp only [Option.map_some, Option.some.injEq] at h2
  rw [hg]
  refine words2 (G := G ++ restF idx x.fs) (u := u) hR (RS.out idx rfl h2 hRS) fun B cap n w' hRS' hR' => ?_
  refine K B cap n _ w' (hA.pop hc _ _) rfl rfl rfl hR' ?_
  obtain ⟨e1, e2⟩ := hidx x.fs (two B n v0 v1) rfl rfl
  refine RS.back idx (l' := x.fs ++ two B n v0 v1) e1 (e2.trans h2) ?_
  refine hRS'.perm ?_
  rw [← List.append_assoc, List.append_assoc (G ++ restF idx x.fs), List.append_assoc (G ++ restF idx x.fs)]
  exact List.Perm.append_left _ List.perm_append_comm
end

section
variable {c : Frame} {rest : List Frame} {W w : World} {Shun : Loc → Prop} {R : Nat} {Q' : (Loc → Prop) → Nat → Goroutine → World → Prop}

theorem lS1 (c : Frame) (rest : List Frame) (o : Nat → Nat) : (Sw1 c rest o).map (fun x => x.fs.length) = some 7 := by kernel_rfl
theorem lS5 (c : Frame) (rest : List Frame) (B cap n : Nat) (o : Nat → Nat) : (Sw5 c rest B cap n o).map (fun x => x.fs.length) = some 11 := by kernel_rfl
theorem lenIs {A : (Nat → Nat) → Option KG} {o : Nat → Nat} {x : KG} {n : Nat} (hA : At A o x) (h : (A o).map (fun x => x.fs.length) = some n) : x.fs.length = n := by
  rw [hA.here] at h
  simpa using h
theorem idx_len (idx : List Nat) (l t : List Fact) (n : Nat) (hn : l.length = n) (hb : ∀ i ∈ idx, i < n) : restF idx (l ++ t) = restF idx l ++ t ∧ pickF idx (l ++ t) = pickF idx l := by
  have e : ∀ p ∈ t.zipIdx l.length, idx.contains p.2 = false := by
    intro p hp
    have h1 := List.le_snd_of_mem_zipIdx hp
    have : ¬ p.2 ∈ idx := fun h => by have := hb _ h; omega
    simpa using this
  constructor
  · unfold restF
    rw [List.zipIdx_append, List.filter_append, List.map_append, Nat.zero_add]
    have : (t.zipIdx l.length).filter (fun p => !idx.contains p.2) = t.zipIdx l.length := List.filter_eq_self.2 fun p hp => by rw [e p hp]; rfl
    rw [this]
    simp [List.zipIdx_map_fst]
  · unfold pickF
    rw [List.zipIdx_append, List.filter_append, List.map_append, Nat.zero_add]
    have : (t.zipIdx l.length).filter (fun p => idx.contains p.2) = [] := List.filter_eq_nil_iff.2 fun p hp => by rw [e p hp]; simp
    rw [this]
    simp

/-- ████ works(): from its entry to its return, on any tape ████ -/
theorem works_rb (hlow : ∀ a, Shun (.cell a) → a.block < w.heap.size) (hW : Was W w)
    (K : ∀ S' w', (∀ a, S' (.cell a) → a.block < w'.heap.size) → Was W w' → (∀ l, Shun l → S' l) → Rb Try.prog S' w'.heap.size (run' (c.finish (.bool true)) rest) w' Q') :
    Rb Try.prog Shun R (run' (Frame.enter Try.prog 9 #[] .normal) (c :: rest)) w Q' := by
  refine crew_rb hlow hW fun b x w0 S' hA hrun hsat hcl hwas hab hS' => ?_
  have hk : x.k = 19 := hA.kIs (kS0 c rest b)
  have hoff : x.g.offers = none := by
    obtain ⟨y, hy⟩ : ∃ y, M10 c rest b = some y := by
      cases h : M10 c rest b with
      | none => have := hA.here; simp [M11, retA, h] at this
      | some y => exact ⟨y, rfl⟩
    have := hA.here
    simp only [M11, retA, hy, Option.map_some, Option.some.injEq] at this
    rw [← this]; rfl
  have hRS : RS S' W ([] ++ (cF (b 9) 7 1 ++ x.fs)) w0 := ⟨hsat, hcl, hwas, hab⟩
  have hRS0 := RS.only [0, 1, 3, 4, 5, 17, 18] hRS
  have hA0 : At (Sw0 c rest) b { x with fs := pickF [0, 1, 3, 4, 5, 17, 18] (cF (b 9) 7 1 ++ x.fs) } := hA.onFs (φ := fun o l => pickF [0, 1, 3, 4, 5, 17, 18] (cF (o 9) 7 1 ++ l)) (fun o' ho' => by rw [ho' 9 (by omega)])
  refine rbG_seg (G := []) (x := { x with fs := pickF [0, 1, 3, 4, 5, 17, 18] (cF (b 9) 7 1 ++ x.fs) }) (d' := 0) true hA0 hrun hoff hS1 (Nat.le_refl _) hRS0 (fun o => ok_of (kS1 c rest o)) fun o1 x1 w1 _ hA1 _ hr1 ho1 hRS1 ht1 => ?_
  have hA1 : At (Sw1 c rest) o1 x1 := hA1
  simp only [if_true]
  have len1 : x1.fs.length = 7 := lenIs hA1 (lS1 c rest o1)
  refine words_call hA1 hr1 ho1 [0, 1, 5] (cS1 c rest o1) (fun l t hl _ => idx_len _ l t 7 (by rw [hl]; exact len1) (by decide)) (by have := ht1.size; exact this) hRS1 fun B cap n x2 w2 hA2 _ hr2 ho2 hR2 hRS2 => ?_
  have hA2 : At (Sw2 c rest B cap n) o1 x2 := hA2
  refine rbG_seg (G := []) (d' := 0) true hA2 hr2 ho2 _ hR2 hRS2 (fun o => ok_of (kS3 c rest B cap n o)) fun o3 x3 w3 _ hA3 _ hr3 ho3 hRS3 ht3 => ?_
  have hA3 : At (Sw3 c rest B cap n) o3 x3 := hA3
  simp only [if_true]
  refine rb_call2 (C_F20 (o3 19) 3 0 (some (95, 2)) (some (95, 2))) hA3 hr3 ho3 [9, 10] (setV [(10, .int .u64 (n1 0))]) (cS3 c rest B cap n o3) (Nat.le_trans hR2 ht3.size) hRS3 fun x4 w4 hA4 _ hr4 ho4 hR4 hRS4 => ?_
  have hA4 : At (Sw4 c rest B cap n) o3 x4 := hA4
  refine rbG_seg (G := []) (d' := 0) true hA4 hr4 ho4 _ hR4 hRS4 (fun o => ok_of (kS5 c rest B cap n o)) fun o5 x5 w5 _ hA5 _ hr5 ho5 hRS5 ht5 => ?_
  have hA5 : At (Sw5 c rest B cap n) o5 x5 := hA5
  simp only [if_true]
  have len5 : x5.fs.length = 11 := lenIs hA5 (lS5 c rest B cap n o5)
  refine words_call hA5 hr5 ho5 [2, 3, 4] (cS5 c rest B cap n o5) (fun l t hl _ => idx_len _ l t 11 (by rw [hl]; exact len5) (by decide)) (Nat.le_trans hR4 ht5.size) hRS5 fun B' cap' n' x6 w6 hA6 _ hr6 ho6 hR6 hRS6 => ?_
  have hA6 : At (Sw6 c rest B cap n B' cap' n') o5 x6 := hA6
  refine rbG_seg (G := []) (d' := 0) true hA6 hr6 ho6 _ hR6 hRS6 (fun o => ok_of (kS7 c rest B cap n B' cap' n' o)) fun o7 x7 w7 _ hA7 _ hr7 ho7 hRS7 ht7 => ?_
  have hA7 : At (Sw7 c rest B cap n B' cap' n') o7 x7 := hA7
  simp only [if_true]
  refine rb_call2 (C_F28 B' (o7 20) cap' 2 true true true true (some (30, n')) (some (30, n')) (some (30, 2)) (some (30, 2))) hA7 hr7 ho7 [11, 12, 13, 14] id (cS7 c rest B cap n B' cap' n' o7) (Nat.le_trans hR6 ht7.size) hRS7 fun x8 w8 hA8 _ hr8 ho8 hR8 hRS8 => ?_
  have hA8 : At (Sw8 c rest B cap n B' cap' n') o7 x8 := hA8
  refine rbG_seg (G := []) (d' := 0) true hA8 hr8 ho8 _ hR8 hRS8 (fun o => ok_of (kS9 c rest B cap n B' cap' n' o)) fun o9 x9 w9 _ hA9 _ hr9 ho9 hRS9 ht9 => ?_
  have hA9 : At (Sw9 c rest B cap n B' cap' n') o9 x9 := hA9
  simp only [if_true]
  refine rb_call2 (C_F28b B (o9 21) cap 2 true true true true (some (30, n)) (some (30, n)) (some (30, 2)) (some (30, 2))) hA9 hr9 ho9 [7, 8, 15, 16] id (cS9 c rest B cap n B' cap' n' o9) (Nat.le_trans hR8 ht9.size) hRS9 fun x10 w10 hA10 _ hr10 ho10 hR10 hRS10 => ?_
  have hA10 : At (Sw10 c rest B cap n B' cap' n') o9 x10 := hA10
  refine rbG_seg (G := []) (d' := 0) true hA10 hr10 ho10 hS11 hR10 hRS10 (fun o => ok_of (kS11 c rest B cap n B' cap' n' o)) fun o11 x11 w11 _ hA11 _ hr11 ho11 hRS11 ht11 => ?_
  have hA11 : At (Sw11 c rest B cap n B' cap' n') o11 x11 := hA11
  simp only [if_true]
  rw [hA11.gIs (gS11 c rest B cap n B' cap' n' o11)]
  exact Rb.raise (K S' w11 hRS11.clear.low hRS11.was hS')
end
end Go.Proofs
