/- AtomsOnce returns true for every input, on every tape, without a data race, and its arguments read behind the call as before. No conditions beyond those written in the theorems. -/
import Derived.Test.YtebjdfhaglgjiaaKh2
import Derived.Test.YtebjdfhaglgjiaaKg1
import Derived.Test.YtebjdfhaglgjiaaKg2
import Derived.Test.YtebjdfhaglgjiaaKg4f
import Derived.Test.YtebjdfhaglgjiaaKg4t
import Derived.Test.YtebjdfhaglgjiaaKg6f
import Derived.Test.YtebjdfhaglgjiaaKg6t
import Derived.Test.YtebjdfhaglgjiaaKg7
import Derived.Test.YtebjdfhaglgjiaaKg9
import Derived.Test.YtebjdfhaglgjiaaKg10f
import Derived.Test.YtebjdfhaglgjiaaKg10t
import Derived.Test.YtebjdfhaglgjiaaKg11
import Derived.Test.YtebjdfhaglgjiaaKgx
import Derived.Test.YtebjdfhaglgjiaaRows
import Derived.ProofKit
import Derived.Deep.SlicePairs
import Derived.Carry
import Derived.Conc.HoldsTime
/-! AtomsOnce: its loop; the whole of it -/
namespace Go.Proofs
open Go Go.Conc Go.Km

theorem case_of (s : S4) (kv wv : Int) (hfull : s.full = false → s.inn = 0) (hdone : s.done = false → s.kept = 0) :
    ∃ s', CaseC s s' kv wv ∧ (s'.full = false → s'.inn = 0) ∧ (s'.done = false → s'.kept = 0) := by
  obtain ⟨set, done, full, kept, inn, given⟩ := s
  simp only at hfull hdone
  by_cases h1 : kv = 1
  · subst h1
    cases set with
    | false => exact ⟨_, C_V1f done full kept inn given wv, hfull, hdone⟩
    | true => exact ⟨_, C_V1t done full kept inn given wv, hfull, hdone⟩
  by_cases h2 : kv = 2
  · subst h2
    cases set with
    | false => exact ⟨_, C_V2f done full kept inn given wv, hfull, hdone⟩
    | true => exact ⟨_, C_V2t done full kept inn given wv, hfull, hdone⟩
  by_cases h4 : kv = 4
  · subst h4
    cases done with
    | false =>
      obtain rfl := hdone rfl
      exact ⟨_, C_V4f set full inn given wv, hfull, by simp⟩
    | true => exact ⟨_, C_V4t set full kept inn given wv, hfull, hdone⟩
  by_cases h6 : kv = 6
  · subst h6
    cases done with
    | false =>
      obtain rfl := hdone rfl
      exact ⟨_, C_V6f set full inn given wv, hfull, by simp⟩
    | true => exact ⟨_, C_V6t set full kept inn given wv, hfull, hdone⟩
  by_cases h7 : kv = 7
  · subst h7
    cases full with
    | false =>
      obtain rfl := hfull rfl
      exact ⟨_, C_V7f set done kept given wv, hfull, hdone⟩
    | true => exact ⟨_, C_V7t set done kept inn given wv, hfull, hdone⟩
  by_cases h8 : kv = 8
  · subst h8
    exact ⟨_, C_V8 set done full kept inn given wv, by simp, hdone⟩
  by_cases h9 : kv = 9
  · subst h9
    cases full with
    | false =>
      obtain rfl := hfull rfl
      exact ⟨_, C_V9f set done kept given wv, by simp, hdone⟩
    | true => exact ⟨_, C_V9t set done kept inn given wv, by simp, hdone⟩
  by_cases h10 : kv = 10
  · subst h10
    cases full with
    | false =>
      obtain rfl := hfull rfl
      exact ⟨_, C_V10f set done kept given wv, by simp, hdone⟩
    | true => exact ⟨_, C_V10t set done kept inn given wv, by simp, hdone⟩
  by_cases h11 : kv = 11
  · subst h11
    exact ⟨_, C_V11 set done full kept inn given wv, hfull, hdone⟩
  exact ⟨_, C_Vx set done full kept inn given kv wv h1 h2 h4 h6 h7 h8 h9 h10 h11, hfull, hdone⟩

/-- the script, as it lies in memory -/
def Script (W : World) (a : Option Addr) (n : Nat) : Prop :=
  ∀ j, j < n → ∃ (pb po : Nat) (ps : Option Nat) (kv wv : Int), a.map (fun a => a.add (j * 2)) = some ⟨pb, po, ps⟩ ∧ W.cell? ⟨pb, po, ps⟩ = some (.int .i64 kv) ∧ W.cell? ⟨pb, po + 1, none⟩ = some (.int .u64 wv)

theorem FM_wr (k : C4) (s : S4) (bc : Nat) : ∀ f ∈ FM k s bc ++ CT s bc, f.wr = true := by
  obtain ⟨set, done, full, kept, inn, given⟩ := s
  intro f hf
  rcases List.mem_append.1 hf with hf | hf
  · simp only [FM, List.mem_cons, List.not_mem_nil, or_false] at hf
    rcases hf with rfl | rfl | rfl | rfl | rfl | rfl | rfl | rfl | rfl <;> rfl
  · cases full with
    | false => simp [CT] at hf
    | true =>
      simp only [CT, cond_true, List.mem_cons, List.not_mem_nil, or_false] at hf
      subst hf; rfl

section
variable {R : Nat} {W : World}
theorem loop_rb (k : C4) (hn : k.n ≤ 9223372036854775807) (hsc : Script W k.a k.n) : ∀ (m i : Nat), i + m = k.n → ∀ (s : S4) (J : Nat → Value) (bc : Nat) (w : World), (s.full = false → s.inn = 0) → (s.done = false → s.kept = 0) → R ≤ w.heap.size → RS S0 W ([] ++ (FM k s bc ++ CT s bc)) w →
    Rb Try.prog S0 R (run' (fr4 td_head (tm4 k s i J)) []) w (EndsWith Try.prog (.bool true) W)
  | 0, i, him, s, J, bc, w, _, _, hR, hRS => by
    obtain rfl : i = k.n := by omega
    refine exit_rb k s J hR ?_
    have h2 : RS S0 W ((FM k s bc ++ CT s bc) ++ []) w := by simpa using hRS
    exact h2.part
  | m + 1, i, him, s, J, bc, w, hfull, hdone, hR, hRS => by
    have hi : i < k.n := by omega
    obtain ⟨pb, po, ps, kv, wv, hp, hc0, hc1⟩ := hsc i hi
    obtain ⟨s', hC, hfull', hdone'⟩ := case_of s kv wv hfull hdone
    have hRS0 : RS S0 W (FM k s bc ++ CT s bc) w := hRS
    have hold := hRS0.addOld (fun f hf => hRS0.above f hf (FM_wr k s bc f hf)) [(⟨pb, po, ps⟩, .int .i64 kv), (⟨pb, po + 1, none⟩, .int .u64 wv)] (by simp) (fun p _ h => h) (by
      intro p hp
      simp only [List.mem_cons, List.not_mem_nil, or_false] at hp
      rcases hp with rfl | rfl
      · exact hc0
      · exact hc1)
    have hold2 : RS S0 W (CT s bc ++ (FM k s bc ++ FS pb po ps kv wv)) w := hold.perm (by
      rw [List.append_assoc]
      refine (List.perm_append_comm (l₁ := FM k s bc)).trans ?_
      rw [List.append_assoc]
      exact List.Perm.append_left _ List.perm_append_comm)
    refine front_rb k s i J bc pb po ps kv wv hR hi hp hold2 fun J1 wb w1 hR1 hRS1 => ?_
    refine hC k R W w1 _ J1 i wb bc pb po ps hR1 hi hp hRS1 fun J2 bc2 w2 hR2 hRS2 => ?_
    refine tail_rb k s' i J2 bc2 hfull' (by omega) hR2 hRS2 fun J3 w3 hR3 hRS3 => ?_
    exact loop_rb k hn hsc m (i + 1) (by omega) s' J3 bc2 w3 hfull' hdone' hR3 hRS3

/-- ████ AtomsOnce: from its entry to its return, on any tape ████ -/
theorem once_rb (first : Int) (a : Option Addr) (n cap : Nat) (hn : n ≤ 9223372036854775807) (hsc : Script W a n) :
    Rb Try.prog S0 0 (run' (Frame.enter Try.prog 4 #[.int .u64 first, .slice a n cap] .normal) []) W (EndsWith Try.prog (.bool true) W) := by
  have hRS : RS S0 W ([] ++ []) W := ⟨sat_nil _, ⟨fun f hf => (by cases hf), fun a h => h.elim⟩, Was.refl W, fun f hf => (by cases hf)⟩
  have hA0 : At (En0 first a n cap) (fun _ => 0) ⟨run' (Frame.enter Try.prog 4 #[.int .u64 first, .slice a n cap] .normal) [], [], 0, [], []⟩ := fun _ _ => rfl
  refine rbG_segD (G := []) (x := ⟨run' (Frame.enter Try.prog 4 #[.int .u64 first, .slice a n cap] .normal) [], [], 0, [], []⟩) hA0 rfl rfl _ (Nat.zero_le _) hRS (fun o => ok_of (kEn first a n cap o)) fun o1 x1 w1 _ hA1 _ hr1 ho1 hRS1 ht1 => ?_
  have hA1 : At (En1 first a n cap) o1 x1 := hA1
  obtain ⟨hz1, hz2⟩ := Prod.mk.inj (zEn first a n cap o1)
  obtain ⟨hg, hs, hl⟩ := f4At hA1 hr1 ho1 hz1
  obtain ⟨J', hJ⟩ := tm_of hs hl
  rw [hA1.fsIs hz2] at hRS1
  rw [hg, hJ]
  exact loop_rb ⟨first, a, n, cap, o1 0, o1 1, o1 2, o1 3⟩ hn hsc n 0 (by simp) ⟨false, false, false, 0, 0, 0⟩ J' 0 w1 (fun _ => rfl) (fun _ => rfl) (Nat.zero_le _) hRS1
end
end Go.Proofs

namespace Go.Proofs.Ytebjdfhaglgjiaa
open Go.ChangeShapes Go.WideShapes Go.ChangeAt Go.RowKit Go.Conc Go.Km Go.Deep

theorem Try.own : ownKnob Try.prog.godebug = none := by kernel_rfl
theorem Try.laidOut : laidOutB Try.prog = true := by kernel_rfl
noncomputable def fn4 : Func := (Try.prog.funcs[4]?).getD default
theorem fn4_is : Try.prog.funcs[4]? = some fn4 := by kernel_rfl
theorem fn4_params : fn4.params = #[30, 32] := by kernel_rfl
theorem fn4_results : fn4.resultTypes.toList = [4] := by kernel_rfl
theorem t30 : Try.prog.underlying 30 = some (.int .u64) := by kernel_rfl
theorem t3 : Try.prog.underlying 3 = some (.int .i64) := by kernel_rfl
theorem t4 : Try.prog.underlying 4 = some .bool := by kernel_rfl
theorem t32 : Try.prog.underlying 32 = some (.slice 62) := by kernel_rfl
noncomputable def flds : Array Field := match Try.prog.underlying 62 with
  | some (.struct fs) => fs
  | _ => #[]
noncomputable def fl0 : Field := flds.getD 0 default
noncomputable def fl1 : Field := flds.getD 1 default
theorem t62 : Try.prog.underlying 62 = some (.struct #[fl0, fl1]) := by kernel_rfl
theorem fl0_off : fl0.offset = 0 := by kernel_rfl
theorem fl1_off : fl1.offset = 1 := by kernel_rfl
theorem fl0_t : fl0.type = 3 := by kernel_rfl
theorem fl1_t : fl1.type = 30 := by kernel_rfl
theorem c62 : Try.prog.cellsOf 62 = 2 := by kernel_rfl
theorem c3 : Try.prog.cellsOf 3 = 1 := by kernel_rfl
theorem c30 : Try.prog.cellsOf 30 = 1 := by kernel_rfl

theorem add_next (a : Addr) (j : Nat) : a.add (j * 2 + 1) = ⟨(a.add (j * 2)).block, (a.add (j * 2)).off + 1, none⟩ := by
  unfold Addr.add
  rw [if_neg (by omega)]
  split
  · rename_i h; simp [h]
  · simp [Nat.add_assoc]

section
variable {H : Type} {enc : TypeId × Value → H}

set_option maxRecDepth 100000 in
theorem script_of {W : World} {v : Value} {d : DataW H} {p : List MemPlace} {base : Nat} (hval : Value.okWide Try.prog W .any base 32 v) (h : DataW.Trod enc Try.prog W 0 (fun _ => true) true 32 v d p) :
    ∃ a n cap, v = .slice a n cap ∧ n ≤ 9223372036854775807 ∧ Script W a n := by
  obtain ⟨a0, len, cap, rfl⟩ := okWide_slice t32 hval
  obtain ⟨fuel, h⟩ := h
  have hc : (Value.slice a0 len cap).cells.toList = [.slice a0 len cap] := rfl
  rw [hc] at h
  rcases open_slice_pairs t32 t62 c62 fl0_off fl1_off (by rw [fl0_t]; exact c3) (by rw [fl1_t]; exact c30) h with ⟨hcs, _⟩ | ⟨a, len', cap', m, n, V0, V1, D0, D1, P0, P1, hcs, _, hl, hm, hmm, _, hall⟩
  · simp only [List.cons.injEq, and_true, Value.slice.injEq] at hcs
    obtain ⟨rfl, rfl, rfl⟩ := hcs
    exact ⟨none, 0, 0, rfl, Nat.zero_le _, fun j hj => absurd hj (Nat.not_lt_zero j)⟩
  · simp only [List.cons.injEq, and_true, Value.slice.injEq] at hcs
    obtain ⟨rfl, rfl, rfl⟩ := hcs
    simp only [if_true] at hmm
    subst hmm
    refine ⟨some a, len, m, rfl, by unfold maxLen at hm; omega, fun j hj => ?_⟩
    obtain ⟨e0, e1, g0, g1⟩ := hall j (by omega)
    rw [fl0_t] at g0
    rw [fl1_t] at g1
    obtain ⟨kv, hk, _⟩ := DataW.trod_int t3 g0
    obtain ⟨wv, hw, _⟩ := DataW.trod_int t30 g1
    simp only [List.cons.injEq, and_true] at hk hw
    rw [add_next] at e1
    refine ⟨(a.add (j * 2)).block, (a.add (j * 2)).off, (a.add (j * 2)).spot, kv, wv, rfl, ?_, ?_⟩
    · rw [e0, hk]
    · rw [e1, hw]
end

set_option maxRecDepth 100000 in
theorem once_lifted (os : Os) (started : os.Started) (H : Type) (enc : TypeId × Value → H) (F : Stop.Interp) :
    ReturnsInLeavingWide Rows.atomsOnceRow.assume Try.checked os 4 .any (Rows.atomsOnceSpec.pre6 enc Try.prog fn4 Rows.atomsOnceRow.domain false) ((OpenSpec.ofChange Rows.atomsOnceSpec).postWith enc Try.prog fn4 F (outsideKept [.timePasses]) false true false) := by
  refine returnsInLeavingWide_of_change_time (C := Try.checked) Try.own started fn4_is
    (ChangeSpec.witness6c (enc := enc) (C := Try.checked) ⟨#[], #[.int .u64 0, .slice none 0 0], []⟩ 8 (by kernel_rfl) (by kernel_rfl) (by kernel_rfl) (by kernel_rfl)) ?_
  intro W base args ds gs before hval0 hW _ _ _
  have hval : ∀ (j : Nat) t v, fn4.params[j]? = some t → args[j]? = some v → Value.okWide Try.prog W .any base t v := hval0
  have hW' := hW
  obtain ⟨p, q, hA0, hV, rfl, _, _⟩ := hW
  have hA : DataW.TrodAll enc Try.prog W 0 (fun _ => true) true fn4.params.toList args.toList ds p := hA0
  rw [fn4_params] at hA hval
  obtain ⟨v0, v1, d0, d1, p0, p1, rfl, rfl, rfl, h0, h1⟩ := trodAll_two hA
  obtain ⟨rfl, rfl⟩ := trodVars_none hV
  have h0k := h0
  obtain ⟨a, rfl, _, _, _⟩ := open_int t30 (hval 0 30 v0 rfl rfl) h0
  obtain ⟨sa, n, cap, rfl, hn, hsc⟩ := script_of (hval 1 32 v1 rfl rfl) h1
  obtain ⟨M, last, o, w', t', r1, r2, r3, v, e, hp, g1, g2, g3, g4⟩ := run_of_rb (once_rb a sa n cap hn hsc)
  refine ⟨M, last, o, w', t', r1, r2, r3, v, e, ⟨?_, ?_⟩, g1, g2, g3, g4⟩
  · obtain ⟨rfl, hwas⟩ := hp
    have hbel : Below W.heap.size W { w' with os := W.os } := ⟨rfl, hwas.tape, hwas.output, hwas.size, hwas.block⟩
    have hlt : ∀ x ∈ (p0 ++ p1) ++ [], x.block < W.heap.size := fun x hx => hW'.lt x hx
    have hT : DataW.TrodAll enc Try.prog { w' with os := W.os } 0 (fun b => decide (b < W.heap.size)) true fn4.params.toList #[.int .u64 a, .slice sa n cap].toList [d0, d1] (p0 ++ p1) := by
      rw [fn4_params]
      exact trodAll_mk2 (Below.trod Try.laidOut (by kernel_rfl) (of_decide_eq_true (by kernel_rfl)) h0k hbel (fun x hx => hlt x (by simp [hx]))) (Below.trod Try.laidOut (by kernel_rfl) (of_decide_eq_true (by kernel_rfl)) h1 hbel (fun x hx => hlt x (by simp [hx])))
    have hR : DataW.TrodAll enc Try.prog { w' with os := W.os } W.heap.size (fun _ => false) false fn4.resultTypes.toList ((Value.bool true).resultList fn4.resultTypes.size) [.lit (.bool true)] [] := by
      rw [fn4_results]
      exact trodAll_mk1 (shut_bool t4 true)
    exact ⟨[d0, d1], [], _, [], p0 ++ p1, [], hW', hR, hT, rfl, hbel.frame _, fun h => by cases h⟩
  · obtain ⟨_, hwas⟩ := hp
    exact ⟨0, by rw [hwas.os]; rfl⟩

/-- ████ AtomsOnce, the row ████ -/
theorem atomsOnce_holds : Rows.AtomsOnceSaid :=
  OpenClaim.holds_of_wide_leaving_time 4 fn4 rfl rfl rfl rfl rfl rfl rfl ⟨rfl, rfl, rfl, rfl, rfl⟩ rfl rfl rfl rfl rfl (by kernel_rfl) fn4_is (by kernel_rfl)
    (of_decide_eq_true (by kernel_rfl)) (by unfold Func.isWrapper; first | (rw [if_pos (by decide +kernel)]; kernel_rfl) | (rw [if_neg (by decide +kernel)]; exact ⟨rfl, rfl⟩))
    (fun os started H enc _ F => once_lifted os started H enc F)
#print axioms atomsOnce_holds
end Go.Proofs.Ytebjdfhaglgjiaa
