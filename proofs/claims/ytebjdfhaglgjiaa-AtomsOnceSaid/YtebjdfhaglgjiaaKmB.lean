/- A team of goroutines with certificates runs, on every tape, to goroutine 0 standing where its certificate says, without a data race. No conditions beyond those written in the theorems. -/
import Derived.Test.YtebjdfhaglgjiaaKmA
import Derived.Conc.CrowdTrace
/-! KM, part 6: A TEAM's TRACE: what is held of it while goroutine 0 and the workers m, m+1, .. N-1 go on, each with cells of its own and cells that it may read; and shared cells, touched atomically alone. -/
namespace Go.Km
open Go Go.Conc
open Go.ConcN (PermW fork_knows)

def Team (m N j : Nat) : Prop := j = 0 ∨ (m ≤ j ∧ j < N)

structure TI (m N : Nat) (wg : Addr) (Shun DK : Loc → Prop) (SK : List Addr) (F : Nat → List Fact) (rel : Nat → Option Nat) (B : Nat) (t : Trace) : Prop where
  clean : ∀ said, ¬ Race said t
  low : ∀ op ∈ t, op.act.low B
  perm : ∀ j, Team m N j → ∀ f ∈ F j, f.wr = true → Perm t j (.cell f.a)
  permW : ∀ j, Team m N j → ∀ f ∈ F j, PermW t j (.cell f.a)
  shared : ∀ a ∈ SK, ∀ i x, touchAt t i = some x → x.loc = .cell a → x.kind = .atomic ∨ (x.kind = .said ∧ Knows t 0 i) ∨ (∀ j, Team m N j → Knows t j i)
  known : ∀ i x, touchAt t i = some x → x.loc.isMemory = true → Knows t 0 i ∨ ((Shun x.loc ∨ DK x.loc) ∧ x.kind = .atomic) ∨ (∃ j, m ≤ j ∧ j < N ∧ t.g? i = some j ∧ ∀ r, rel j = some r → i ≤ r)
  over : ∀ i g, t.g? i = some g → g ≠ 0 → t.counts i → (∃ j, t.g? j = some 0 ∧ HappensBefore t i j) ∨ (m ≤ g ∧ g < N ∧ ∀ r, rel g = some r → i ≤ r)
  relOk : ∀ j r, rel j = some r → t.act? r = some (.mark (.releaseMerge wg)) ∧ t.g? r = some j ∧ t.heard r
  norel : NoRelease wg t

theorem low_cell {x : MemAct} {b : Touch} {a : Addr} {B : Nat} (h : x.low B) (ht : x.touch? = some b) (hl : b.loc = .cell a) : a.block < B := by
  cases x with
  | access e => simp only [MemAct.touch?, Option.some.injEq] at ht; subst ht; simp only at hl; simp only [MemAct.low, hl, Loc.low] at h; exact h
  | mark mk => cases mk <;> simp only [MemAct.touch?, Option.some.injEq, reduceCtorEq] at ht <;> (subst ht; simp only [Loc.cell.injEq] at hl; subst hl; exact h)
  | _ => simp [MemAct.touch?] at ht

section
variable {m N : Nat} {wg : Addr} {Shun DK : Loc → Prop} {SK : List Addr} {F : Nat → List Fact} {rel : Nat → Option Nat} {B B' : Nat} {t u : Trace}

theorem TI.fresh (h : TI m N wg Shun DK SK F rel B t) {i : Nat} {x : Touch} {a : Addr} (hx : touchAt t i = some x) (hl : x.loc = .cell a) : a.block < B := by
  obtain ⟨op, ho, hoa⟩ := touch_of hx
  exact low_cell (h.low op (mem_of_getElem? ho)) hoa hl

theorem g?_of {t : Trace} {i : Nat} {op : MemOp} (h : t[i]? = some op) : t.g? i = some op.g := by simp [Trace.g?, h]

/-- What may stand in a list of thread j's: a touch of a fact of its own (a write: of a writable one); or an atomic touch of a shared cell; or (goroutine 0) a word about one. -/
def Fits (SK : List Addr) (fs : List Fact) (main : Bool) (x : Touch) : Prop :=
  (∃ f ∈ fs, x.loc = .cell f.a ∧ (x.write = true → f.wr = true)) ∨ (∃ a ∈ SK, x.loc = .cell a ∧ (x.kind = .atomic ∨ (x.kind = .said ∧ main = true)))

/-- ████ thread j goes on ████ -/
theorem TI.app (h : TI m N wg Shun DK SK F rel B t) {j : Nat} (hj : Team m N j) (hu : ∀ op ∈ u, op.g = j) (hB : B ≤ B') (hlow : ∀ op ∈ u, op.act.low B') (hnr : ∀ op ∈ u, op.act ≠ .mark (.release wg))
    {fs : List Fact} (hF : ∀ f ∈ fs, (∃ g ∈ F j, g.a = f.a ∧ g.wr = f.wr) ∨ B ≤ f.a.block)
    (disj : ∀ i, Team m N i → i ≠ j → (∀ f ∈ F j, f.wr = true → ∀ g ∈ F i, g.a ≠ f.a) ∧ (∀ f ∈ F j, ∀ g ∈ F i, g.wr = true → g.a ≠ f.a))
    (disjS : ∀ i, Team m N i → ∀ f ∈ F i, f.a ∉ SK) (old : ∀ i, Team m N i → ∀ f ∈ F i, f.a.block < B) (oldS : ∀ a ∈ SK, a.block < B)
    (hev : ∀ op ∈ u, ∀ x, op.act.touch? = some x → Fits SK fs (j == 0) x)
    (hrel : ∀ r, rel j = some r → (∀ op ∈ u, ∀ x, op.act.touch? = some x → x.loc.isMemory = true → DK x.loc ∧ x.kind = .atomic) ∧ ∀ i, t.size ≤ i → (t ++ u).g? i = some j → ¬ (t ++ u).counts i) :
    TI m N wg Shun DK SK (ConcN.upd F j fs) rel B' (t ++ u) := by
  have hfr : ∀ {f : Fact}, f ∈ fs → B ≤ f.a.block → ∀ i x, touchAt t i = some x → x.loc = .cell f.a → False := fun hf hb i x hx hl => by have := h.fresh hx hl; omega
  have oldfs : ∀ f ∈ fs, ∀ i, Team m N i → i ≠ j → ∀ g ∈ F i, (f.wr = true ∨ g.wr = true) → g.a ≠ f.a := by
    intro f hf i hi hij g hg hw e
    rcases hF f hf with ⟨f0, hf0, e1, e2⟩ | hb
    · rcases hw with hw | hw
      · exact (disj i hi hij).1 f0 hf0 (e2.trans hw) g hg (e.trans e1.symm)
      · exact (disj i hi hij).2 f0 hf0 g hg hw (e.trans e1.symm)
    · have := old i hi g hg; rw [e] at this; omega
  have oldfsS : ∀ f ∈ fs, f.a ∉ SK := by
    intro f hf hs
    rcases hF f hf with ⟨f0, hf0, e1, _⟩ | hb
    · exact disjS j hj f0 hf0 (by rw [e1]; exact hs)
    · have := oldS _ hs; omega
  have pj : ∀ f ∈ fs, f.wr = true → Perm t j (.cell f.a) := by
    intro f hf hw
    rcases hF f hf with ⟨f0, hf0, e1, e2⟩ | hb
    · rw [← e1]; exact h.perm j hj f0 hf0 (e2.trans hw)
    · exact fun i a ha hl => (hfr hf hb i a ha hl).elim
  have pwj : ∀ f ∈ fs, PermW t j (.cell f.a) := by
    intro f hf
    rcases hF f hf with ⟨f0, hf0, e1, e2⟩ | hb
    · rw [← e1]; exact h.permW j hj f0 hf0
    · exact fun i a ha hl _ => (hfr hf hb i a ha hl).elim
  refine ⟨fun said => noRace_append (h.clean said) hu ?_, fun op hop => ?_, fun i hi f hf hw => ?_, fun i hi f hf => ?_, fun a ha i x hx hl => ?_, fun i x hx hmem => ?_, fun i g hg hne hc => ?_, fun i r hr => ?_, ?_⟩
  · -- no race
    intro i a ha op hop b hb hc
    obtain ⟨hloc, _, hwr, hkind⟩ := hc
    rcases hev op hop b hb with ⟨f, hf, hl, hw⟩ | ⟨s, hs, hl, hk⟩
    · by_cases hbw : b.write = true
      · exact pj f hf (hw hbw) i a ha (hloc.trans hl)
      · exact pwj f hf i a ha (hloc.trans hl) (hwr.resolve_right hbw)
    · rcases h.shared s hs i a ha (hloc.trans hl) with h1 | ⟨h1, h2⟩ | h1
      · rw [h1] at hkind
        rcases hk with hk | ⟨hk, _⟩ <;> rw [hk] at hkind <;> simp at hkind
      · rcases hk with hk | ⟨_, hk0⟩
        · rw [h1, hk] at hkind; simp at hkind
        · have : j = 0 := by simpa using hk0
          rw [this]; exact h2
      · exact h1 j hj
  · exact (Array.mem_append.1 hop).elim (fun x => MemAct.low_mono hB (h.low op x)) (hlow op)
  · by_cases hij : i = j
    · subst hij
      rw [ConcN.upd_same] at hf
      exact (pj f hf hw).app fun op hop _ _ _ => hu op hop
    · rw [ConcN.upd_ne F fs hij] at hf
      refine (h.perm i hi f hf hw).app fun op hop b hb hl => ?_
      rcases hev op hop b hb with ⟨f', hf', hl', _⟩ | ⟨s, hs, hl', _⟩
      · rw [hl] at hl'; simp only [Loc.cell.injEq] at hl'
        exact absurd hl' (oldfs f' hf' i hi hij f hf (.inr hw))
      · rw [hl] at hl'; simp only [Loc.cell.injEq] at hl'
        exact absurd (hl' ▸ hs) (disjS i hi f hf)
  · by_cases hij : i = j
    · subst hij
      rw [ConcN.upd_same] at hf
      exact (pwj f hf).app fun op hop _ _ _ _ => hu op hop
    · rw [ConcN.upd_ne F fs hij] at hf
      refine (h.permW i hi f hf).app fun op hop b hb hl hbw => ?_
      rcases hev op hop b hb with ⟨f', hf', hl', hw'⟩ | ⟨s, hs, hl', _⟩
      · rw [hl] at hl'; simp only [Loc.cell.injEq] at hl'
        exact absurd hl' (oldfs f' hf' i hi hij f hf (.inl (hw' hbw)))
      · rw [hl] at hl'; simp only [Loc.cell.injEq] at hl'
        exact absurd (hl' ▸ hs) (disjS i hi f hf)
  · obtain ⟨op, ho, hoa⟩ := touch_of hx
    rcases getElem?_append_cases ho with ⟨hi, ho'⟩ | ⟨_, hou⟩
    · rcases h.shared a ha i x (by rw [touchAt_of ho']; exact hoa) hl with h1 | ⟨h1, h2⟩ | h1
      · exact .inl h1
      · exact .inr (.inl ⟨h1, h2.app u⟩)
      · exact .inr (.inr fun j hj => (h1 j hj).app u)
    · rcases hev op hou x hoa with ⟨f, hf, hl', _⟩ | ⟨s, hs, hl', hk⟩
      · rw [hl] at hl'; simp only [Loc.cell.injEq] at hl'
        exact absurd (hl' ▸ ha) (oldfsS f hf)
      · rcases hk with hk | ⟨hk, hk0⟩
        · exact .inl hk
        · have := knows_own ho
          rw [hu op hou, show j = 0 by simpa using hk0] at this
          exact .inr (.inl ⟨hk, this⟩)
  · obtain ⟨op, ho, hoa⟩ := touch_of hx
    rcases getElem?_append_cases ho with ⟨hi, ho'⟩ | ⟨_, hou⟩
    · rcases h.known i x (by rw [touchAt_of ho']; exact hoa) hmem with h1 | h1 | ⟨j', a1, a2, a3, a4⟩
      · exact .inl (h1.app u)
      · exact .inr (.inl h1)
      · exact .inr (.inr ⟨j', a1, a2, by rw [g?_old hi]; exact a3, a4⟩)
    · rcases hj with rfl | ⟨hj1, hj2⟩
      · have := knows_own ho
        rw [hu op hou] at this
        exact .inl this
      · cases hr : rel j with
        | none => exact .inr (.inr ⟨j, hj1, hj2, by rw [g?_of ho, hu op hou], fun r h' => by rw [hr] at h'; cases h'⟩)
        | some r => have := (hrel r hr).1 op hou x hoa hmem; exact .inr (.inl ⟨.inr this.1, this.2⟩)
  · obtain ⟨x, hx, _⟩ := hc
    obtain ⟨op, ho, hoa⟩ := touch_of hx
    rcases getElem?_append_cases ho with ⟨hi, ho'⟩ | ⟨hge, hou⟩
    · rcases h.over i g (by rw [← g?_old (u := u) hi]; exact hg) hne ((counts_old hi).1 ⟨x, hx, ‹_›⟩) with ⟨k, hk, hb⟩ | h1
      · refine .inl ⟨k, ?_, hb_app u hb⟩
        have hkl : k < t.size := by
          unfold Trace.g? at hk
          obtain ⟨z, hz, _⟩ := Option.map_eq_some_iff.1 hk
          exact lt_size_of_getElem? hz
        rw [g?_old hkl]; exact hk
      · exact .inr h1
    · have hgj : g = j := by rw [g?_of ho, hu op hou] at hg; exact (Option.some.inj hg).symm
      subst hgj
      rcases hj with rfl | ⟨hj1, hj2⟩
      · exact absurd rfl hne
      · refine .inr ⟨hj1, hj2, fun r hr => ?_⟩
        exact absurd ⟨x, hx, ‹_›⟩ ((hrel r hr).2 i hge hg)
  · obtain ⟨a1, a2, a3⟩ := h.relOk i r hr
    have hrl := lt_of_act? a1
    exact ⟨by rw [act?_old hrl]; exact a1, by rw [g?_old hrl]; exact a2, (heard_old hrl).2 a3⟩
  · exact h.norel.app hnr

/-- thread j has said its release. -/
theorem TI.released (h : TI m N wg Shun DK SK F rel B t) {j r : Nat} (hsz : t.size = r + 1) (ha : t.act? r = some (.mark (.releaseMerge wg))) (hg : t.g? r = some j) (hh : t.heard r) :
    TI m N wg Shun DK SK F (ConcN.upd rel j (some r)) B t := by
  have lt_of_touch : ∀ {i x}, touchAt t i = some x → i ≤ r := fun {i x} hx => by
    obtain ⟨op, ho, _⟩ := touch_of hx
    have := lt_size_of_getElem? ho
    omega
  refine ⟨h.clean, h.low, h.perm, h.permW, h.shared, fun i x hx hm => ?_, fun i g hg' hne hc => ?_, fun i r' hr => ?_, h.norel⟩
  · rcases h.known i x hx hm with h1 | h1 | ⟨k, a1, a2, a3, a4⟩
    · exact .inl h1
    · exact .inr (.inl h1)
    · refine .inr (.inr ⟨k, a1, a2, a3, fun r' hr => ?_⟩)
      by_cases hk : k = j
      · subst hk; rw [ConcN.upd_same] at hr; cases hr; exact lt_of_touch hx
      · rw [ConcN.upd_ne rel _ hk] at hr; exact a4 r' hr
  · have hir : i ≤ r := by obtain ⟨x, hx, _⟩ := hc; exact lt_of_touch hx
    rcases h.over i g hg' hne hc with h1 | ⟨a1, a2, a3⟩
    · exact .inl h1
    · refine .inr ⟨a1, a2, fun r' hr => ?_⟩
      by_cases hk : g = j
      · subst hk; rw [ConcN.upd_same] at hr; cases hr; exact hir
      · rw [ConcN.upd_ne rel _ hk] at hr; exact a3 r' hr
  · by_cases hk : i = j
    · subst hk; rw [ConcN.upd_same] at hr; cases hr; exact ⟨ha, hg, hh⟩
    · rw [ConcN.upd_ne rel _ hk] at hr; exact h.relOk i r' hr

/-- ████ a go statement of goroutine 0's ████ -/
theorem TI.fork (h : TI m N wg Shun DK SK F rel B t) (hm : 0 < m) (hmN : m ≤ N) (h0 : Deaf t 0 = 0) (hN : Deaf t N = 0) {x y : MemOp} (hx : x.g = 0 ∧ x.act = .go N) (hy : y.g = N ∧ y.act = .start) {fs0 fsC : List Fact}
    (hF0 : ∀ f ∈ fs0, ∃ g ∈ F 0, g.a = f.a ∧ (f.wr = true → g.wr = true)) (hFC : ∀ f ∈ fsC, ∃ g ∈ F 0, g.a = f.a ∧ (f.wr = true → g.wr = true)) :
    TI m (N + 1) wg Shun DK SK (ConcN.upd (ConcN.upd F 0 fs0) N fsC) rel B (t ++ #[x, y]) := by
  have hnt : ∀ op ∈ #[x, y], op.act.touch? = none := by
    intro op hop
    simp only [List.mem_toArray, List.mem_cons, List.not_mem_nil, or_false] at hop
    rcases hop with rfl | rfl
    · rw [hx.2]; rfl
    · rw [hy.2]; rfl
  have hN0 : N ≠ 0 := by omega
  have oldT : ∀ {i z}, touchAt (t ++ #[x, y]) i = some z → i < t.size ∧ touchAt t i = some z := by
    intro i z hz
    obtain ⟨op, ho, hoa⟩ := touch_of hz
    rcases getElem?_append_cases ho with ⟨hi, ho'⟩ | ⟨_, hou⟩
    · exact ⟨hi, by rw [touchAt_of ho']; exact hoa⟩
    · rw [hnt op hou] at hoa; cases hoa
  have team0 : Team m N 0 := .inl rfl
  have kid : ∀ {i}, Knows t 0 i → Knows (t ++ #[x, y]) N i := fun hk => fork_knows hx hy h0 hN hk
  have teamN : ∀ {j}, Team m (N + 1) j → j ≠ N → Team m N j := fun hj hne => hj.imp id fun h => ⟨h.1, by omega⟩
  refine ⟨fun said => ?_, fun op hop => ?_, fun j hj f hf hw => ?_, fun j hj f hf => ?_, fun a ha i z hz hl => ?_, fun i z hz hmem => ?_, fun i g hg hne hc => ?_, fun i r hr => ?_, ?_⟩
  · have e : t ++ #[x, y] = (t ++ #[x]) ++ #[y] := by apply Array.ext'; simp
    rw [e]
    exact noRace_append (g := N) (noRace_append (g := 0) (h.clean said) (fun op hop => by simp at hop; rw [hop]; exact hx.1) (fun i a _ op hop b hb _ => by rw [hnt op (by simp at hop ⊢; exact .inl hop)] at hb; cases hb))
      (fun op hop => by simp at hop; rw [hop]; exact hy.1) (fun i a _ op hop b hb _ => by rw [hnt op (by simp at hop ⊢; exact .inr hop)] at hb; cases hb)
  · rcases Array.mem_append.1 hop with hop | hop
    · exact h.low op hop
    · simp only [List.mem_toArray, List.mem_cons, List.not_mem_nil, or_false] at hop
      rcases hop with rfl | rfl
      · rw [hx.2]; trivial
      · rw [hy.2]; trivial
  · intro i z hz hl
    obtain ⟨_, hz'⟩ := oldT hz
    by_cases hjN : j = N
    · subst hjN
      rw [ConcN.upd_same] at hf
      obtain ⟨g, hg, e, hgw⟩ := hFC f hf
      exact kid (h.perm 0 team0 g hg (hgw hw) i z hz' (by rw [e]; exact hl))
    · rw [ConcN.upd_ne _ fsC hjN] at hf
      by_cases hj0 : j = 0
      · subst hj0
        rw [ConcN.upd_same] at hf
        obtain ⟨g, hg, e, hgw⟩ := hF0 f hf
        exact (h.perm 0 team0 g hg (hgw hw) i z hz' (by rw [e]; exact hl)).app _
      · rw [ConcN.upd_ne F fs0 hj0] at hf
        exact (h.perm j (teamN hj hjN) f hf hw i z hz' hl).app _
  · intro i z hz hl hzw
    obtain ⟨_, hz'⟩ := oldT hz
    by_cases hjN : j = N
    · subst hjN
      rw [ConcN.upd_same] at hf
      obtain ⟨g, hg, e, hgw⟩ := hFC f hf
      exact kid (h.permW 0 team0 g hg i z hz' (by rw [e]; exact hl) hzw)
    · rw [ConcN.upd_ne _ fsC hjN] at hf
      by_cases hj0 : j = 0
      · subst hj0
        rw [ConcN.upd_same] at hf
        obtain ⟨g, hg, e, hgw⟩ := hF0 f hf
        exact (h.permW 0 team0 g hg i z hz' (by rw [e]; exact hl) hzw).app _
      · rw [ConcN.upd_ne F fs0 hj0] at hf
        exact (h.permW j (teamN hj hjN) f hf i z hz' hl hzw).app _
  · obtain ⟨_, hz'⟩ := oldT hz
    rcases h.shared a ha i z hz' hl with h1 | ⟨h1, h2⟩ | h1
    · exact .inl h1
    · exact .inr (.inl ⟨h1, h2.app _⟩)
    · refine .inr (.inr fun j hj => ?_)
      by_cases hjN : j = N
      · subst hjN; exact kid (h1 0 team0)
      · exact (h1 j (teamN hj hjN)).app _
  · obtain ⟨hi, hz'⟩ := oldT hz
    rcases h.known i z hz' hmem with h1 | h1 | ⟨j, a1, a2, a3, a4⟩
    · exact .inl (h1.app _)
    · exact .inr (.inl h1)
    · exact .inr (.inr ⟨j, a1, by omega, by rw [g?_old hi]; exact a3, a4⟩)
  · obtain ⟨z, hz, hz2⟩ := hc
    obtain ⟨hi, hz'⟩ := oldT hz
    rcases h.over i g (by rw [← g?_old (u := #[x, y]) hi]; exact hg) hne ((counts_old hi).1 ⟨z, hz, hz2⟩) with ⟨k, hk, hb⟩ | ⟨a1, a2, a3⟩
    · have hkl : k < t.size := by
        unfold Trace.g? at hk
        obtain ⟨z, hz, _⟩ := Option.map_eq_some_iff.1 hk
        exact lt_size_of_getElem? hz
      exact .inl ⟨k, by rw [g?_old hkl]; exact hk, hb_app _ hb⟩
    · exact .inr ⟨a1, by omega, a3⟩
  · obtain ⟨a1, a2, a3⟩ := h.relOk i r hr
    have hrl := lt_of_act? a1
    exact ⟨by rw [act?_old hrl]; exact a1, by rw [g?_old hrl]; exact a2, (heard_old hrl).2 a3⟩
  · refine h.norel.app fun op hop => ?_
    simp only [List.mem_toArray, List.mem_cons, List.not_mem_nil, or_false] at hop
    rcases hop with rfl | rfl
    · rw [hx.2]; simp
    · rw [hy.2]; simp

/-- ████ goroutine 0 acquires what all have released ████ -/
theorem TI.exit (h : TI m N wg Shun DK SK F rel B t) (all : ∀ j, m ≤ j → j < N → ∃ r, rel j = some r) (h0 : Deaf t 0 = 0) {y : MemOp} (hy : y.g = 0 ∧ y.act = .mark (.acquire wg)) (hwg : wg.block < B) :
    Past (fun l => Shun l ∨ DK l) B (t ++ #[y]) := by
  have hnt : ∀ op ∈ #[y], op.act.touch? = none := by
    intro op hop
    simp only [List.mem_toArray, List.mem_cons, List.not_mem_nil, or_false] at hop
    rw [hop, hy.2]; rfl
  have oldT : ∀ {i z}, touchAt (t ++ #[y]) i = some z → i < t.size ∧ touchAt t i = some z := by
    intro i z hz
    obtain ⟨op, ho, hoa⟩ := touch_of hz
    rcases getElem?_append_cases ho with ⟨hi, ho'⟩ | ⟨_, hou⟩
    · exact ⟨hi, by rw [touchAt_of ho']; exact hoa⟩
    · rw [hnt op hou] at hoa; cases hoa
  have hlast : (t ++ #[y])[t.size]? = some y := by rw [Array.getElem?_append_right (Nat.le_refl _)]; simp
  have hh : (t ++ #[y]).heard t.size := ⟨0, by rw [g?_of hlast, hy.1], by rw [deaf_old (Nat.le_refl _)]; exact h0⟩
  have edge : ∀ {i g}, m ≤ g → g < N → t.g? i = some g → (∀ r, rel g = some r → i ≤ r) → HappensBefore (t ++ #[y]) i t.size := by
    intro i g a1 a2 a3 a4
    obtain ⟨r, hr⟩ := all g a1 a2
    obtain ⟨b1, b2, b3⟩ := h.relOk g r hr
    have hrl := lt_of_act? b1
    have e : HappensBefore (t ++ #[y]) r t.size := .single (.inr ⟨.marked (a := wg) hrl (.inr (by rw [act?_old hrl]; exact b1)) (by rw [act?_of hlast, hy.2]) (fun k _ hk => by rw [act?_old hk]; exact h.norel k), (heard_old hrl).2 b3, hh⟩)
    rcases Nat.lt_or_ge i r with hlt | hge
    · exact .trans (.single (.inl ⟨hlt, g, by rw [g?_old (Nat.lt_trans hlt hrl)]; exact a3, by rw [g?_old hrl]; exact b2⟩)) e
    · have := a4 r hr
      obtain rfl : i = r := by omega
      exact e
  refine ⟨fun said => noRace_append (g := 0) (h.clean said) (fun op hop => by simp at hop; rw [hop]; exact hy.1) (fun i a _ op hop b hb _ => by rw [hnt op hop] at hb; cases hb), fun i z hz hmem => ?_, fun i g hg hne hc => ?_, ?_, fun op hop => ?_⟩
  · obtain ⟨hi, hz'⟩ := oldT hz
    rcases h.known i z hz' hmem with h1 | h1 | ⟨j, a1, a2, a3, a4⟩
    · exact .inl (h1.app _)
    · exact .inr h1
    · exact .inl ⟨t.size, y, hlast, hy.1, .inr (edge a1 a2 a3 a4)⟩
  · obtain ⟨z, hz, hz2⟩ := hc
    obtain ⟨hi, hz'⟩ := oldT hz
    have hg' : t.g? i = some g := by rw [← g?_old (u := #[y]) hi]; exact hg
    rcases h.over i g hg' hne ((counts_old hi).1 ⟨z, hz, hz2⟩) with ⟨k, hk, hb⟩ | ⟨a1, a2, a3⟩
    · have hkl : k < t.size := by
        unfold Trace.g? at hk
        obtain ⟨z, hz, _⟩ := Option.map_eq_some_iff.1 hk
        exact lt_size_of_getElem? hz
      exact ⟨k, by rw [g?_old hkl]; exact hk, hb_app _ hb⟩
    · exact ⟨t.size, by rw [g?_of hlast, hy.1], edge a1 a2 hg' a3⟩
  · rw [Deaf_push]; simp only [deafStep, hy.2]; exact h0
  · rcases Array.mem_append.1 hop with hop | hop
    · exact h.low op hop
    · simp only [List.mem_toArray, List.mem_cons, List.not_mem_nil, or_false] at hop
      rw [hop, hy.2]; exact hwg

/-- The start: goroutine 0 alone, all others leaving. -/
theorem TI.init (h : Past Shun B t) (_hm : 0 < m) {fs : List Fact} (hF : F 0 = fs) (hfs : ∀ f ∈ fs, ¬ Shun (.cell f.a)) (hSK : ∀ a ∈ SK, ¬ Shun (.cell a)) (hn : NoRelease wg t) :
    TI m m wg Shun DK SK F (fun _ => none) B t := by
  have only : ∀ {j}, Team m m j → j = 0 := fun hj => hj.elim id fun h => by omega
  refine ⟨h.clean, h.seen, fun j hj f hf _ => ?_, fun j hj f hf => ?_, fun a ha i x hx hl => ?_, fun i x hx hmem => ?_, fun i g hg hne hc => .inl (h.over i g hg hne hc), fun j r hr => (by simp at hr), hn⟩
  · obtain rfl := only hj
    rw [hF] at hf
    intro i x hx hl
    rcases h.known i x hx (by rw [hl]; rfl) with h1 | ⟨h1, _⟩
    · exact h1
    · rw [hl] at h1; exact absurd h1 (hfs f hf)
  · obtain rfl := only hj
    rw [hF] at hf
    intro i x hx hl _
    rcases h.known i x hx (by rw [hl]; rfl) with h1 | ⟨h1, _⟩
    · exact h1
    · rw [hl] at h1; exact absurd h1 (hfs f hf)
  · rcases h.known i x hx (by rw [hl]; rfl) with h1 | ⟨h1, _⟩
    · exact .inr (.inr fun j hj => by rw [only hj]; exact h1)
    · rw [hl] at h1; exact absurd h1 (hSK a ha)
  · rcases h.known i x hx hmem with h1 | ⟨h1, h2⟩
    · exact .inl h1
    · exact .inr (.inl ⟨.inl h1, h2⟩)
end
end Go.Km

/-! KM, part 7: A TEAM: goroutine 0 and the workers that it starts, each by its own certificate ('Cert'), on whatever tape. -/
namespace Go.Km
open Go Go.Conc
open Go.ConcN (sumTo sumTo_upd sumTo_upd_out sumTo_congr upd_ne upd_same)

structure TeamP where
  S : Type
  SK : List Addr
  SF : S → List Fact
  keys : ∀ σ, (SF σ).map (·.a) = SK
  wr : ∀ σ, ∀ f ∈ SF σ, f.wr = true
  wg : Addr
  wgIn : wg ∈ SK
  DK : Loc → Prop
  dk : ∀ l, DK l → ∃ a ∈ SK, l = .cell a
  /-- what a step of this one's (none: goroutine 0; some r: worker r) may do to the shared state -/
  Tr : Option Nat → S → S → Prop
  /-- worker r can go on now -/
  Busy : S → Nat → Prop
  /-- worker r has done its last shared act -/
  Left : S → Nat → Prop

structure Th (S : Type) where
  g : Goroutine
  fs : List Fact
  κ : S → Prop
  d : Nat
  rel : Bool
  c : Nat

section
variable (P : Program) (T : TeamP) (Q : Goroutine → List Fact → T.S → Prop)

def Stable (who : Option Nat) (κ : T.S → Prop) : Prop := ∀ other σ σ', other ≠ who → κ σ → T.Tr other σ σ' → κ σ'

/-- What a step's list may be. -/
def EvOk (who : Option Nat) (rel : Bool) (d : Nat) (fs : List Fact) (B : Nat) (es : Array Event) : Prop :=
  (∀ e ∈ es, (MemAct.ofEvent e).low B ∧ e.loc ≠ .mark (.release T.wg) ∧ ∀ x, (MemAct.ofEvent e).touch? = some x → Fits T.SK fs who.isNone x) ∧
  (rel = true → (∀ e ∈ es, ∀ x, (MemAct.ofEvent e).touch? = some x → x.loc.isMemory = true → T.DK x.loc ∧ x.kind = .atomic) ∧
    ∀ (i : Nat) (e : Event), es[i]? = some e → (MemAct.ofEvent e).touch? ≠ none → deafBehind d (es.extract 0 i) ≠ 0)

def Quit (who : Option Nat) (k : Nat) (x : Th T.S) : Prop :=
  ∃ r, who = some r ∧ QuitsD P k x.d x.g ∧ x.rel = true ∧ Stable T who x.κ ∧ ∀ σ, x.κ σ → ¬ T.Busy σ r

/-- The ways on. -/
inductive Out (who : Option Nat) (C : Option Nat → Th T.S → Prop) (x : Th T.S) (σ : T.S) (w : World) : Prop
  | go {g' : Goroutine} {w' : World} {es : Array Event} {fs' : List Fact} {σ' : T.S} {κ' : T.S → Prop} : stepG P who.isNone x.g w = .go g' w' es →
      Turn (T.SF σ ++ x.fs) w (T.SF σ' ++ fs') w' → EvOk T who x.rel x.d fs' w'.heap.size es → (σ' = σ ∨ (mayWake P x.g = true ∧ T.Tr who σ σ')) → κ' σ' →
      C who { x with g := g', fs := fs', κ := κ', d := deafBehind x.d es } → Out who C x σ w
  | rel {r : Nat} {g' : Goroutine} {w' : World} {fs' : List Fact} : who = some r → x.d = 0 → x.rel = false → stepG P who.isNone x.g w = .go g' w' #[⟨.mark (.releaseMerge T.wg), false, true⟩] →
      Turn (T.SF σ ++ x.fs) w (T.SF σ ++ fs') w' → C who { x with g := g', fs := fs', rel := true } → Out who C x σ w
  | blk : stepG P who.isNone x.g w = .go { x.g with status := .blocked } w #[] → (who = none → ∃ r, r < x.c ∧ T.Busy σ r) → (∀ r, who = some r → ¬ T.Busy σ r) → Out who C x σ w
  | spawn {g' child : Goroutine} {fs0 fsC : List Fact} {κC : T.S → Prop} {σ' : T.S} {κ' : T.S → Prop} : who = none → x.d = 0 → stepG P who.isNone x.g w = .spawn g' child w #[] →
      (∀ f ∈ fs0, ∃ g ∈ x.fs, g.a = f.a ∧ g.v = f.v ∧ (f.wr = true → g.wr = true) ∧ (f.sh = g.sh ∨ f.sh = none)) → (∀ f ∈ fsC, ∃ g ∈ x.fs, g.a = f.a ∧ g.v = f.v ∧ (f.wr = true → g.wr = true) ∧ (f.sh = g.sh ∨ f.sh = none)) →
      (fs0.map (·.a)).Nodup → (fsC.map (·.a)).Nodup →
      (∀ f ∈ fs0, ∀ g ∈ fsC, f.a = g.a → f.wr = false ∧ g.wr = false) → κC σ' →
      (T.SF σ' = T.SF σ ∧ T.Tr none σ σ' ∧ T.Busy σ' = T.Busy σ ∧ T.Left σ' = T.Left σ) → κ' σ' →
      C none { x with g := g', fs := fs0, κ := κ', c := x.c + 1 } → C (some x.c) ⟨child, fsC, κC, 0, false, 0⟩ → Out who C x σ w
  | exit {g' : Goroutine} {w' : World} {fs' : List Fact} : who = none → x.d = 0 → stepG P who.isNone x.g w = .go g' w' #[⟨.mark (.acquire T.wg), false, true⟩] → Turn (T.SF σ ++ x.fs) w (T.SF σ ++ fs') w' → (∀ r, r < x.c → T.Left σ r) → Q g' fs' σ → Out who C x σ w

/-- One step more. -/
def Fore (who : Option Nat) (C : Option Nat → Th T.S → Prop) (x : Th T.S) : Prop :=
  x.g.status = .running ∧ x.g.offers = none ∧ Stable T who x.κ ∧ (∀ r σ, who = some r → x.κ σ → ¬ T.Left σ r) ∧ ∀ σ w, x.κ σ → Sat (T.SF σ ++ x.fs) w → Out P T Q who C x σ w

def Cert : Nat → Option Nat → Th T.S → Prop
  | 0, who, x => Quit P T who 0 x
  | k + 1, who, x => Quit P T who (k + 1) x ∨ Fore P T Q who (Cert k) x
end

section
variable {P : Program} {T : TeamP} {Q : Goroutine → List Fact → T.S → Prop}

theorem quitsD_mono : ∀ {n d : Nat} {g : Goroutine}, QuitsD P n d g → QuitsD P (n + 1) d g
  | 0, _, _, h => .inl h
  | _ + 1, _, _, h => h.elim .inl fun ⟨hs, g', es, hm, hst, hq⟩ => .inr ⟨hs, g', es, hm, hst, quitsD_mono hq⟩

theorem Out.mono {who : Option Nat} {C C' : Option Nat → Th T.S → Prop} (hC : ∀ who x, C who x → C' who x) {x : Th T.S} {σ : T.S} {w : World} (h : Out P T Q who C x σ w) : Out P T Q who C' x σ w := by
  cases h with
  | go h1 h2 h3 h4 h5 h6 => exact .go h1 h2 h3 h4 h5 (hC _ _ h6)
  | rel h1 h2 h3 h4 h5 h6 => exact .rel h1 h2 h3 h4 h5 (hC _ _ h6)
  | blk h1 h2 h3 => exact .blk h1 h2 h3
  | spawn h1 h2 h3 h4 h5 h6 h7 h8 h9 ha hb h10 h11 => exact .spawn h1 h2 h3 h4 h5 h6 h7 h8 h9 ha hb (hC _ _ h10) (hC _ _ h11)
  | exit h1 h2 h3 h4 h5 h6 => exact .exit h1 h2 h3 h4 h5 h6

theorem Cert.succ : ∀ {k : Nat} {who : Option Nat} {x : Th T.S}, Cert P T Q k who x → Cert P T Q (k + 1) who x
  | 0, _, _, ⟨r, h1, h2, h3⟩ => .inl ⟨r, h1, quitsD_mono h2, h3⟩
  | _ + 1, _, _, .inl ⟨r, h1, h2, h3⟩ => .inl ⟨r, h1, quitsD_mono h2, h3⟩
  | _ + 1, _, _, .inr ⟨h1, h2, h3, h4, h5⟩ => .inr ⟨h1, h2, h3, h4, fun σ w hk hs => (h5 σ w hk hs).mono fun _ _ => Cert.succ⟩
theorem Cert.mono {k k' : Nat} {who : Option Nat} {x : Th T.S} (hk : k ≤ k') (h : Cert P T Q k who x) : Cert P T Q k' who x := by
  induction hk with
  | refl => exact h
  | step _ ih => exact ih.succ

theorem Cert.stable : ∀ {k : Nat} {who : Option Nat} {x : Th T.S}, Cert P T Q k who x → Stable T who x.κ
  | 0, _, _, ⟨_, _, _, _, h, _⟩ => h
  | _ + 1, _, _, .inl ⟨_, _, _, _, h, _⟩ => h
  | _ + 1, _, _, .inr h => h.2.2.1
theorem Cert.status : ∀ {k : Nat} {who : Option Nat} {x : Th T.S}, Cert P T Q k who x → x.g.status = .running ∨ x.g.status = .finished
  | 0, _, _, ⟨_, _, h, _⟩ => h.status
  | _ + 1, _, _, .inl ⟨_, _, h, _⟩ => h.status
  | _ + 1, _, _, .inr h => .inl h.1
theorem Cert.main : ∀ {k : Nat} {x : Th T.S}, Cert P T Q k none x → ∃ k', k = k' + 1 ∧ Fore P T Q none (Cert P T Q k') x
  | 0, _, ⟨_, h, _⟩ => by cases h
  | _ + 1, _, .inl ⟨_, h, _⟩ => by cases h
  | k + 1, _, .inr h => ⟨k, rfl, h⟩

/-! ### facts and worlds -/
theorem Sat.left {G fs : List Fact} {w : World} (h : Sat (G ++ fs) w) : Sat G w :=
  ⟨fun f hf => h.cell f (List.mem_append_left _ hf), fun f hf => h.wr f (List.mem_append_left _ hf), fun f hf => h.sh f (List.mem_append_left _ hf), by have := h.nodup; rw [List.map_append, List.nodup_append] at this; exact this.1⟩
theorem Sat.right {G fs : List Fact} {w : World} (h : Sat (G ++ fs) w) : Sat fs w :=
  ⟨fun f hf => h.cell f (List.mem_append_right _ hf), fun f hf => h.wr f (List.mem_append_right _ hf), fun f hf => h.sh f (List.mem_append_right _ hf), by have := h.nodup; rw [List.map_append, List.nodup_append] at this; exact this.2.1⟩
theorem Sat.apart {G fs : List Fact} {w : World} (h : Sat (G ++ fs) w) {f g : Fact} (hf : f ∈ G) (hg : g ∈ fs) : f.a ≠ g.a := by
  have := h.nodup
  rw [List.map_append, List.nodup_append] at this
  exact this.2.2 _ (List.mem_map.2 ⟨f, hf, rfl⟩) _ (List.mem_map.2 ⟨g, hg, rfl⟩)
theorem Sat.join {G fs : List Fact} {w : World} (h : Sat G w) (k : Sat fs w) (ha : ∀ f ∈ G, ∀ g ∈ fs, f.a ≠ g.a) : Sat (G ++ fs) w := by
  refine ⟨fun f hf => (List.mem_append.1 hf).elim (h.cell f) (k.cell f), fun f hf => (List.mem_append.1 hf).elim (h.wr f) (k.wr f), fun f hf => (List.mem_append.1 hf).elim (h.sh f) (k.sh f), ?_⟩
  rw [List.map_append, List.nodup_append]
  refine ⟨h.nodup, k.nodup, fun a ha' b hb e => ?_⟩
  obtain ⟨f, hf, rfl⟩ := List.mem_map.1 ha'
  obtain ⟨g, hg, rfl⟩ := List.mem_map.1 hb
  exact ha f hf g hg e

/-- Facts that another's turn leaves alone. -/
theorem Sat.keep {fs fs' G : List Fact} {w w' : World} (ht : Turn fs w fs' w') (h : Sat G w) (ha : ∀ f ∈ fs, f.wr = true → ∀ g ∈ G, f.a ≠ g.a) : Sat G w' :=
  ⟨fun g hg => by rw [(ht.cell g.a (h.lt hg) fun f hf hw => ha f hf hw g hg).1]; exact h.cell g hg,
   fun g hg hw => by rw [(ht.cell g.a (h.lt hg) fun f hf hw => ha f hf hw g hg).2]; exact h.wr g hg hw,
   fun g hg q hq => by rw [ht.shape _ (h.lt hg)]; exact h.sh g hg q hq, h.nodup⟩

theorem Turn.frame {fs fs' G : List Fact} {w w' : World} (ht : Turn fs w fs' w') (h : Sat (G ++ fs) w) : Turn (G ++ fs) w (G ++ fs') w' := by
  have hG : Sat G w' := Sat.keep ht h.left fun f hf _ g hg e => h.apart hg hf e.symm
  refine ⟨hG.join ht.sat fun f hf g hg e => ?_, ht.tape, ht.os, ht.output, ht.size, fun b hb hn => ht.block b hb fun f hf hw => hn f (List.mem_append_right _ hf) hw, fun a ha hn => ht.cell a ha fun f hf hw => hn f (List.mem_append_right _ hf) hw, ht.shape, ?_⟩
  · rcases ht.mem hg with ⟨g0, hg0, e1, _⟩ | ⟨hb, _, _⟩
    · exact h.apart hf hg0 (e.trans e1.symm)
    · have := h.left.lt hf; rw [e] at this; omega
  · obtain ⟨new, e, hn⟩ := ht.grow
    exact ⟨new, by rw [List.map_append, e, List.map_append, List.append_assoc], hn⟩

theorem Sat.drop {fs fs' : List Fact} {w : World} (h : Sat fs w) (hs : ∀ f ∈ fs', ∃ g ∈ fs, g.a = f.a ∧ g.v = f.v ∧ (f.wr = true → g.wr = true) ∧ (f.sh = g.sh ∨ f.sh = none)) (hn : (fs'.map (·.a)).Nodup) : Sat fs' w := by
  refine ⟨fun f hf => ?_, fun f hf hw => ?_, fun f hf q hq => ?_, hn⟩
  · obtain ⟨g, hg, e, ev, _⟩ := hs f hf
    rw [← e, ← ev]; exact h.cell g hg
  · obtain ⟨g, hg, e, _, ew, _⟩ := hs f hf
    rw [← e]; exact h.wr g hg (ew hw)
  · obtain ⟨g, hg, e, _, _, es⟩ := hs f hf
    rw [← e]
    rcases es with es | es
    · rw [es] at hq; exact h.sh g hg q hq
    · rw [es] at hq; cases hq
end
end Go.Km

/-! KM, part 8: THE TEAM RUNS, on whatever tape, to where goroutine 0 has acquired what all have released. -/
namespace Go.Km
open Go Go.Conc
open Go.ConcN (sumTo sumTo_upd sumTo_upd_out sumTo_congr upd_ne upd_same)

def whoOf (m j : Nat) : Option Nat := if j = 0 then none else some (j - m)

variable {P : Program} {T : TeamP} {Q : Goroutine → List Fact → T.S → Prop}

/-- Blocked, till another wakes it. -/
def Asleep (T : TeamP) (m c : Nat) (σ : T.S) (j : Nat) (g x : Goroutine) : Prop :=
  x = { g with status := .blocked } ∧ g.status = .running ∧ g.offers = none ∧ (j = 0 → ∃ r, r < c ∧ T.Busy σ r) ∧ (∀ r, whoOf m j = some r → ¬ T.Busy σ r ∧ ¬ T.Left σ r)

structure TInv (P : Program) (T : TeamP) (Q : Goroutine → List Fact → T.S → Prop) (W : World) (Shun : Loc → Prop) (m c : Nat) (gs : Array Goroutine) (q fuel : Nat → Nat) (th : Nat → Th T.S) (rel : Nat → Option Nat) (σ : T.S) (w : World) (t : Trace) : Prop where
  size : gs.size = m + c
  m0 : 0 < m
  cc : (th 0).c = c
  old : ∀ i g, 0 < i → i < m → gs[i]? = some g → QuitsD P (q i) (Deaf t i) g
  here : ∀ j, Team m (m + c) j → ∃ x, gs[j]? = some x ∧ (x = (th j).g ∨ Asleep T m c σ j (th j).g x)
  cert : ∀ j, Team m (m + c) j → Cert P T Q (fuel j) (whoOf m j) (th j)
  kap : ∀ j, Team m (m + c) j → (th j).κ σ
  sat : ∀ j, Team m (m + c) j → Sat (T.SF σ ++ (th j).fs) w
  disj : ∀ i j, Team m (m + c) i → Team m (m + c) j → i ≠ j → ∀ f ∈ (th j).fs, f.wr = true → ∀ g ∈ (th i).fs, g.a ≠ f.a
  deaf : ∀ j, Team m (m + c) j → Deaf t j = (th j).d
  above : ∀ j, m + c ≤ j → Deaf t j = 0
  ti : TI m (m + c) T.wg Shun T.DK T.SK (fun j => (th j).fs) rel w.heap.size t
  rl : ∀ j, Team m (m + c) j → (rel j).isSome = (th j).rel
  rlN : ∀ j, m + c ≤ j → rel j = none
  clear : Clear Shun (th 0).fs w
  was : Was W w
  hi : ∀ j, Team m (m + c) j → Above W (T.SF σ ++ (th j).fs)

section
variable {W : World} {Shun : Loc → Prop} {m c : Nat} {gs : Array Goroutine} {q fuel : Nat → Nat} {th : Nat → Th T.S} {rel : Nat → Option Nat} {σ : T.S} {w : World} {t : Trace}

theorem team_zero : Team m (m + c) 0 := .inl rfl
theorem team_lt (hm : 0 < m) {j : Nat} (hj : Team m (m + c) j) : j < m + c := by
  rcases hj with rfl | ⟨_, h⟩
  · omega
  · exact h
theorem whoOf_ne {m c i j : Nat} (hi : Team m (m + c) i) (hj : Team m (m + c) j) (h : i ≠ j) : whoOf m i ≠ whoOf m j := by
  unfold whoOf
  rcases hi with rfl | ⟨h1, h2⟩ <;> rcases hj with rfl | ⟨h3, h4⟩
  · exact absurd rfl h
  · by_cases hj0 : j = 0
    · exact absurd hj0.symm h
    · simp [hj0]
  · by_cases hi0 : i = 0
    · exact absurd hi0 h
    · simp [hi0]
  · by_cases hi0 : i = 0 <;> by_cases hj0 : j = 0
    · exact absurd (hi0.trans hj0.symm) h
    · simp [hi0, hj0]
    · simp [hi0, hj0]
    · simp only [hi0, hj0, if_false, ne_eq, Option.some.injEq]; omega
theorem whoOf_isNone (m : Nat) {j : Nat} (_hm : 0 < m) : (whoOf m j).isNone = (j == 0) := by
  unfold whoOf
  by_cases hj : j = 0 <;> simp [hj]

theorem upd_fs (th : Nat → Th T.S) (j : Nat) (x : Th T.S) : (fun i => (ConcN.upd th j x i).fs) = ConcN.upd (fun i => (th i).fs) j x.fs := by
  funext i
  by_cases h : i = j
  · subst h; simp only [upd_same]
  · simp only [upd_ne _ _ h]

theorem again_asleep {g : Goroutine} (hs : g.status = .running) (ho : g.offers = none) (w : World) : ({ g with status := .blocked } : Goroutine).again w = g := by
  obtain ⟨fr, cs, stt, dy, off⟩ := g
  simp only at hs ho
  subst hs ho
  simp [Goroutine.again]

/-- What another's step does to a goroutine of the team. -/
theorem woken_or {g g' y x : Goroutine} {w' : World} {j : Nat} (hy : y.status = .running ∨ y.status = .finished) (hx : x = y ∨ Asleep T m c σ j y x) :
    woken P g g' w' x = y ∨ (woken P g g' w' x = x ∧ Asleep T m c σ j y x ∧ ¬ (mayWake P g = true ∧ g'.status ≠ .blocked ∧ g'.status ≠ .waiting)) := by
  rcases hx with rfl | h
  · left
    unfold woken
    split
    · exact again_running _ hy
    · rfl
  · have h' := h
    obtain ⟨rfl, h1, h2, _⟩ := h
    unfold woken
    by_cases hc : (mayWake P g && g'.status != .blocked && g'.status != .waiting) = true
    · left; rw [if_pos hc]; exact again_asleep h1 h2 _
    · right
      rw [if_neg hc]
      refine ⟨rfl, h', fun hh => hc ?_⟩
      simp [hh.1, hh.2.1, hh.2.2]

theorem nodup_keys (T : TeamP) {σ σ' : T.S} {fs : List Fact} (h : ((T.SF σ ++ fs).map (·.a)).Nodup) : ((T.SF σ' ++ fs).map (·.a)).Nodup := by
  rw [List.map_append, T.keys] at h ⊢
  exact h

/-- ████ an own step of a team's goroutine ████ -/
theorem TInv.go (H : TInv P T Q W Shun m c gs q fuel th rel σ w t) {j : Nat} (hj : Team m (m + c) j) (hgj : gs[j]? = some (th j).g) {d k' : Nat} {g' : Goroutine} {w' : World} {es : Array Event} {σ' : T.S} {x' : Th T.S} {rel' : Nat → Option Nat}
    (hst : stepG P (j == 0) (th j).g (w.at d) = .go g' w' es) (hxg : x'.g = g') (hxc : x'.c = (th j).c)
    (ht : Turn (T.SF σ ++ (th j).fs) w (T.SF σ' ++ x'.fs) w') (hσ : σ' = σ ∨ (mayWake P (th j).g = true ∧ T.Tr (whoOf m j) σ σ')) (hk' : x'.κ σ') (hc' : Cert P T Q k' (whoOf m j) x')
    (hd : x'.d = deafBehind (th j).d es)
    (hti : TI m (m + c) T.wg Shun T.DK T.SK (fun i => (ConcN.upd th j x' i).fs) rel' w'.heap.size (t ++ MemOp.ofEvents j (th j).g.frame.fn (th j).g.frame.place es))
    (hrl : (rel' j).isSome = x'.rel) (hrln : ∀ i, i ≠ j → rel' i = rel i) (sl : Option (Nat × Nat)) :
    ∃ gs', runT P (crowd gs (w.at d) sl) j = (.next (crowd gs' w' sl), MemOp.ofEvents j (th j).g.frame.fn (th j).g.frame.place es) ∧
      TInv P T Q W Shun m c gs' q (ConcN.upd fuel j k') (ConcN.upd th j x') rel' σ' w' (t ++ MemOp.ofEvents j (th j).g.frame.fn (th j).g.frame.place es) := by
  have hlt : j < gs.size := (Array.getElem?_eq_some_iff.1 hgj).1
  have hrun := runT_crowd_go (P := P) (gs := gs) (w := w.at d) (sl := sl) (i := j) hgj hst
  have hothers : ∀ op ∈ MemOp.ofEvents j (th j).g.frame.fn (th j).g.frame.place es, op.g = j := fun op hop => by obtain ⟨e, _, rfl⟩ := Go.Conc.mem_ofEvents hop; rfl
  have hstat := hc'.status
  rw [hxg] at hstat
  refine ⟨_, hrun, ⟨by simp [H.size], H.m0, ?_, fun i g hi hm hg => ?_, fun i hi => ?_, fun i hi => ?_, fun i hi => ?_, fun i hi => ?_, fun i i' hi hi' hne f hf hw g hg => ?_, fun i hi => ?_, fun i hi => ?_, hti, fun i hi => ?_, fun i hi => ?_, ?_, (H.was.turn (H.hi j hj) ht).1, fun i hi => ?_⟩⟩
  · by_cases h0 : (0 : Nat) = j
    · subst h0; rw [upd_same, hxc]; exact H.cc
    · rw [upd_ne _ _ h0]; exact H.cc
  · have hne : j ≠ i := by rcases hj with rfl | ⟨h1, _⟩ <;> omega
    rw [Array.getElem?_setIfInBounds_ne hne, Array.getElem?_map] at hg
    obtain ⟨y, hy, rfl⟩ := Option.map_eq_some_iff.1 hg
    have hq := H.old i y hi hm hy
    rw [woken_quitsD hq, Deaf_other t hne _ hothers]
    exact hq
  · by_cases hij : i = j
    · subst hij
      refine ⟨g', by simp [hlt], .inl (by rw [upd_same, hxg])⟩
    · obtain ⟨x, hx, hxx⟩ := H.here i hi
      refine ⟨woken P (th j).g g' w' x, by rw [Array.getElem?_setIfInBounds_ne (Ne.symm hij), Array.getElem?_map, hx]; rfl, ?_⟩
      rw [upd_ne _ _ hij]
      rcases woken_or (P := P) (g := (th j).g) (g' := g') (w' := w') (H.cert i hi).status hxx with h | ⟨h, ha, hn⟩
      · exact .inl h
      · rcases hσ with rfl | ⟨hw, _⟩
        · rw [h]; exact .inr ha
        · exact absurd ⟨hw, by rcases hstat with e | e <;> rw [e] <;> simp, by rcases hstat with e | e <;> rw [e] <;> simp⟩ hn
  · by_cases hij : i = j
    · subst hij; rw [upd_same, upd_same]; exact hc'
    · rw [upd_ne _ _ hij, upd_ne _ _ hij]; exact H.cert i hi
  · by_cases hij : i = j
    · subst hij; rw [upd_same]; exact hk'
    · rw [upd_ne _ _ hij]
      rcases hσ with rfl | ⟨_, hT⟩
      · exact H.kap i hi
      · exact (H.cert i hi).stable _ _ _ (whoOf_ne hj hi (Ne.symm hij)) (H.kap i hi) hT
  · by_cases hij : i = j
    · subst hij; rw [upd_same]; exact ht.sat
    · rw [upd_ne _ _ hij]
      have hs := H.sat i hi
      have hk : Sat (th i).fs w' := Sat.keep ht hs.right fun f hf hw g hg e => by
        rcases List.mem_append.1 hf with hf | hf
        · exact hs.apart hf hg e
        · exact H.disj i j hi hj hij f hf hw g hg e.symm
      refine ⟨fun f hf => (List.mem_append.1 hf).elim (ht.sat.left.cell f) (hk.cell f), fun f hf => (List.mem_append.1 hf).elim (ht.sat.left.wr f) (hk.wr f), fun f hf => (List.mem_append.1 hf).elim (ht.sat.left.sh f) (hk.sh f), nodup_keys T hs.nodup⟩
  · -- apart
    have mine : ∀ f ∈ x'.fs, (∃ f0 ∈ (th j).fs, f0.a = f.a ∧ f0.wr = f.wr) ∨ w.heap.size ≤ f.a.block := by
      intro f hf
      rcases ht.mem (List.mem_append_right _ hf) with ⟨f0, hf0, e1, e2⟩ | ⟨hb, _, _⟩
      · rcases List.mem_append.1 hf0 with hf0 | hf0
        · exfalso
          have h1 : f0.a ∈ T.SK := by rw [← T.keys σ]; exact List.mem_map.2 ⟨f0, hf0, rfl⟩
          rw [← T.keys σ'] at h1
          obtain ⟨f1, hf1, e3⟩ := List.mem_map.1 h1
          exact ht.sat.apart hf1 hf (e3.trans e1)
        · exact .inl ⟨f0, hf0, e1, e2⟩
      · exact .inr hb
    by_cases hij : i = j <;> by_cases hij' : i' = j
    · exact absurd (hij.trans hij'.symm) hne
    · subst hij
      rw [upd_same] at hg
      rw [upd_ne _ _ hij'] at hf
      rcases mine g hg with ⟨g0, hg0, e1, e2⟩ | hb
      · rw [← e1]; exact H.disj i i' hi hi' hne f hf hw g0 hg0
      · intro e; have := (H.sat i' hi').right.lt hf; rw [← e] at this; omega
    · subst hij'
      rw [upd_same] at hf
      rw [upd_ne _ _ hij] at hg
      rcases mine f hf with ⟨f0, hf0, e1, e2⟩ | hb
      · rw [← e1]; exact H.disj i i' hi hi' hne f0 hf0 (e2.trans hw) g hg
      · intro e; have := (H.sat i hi).right.lt hg; rw [e] at this; omega
    · rw [upd_ne _ _ hij] at hg
      rw [upd_ne _ _ hij'] at hf
      exact H.disj i i' hi hi' hne f hf hw g hg
  · by_cases hij : i = j
    · subst hij; rw [upd_same, Deaf_own, H.deaf i hi, hd]
    · rw [upd_ne _ _ hij, Deaf_other t (Ne.symm hij) _ hothers]; exact H.deaf i hi
  · have hne : j ≠ i := by have := team_lt H.m0 hj; omega
    rw [Deaf_other t hne _ hothers]; exact H.above i hi
  · by_cases hij : i = j
    · subst hij; rw [upd_same]; exact hrl
    · rw [upd_ne _ _ hij, hrln i hij]; exact H.rl i hi
  · have hne : i ≠ j := by have := team_lt H.m0 hj; omega
    rw [hrln i hne]; exact H.rlN i hi
  · by_cases h0 : (0 : Nat) = j
    · subst h0
      rw [upd_same]
      refine ⟨fun f hf hs => ?_, fun a ha => Nat.lt_of_lt_of_le (H.clear.low a ha) ht.size⟩
      rcases ht.mem (List.mem_append_right _ hf) with ⟨f0, hf0, e1, e2⟩ | ⟨hb, _, _⟩
      · rcases List.mem_append.1 hf0 with hf0 | hf0
        · exfalso
          have h1 : f0.a ∈ T.SK := by rw [← T.keys σ]; exact List.mem_map.2 ⟨f0, hf0, rfl⟩
          rw [← T.keys σ'] at h1
          obtain ⟨f1, hf1, e3⟩ := List.mem_map.1 h1
          exact ht.sat.apart hf1 hf (e3.trans e1)
        · exact H.clear.apart f0 hf0 (by rw [e1]; exact hs)
      · have := H.clear.low _ hs; omega
    · rw [upd_ne _ _ h0]
      exact ⟨H.clear.apart, fun a ha => Nat.lt_of_lt_of_le (H.clear.low a ha) ht.size⟩
  · by_cases hij : i = j
    · subst hij; rw [upd_same]; exact (H.was.turn (H.hi i hi) ht).2
    · rw [upd_ne _ _ hij]
      intro f hf hw
      rcases List.mem_append.1 hf with hf | hf
      · exact (H.was.turn (H.hi j hj) ht).2 f (List.mem_append_left _ hf) hw
      · exact H.hi i hi f (List.mem_append_right _ hf) hw
end
end Go.Km

namespace Go.Km
open Go Go.Conc
open Go.ConcN (sumTo sumTo_upd sumTo_upd_out sumTo_congr upd_ne upd_same)

section
variable {m N : Nat} {wg : Addr} {Shun DK : Loc → Prop} {SK : List Addr} {F : Nat → List Fact} {rel : Nat → Option Nat} {B : Nat} {t u : Trace}

/-- Operations of one goroutine that touch nothing. -/
theorem TI.mute (h : TI m N wg Shun DK SK F rel B t) {g : Nat} (hu : ∀ op ∈ u, op.g = g) (hn : ∀ op ∈ u, op.act.touch? = none) (hl : ∀ op ∈ u, op.act.low B) (hr : ∀ op ∈ u, op.act ≠ .mark (.release wg)) : TI m N wg Shun DK SK F rel B (t ++ u) := by
  have oldT : ∀ {i z}, touchAt (t ++ u) i = some z → i < t.size ∧ touchAt t i = some z := by
    intro i z hz
    obtain ⟨op, ho, hoa⟩ := touch_of hz
    rcases getElem?_append_cases ho with ⟨hi, ho'⟩ | ⟨_, hou⟩
    · exact ⟨hi, by rw [touchAt_of ho']; exact hoa⟩
    · rw [hn op hou] at hoa; cases hoa
  refine ⟨fun said => noRace_append (g := g) (h.clean said) hu (fun i a _ op hop b hb _ => by rw [hn op hop] at hb; cases hb), seen_app h.low hl,
    fun j hj f hf hw i z hz hl => (h.perm j hj f hf hw i z (oldT hz).2 hl).app u, fun j hj f hf i z hz hl hzw => (h.permW j hj f hf i z (oldT hz).2 hl hzw).app u, fun a ha i z hz hl => ?_, fun i z hz hmem => ?_, fun i g hg hne hc => ?_, fun i r hr' => ?_, h.norel.app hr⟩
  · rcases h.shared a ha i z (oldT hz).2 hl with h1 | ⟨h1, h2⟩ | h1
    · exact .inl h1
    · exact .inr (.inl ⟨h1, h2.app u⟩)
    · exact .inr (.inr fun j hj => (h1 j hj).app u)
  · obtain ⟨hi, hz'⟩ := oldT hz
    rcases h.known i z hz' hmem with h1 | h1 | ⟨j, a1, a2, a3, a4⟩
    · exact .inl (h1.app u)
    · exact .inr (.inl h1)
    · exact .inr (.inr ⟨j, a1, a2, by rw [g?_old hi]; exact a3, a4⟩)
  · obtain ⟨z, hz, hz2⟩ := hc
    obtain ⟨hi, hz'⟩ := oldT hz
    rcases h.over i g (by rw [← g?_old (u := u) hi]; exact hg) hne ((counts_old hi).1 ⟨z, hz, hz2⟩) with ⟨k, hk, hb⟩ | h1
    · have hkl : k < t.size := by
        unfold Trace.g? at hk
        obtain ⟨z, hz, _⟩ := Option.map_eq_some_iff.1 hk
        exact lt_size_of_getElem? hz
      exact .inl ⟨k, by rw [g?_old hkl]; exact hk, hb_app u hb⟩
    · exact .inr h1
  · obtain ⟨a1, a2, a3⟩ := h.relOk i r hr'
    have hrl := lt_of_act? a1
    exact ⟨by rw [act?_old hrl]; exact a1, by rw [g?_old hrl]; exact a2, (heard_old hrl).2 a3⟩
end

theorem mute_not_release {e : Event} (h : e.mute = true) (a : Addr) : MemAct.ofEvent e ≠ .mark (.release a) := by
  intro hh
  have := ofEvent_release hh
  obtain ⟨loc, wr, sy⟩ := e
  simp only at this
  subst this
  simp [Event.mute] at h

variable {P : Program} {T : TeamP} {Q : Goroutine → List Fact → T.S → Prop}
section
variable {W : World} {Shun : Loc → Prop} {m c : Nat} {gs : Array Goroutine} {q fuel : Nat → Nat} {th : Nat → Th T.S} {rel : Nat → Option Nat} {σ : T.S} {w : World} {t : Trace}

theorem TInv.at (H : TInv P T Q W Shun m c gs q fuel th rel σ w t) (d : Nat) : TInv P T Q W Shun m c gs q fuel th rel σ (w.at d) t :=
  { H with sat := fun j hj => (H.sat j hj).drawn d, ti := H.ti, clear := H.clear.drawn d, was := H.was.drawn d }

theorem TInv.notSK (H : TInv P T Q W Shun m c gs q fuel th rel σ w t) {j : Nat} (hj : Team m (m + c) j) {f : Fact} (hf : f ∈ (th j).fs) : f.a ∉ T.SK := by
  intro h
  rw [← T.keys σ] at h
  obtain ⟨f1, hf1, e⟩ := List.mem_map.1 h
  exact (H.sat j hj).apart hf1 hf e
theorem TInv.ltSK (H : TInv P T Q W Shun m c gs q fuel th rel σ w t) {a : Addr} (h : a ∈ T.SK) : a.block < w.heap.size := by
  rw [← T.keys σ] at h
  obtain ⟨f1, hf1, rfl⟩ := List.mem_map.1 h
  exact (H.sat 0 team_zero).left.lt hf1

theorem act_ofEvents {j : Nat} {fn : FuncId} {pos : String} {es : Array Event} {i : Nat} {op : MemOp} (h : (t ++ MemOp.ofEvents j fn pos es)[i]? = some op) (hi : t.size ≤ i) : ∃ e, es[i - t.size]? = some e ∧ op.act = .ofEvent e := by
  rw [Array.getElem?_append_right hi, ofEvents_eq, Array.getElem?_map] at h
  obtain ⟨e, he, rfl⟩ := Option.map_eq_some_iff.1 h
  exact ⟨e, he, rfl⟩

/-- the trace of an own step -/
theorem TInv.trace (H : TInv P T Q W Shun m c gs q fuel th rel σ w t) {j : Nat} (hj : Team m (m + c) j) {w' : World} {es : Array Event} {σ' : T.S} {x' : Th T.S} {fn : FuncId} {pos : String}
    (ht : Turn (T.SF σ ++ (th j).fs) w (T.SF σ' ++ x'.fs) w') (hev : EvOk T (whoOf m j) (th j).rel (th j).d x'.fs w'.heap.size es) :
    TI m (m + c) T.wg Shun T.DK T.SK (fun i => (ConcN.upd th j x' i).fs) rel w'.heap.size (t ++ MemOp.ofEvents j fn pos es) := by
  rw [upd_fs]
  refine H.ti.app hj (fun op hop => by obtain ⟨e, _, rfl⟩ := Go.Conc.mem_ofEvents hop; rfl) ht.size (fun op hop => ?_) (fun op hop => ?_) (fun f hf => ?_) (fun i hi hne => ⟨fun f hf hw g hg => H.disj i j hi hj hne f hf hw g hg, fun f hf g hg hw e => H.disj j i hj hi (Ne.symm hne) g hg hw f hf e.symm⟩)
    (fun i hi f hf => H.notSK hi hf) (fun i hi f hf => (H.sat i hi).right.lt hf) (fun a ha => H.ltSK ha) (fun op hop x hx => ?_) (fun r hr => ?_)
  · obtain ⟨e, he, rfl⟩ := Go.Conc.mem_ofEvents hop; exact (hev.1 e he).1
  · obtain ⟨e, he, rfl⟩ := Go.Conc.mem_ofEvents hop; exact fun h => (hev.1 e he).2.1 (ofEvent_release h)
  · rcases ht.mem (List.mem_append_right _ hf) with ⟨f0, hf0, e1, e2⟩ | ⟨hb, _, _⟩
    · rcases List.mem_append.1 hf0 with hf0 | hf0
      · exfalso
        have h1 : f0.a ∈ T.SK := by rw [← T.keys σ]; exact List.mem_map.2 ⟨f0, hf0, rfl⟩
        rw [← T.keys σ'] at h1
        obtain ⟨f1, hf1, e3⟩ := List.mem_map.1 h1
        exact ht.sat.apart hf1 hf (e3.trans e1)
      · exact .inl ⟨f0, hf0, e1, e2⟩
    · exact .inr hb
  · obtain ⟨e, he, rfl⟩ := Go.Conc.mem_ofEvents hop
    have := (hev.1 e he).2.2 x hx
    rwa [whoOf_isNone m H.m0] at this
  · have hrt : (th j).rel = true := by rw [← H.rl j hj, hr]; rfl
    obtain ⟨h1, h2⟩ := hev.2 hrt
    refine ⟨fun op hop x hx hm => by obtain ⟨e, he, rfl⟩ := Go.Conc.mem_ofEvents hop; exact h1 e he x hx hm, fun i hi hg hc => ?_⟩
    obtain ⟨x, hx, hm, hk⟩ := hc
    obtain ⟨op, ho, hoa⟩ := touch_of hx
    obtain ⟨e, he, hoe⟩ := act_ofEvents ho hi
    rw [hoe] at hoa
    have hat := (h1 e (Array.mem_of_getElem? he) x hoa hm).2
    rcases hk with hk | ⟨g, hg', hd⟩
    · exact hk hat
    · rw [hg] at hg'
      obtain rfl := Option.some.inj hg'
      have hle : i - t.size ≤ es.size := Nat.le_of_lt (Array.getElem?_eq_some_iff.1 he).1
      have := deaf_inside t j fn pos es (i - t.size) hle
      rw [show t.size + (i - t.size) = i by omega, H.deaf j hj] at this
      rw [this] at hd
      exact h2 _ e he (by rw [hoa]; simp) hd

theorem evOk_mute {who : Option Nat} {r : Bool} {d B : Nat} {fs : List Fact} {es : Array Event} (h : ∀ e ∈ es, e.mute = true) : EvOk T who r d fs B es :=
  ⟨fun e he => ⟨low_mute (h e he) B, fun hl => mute_not_release (h e he) T.wg (by obtain ⟨loc, wr, sy⟩ := e; simp only at hl; subst hl; rfl), fun x hx => (by rw [touch_mute (h e he)] at hx; cases hx)⟩,
   fun _ => ⟨fun e he x hx => (by rw [touch_mute (h e he)] at hx; cases hx), fun i e he hn => absurd (touch_mute (h e (Array.mem_of_getElem? he))) hn⟩⟩

/-- an old leaver slips -/
theorem TInv.slip (H : TInv P T Q W Shun m c gs q fuel th rel σ w t) {i : Nat} {x : Goroutine} (hpos : 0 < i) (him : i < m) (hi : gs[i]? = some x) (hx : x.status = .running) (sl : Option (Nat × Nat)) (d : Nat) :
    ∃ gs' k t', runT P (crowd gs (w.at d) sl) i = (.next (crowd gs' (w.at d) sl), t') ∧ TInv P T Q W Shun m c gs' (ConcN.upd q i k) fuel th rel σ (w.at d) (t ++ t') ∧ k < q i := by
  have hq := H.old i x hpos him hi
  have hi0 : (i == 0) = false := by simp; omega
  have hlt : i < gs.size := (Array.getElem?_eq_some_iff.1 hi).1
  cases hqi : q i with
  | zero => rw [hqi] at hq; rw [hq.1] at hx; cases hx
  | succ k =>
    rw [hqi] at hq
    rcases hq with ⟨hf, _⟩ | ⟨_, g', es, hm, hstp, hq'⟩
    · rw [hf] at hx; cases hx
    have hothers : ∀ op ∈ MemOp.ofEvents i x.frame.fn x.frame.place es, op.g = i := fun op hop => by obtain ⟨e, _, rfl⟩ := Go.Conc.mem_ofEvents hop; rfl
    have hni : ∀ j, Team m (m + c) j → i ≠ j := fun j hj => by rcases hj with rfl | ⟨h, _⟩ <;> omega
    have hrunT := runT_crowd_go (P := P) (gs := gs) (w := w.at d) (sl := sl) (i := i) hi (by rw [hi0]; exact hstp (w.at d))
    refine ⟨_, k, _, hrunT, { H.at d with size := by simp [H.size], old := fun j y hj hjm hy => ?_, here := fun j hj => ?_, deaf := fun j hj => ?_, above := fun j hj => ?_, ti := ?_ }, by omega⟩
    · by_cases hji : i = j
      · subst hji
        rw [Array.getElem?_setIfInBounds_self_of_lt (by simpa using hlt)] at hy
        obtain rfl := Option.some.inj hy
        rw [upd_same, Deaf_own]
        exact hq'
      · rw [Array.getElem?_setIfInBounds_ne hji, Array.getElem?_map] at hy
        obtain ⟨z, hz, rfl⟩ := Option.map_eq_some_iff.1 hy
        have hqj := H.old j z hj hjm hz
        rw [woken_quitsD hqj, upd_ne q k (Ne.symm hji), Deaf_other t hji _ hothers]
        exact hqj
    · obtain ⟨y, hy, hyy⟩ := H.here j hj
      refine ⟨woken P x g' (w.at d) y, by rw [Array.getElem?_setIfInBounds_ne (hni j hj), Array.getElem?_map, hy]; rfl, ?_⟩
      rcases woken_or (P := P) (g := x) (g' := g') (w' := w.at d) (H.cert j hj).status hyy with h | ⟨h, ha, _⟩
      · exact .inl h
      · rw [h]; exact .inr ha
    · rw [Deaf_other t (hni j hj) _ hothers]; exact H.deaf j hj
    · rw [Deaf_other t (show i ≠ j by omega) _ hothers]; exact H.above j hj
    · exact H.ti.mute hothers (fun op hop => by obtain ⟨e, he, rfl⟩ := Go.Conc.mem_ofEvents hop; exact touch_mute (hm e he)) (fun op hop => by obtain ⟨e, he, rfl⟩ := Go.Conc.mem_ofEvents hop; exact low_mute (hm e he) _)
        (fun op hop => by obtain ⟨e, he, rfl⟩ := Go.Conc.mem_ofEvents hop; exact mute_not_release (hm e he) _)

theorem woken_blocked {P : Program} {g g' o : Goroutine} {w : World} (h : g'.status = .blocked) : woken P g g' w o = o := by
  unfold woken; rw [h]; simp

/-- one of the team blocks -/
theorem TInv.block (H : TInv P T Q W Shun m c gs q fuel th rel σ w t) {j : Nat} (hj : Team m (m + c) j) (hgj : gs[j]? = some (th j).g) {d : Nat}
    (hst : stepG P (j == 0) (th j).g (w.at d) = .go { (th j).g with status := .blocked } (w.at d) #[]) (ha : Asleep T m c σ j (th j).g { (th j).g with status := .blocked }) (sl : Option (Nat × Nat)) :
    ∃ gs', runT P (crowd gs (w.at d) sl) j = (.next (crowd gs' (w.at d) sl), #[]) ∧ TInv P T Q W Shun m c gs' q fuel th rel σ (w.at d) t ∧ gs' = gs.setIfInBounds j { (th j).g with status := .blocked } := by
  have hrun := runT_crowd_go (P := P) (gs := gs) (w := w.at d) (sl := sl) (i := j) hgj hst
  have hlt : j < gs.size := (Array.getElem?_eq_some_iff.1 hgj).1
  have hw : gs.map (woken P (th j).g { (th j).g with status := .blocked } (w.at d)) = gs := by
    apply Array.ext_getElem?
    intro i
    rw [Array.getElem?_map]
    cases gs[i]? with
    | none => rfl
    | some o => simp only [Option.map_some]; rw [woken_blocked rfl]
  rw [hw] at hrun
  refine ⟨_, hrun, { H.at d with size := by simp [H.size], old := fun i y hi him hy => ?_, here := fun i hi => ?_ }, rfl⟩
  · have hne : j ≠ i := by rcases hj with rfl | ⟨h, _⟩ <;> omega
    rw [Array.getElem?_setIfInBounds_ne hne] at hy
    exact H.old i y hi him hy
  · by_cases hij : j = i
    · subst hij
      exact ⟨_, by rw [Array.getElem?_setIfInBounds_self_of_lt hlt], .inr ha⟩
    · obtain ⟨y, hy, hyy⟩ := H.here i hi
      exact ⟨y, by rw [Array.getElem?_setIfInBounds_ne hij]; exact hy, hyy⟩
end
end Go.Km

namespace Go.Km
open Go Go.Conc
open Go.ConcN (sumTo sumTo_upd sumTo_upd_out sumTo_congr upd_ne upd_same)
variable {P : Program} {T : TeamP} {Q : Goroutine → List Fact → T.S → Prop}
section
variable {W : World} {Shun : Loc → Prop} {m c : Nat} {gs : Array Goroutine} {q fuel : Nat → Nat} {th : Nat → Th T.S} {rel : Nat → Option Nat} {σ : T.S} {w : World} {t : Trace}

theorem whoOf_new (hm : 0 < m) : whoOf m (m + c) = some c := by
  unfold whoOf
  rw [if_neg (by omega)]
  congr 1
  omega

theorem deaf_fork (t : Trace) {x y : MemOp} {a : Nat} (hx : x.act = .go a) (hy : y.act = .start) (j : Nat) : Deaf (t ++ #[x, y]) j = Deaf t j := by
  rw [show (#[x, y] : Trace) = [x, y].toArray from rfl, Deaf_append]
  simp [deafStep, hx, hy]

/-- ████ goroutine 0 starts a worker ████ -/
theorem TInv.spawn (H : TInv P T Q W Shun m c gs q fuel th rel σ w t) (hg0 : gs[0]? = some (th 0).g) {d k : Nat} {g' child : Goroutine} {fs0 fsC : List Fact} {κC : T.S → Prop} (hd0 : (th 0).d = 0)
    (hst : stepG P true (th 0).g (w.at d) = .spawn g' child (w.at d) #[])
    (h1 : ∀ f ∈ fs0, ∃ g ∈ (th 0).fs, g.a = f.a ∧ g.v = f.v ∧ (f.wr = true → g.wr = true) ∧ (f.sh = g.sh ∨ f.sh = none)) (h2 : ∀ f ∈ fsC, ∃ g ∈ (th 0).fs, g.a = f.a ∧ g.v = f.v ∧ (f.wr = true → g.wr = true) ∧ (f.sh = g.sh ∨ f.sh = none))
    (n1 : (fs0.map (·.a)).Nodup) (n2 : (fsC.map (·.a)).Nodup) (hap : ∀ f ∈ fs0, ∀ g ∈ fsC, f.a = g.a → f.wr = false ∧ g.wr = false) {σ' : T.S} {κ' : T.S → Prop} (hκ : κC σ') (hσ : T.SF σ' = T.SF σ ∧ T.Tr none σ σ' ∧ T.Busy σ' = T.Busy σ ∧ T.Left σ' = T.Left σ) (hκ' : κ' σ')
    (hC0 : Cert P T Q k none { th 0 with g := g', fs := fs0, κ := κ', c := (th 0).c + 1 }) (hCC : Cert P T Q k (some (th 0).c) ⟨child, fsC, κC, 0, false, 0⟩) (sl : Option (Nat × Nat)) :
    ∃ gs' t', runT P (crowd gs (w.at d) sl) 0 = (.next (crowd gs' (w.at d) sl), t') ∧
      TInv P T Q W Shun m (c + 1) gs' q (ConcN.upd (ConcN.upd fuel 0 k) (m + c) k) (ConcN.upd (ConcN.upd th 0 { th 0 with g := g', fs := fs0, κ := κ', c := (th 0).c + 1 }) (m + c) ⟨child, fsC, κC, 0, false, 0⟩) rel σ' (w.at d) (t ++ t') := by
  obtain ⟨hSF, hTr, hBu, hLe⟩ := hσ
  have hrun := runT_crowd_spawn (P := P) (gs := gs) (w := w.at d) (sl := sl) (i := 0) hg0 hst
  have hlt : 0 < gs.size := (Array.getElem?_eq_some_iff.1 hg0).1
  have hm := H.m0
  obtain ⟨x, hx, hxe⟩ : ∃ x : MemOp, (x.g = 0 ∧ x.act = .go (m + c)) ∧ x = { g := 0, fn := (th 0).g.frame.fn, pos := (th 0).g.frame.place, act := .go gs.size } := ⟨_, ⟨rfl, by rw [H.size]⟩, rfl⟩
  obtain ⟨y, hy, hye⟩ : ∃ y : MemOp, (y.g = m + c ∧ y.act = .start) ∧ y = { g := gs.size, fn := child.frame.fn, pos := (th 0).g.frame.place, act := .start } := ⟨_, ⟨H.size, rfl⟩, rfl⟩
  have hops : ((MemOp.ofEvents 0 (th 0).g.frame.fn (th 0).g.frame.place #[]).push { g := 0, fn := (th 0).g.frame.fn, pos := (th 0).g.frame.place, act := .go gs.size } |>.push { g := gs.size, fn := child.frame.fn, pos := (th 0).g.frame.place, act := .start }) = #[x, y] := by
    rw [ofEvents_none, hxe, hye]; rfl
  rw [hops] at hrun
  have hne0 : (0 : Nat) ≠ m + c := by omega
  have old : ∀ {j}, Team m (m + (c + 1)) j → j ≠ m + c → Team m (m + c) j := fun hj hne => hj.imp id fun h => ⟨h.1, by omega⟩
  have hsz : (gs.setIfInBounds 0 g').size = m + c := by simp [H.size]
  have deafs : ∀ j, Deaf (t ++ #[x, y]) j = Deaf t j := fun j => deaf_fork (a := m + c) t hx.2 hy.2 j
  refine ⟨_, _, hrun, ⟨by simp [H.size]; omega, hm, ?_, fun i z hi him hz => ?_, fun j hj => ?_, fun j hj => ?_, fun j hj => ?_, fun j hj => ?_, fun i j hi hj hne f hf hw g hg => ?_, fun j hj => ?_, fun j hj => ?_, ?_, fun j hj => ?_, fun j hj => ?_, ?_, H.was.drawn d, fun j hj => ?_⟩⟩
  · rw [upd_ne _ _ hne0, upd_same]; show (th 0).c + 1 = c + 1; rw [H.cc]
  · have hi' : gs[i]? = some z := by
      rw [Array.getElem?_push, if_neg (by rw [hsz]; omega), Array.getElem?_setIfInBounds_ne (show 0 ≠ i by omega)] at hz
      exact hz
    rw [deafs]; exact H.old i z hi him hi'
  · by_cases hjN : j = m + c
    · subst hjN
      exact ⟨child, by rw [Array.getElem?_push, if_pos hsz.symm], .inl (by rw [upd_same])⟩
    · rw [upd_ne _ _ hjN]
      by_cases hj0 : j = 0
      · subst hj0
        exact ⟨g', by rw [Array.getElem?_push, if_neg (by rw [hsz]; omega), Array.getElem?_setIfInBounds_self_of_lt hlt], .inl (by rw [upd_same])⟩
      · obtain ⟨z, hz, hzz⟩ := H.here j (old hj hjN)
        refine ⟨z, by rw [Array.getElem?_push, if_neg (by rw [hsz]; exact hjN), Array.getElem?_setIfInBounds_ne (Ne.symm hj0)]; exact hz, ?_⟩
        rw [upd_ne _ _ hj0]
        rcases hzz with h | ⟨a1, a2, a3, a4, a5⟩
        · exact .inl h
        · exact .inr ⟨a1, a2, a3, fun h => absurd h hj0, fun r hr => by rw [hBu, hLe]; exact a5 r hr⟩
  · by_cases hjN : j = m + c
    · subst hjN
      rw [upd_same, upd_same, whoOf_new hm, ← H.cc]
      exact hCC
    · rw [upd_ne _ _ hjN, upd_ne _ _ hjN]
      by_cases hj0 : j = 0
      · subst hj0; rw [upd_same, upd_same]; exact hC0
      · rw [upd_ne _ _ hj0, upd_ne _ _ hj0]; exact H.cert j (old hj hjN)
  · by_cases hjN : j = m + c
    · subst hjN; rw [upd_same]; exact hκ
    · rw [upd_ne _ _ hjN]
      by_cases hj0 : j = 0
      · subst hj0; rw [upd_same]; exact hκ'
      · rw [upd_ne _ _ hj0]
        refine (H.cert j (old hj hjN)).stable none _ _ ?_ (H.kap j (old hj hjN)) hTr
        unfold whoOf; rw [if_neg hj0]; simp
  · rw [hSF]
    have hs0 := H.sat 0 team_zero
    have sub : ∀ (fs' : List Fact), (∀ f ∈ fs', ∃ g ∈ (th 0).fs, g.a = f.a ∧ g.v = f.v ∧ (f.wr = true → g.wr = true) ∧ (f.sh = g.sh ∨ f.sh = none)) → (fs'.map (·.a)).Nodup → Sat (T.SF σ ++ fs') (w.at d) := fun fs' hsub hn =>
      (hs0.left.join (hs0.right.drop hsub hn) fun f hf g hg e => by
        obtain ⟨g0, hg0, e0, _⟩ := hsub g hg
        exact hs0.apart hf hg0 (e.trans e0.symm)).drawn d
    by_cases hjN : j = m + c
    · subst hjN; rw [upd_same]; exact sub fsC h2 n2
    · rw [upd_ne _ _ hjN]
      by_cases hj0 : j = 0
      · subst hj0; rw [upd_same]; exact sub fs0 h1 n1
      · rw [upd_ne _ _ hj0]; exact (H.sat j (old hj hjN)).drawn d
  · -- apart
    have from0 : ∀ {i : Nat} {f : Fact}, Team m (m + c) i → i ≠ 0 → (∃ g ∈ (th 0).fs, g.a = f.a ∧ g.v = f.v ∧ (f.wr = true → g.wr = true) ∧ (f.sh = g.sh ∨ f.sh = none)) → (f.wr = true → ∀ g ∈ (th i).fs, g.a ≠ f.a) ∧ ∀ g ∈ (th i).fs, g.wr = true → f.a ≠ g.a := by
      intro i f hi hne hf
      obtain ⟨g0, hg0, e0, _, ew, _⟩ := hf
      refine ⟨fun hw g hg => ?_, fun g hg hw => ?_⟩
      · rw [← e0]; exact H.disj i 0 hi team_zero hne g0 hg0 (ew hw) g hg
      · rw [← e0]; exact H.disj 0 i team_zero hi (Ne.symm hne) g hg hw g0 hg0
    by_cases hiN : i = m + c <;> by_cases hjN : j = m + c
    · exact absurd (hiN.trans hjN.symm) hne
    · subst hiN
      rw [upd_same] at hg
      rw [upd_ne _ _ hjN] at hf
      by_cases hj0 : j = 0
      · subst hj0
        rw [upd_same] at hf
        intro e
        have := (hap f hf g hg e.symm).1
        rw [hw] at this; cases this
      · rw [upd_ne _ _ hj0] at hf
        exact (from0 (old hj hjN) hj0 (h2 g hg)).2 f hf hw
    · subst hjN
      rw [upd_same] at hf
      rw [upd_ne _ _ hiN] at hg
      by_cases hi0 : i = 0
      · subst hi0
        rw [upd_same] at hg
        intro e
        have := (hap g hg f hf e).2
        rw [hw] at this; cases this
      · rw [upd_ne _ _ hi0] at hg
        exact (from0 (old hi hiN) hi0 (h2 f hf)).1 hw g hg
    · rw [upd_ne _ _ hiN] at hg
      rw [upd_ne _ _ hjN] at hf
      by_cases hi0 : i = 0 <;> by_cases hj0 : j = 0
      · exact absurd (hi0.trans hj0.symm) hne
      · subst hi0
        rw [upd_same] at hg
        rw [upd_ne _ _ hj0] at hf
        exact (from0 (old hj hjN) hj0 (h1 g hg)).2 f hf hw
      · subst hj0
        rw [upd_same] at hf
        rw [upd_ne _ _ hi0] at hg
        exact (from0 (old hi hiN) hi0 (h1 f hf)).1 hw g hg
      · rw [upd_ne _ _ hi0] at hg
        rw [upd_ne _ _ hj0] at hf
        exact H.disj i j (old hi hiN) (old hj hjN) hne f hf hw g hg
  · rw [deafs]
    by_cases hjN : j = m + c
    · subst hjN; rw [upd_same]; exact H.above _ (Nat.le_refl _)
    · rw [upd_ne _ _ hjN]
      by_cases hj0 : j = 0
      · subst hj0; rw [upd_same]; exact H.deaf 0 team_zero
      · rw [upd_ne _ _ hj0]; exact H.deaf j (old hj hjN)
  · rw [deafs]; exact H.above j (by omega)
  · rw [upd_fs, upd_fs]
    exact H.ti.fork hm (by omega) ((H.deaf 0 team_zero).trans hd0) (H.above _ (Nat.le_refl _)) hx hy (fun f hf => let ⟨g, hg, e, _, ew, _⟩ := h1 f hf; ⟨g, hg, e, ew⟩) (fun f hf => let ⟨g, hg, e, _, ew, _⟩ := h2 f hf; ⟨g, hg, e, ew⟩)
  · by_cases hjN : j = m + c
    · subst hjN; rw [upd_same, H.rlN _ (Nat.le_refl _)]; rfl
    · rw [upd_ne _ _ hjN]
      by_cases hj0 : j = 0
      · subst hj0; rw [upd_same]; exact H.rl 0 team_zero
      · rw [upd_ne _ _ hj0]; exact H.rl j (old hj hjN)
  · exact H.rlN j (by omega)
  · rw [upd_ne _ _ hne0, upd_same]
    exact ⟨fun f hf => by obtain ⟨g, hg, e, _⟩ := h1 f hf; rw [← e]; exact H.clear.apart g hg, H.clear.low⟩
  · rw [hSF]
    have sub : ∀ (fs' : List Fact), (∀ f ∈ fs', ∃ g ∈ (th 0).fs, g.a = f.a ∧ g.v = f.v ∧ (f.wr = true → g.wr = true) ∧ (f.sh = g.sh ∨ f.sh = none)) → Above W (T.SF σ ++ fs') := fun fs' hsub f hf hw => by
      rcases List.mem_append.1 hf with hf | hf
      · exact H.hi 0 team_zero f (List.mem_append_left _ hf) hw
      · obtain ⟨g, hg, e, _, ew, _⟩ := hsub f hf
        rw [← e]; exact H.hi 0 team_zero g (List.mem_append_right _ hg) (ew hw)
    by_cases hjN : j = m + c
    · subst hjN; rw [upd_same]; exact sub fsC h2
    · rw [upd_ne _ _ hjN]
      by_cases hj0 : j = 0
      · subst hj0; rw [upd_same]; exact sub fs0 h1
      · rw [upd_ne _ _ hj0]; exact H.hi j (old hj hjN)

/-- ████ goroutine 0 acquires: the team is done ████ -/
theorem TInv.exit (H : TInv P T Q W Shun m c gs q fuel th rel σ w t) (hg0 : gs[0]? = some (th 0).g) {d : Nat} {g' : Goroutine} {w' : World} (hd0 : (th 0).d = 0)
    (hst : stepG P true (th 0).g (w.at d) = .go g' w' #[⟨.mark (.acquire T.wg), false, true⟩]) (hsz : w.heap.size ≤ w'.heap.size) (hl : ∀ r, r < (th 0).c → T.Left σ r) (sl : Option (Nat × Nat)) :
    ∃ gs' q' t', runT P (crowd gs (w.at d) sl) 0 = (.next (crowd gs' w' sl), t') ∧ Bes P (fun l => Shun l ∨ T.DK l) w'.heap.size gs' q' g' w' (t ++ t') := by
  have hm := H.m0
  have hrun := runT_crowd_go (P := P) (gs := gs) (w := w.at d) (sl := sl) (i := 0) hg0 (show stepG P (0 == 0) (th 0).g (w.at d) = _ from hst)
  have hlt : 0 < gs.size := (Array.getElem?_eq_some_iff.1 hg0).1
  obtain ⟨y, hy, hye⟩ : ∃ y : MemOp, (y.g = 0 ∧ y.act = .mark (.acquire T.wg)) ∧ MemOp.ofEvents 0 (th 0).g.frame.fn (th 0).g.frame.place #[⟨.mark (.acquire T.wg), false, true⟩] = #[y] :=
    ⟨{ g := 0, fn := (th 0).g.frame.fn, pos := (th 0).g.frame.place, act := .mark (.acquire T.wg) }, ⟨rfl, rfl⟩, by rw [ofEvents_eq]; simp [MemAct.ofEvent]⟩
  rw [hye] at hrun
  have quits : ∀ j, m ≤ j → j < m + c → QuitsD P (fuel j) (th j).d (th j).g ∧ (th j).rel = true := by
    intro j hj1 hj2
    have hT : Team m (m + c) j := .inr ⟨hj1, hj2⟩
    have hC := H.cert j hT
    have hw : whoOf m j = some (j - m) := by unfold whoOf; rw [if_neg (by omega)]
    have hleft : T.Left σ (j - m) := hl _ (by rw [H.cc]; omega)
    cases hf : fuel j with
    | zero => rw [hf] at hC; obtain ⟨_, _, a, b, _⟩ := hC; exact ⟨a, b⟩
    | succ k =>
      rw [hf] at hC
      rcases hC with ⟨_, _, a, b, _⟩ | ⟨_, _, _, h4, _⟩
      · exact ⟨a, b⟩
      · exact absurd hleft (h4 _ _ hw (H.kap j hT))
  have past := H.ti.exit (fun j h1 h2 => by
    have := H.rl j (.inr ⟨h1, h2⟩)
    rw [(quits j h1 h2).2] at this
    exact Option.isSome_iff_exists.1 this) ((H.deaf 0 team_zero).trans hd0) hy (H.ltSK T.wgIn) |>.mono hsz
  have hothers : ∀ op ∈ #[y], op.g = 0 := fun op hop => by simp at hop; rw [hop]; exact hy.1
  refine ⟨_, fun j => if j < m then q j else fuel j, _, hrun, ⟨by simp [hlt], ⟨fun i x hi hx => ?_, fun j hj => ?_⟩, past, fun op hop a ha => ?_⟩⟩
  · have hne : 0 ≠ i := by omega
    rw [Array.getElem?_setIfInBounds_ne hne, Array.getElem?_map] at hx
    obtain ⟨z, hz, rfl⟩ := Option.map_eq_some_iff.1 hx
    rw [Deaf_other t hne _ hothers]
    by_cases him : i < m
    · simp only [him, if_true]
      have hq := H.old i z hi him hz
      rw [woken_quitsD hq]; exact hq
    · simp only [him, if_false]
      have hi2 : i < m + c := by rw [← H.size]; exact (Array.getElem?_eq_some_iff.1 hz).1
      have hT : Team m (m + c) i := .inr ⟨by omega, hi2⟩
      obtain ⟨hq, _⟩ := quits i (by omega) hi2
      obtain ⟨z', hz', hzz⟩ := H.here i hT
      rw [hz] at hz'
      obtain rfl := Option.some.inj hz'
      rcases hzz with rfl | ha
      · rw [woken_quitsD hq, H.deaf i hT]; exact hq
      · have hw : whoOf m i = some (i - m) := by unfold whoOf; rw [if_neg (by omega)]
        exact absurd (hl _ (by rw [H.cc]; omega)) (ha.2.2.2.2 _ hw).2
  · have hne : 0 ≠ j := by simp at hj; have := H.size; omega
    rw [Deaf_other t hne _ hothers]
    exact H.above j (by simp at hj; have := H.size; omega)
  · have := past.seen op hop
    rw [ha] at this; exact this

/-! ### the run -/
def wt (m : Nat) (q fuel : Nat → Nat) (j : Nat) : Nat := if 0 < j ∧ j < m then q j else 3 ^ fuel j
def up (gs : Array Goroutine) (j : Nat) : Nat := if (gs[j]?.map (·.status)) = some .running then 1 else 0

theorem wt_fuel (m : Nat) (q fuel : Nat → Nat) {j : Nat} (hj : ¬ (0 < j ∧ j < m)) (k : Nat) : wt m q (ConcN.upd fuel j k) = ConcN.upd (wt m q fuel) j (3 ^ k) := by
  funext i
  by_cases h : i = j
  · subst h; simp only [wt, if_neg hj, upd_same]
  · simp only [wt, upd_ne _ _ h]
theorem wt_q (m : Nat) (q fuel : Nat → Nat) {j : Nat} (hj : 0 < j ∧ j < m) (k : Nat) : wt m (ConcN.upd q j k) fuel = ConcN.upd (wt m q fuel) j k := by
  funext i
  by_cases h : i = j
  · subst h; simp only [wt, if_pos hj, upd_same]
  · simp only [wt, upd_ne _ _ h]
theorem sumTo_lt {f : Nat → Nat} {i n x : Nat} (hi : i < n) (h : x < f i) : sumTo n (ConcN.upd f i x) < sumTo n f := by
  have := sumTo_upd f x id hi
  simp only [id] at this
  have e1 : sumTo n (fun a => ConcN.upd f i x a) = sumTo n (ConcN.upd f i x) := rfl
  have e2 : sumTo n (fun a => f a) = sumTo n f := rfl
  omega
theorem team_notold {j : Nat} (hj : Team m (m + c) j) : ¬ (0 < j ∧ j < m) := by
  rcases hj with rfl | ⟨h, _⟩ <;> omega

/-- ████ THE TEAM RUNS to where goroutine 0 has acquired. ████ -/
theorem team_run : ∀ (μ : Nat × Nat) (c : Nat) (gs : Array Goroutine) (q fuel : Nat → Nat) (th : Nat → Th T.S) (rel : Nat → Option Nat) (σ : T.S) (w : World) (t : Trace) (sl : Option (Nat × Nat)),
    μ = (sumTo (m + c) (wt m q fuel), sumTo gs.size (up gs)) → TInv P T Q W Shun m c gs q fuel th rel σ w t →
    ∃ N gs' q' sl' t' g' w' σ' fs', runNT P N (crowd gs w sl) t = (.next (crowd gs' w' sl'), t') ∧ Bes P (fun l => Shun l ∨ T.DK l) w'.heap.size gs' q' g' w' t' ∧ Q g' fs' σ' ∧ Sat (T.SF σ' ++ fs') w' ∧ Clear Shun fs' w' ∧ Was W w' ∧ Above W (T.SF σ' ++ fs') := by
  intro μ
  induction μ using (Prod.lex Nat.lt_wfRel Nat.lt_wfRel).wf.induction with
  | _ μ ih =>
  intro c gs q fuel th rel σ w t sl hμ H
  have hm := H.m0
  -- somebody can run
  have awk : ∀ g ∈ gs, awake g := by
    intro g hg
    obtain ⟨i, hi, rfl⟩ := Array.mem_iff_getElem.1 hg
    have hgi : gs[i]? = some gs[i] := Array.getElem?_eq_getElem hi
    by_cases hio : 0 < i ∧ i < m
    · exact awake_of ((H.old i _ hio.1 hio.2 hgi).status.elim .inl fun x => .inr (.inr x))
    · have hT : Team m (m + c) i := by
        have := H.size
        by_cases h0 : i = 0
        · exact .inl h0
        · exact .inr ⟨by omega, by omega⟩
      obtain ⟨x, hx, hxx⟩ := H.here i hT
      rw [hgi] at hx
      obtain rfl := Option.some.inj hx
      rcases hxx with h | ⟨h, _⟩
      · rw [h]; exact awake_of ((H.cert i hT).status.elim .inl fun x => .inr (.inr x))
      · rw [h]; exact awake_of (.inr (.inl rfl))
  have some1 : ∃ (i : Nat) (g : Goroutine), gs[i]? = some g ∧ g.status = .running := by
    obtain ⟨x, hx, hxx⟩ := H.here 0 team_zero
    rcases hxx with rfl | ⟨_, _, _, h4, _⟩
    · obtain ⟨k, _, hf⟩ := (H.cert 0 team_zero).main
      exact ⟨0, _, hx, hf.1⟩
    · obtain ⟨r, hr, hb⟩ := h4 rfl
      have hT : Team m (m + c) (m + r) := .inr ⟨by omega, by omega⟩
      have hw : whoOf m (m + r) = some r := by unfold whoOf; rw [if_neg (by omega)]; congr 1; omega
      obtain ⟨y, hy, hyy⟩ := H.here (m + r) hT
      rcases hyy with rfl | ⟨_, _, _, _, h5⟩
      · refine ⟨m + r, _, hy, ?_⟩
        have hC := H.cert (m + r) hT
        rw [hw] at hC
        cases hf : fuel (m + r) with
        | zero => rw [hf] at hC; obtain ⟨r', e, _, _, _, hb'⟩ := hC; cases e; exact absurd hb (hb' _ (H.kap _ hT))
        | succ k =>
          rw [hf] at hC
          rcases hC with ⟨r', e, _, _, _, hb'⟩ | h
          · cases e; exact absurd hb (hb' _ (H.kap _ hT))
          · exact h.1
      · exact absurd hb (h5 r hw).1
  obtain ⟨i, g, d, sl1, hi, hg, hst⟩ := crowd_pick (P := P) (gs := gs) (w := w) (sl := sl) awk some1
  have hlt : i < gs.size := (Array.getElem?_eq_some_iff.1 hi).1
  have hlt' : i < m + c := by rw [← H.size]; exact hlt
  -- on, when the next state is there
  have on : ∀ {c' : Nat} {gs' : Array Goroutine} {q' fuel' : Nat → Nat} {th' : Nat → Th T.S} {rel' : Nat → Option Nat} {σ' : T.S} {w' : World} {t1 : Trace}, runT P (crowd gs (w.at d) sl1) i = (.next (crowd gs' w' sl1), t1) → TInv P T Q W Shun m c' gs' q' fuel' th' rel' σ' w' (t ++ t1) →
      Prod.Lex (· < ·) (· < ·) (sumTo (m + c') (wt m q' fuel'), sumTo gs'.size (up gs')) μ →
      ∃ N gs' q' sl' t' g' w' σ' fs', runNT P N (crowd gs w sl) t = (.next (crowd gs' w' sl'), t') ∧ Bes P (fun l => Shun l ∨ T.DK l) w'.heap.size gs' q' g' w' t' ∧ Q g' fs' σ' ∧ Sat (T.SF σ' ++ fs') w' ∧ Clear Shun fs' w' ∧ Was W w' ∧ Above W (T.SF σ' ++ fs') := by
    intro c' gs' q' fuel' th' rel' σ' w' t1 hrun H' hlex
    obtain ⟨N, gs2, q2, sl2, t2, g2, w2, σ2, fs2, h1, h2⟩ := ih _ hlex c' gs' q' fuel' th' rel' σ' w' (t ++ t1) sl1 rfl H'
    exact ⟨N + 1, gs2, q2, sl2, t2, g2, w2, σ2, fs2, by simp only [runNT, hst, hrun]; exact h1, h2⟩
  by_cases hio : 0 < i ∧ i < m
  · obtain ⟨gs', k, t1, hrun, H', hk⟩ := H.slip hio.1 hio.2 hi hg sl1 d
    refine on hrun H' ?_
    rw [hμ, wt_q m q fuel hio]
    exact .left _ _ (sumTo_lt hlt' (by simp only [wt, if_pos hio]; exact hk))
  have hT : Team m (m + c) i := by
    by_cases h0 : i = 0
    · exact .inl h0
    · exact .inr ⟨by omega, hlt'⟩
  obtain ⟨x, hx, hxx⟩ := H.here i hT
  rw [hi] at hx
  obtain rfl := Option.some.inj hx
  rcases hxx with rfl | ⟨h, _⟩
  rotate_left
  · rw [h] at hg; cases hg
  have Hd := H.at d
  have hnone := whoOf_isNone m (j := i) hm
  have quit : ∀ k, fuel i = k → Quit P T (whoOf m i) k (th i) → ∃ N gs' q' sl' t' g' w' σ' fs', runNT P N (crowd gs w sl) t = (.next (crowd gs' w' sl'), t') ∧ Bes P (fun l => Shun l ∨ T.DK l) w'.heap.size gs' q' g' w' t' ∧ Q g' fs' σ' ∧ Sat (T.SF σ' ++ fs') w' ∧ Clear Shun fs' w' ∧ Was W w' ∧ Above W (T.SF σ' ++ fs') := by
    intro k hk ⟨r, hr, hq, hrel, hstab, hbusy⟩
    have hi0 : (i == 0) = false := by rw [← hnone, hr]; rfl
    cases k with
    | zero => rw [hq.1] at hg; cases hg
    | succ k =>
      rcases hq with ⟨hf, _⟩ | ⟨_, g', es, hmu, hstp, hq'⟩
      · rw [hf] at hg; cases hg
      have hcert : Cert P T Q k (whoOf m i) { th i with g := g', d := deafBehind (th i).d es } := by
        have : Quit P T (whoOf m i) k { th i with g := g', d := deafBehind (th i).d es } := ⟨r, hr, hq', hrel, hstab, hbusy⟩
        cases k with
        | zero => exact this
        | succ k => exact .inl this
      have ht := Turn.refl (Hd.sat i hT)
      obtain ⟨gs', hrun, H'⟩ := Hd.go (d := d) hT hi (by rw [hi0]; exact hstp _) (x' := { th i with g := g', d := deafBehind (th i).d es }) rfl rfl ht (.inl rfl) (Hd.kap i hT) hcert rfl
        (Hd.trace hT ht (evOk_mute hmu)) (H.rl i hT) (fun _ _ => rfl) sl1
      refine on hrun H' ?_
      rw [hμ, wt_fuel m q fuel hio]
      exact .left _ _ (sumTo_lt hlt' (by simp only [wt, if_neg hio, hk]; exact Nat.pow_lt_pow_right (by omega) (by omega)))
  have hC := H.cert i hT
  cases hf : fuel i with
  | zero => rw [hf] at hC; exact quit 0 hf hC
  | succ k =>
    rw [hf] at hC
    rcases hC with hC | ⟨hrun0, hoff, hstab, hleft, hout⟩
    · exact quit (k + 1) hf hC
    have less : ∀ {gs' : Array Goroutine}, Prod.Lex (· < ·) (· < ·) (sumTo (m + c) (wt m q (ConcN.upd fuel i k)), sumTo gs'.size (up gs')) μ := by
      intro gs'
      rw [hμ, wt_fuel m q fuel hio]
      exact .left _ _ (sumTo_lt hlt' (by simp only [wt, if_neg hio, hf]; exact Nat.pow_lt_pow_right (by omega) (by omega)))
    cases hout σ (w.at d) (H.kap i hT) (Hd.sat i hT) with
    | @go g' w' es fs' σ' κ' h1 h2 h3 h4 h5 h6 =>
      rw [hnone] at h1
      obtain ⟨gs', hrun, H'⟩ := Hd.go (d := d) hT hi h1 (x' := { th i with g := g', fs := fs', κ := κ', d := deafBehind (th i).d es }) rfl rfl h2 h4 h5 h6 rfl (Hd.trace hT h2 h3) (H.rl i hT) (fun _ _ => rfl) sl1
      exact on hrun H' less
    | @rel r g' w' fs' h1 h2 h3 h4 ht h5 =>
      rw [hnone] at h4
      have hev : EvOk T (whoOf m i) (th i).rel (th i).d fs' w'.heap.size #[⟨.mark (.releaseMerge T.wg), false, true⟩] := by
        refine ⟨fun e he => ?_, fun hr => by rw [h3] at hr; cases hr⟩
        simp only [List.mem_toArray, List.mem_cons, List.not_mem_nil, or_false] at he
        subst he
        exact ⟨Nat.lt_of_lt_of_le (Hd.ltSK T.wgIn) ht.size, by simp, fun x hx => by simp [MemAct.ofEvent, MemAct.touch?] at hx⟩
      have ti := Hd.trace (x' := { th i with g := g', fs := fs', rel := true }) (fn := (th i).g.frame.fn) (pos := (th i).g.frame.place) hT ht hev
      have hops : MemOp.ofEvents i (th i).g.frame.fn (th i).g.frame.place #[⟨.mark (.releaseMerge T.wg), false, true⟩] = #[{ g := i, fn := (th i).g.frame.fn, pos := (th i).g.frame.place, act := .mark (.releaseMerge T.wg) }] := by
        rw [ofEvents_eq]; simp [MemAct.ofEvent]
      have hat : (t ++ MemOp.ofEvents i (th i).g.frame.fn (th i).g.frame.place #[⟨.mark (.releaseMerge T.wg), false, true⟩])[t.size]? = some { g := i, fn := (th i).g.frame.fn, pos := (th i).g.frame.place, act := .mark (.releaseMerge T.wg) } := by
        rw [hops, Array.getElem?_append_right (Nat.le_refl _)]; simp
      have ti' := ti.released (j := i) (r := t.size) (by rw [hops]; simp) (by rw [act?_of hat]) (by rw [g?_of hat]) ⟨i, by rw [g?_of hat], by rw [deaf_old (Nat.le_refl _)]; exact (H.deaf i hT).trans h2⟩
      obtain ⟨gs', hrun, H'⟩ := Hd.go (d := d) hT hi h4 (x' := { th i with g := g', fs := fs', rel := true }) rfl rfl ht (.inl rfl) (Hd.kap i hT) h5 (by simp [deafBehind]) ti' (by rw [upd_same]; rfl) (fun j hj => upd_ne _ _ hj) sl1
      exact on hrun H' less
    | blk h1 h2 h3 =>
      rw [hnone] at h1
      have ha : Asleep T m c σ i (th i).g { (th i).g with status := .blocked } := by
        refine ⟨rfl, hrun0, hoff, fun h0 => ?_, fun r hr => ⟨h3 r hr, hleft r σ hr (H.kap i hT)⟩⟩
        have hw : whoOf m i = none := by unfold whoOf; rw [if_pos h0]
        obtain ⟨r, hr, hb⟩ := h2 hw
        exact ⟨r, by subst h0; rw [H.cc] at hr; exact hr, hb⟩
      obtain ⟨gs', hrun, H', he⟩ := Hd.block (d := d) hT hi h1 ha sl1
      refine on hrun (by rw [Array.append_empty]; exact H') ?_
      rw [hμ]
      refine .right _ ?_
      have hsz : gs'.size = gs.size := by rw [he]; simp
      rw [hsz]
      have hup : up gs' = ConcN.upd (up gs) i 0 := by
        funext j
        by_cases hj : j = i
        · subst hj; rw [upd_same, he]; simp [up, hlt]
        · rw [upd_ne _ _ hj, he]; simp only [up]; rw [Array.getElem?_setIfInBounds_ne (Ne.symm hj)]
      rw [hup]
      exact sumTo_lt hlt (by simp [up, hi, hg])
    | @spawn g' child fs0 fsC κC σ' κ' h1 h2 h3 h4 h5 h6 h7 h8 h9 ha hb h10 h11 =>
      have h0 : i = 0 := by
        unfold whoOf at h1
        by_cases h : i = 0
        · exact h
        · rw [if_neg h] at h1; cases h1
      subst h0
      obtain ⟨gs', t1, hrun, H'⟩ := Hd.spawn (d := d) hi h2 h3 h4 h5 h6 h7 h8 h9 ha hb h10 h11 sl1
      refine on hrun H' ?_
      rw [hμ, wt_fuel m q _ (by omega), wt_fuel m q fuel hio]
      refine .left _ _ ?_
      have e1 : sumTo (m + (c + 1)) (ConcN.upd (ConcN.upd (wt m q fuel) 0 (3 ^ k)) (m + c) (3 ^ k)) = sumTo (m + c) (ConcN.upd (wt m q fuel) 0 (3 ^ k)) + 3 ^ k := by
        show sumTo (m + c) _ + ConcN.upd (ConcN.upd (wt m q fuel) 0 (3 ^ k)) (m + c) (3 ^ k) (m + c) = _
        rw [upd_same]
        congr 1
        exact sumTo_congr fun j hj => upd_ne _ _ (by omega)
      have e2 := sumTo_upd (wt m q fuel) (3 ^ k) id hlt'
      simp only [id] at e2
      have e3 : wt m q fuel 0 = 3 ^ (k + 1) := by simp [wt, hf]
      have e4 : sumTo (m + c) (fun a => ConcN.upd (wt m q fuel) 0 (3 ^ k) a) = sumTo (m + c) (ConcN.upd (wt m q fuel) 0 (3 ^ k)) := rfl
      have e5 : sumTo (m + c) (fun a => wt m q fuel a) = sumTo (m + c) (wt m q fuel) := rfl
      have e6 : (3 : Nat) ^ (k + 1) = 3 * 3 ^ k := by rw [Nat.pow_succ, Nat.mul_comm]
      have e7 : 0 < (3 : Nat) ^ k := Nat.pow_pos (by omega)
      omega
    | @exit g' w' fs' h1 h2 h3 ht h4 h5 =>
      have h0 : i = 0 := by
        unfold whoOf at h1
        by_cases h : i = 0
        · exact h
        · rw [if_neg h] at h1; cases h1
      subst h0
      obtain ⟨gs', q', t1, hrun, hB⟩ := Hd.exit (d := d) hi h2 h3 ht.size h4 sl1
      change runT P (crowd gs (w.at d) sl1) 0 = (.next (crowd gs' w' sl1), t1) at hrun
      refine ⟨0 + 1, gs', q', sl1, t ++ t1, g', w', σ, fs', by simp only [runNT, hst, hrun], hB, h5, ht.sat, ⟨fun f hf hs => ?_, fun a ha => Nat.lt_of_lt_of_le (Hd.clear.low a ha) ht.size⟩, (Hd.was.turn (Hd.hi 0 team_zero) ht).1, (Hd.was.turn (Hd.hi 0 team_zero) ht).2⟩
      rcases ht.mem (List.mem_append_right _ hf) with ⟨f0, hf0, e1, e2⟩ | ⟨hb, _, _⟩
      · rcases List.mem_append.1 hf0 with hf0 | hf0
        · exact ht.sat.apart hf0 hf e1
        · exact Hd.clear.apart f0 hf0 (by rw [e1]; exact hs)
      · have := Hd.clear.low _ hs; omega
end

/-- ████ THE TEAM, as a way of goroutine 0's. ████ -/
theorem team_rb {W : World} {Shun : Loc → Prop} {R K : Nat} {x : Th T.S} {σ : T.S} {w : World} {Q' : (Loc → Prop) → Nat → Goroutine → World → Prop}
    (hC : Cert P T Q K none x) (hκ : x.κ σ) (hs : Sat (T.SF σ ++ x.fs) w) (hd : x.d = 0) (hr : x.rel = false) (hc : x.c = 0) (hcl : Clear Shun x.fs w) (hSK : ∀ a ∈ T.SK, ¬ Shun (.cell a)) (hwg : R ≤ T.wg.block) (hW : Was W w) (hA : Above W (T.SF σ ++ x.fs))
    (k : ∀ σ' g' w' fs', Q g' fs' σ' → Sat (T.SF σ' ++ fs') w' → Clear Shun fs' w' → Was W w' → Above W (T.SF σ' ++ fs') → Rb P (fun l => Shun l ∨ T.DK l) w'.heap.size g' w' Q') : Rb P Shun R x.g w Q' := by
  intro gs q sl t hB
  have hlt : 0 < gs.size := (Array.getElem?_eq_some_iff.1 hB.at0).1
  have only : ∀ {j}, Team gs.size (gs.size + 0) j → j = 0 := fun hj => hj.elim id fun h => by omega
  have H : TInv P T Q W Shun gs.size 0 gs q (fun _ => K) (fun _ => x) (fun _ => none) σ w t := by
    refine ⟨rfl, hlt, hc, fun i g hi _ hg => hB.old.old i g hi hg, fun j hj => ?_, fun j hj => ?_, fun j hj => hκ, fun j hj => hs, fun i j hi hj hne => absurd ((only hi).trans (only hj).symm) hne, fun j hj => ?_, fun j hj => hB.old.above j hj, ?_, fun j hj => by rw [hr]; rfl, fun j hj => rfl, hcl, hW, fun j hj => hA⟩
    · rw [only hj]; exact ⟨_, hB.at0, .inl rfl⟩
    · rw [only hj]; exact hC
    · rw [only hj, hd]; exact hB.past.hears
    · refine TI.init hB.past hlt rfl hcl.apart hSK fun i hi => ?_
      obtain ⟨op, hop, hoa⟩ := Option.map_eq_some_iff.1 hi
      have := hB.rel op (mem_of_getElem? hop) T.wg hoa
      omega
  obtain ⟨N, gs1, q1, sl1, t1, g1, w1, σ1, fs1, h1, h2, h3, h4, h5, h6, h7⟩ := team_run _ 0 gs q _ _ _ σ w t sl rfl H
  obtain ⟨K', gs2, q2, sl2, t2, S2, R2, g2, w2, e2, hB2, hq2⟩ := k σ1 g1 w1 fs1 h3 h4 h5 h6 h7 gs1 q1 sl1 t1 h2
  exact ⟨N + K', gs2, q2, sl2, t2, S2, R2, g2, w2, runNT_then h1 e2, hB2, hq2⟩
end Go.Km
