/- The crew of works: on every tape goroutine 0 comes to behind Wait, the cells holding 7 and 1. No conditions beyond those written in the theorems. -/
import Derived.Test.YtebjdfhaglgjiaaKwB
import Derived.Test.YtebjdfhaglgjiaaKwM
import Derived.Test.YtebjdfhaglgjiaaKmC
import Derived.Test.YtebjdfhaglgjiaaKwF
import Derived.Test.YtebjdfhaglgjiaaKwU
namespace Go.Proofs
open Go Go.Conc Go.Km
/-! ### the protocol of 'works': two workers -/
structure WS where
  c0 : Int
  c1 : Int
  st : Int
  sm : Int
  p0 : Nat
  p1 : Nat
  pm : Nat

/-- goroutine 0's phases: 1 behind its first Add, 2 behind the first go statement, 3 behind the second Add, 4 behind the second go statement, 5 registered, 6 behind the semaphore; a worker's: 3 gone, 4 to 7 the last one's, waking -/
def OK (p0 p1 pm : Nat) : Bool :=
  p1 != 2 && (decide (2 ≤ pm) || p0 == 0) && (decide (4 ≤ pm) || p1 == 0) && (decide (p0 < 4) || (decide (5 ≤ pm) && p1 == 3)) && (decide (p1 < 4) || (decide (5 ≤ pm) && p0 == 3)) &&
  (!(decide (5 ≤ pm) && decide (3 ≤ p0) && decide (3 ≤ p1)) || decide (4 ≤ p0) || decide (4 ≤ p1)) && (pm != 6 || p0 == 7 || p1 == 7)
def C0 (p0 p1 : Nat) : Int := 1 + (if 1 ≤ p0 then 5 else 0) + (if 1 ≤ p1 then 1 else 0)
def C1 (p0 : Nat) : Int := if 2 ≤ p0 then 1 else 0
def ST (p0 p1 pm : Nat) : Int := (if 1 ≤ pm then 4294967296 else 0) + (if 3 ≤ pm then 4294967296 else 0) - (if 3 ≤ p0 then 4294967296 else 0) - (if 3 ≤ p1 then 4294967296 else 0) + (if 5 ≤ pm ∧ p0 < 6 ∧ p1 < 6 then 1 else 0)
def SM (p0 p1 pm : Nat) : Int := if (p0 = 7 ∨ p1 = 7) ∧ pm = 5 then 1 else 0

/-- what holds throughout -/
structure GI (σ : WS) : Prop where
  b0 : σ.p0 < 8
  b1 : σ.p1 < 8
  bm : σ.pm < 7
  ok : OK σ.p0 σ.p1 σ.pm = true
  c0 : σ.c0 = C0 σ.p0 σ.p1
  c1 : σ.c1 = C1 σ.p0
  st : σ.st = ST σ.p0 σ.p1 σ.pm
  sm : σ.sm = SM σ.p0 σ.p1 σ.pm

/-- the state at these phases -/
def at_ (p0 p1 pm : Nat) : WS := ⟨C0 p0 p1, C1 p0, ST p0 p1 pm, SM p0 p1 pm, p0, p1, pm⟩
theorem GI.eq {σ : WS} (h : GI σ) : σ = at_ σ.p0 σ.p1 σ.pm := by
  obtain ⟨c0, c1, st, sm, p0, p1, pm⟩ := σ
  have := h.c0; have := h.c1; have := h.st; have := h.sm
  simp only at *
  subst_vars
  rfl
theorem GI.cases {σ : WS} (h : GI σ) : ∃ p0 p1 pm, σ = at_ p0 p1 pm ∧ p0 < 8 ∧ p1 < 8 ∧ pm < 7 ∧ OK p0 p1 pm = true := ⟨_, _, _, h.eq, h.b0, h.b1, h.bm, h.ok⟩
theorem GI.of {p0 p1 pm : Nat} (b0 : p0 < 8) (b1 : p1 < 8) (bm : pm < 7) (ok : OK p0 p1 pm = true) : GI (at_ p0 p1 pm) := ⟨b0, b1, bm, ok, rfl, rfl, rfl, rfl⟩

def WTr (who : Option Nat) (σ σ' : WS) : Prop := GI σ' ∧ match who with
  | none => σ'.p0 = σ.p0 ∧ σ'.p1 = σ.p1 ∧ σ.pm ≤ σ'.pm
  | some 0 => σ'.p1 = σ.p1 ∧ σ'.pm = σ.pm ∧ σ.p0 ≤ σ'.p0
  | some 1 => σ'.p0 = σ.p0 ∧ σ'.pm = σ.pm ∧ σ.p1 ≤ σ'.p1
  | some _ => False
def WLeft (σ : WS) (r : Nat) : Prop := match r with
  | 0 => σ.p0 = 3 ∨ σ.p0 = 7
  | 1 => σ.p1 = 3 ∨ σ.p1 = 7
  | _ => True

def wT (cb wb : Nat) : TeamP where
  S := WS
  SK := [⟨wb, 0, none⟩, ⟨wb, 1, none⟩, ⟨cb, 0, none⟩, ⟨cb, 1, none⟩]
  SF := fun σ => wgF wb σ.st σ.sm ++ cF cb σ.c0 σ.c1
  keys := fun _ => rfl
  wr := fun σ f hf => by simp only [wgF, cF, List.cons_append, List.nil_append, List.mem_cons, List.not_mem_nil, or_false] at hf; rcases hf with rfl | rfl | rfl | rfl <;> rfl
  wg := ⟨wb, 0, none⟩
  wgIn := by simp
  DK := fun l => l = .cell ⟨wb, 0, none⟩ ∨ l = .cell ⟨wb, 1, none⟩
  dk := fun l h => by rcases h with rfl | rfl <;> simp
  Tr := WTr
  Busy := fun σ r => ¬ WLeft σ r
  Left := WLeft

section
variable {cb wb : Nat} {Q : Goroutine → List Fact → WS → Prop}

def κm (n : Nat) (σ : WS) : Prop := GI σ ∧ σ.pm = n
def κm2 (σ : WS) : Prop := GI σ ∧ σ.pm = 4 ∧ (3 ≤ σ.p0 ∨ 3 ≤ σ.p1)
def κm3 (σ : WS) : Prop := GI σ ∧ σ.pm = 4 ∧ 3 ≤ σ.p0 ∧ 3 ≤ σ.p1
def κ0 (n : Nat) (σ : WS) : Prop := GI σ ∧ σ.p0 = n ∧ 2 ≤ σ.pm
def κ1 (n : Nat) (σ : WS) : Prop := GI σ ∧ σ.p1 = n ∧ 4 ≤ σ.pm

theorem stab_m (n : Nat) : Stable (wT cb wb) none (κm n) := by
  rintro other σ σ' hne ⟨hg, hp⟩ ⟨hg', hT⟩
  match other, hT with
  | none, _ => exact absurd rfl hne
  | some 0, ⟨_, h, _⟩ => exact ⟨hg', h.trans hp⟩
  | some 1, ⟨_, h, _⟩ => exact ⟨hg', h.trans hp⟩
theorem stab_m2 : Stable (wT cb wb) none κm2 := by
  rintro other σ σ' hne ⟨hg, hp, hq⟩ ⟨hg', hT⟩
  match other, hT with
  | none, _ => exact absurd rfl hne
  | some 0, ⟨h1, h, h2⟩ => exact ⟨hg', h.trans hp, by omega⟩
  | some 1, ⟨h1, h, h2⟩ => exact ⟨hg', h.trans hp, by omega⟩
theorem stab_m3 : Stable (wT cb wb) none κm3 := by
  rintro other σ σ' hne ⟨hg, hp, hq⟩ ⟨hg', hT⟩
  match other, hT with
  | none, _ => exact absurd rfl hne
  | some 0, ⟨h1, h, h2⟩ => exact ⟨hg', h.trans hp, by omega⟩
  | some 1, ⟨h1, h, h2⟩ => exact ⟨hg', h.trans hp, by omega⟩
theorem stab_0 (n : Nat) : Stable (wT cb wb) (some 0) (κ0 n) := by
  rintro other σ σ' hne ⟨hg, hp, hq⟩ ⟨hg', hT⟩
  match other, hT with
  | none, ⟨h1, _, h2⟩ => exact ⟨hg', h1.trans hp, by omega⟩
  | some 0, _ => exact absurd rfl hne
  | some 1, ⟨h1, h, h2⟩ => exact ⟨hg', h1.trans hp, by omega⟩
theorem stab_1 (n : Nat) : Stable (wT cb wb) (some 1) (κ1 n) := by
  rintro other σ σ' hne ⟨hg, hp, hq⟩ ⟨hg', hT⟩
  match other, hT with
  | none, ⟨_, h1, h2⟩ => exact ⟨hg', h1.trans hp, by omega⟩
  | some 0, ⟨h1, h, h2⟩ => exact ⟨hg', h1.trans hp, by omega⟩
  | some 1, _ => exact absurd rfl hne

theorem left_m (κ : WS → Prop) : ∀ r σ, (none : Option Nat) = some r → κ σ → ¬ (wT cb wb).Left σ r := fun _ _ h => by cases h

theorem SFeq (σ : WS) : (wT cb wb).SF σ = wgF wb σ.st σ.sm ++ cF cb σ.c0 σ.c1 := rfl

/-! lists -/
theorem skIn0 : (⟨wb, 0, none⟩ : Addr) ∈ (wT cb wb).SK := by simp [wT]
theorem skIn1 : (⟨wb, 1, none⟩ : Addr) ∈ (wT cb wb).SK := by simp [wT]
theorem skC0 : (⟨cb, 0, none⟩ : Addr) ∈ (wT cb wb).SK := by simp [wT]
theorem skC1 : (⟨cb, 1, none⟩ : Addr) ∈ (wT cb wb).SK := by simp [wT]
variable {who : Option Nat} {d : Nat}
theorem ev_nil : EvA (wT cb wb) who false d [] := evA_of (by simp)
theorem ev_rw {a : Addr} (ha : a ∈ (wT cb wb).SK) : EvA (wT cb wb) who false d [⟨.cell a, false, true⟩, ⟨.cell a, true, true⟩] := evA_of (by
  intro e he
  simp only [List.mem_cons, List.not_mem_nil, or_false] at he
  rcases he with rfl | rfl <;> exact .inl ⟨_, ha, _, rfl⟩)
theorem ev_rd {a : Addr} (ha : a ∈ (wT cb wb).SK) : EvA (wT cb wb) who false d [⟨.cell a, false, true⟩] := evA_of (by
  intro e he
  simp only [List.mem_cons, List.not_mem_nil, or_false] at he
  rcases he with rfl; exact .inl ⟨_, ha, _, rfl⟩)
theorem ev_sema {a : Addr} (ha : a ∈ (wT cb wb).SK) : EvA (wT cb wb) who false d [⟨.mark .disable, false, true⟩, ⟨.cell a, false, true⟩, ⟨.cell a, true, true⟩, ⟨.mark .enable, false, true⟩] := evA_of (by
  intro e he
  simp only [List.mem_cons, List.not_mem_nil, or_false] at he
  rcases he with rfl | rfl | rfl | rfl
  · exact .inr rfl
  · exact .inl ⟨_, ha, _, rfl⟩
  · exact .inl ⟨_, ha, _, rfl⟩
  · exact .inr rfl)
theorem ev_read {a : Addr} (ha : a ∈ (wT cb wb).SK) : EvA (wT cb wb) none false d [⟨.mark (.read a), false, true⟩] := evA_said (by
  intro e he
  simp only [List.mem_cons, List.not_mem_nil, or_false] at he
  exact ⟨a, ha, .inl he⟩)
theorem ev_write {a : Addr} (ha : a ∈ (wT cb wb).SK) : EvA (wT cb wb) none false d [⟨.mark (.write a), false, true⟩] := evA_said (by
  intro e he
  simp only [List.mem_cons, List.not_mem_nil, or_false] at he
  exact ⟨a, ha, .inr he⟩)
theorem er_rw {a : Addr} (ha : a ∈ (wT cb wb).SK) (hd : (wT cb wb).DK (.cell a)) : EvA (wT cb wb) who true 1 [⟨.cell a, false, true⟩, ⟨.cell a, true, true⟩] := evA_rel (by
  intro e he
  simp only [List.mem_cons, List.not_mem_nil, or_false] at he
  rcases he with rfl | rfl <;> exact .inl ⟨_, ha, hd, _, rfl⟩) (by
  intro i e _
  match i with
  | 0 => right; simp [deafBehind]
  | 1 => right; simp [deafBehind]
  | n + 2 => simp at *)
theorem er_one {a : Addr} (wr : Bool) (ha : a ∈ (wT cb wb).SK) (hd : (wT cb wb).DK (.cell a)) : EvA (wT cb wb) who true 1 [⟨.cell a, wr, true⟩] := evA_rel (by
  intro e he
  simp only [List.mem_cons, List.not_mem_nil, or_false] at he
  rcases he with rfl; exact .inl ⟨_, ha, hd, _, rfl⟩) (by
  intro i e _
  match i with
  | 0 => right; simp [deafBehind]
  | n + 1 => simp at *)
theorem er_sema {a : Addr} (ha : a ∈ (wT cb wb).SK) (hd : (wT cb wb).DK (.cell a)) : EvA (wT cb wb) who true 1 [⟨.mark .disable, false, true⟩, ⟨.cell a, false, true⟩, ⟨.cell a, true, true⟩, ⟨.mark .enable, false, true⟩] := evA_rel (by
  intro e he
  simp only [List.mem_cons, List.not_mem_nil, or_false] at he
  rcases he with rfl | rfl | rfl | rfl
  · exact .inr rfl
  · exact .inl ⟨_, ha, hd, _, rfl⟩
  · exact .inl ⟨_, ha, hd, _, rfl⟩
  · exact .inr rfl) (by
  intro i e he
  match i, he with
  | 0, he => right; simp [deafBehind]
  | 1, he => right; simp [deafBehind, List.extract]
  | 2, he => right; simp [deafBehind, List.extract]
  | 3, he => right; simp [deafBehind]
  | n + 4, he => simp at he)

/-- a stage's start -/
def K0 (g : Goroutine) (fs : List Fact) : KG := ⟨g, fs, 0, [], []⟩
end

def all3 (f : Nat → Nat → Nat → Bool) : Bool := (List.range 8).all fun p0 => (List.range 8).all fun p1 => (List.range 7).all fun pm => !OK p0 p1 pm || f p0 p1 pm
theorem all3_spec {f : Nat → Nat → Nat → Bool} (h : all3 f = true) {p0 p1 pm : Nat} (h0 : p0 < 8) (h1 : p1 < 8) (hm : pm < 7) (ok : OK p0 p1 pm = true) : f p0 p1 pm = true := by
  have := List.all_eq_true.1 (List.all_eq_true.1 (List.all_eq_true.1 h p0 (by simpa using h0)) p1 (by simpa using h1)) pm (by simpa using hm)
  simpa [ok] using this

theorem okAct_sf {T : TeamP} {P : Program} {d d' : Nat} {σ σ' : T.S} {es : List Event} {h : Hint} {G G' : List Fact} {A : (Nat → Nat) → Option KG} {o : Nat → Nat} (hs : T.SF σ = G) (hG : T.SF σ' = G')
    (H : ((actA P h G A o).isSome, sumL d (actA P h G A o), (actA P h G A o).map fun p => (p.2.toList, p.1.fs)) = (true, sumR d' (actA P h G A o), (A o).map fun x => (es, G' ++ x.fs))) : okAct T d d' σ' es (A o) (actA P h (T.SF σ) A o) := by
  rw [hs]; exact okAct_act hG H
theorem at_sf {T : TeamP} {P : Program} {σ : T.S} {h : Hint} {G : List Fact} {A : (Nat → Nat) → Option KG} {o : Nat → Nat} {x : KG} (hs : T.SF σ = G) (hA : At (afterA P h (T.SF σ) A) o x) : At (afterA P h G A) o x := by
  rw [← hs]; exact hA
theorem At.fsOf {A : (Nat → Nat) → Option KG} {o : Nat → Nat} {x : KG} {fs : List Fact} (hA : At A o x) (h : (A o).map (·.fs) = some fs) : x.fs = fs := by
  rw [hA.here] at h
  simpa using h
theorem sf_at {cb wb p0 p1 pm : Nat} {st sm : Int} (h1 : ST p0 p1 pm = st) (h2 : SM p0 p1 pm = sm) : (wT cb wb).SF (at_ p0 p1 pm) = wgF wb st sm ++ cF cb (C0 p0 p1) (C1 p0) := by
  subst h1 h2; rfl
end Go.Proofs

namespace Go.Proofs
open Go Go.Conc Go.Km

section
variable {cb wb : Nat} {Q : Goroutine → List Fact → WS → Prop}

theorem at_P0 (c : Frame) (rest : List Frame) (fs : List Fact) (o : Nat → Nat) : At (P0 wb c rest fs) o (K0 (run' (Frame.enter Try.prog 49 #[.pointer (some ⟨wb, 0, none⟩), .int .i64 1] .normal) (c :: rest)) fs) := fun _ _ => rfl
theorem at_N0 (c : Frame) (rest : List Frame) (fs : List Fact) (o : Nat → Nat) : At (N0 wb c rest fs) o (K0 (run' (Frame.enter Try.prog 49 #[.pointer (some ⟨wb, 0, none⟩), .int .i64 (-1)] .normal) (c :: rest)) fs) := fun _ _ => rfl
theorem at_W0 (c : Frame) (rest : List Frame) (fs : List Fact) (o : Nat → Nat) : At (W0 wb c rest fs) o (K0 (run' (Frame.enter Try.prog 52 #[.pointer (some ⟨wb, 0, none⟩)] .normal) (c :: rest)) fs) := fun _ _ => rfl
theorem at_H0 (c : Frame) (rest : List Frame) (fs : List Fact) (J : Nat → Value) (o : Nat → Nat) : At (H0 wb c rest fs J) o (K0 (headG wb J c rest) fs) := fun _ _ => rfl

/-! ### goroutine 0's Add(1) -/
theorem T_add1 : all3 (fun p0 p1 pm => decide (pm = 0 ∨ pm = 2 → (ST p0 p1 pm = 4294967296 ∧ ST p0 p1 (pm+1) = 8589934592 ∨ ST p0 p1 pm = 0 ∧ ST p0 p1 (pm+1) = 4294967296) ∧ OK p0 p1 (pm+1) = true ∧ SM p0 p1 (pm+1) = SM p0 p1 pm)) = true := by decide +kernel

theorem add_one {k n j : Nat} {c : Frame} {rest : List Frame} {fs : List Fact} (hj : j = 0 ∨ j = 2)
    (K : Cert Try.prog (wT cb wb) Q k none ⟨run' (c.finish (.tuple #[])) rest, fs, κm (j + 1), 0, false, n⟩) :
    Cert Try.prog (wT cb wb) Q (47 + (52 + (1 + 1 + (89 + k)) + 1)) none ⟨run' (Frame.enter Try.prog 49 #[.pointer (some ⟨wb, 0, none⟩), .int .i64 1] .normal) (c :: rest), fs, κm j, 0, false, n⟩ := by
  refine cert_seg (rel := false) (d := 0) (d' := 1) (orc := fun _ => 0) (at_P0 c rest fs _) rfl rfl (stab_m j) (left_m _) (List.replicate 47 {}) (fun o => ok_of (kP1 wb c rest fs o)) fun o x hA hr hof => ?_
  have hfx : x.fs = fs := At.fsOf (A := P1 wb c rest fs) hA (fP1 wb c rest fs o)
  have hA : At (P1 wb c rest fs) o x := hA
  refine cert_act hA hr hof (stab_m j) (left_m _) (hA.wake (wP2a wb c rest fs o)) fun σ hσ => ?_
  obtain ⟨hg, hp⟩ := hσ
  obtain ⟨p0, p1, pm, rfl, b0, b1, bm, ok⟩ := hg.cases
  have hp : pm = j := hp
  subst hp
  obtain ⟨hst, hok, hsm⟩ := of_decide_eq_true (all3_spec T_add1 b0 b1 bm ok) hj
  have hg' : GI (at_ p0 p1 (pm + 1)) := GI.of b0 b1 (by omega) hok
  have hT : WTr none (at_ p0 p1 pm) (at_ p0 p1 (pm + 1)) := ⟨hg', rfl, rfl, Nat.le_succ _⟩
  rcases hst with ⟨h1, h2⟩ | ⟨h1, h2⟩
  · -- one is counted already
    have hs := sf_at (cb := cb) (wb := wb) h1 rfl
    refine .inl ⟨hh [0, 0], at_ p0 p1 (pm + 1), κm (pm + 1), 1, _, hT, ⟨hg', rfl⟩, ev_rw skIn0, fun o => okAct_sf hs (sf_at h2 hsm) (kP2a wb c rest fs (SM p0 p1 pm) (cF cb (C0 p0 p1) (C1 p0)) o), fun o x' hA' hr' hof' hfs => ?_⟩
    have hA' : At (P2a wb c rest fs (SM p0 p1 pm) (cF cb (C0 p0 p1) (C1 p0))) o x' := at_sf hs hA'
    rw [hfs, hfx]
    exact Cert.mono (k := 89 + k) (by omega) (cert_solo hr' hof' (stab_m _) (left_m _) (hA'.solo (bP2a wb c rest fs _ _ o)) K)
  · -- none is
    have hs := sf_at (cb := cb) (wb := wb) h1 rfl
    refine .inl ⟨hh [0, 0], at_ p0 p1 (pm + 1), κm (pm + 1), 1, _, hT, ⟨hg', rfl⟩, ev_rw skIn0, fun o => okAct_sf hs (sf_at h2 hsm) (kP2b wb c rest fs (SM p0 p1 pm) (cF cb (C0 p0 p1) (C1 p0)) o), fun o x' hA' hr' hof' hfs => ?_⟩
    have hA' : At (P2b wb c rest fs (SM p0 p1 pm) (cF cb (C0 p0 p1) (C1 p0))) o x' := at_sf hs hA'
    refine cert_seg (rel := false) (d := 1) (d' := 1) hA' hr' hof' (stab_m _) (left_m _) (List.replicate 52 {}) (fun o => ok_of (kP3 wb c rest fs _ _ o)) fun o x3 hA3 hr3 hof3 => ?_
    have hA3 : At (P3 wb c rest fs (SM p0 p1 pm) (cF cb (C0 p0 p1) (C1 p0))) o x3 := hA3
    have hf3 : x3.fs = fs := At.fsOf hA3 (fP3 wb c rest fs _ _ o)
    rw [Nat.add_right_comm]
    refine cert_look hA3 hr3 hof3 (stab_m _) (left_m _) fun σ4 hσ4 => ⟨hh [0, 0], 1, [], κm (pm + 1), hσ4, ev_nil, fun o => okAct_sf (G := wgF wb σ4.st σ4.sm ++ cF cb σ4.c0 σ4.c1) rfl rfl (kP4 wb c rest fs _ _ _ _ _ o), fun o x4 hA4 hr4 hof4 hf4 => ?_⟩
    have hA4 : At (P4 wb c rest fs (SM p0 p1 pm) (cF cb (C0 p0 p1) (C1 p0)) σ4.st σ4.sm (cF cb σ4.c0 σ4.c1)) o x4 := hA4
    rw [Nat.add_comm 1 (89 + k)]
    refine cert_look hA4 hr4 hof4 (stab_m _) (left_m _) fun σ5 hσ5 => ⟨hh [0], 1, _, κm (pm + 1), hσ5, ev_read skIn1, fun o => okAct_sf (G := wgF wb σ5.st σ5.sm ++ cF cb σ5.c0 σ5.c1) rfl rfl (kP5 wb c rest fs _ _ _ _ _ _ _ _ o), fun o x5 hA5 hr5 hof5 hf5 => ?_⟩
    have hA5 : At (P5 wb c rest fs (SM p0 p1 pm) (cF cb (C0 p0 p1) (C1 p0)) σ4.st σ4.sm (cF cb σ4.c0 σ4.c1) σ5.st σ5.sm (cF cb σ5.c0 σ5.c1)) o x5 := hA5
    rw [hf5, hf4, hf3]
    exact Cert.mono (k := 41 + k) (by omega) (cert_solo hr5 hof5 (stab_m _) (left_m _) (hA5.solo (bP5 wb c rest fs _ _ _ _ _ _ _ _ o)) K)
end
end Go.Proofs

namespace Go.Proofs
open Go Go.Conc Go.Km

theorem head_of {wb : Nat} {c : Frame} {rest : List Frame} {A : (Nat → Nat) → Option KG} {o : Nat → Nat} {x : KG} (hA : At A o x) (h : isHead (A o) = asHead wb c rest (A o)) : ∃ J, x.g = headG wb J c rest := by
  rw [hA.here] at h
  simp only [isHead, asHead, Option.map_some, Option.some.injEq, Prod.mk.injEq] at h
  unfold headG
  generalize waitHead wb = F at *
  obtain ⟨h1, h2, h3, h4⟩ := h
  refine ⟨fun i => x.g.frame.tmps.getD i undef, h4.trans (congrArg (fun f => run' f (c :: rest)) ?_)⟩
  have ht : x.g.frame.tmps = tmpsJ wb fun i => x.g.frame.tmps.getD i undef := by
    apply Array.ext
    · rw [h1]; simp [tmpsJ]
    · intro i hi1 hi2
      cases i with
      | zero =>
        have : x.g.frame.tmps[0]? = some (x.g.frame.tmps[0]) := Array.getElem?_eq_getElem hi1
        rw [h2] at this
        simp [tmpsJ]
        exact (Option.some.inj this).symm
      | succ i =>
        simp only [tmpsJ, List.getElem_toArray, List.getElem_cons_succ, List.getElem_map, List.getElem_range']
        rw [show 1 + 1 * i = i + 1 by omega]
        simp [Array.getD, hi1]
  calc x.g.frame = { x.g.frame with tmps := x.g.frame.tmps } := rfl
    _ = { { x.g.frame with tmps := #[] } with tmps := x.g.frame.tmps } := rfl
    _ = { { F with tmps := #[] } with tmps := x.g.frame.tmps } := by rw [h3]
    _ = { F with tmps := x.g.frame.tmps } := rfl
    _ = _ := congrArg (fun t => { F with tmps := t }) ht

/-- both have left -/
def WFin (σ : WS) : Prop := GI σ ∧ WLeft σ 0 ∧ WLeft σ 1

theorem T_ld : all3 (fun p0 p1 pm => decide (pm = 4 → (ST p0 p1 pm = 8589934592 ∧ ¬ (3 ≤ p0 ∨ 3 ≤ p1)) ∨ (ST p0 p1 pm = 4294967296 ∧ (3 ≤ p0 ∨ 3 ≤ p1) ∧ ¬ (3 ≤ p0 ∧ 3 ≤ p1)) ∨ (ST p0 p1 pm = 0 ∧ 3 ≤ p0 ∧ 3 ≤ p1))) = true := by decide +kernel
theorem T_z : all3 (fun p0 p1 pm => decide (pm = 4 → 3 ≤ p0 → 3 ≤ p1 → ST p0 p1 pm = 0 ∧ p0 = 3 ∧ p1 = 3)) = true := by decide +kernel
theorem T_cas : all3 (fun p0 p1 pm => decide (pm = 4 → ST p0 p1 pm ≠ 0 → OK p0 p1 5 = true ∧ ST p0 p1 5 = ST p0 p1 pm + 1 ∧ SM p0 p1 5 = SM p0 p1 pm)) = true := by decide +kernel
theorem T_sema : all3 (fun p0 p1 pm => decide (pm = 5 → (SM p0 p1 pm = 0 ∧ (¬ (p0 = 3 ∨ p0 = 7) ∨ ¬ (p1 = 3 ∨ p1 = 7))) ∨ (SM p0 p1 pm = 1 ∧ OK p0 p1 6 = true ∧ ST p0 p1 6 = ST p0 p1 pm ∧ SM p0 p1 6 = 0))) = true := by decide +kernel
theorem T_end : all3 (fun p0 p1 pm => decide (pm = 6 → ST p0 p1 pm = 0 ∧ (p0 = 3 ∨ p0 = 7) ∧ (p1 = 3 ∨ p1 = 7))) = true := by decide +kernel

section
variable {cb wb : Nat} {Q : Goroutine → List Fact → WS → Prop} {c : Frame} {rest : List Frame} {fs : List Fact} {k : Nat}

/-- what is asked of the way out -/
def OutQ (Q : Goroutine → List Fact → WS → Prop) (c : Frame) (rest : List Frame) (fs : List Fact) : Prop :=
  ∀ g σ n, WFin σ → g.status = .running → okSolo 0 0 (run' (c.finish (.tuple #[])) rest) (soloA Try.prog (fun _ => 0) (chkOf true) n g) → Q g fs σ

/-- nobody is counted any more: out -/
theorem zero_path (hQ : OutQ Q c rest fs) {J : Nat → Value} {sm : Int} {m : List Fact} {o : Nat → Nat} {x : KG} (hA : At (HZ2 wb c rest fs J sm m) o x) (hr : x.g.status = .running) (hof : x.g.offers = none) :
    Cert Try.prog (wT cb wb) Q (35 + (k + 1 + 1)) none ⟨x.g, x.fs, κm3, 1, false, 2⟩ := by
  refine cert_seg (rel := false) (d := 1) (d' := 0) hA hr hof stab_m3 (left_m _) (List.replicate 35 {}) (fun o => ok_of (kHZ3 wb c rest fs J _ _ o)) fun o x3 hA3 hr3 hof3 => ?_
  have hA3 : At (HZ3 wb c rest fs J sm m) o x3 := hA3
  have hf3 : x3.fs = fs := At.fsOf hA3 (fHZ3 wb c rest fs J _ _ o)
  refine cert_look hA3 hr3 hof3 stab_m3 (left_m _) fun σ4 hσ4 => ⟨hh [0, 0], 0, [], κm3, hσ4, ev_nil, fun o => okAct_sf (G := wgF wb σ4.st σ4.sm ++ cF cb σ4.c0 σ4.c1) rfl rfl (kHZ4 wb c rest fs J _ _ _ _ _ o), fun o x4 hA4 hr4 hof4 hf4 => ?_⟩
  have hA4 : At (HZ4 wb c rest fs J sm m σ4.st σ4.sm (cF cb σ4.c0 σ4.c1)) o x4 := hA4
  have fin : ∀ σ, κm3 σ → WFin σ := by
    rintro σ ⟨hg, h1, h2, h3⟩
    obtain ⟨p0, p1, pm, rfl, b0, b1, bm, ok⟩ := hg.cases
    obtain ⟨_, e0, e1⟩ := of_decide_eq_true (all3_spec T_z b0 b1 bm ok) h1 h2 h3
    exact ⟨hg, .inl e0, .inl e1⟩
  refine cert_exit hA4 hr4 hof4 stab_m3 (fun σ hσ r hr => ?_) fun σ5 hσ5 => ⟨hh [0], fun o => okAct_sf (G := wgF wb σ5.st σ5.sm ++ cF cb σ5.c0 σ5.c1) rfl rfl (kHZ5 wb c rest fs J _ _ _ _ _ _ _ _ o), fun o x5 hA5 hr5 hf5 => ?_⟩
  · obtain ⟨_, l0, l1⟩ := fin σ hσ
    match r, hr with
    | 0, _ => exact l0
    | 1, _ => exact l1
  · have hA5 : At (HZ5 wb c rest fs J sm m σ4.st σ4.sm (cF cb σ4.c0 σ4.c1) σ5.st σ5.sm (cF cb σ5.c0 σ5.c1)) o x5 := hA5
    rw [hf5, hf4, hf3]
    exact hQ x5.g σ5 20 (fin σ5 hσ5) hr5 (hA5.solo (bHZ5 wb c rest fs J _ _ _ _ _ _ _ _ o))

/-- the head, all done -/
theorem head3 (hQ : OutQ Q c rest fs) (J : Nat → Value) : Cert Try.prog (wT cb wb) Q (16 + (35 + (k + 1 + 1) + 1)) none ⟨headG wb J c rest, fs, κm3, 1, false, 2⟩ := by
  refine cert_seg (rel := false) (d := 1) (d' := 1) (orc := fun _ => 0) (at_H0 c rest fs J _) rfl rfl stab_m3 (left_m _) (List.replicate 16 {}) (fun o => ok_of (kH1 wb c rest fs J o)) fun o x hA hr hof => ?_
  have hA : At (H1 wb c rest fs J) o x := hA
  refine cert_look hA hr hof stab_m3 (left_m _) fun σ hσ => ?_
  obtain ⟨hg, h1, h2, h3⟩ := hσ
  obtain ⟨p0, p1, pm, rfl, b0, b1, bm, ok⟩ := hg.cases
  obtain ⟨e, _, _⟩ := of_decide_eq_true (all3_spec T_z b0 b1 bm ok) h1 h2 h3
  have hs := sf_at (cb := cb) (wb := wb) e rfl
  exact ⟨hh [0], 1, _, κm3, ⟨hg, h1, h2, h3⟩, ev_rd skIn0, fun o => okAct_sf hs hs (kHZ2 wb c rest fs J _ _ o), fun o x' hA' hr' hof' _ => zero_path hQ (at_sf hs hA') hr' hof'⟩


/-- registered: the semaphore, and out -/
theorem semaK (hQ : OutQ Q c rest fs) {J : Nat → Value} {s2 s4 : Int} {m2 m4 : List Fact} {o : Nat → Nat} {x : KG} (hA : At (HK4 wb c rest fs J s2 m2 s4 m4) o x) (hr : x.g.status = .running) (hof : x.g.offers = none) :
    Cert Try.prog (wT cb wb) Q (19 + (23 + (16 + (15 + (k + 1 + 1) + 1) + 1) + 1 + 1)) none ⟨x.g, x.fs, κm 5, 1, false, 2⟩ := by
  refine cert_seg (rel := false) (d := 1) (d' := 1) hA hr hof (stab_m 5) (left_m _) (List.replicate 19 {}) (fun o => ok_of (kHK5 wb c rest fs J _ _ _ _ o)) fun o x5 hA5 hr5 hof5 => ?_
  have hA5 : At (HK5 wb c rest fs J s2 m2 s4 m4) o x5 := hA5
  refine cert_look hA5 hr5 hof5 (stab_m 5) (left_m _) fun σ6 hσ6 => ⟨hh [0, 0], 1, [], κm 5, hσ6, ev_nil, fun o => okAct_sf (G := wgF wb σ6.st σ6.sm ++ cF cb σ6.c0 σ6.c1) rfl rfl (kHK6 wb c rest fs J _ _ _ _ _ _ _ o), fun o x6 hA6 hr6 hof6 hf6 => ?_⟩
  have hA6 : At (HK6 wb c rest fs J s2 m2 s4 m4 σ6.st σ6.sm (cF cb σ6.c0 σ6.c1)) o x6 := hA6
  refine cert_look hA6 hr6 hof6 (stab_m 5) (left_m _) fun σ7 hσ7 => ⟨hh [0], 1, _, κm 5, hσ7, ev_write skIn1, fun o => okAct_sf (G := wgF wb σ7.st σ7.sm ++ cF cb σ7.c0 σ7.c1) rfl rfl (kHK7 wb c rest fs J _ _ _ _ _ _ _ _ _ _ o), fun o x7 hA7 hr7 hof7 hf7 => ?_⟩
  refine cert_seg (rel := false) (d := 1) (d' := 1) hA7 hr7 hof7 (stab_m 5) (left_m _) (List.replicate 23 {}) (fun o => ok_of (kHK8 wb c rest fs J _ _ _ _ _ _ _ _ _ _ o)) fun o x8 hA8 hr8 hof8 => ?_
  have hA8 : At (HK8 wb c rest fs J s2 m2 s4 m4 σ6.st σ6.sm (cF cb σ6.c0 σ6.c1) σ7.st σ7.sm (cF cb σ7.c0 σ7.c1)) o x8 := hA8
  refine cert_act hA8 hr8 hof8 (stab_m 5) (left_m _) (hA8.wake (wHK9 wb c rest fs J _ _ _ _ _ _ _ _ _ _ o)) fun σ hσ => ?_
  obtain ⟨hg, hp⟩ := hσ
  obtain ⟨p0, p1, pm, rfl, b0, b1, bm, ok⟩ := hg.cases
  have hp : pm = 5 := hp
  subst hp
  rcases of_decide_eq_true (all3_spec T_sema b0 b1 bm ok) rfl with ⟨e, hb⟩ | ⟨e, ok', e1, e2⟩
  · right
    have hs := sf_at (cb := cb) (wb := wb) rfl e
    refine ⟨fun _ => ?_, fun r h => (by cases h), [1], fun o => by rw [hs]; exact okBlk_of (bHK8 wb c rest fs J _ _ _ _ _ _ _ _ _ _ _ _ o)⟩
    rcases hb with hb | hb
    · exact ⟨0, by omega, hb⟩
    · exact ⟨1, by omega, hb⟩
  · left
    have hs := sf_at (cb := cb) (wb := wb) rfl e
    have hg4 : GI (at_ p0 p1 6) := GI.of b0 b1 (by omega) ok'
    refine ⟨hh [1, 1], at_ p0 p1 6, κm 6, 1, _, ⟨hg4, rfl, rfl, by show 5 ≤ 6; omega⟩, ⟨hg4, rfl⟩, ev_sema skIn1, fun o => okAct_sf hs (sf_at e1 e2) (kHK9 wb c rest fs J _ _ _ _ _ _ _ _ _ _ _ _ o), fun o x9 hA9 hr9 hof9 hf9 => ?_⟩
    have hA9 := at_sf hs hA9
    refine cert_seg (rel := false) (d := 1) (d' := 1) hA9 hr9 hof9 (stab_m 6) (left_m _) (List.replicate 16 {}) (fun o => ok_of (kHK10 wb c rest fs J _ _ _ _ _ _ _ _ _ _ _ _ o)) fun o x10 hA10 hr10 hof10 => ?_
    refine cert_look hA10 hr10 hof10 (stab_m 6) (left_m _) fun σ11 hσ11 => ?_
    obtain ⟨hg11, hp11⟩ := hσ11
    obtain ⟨q0, q1, qm, rfl, c0, c1, cm, ok11⟩ := hg11.cases
    obtain ⟨e11, _⟩ := of_decide_eq_true (all3_spec T_end c0 c1 cm ok11) hp11
    have hs11 := sf_at (cb := cb) (wb := wb) e11 rfl
    refine ⟨hh [0], 1, _, κm 6, ⟨hg11, hp11⟩, ev_rd skIn0, fun o => okAct_sf hs11 hs11 (kHK11 wb c rest fs J _ _ _ _ _ _ _ _ _ _ _ _ _ _ o), fun o x11 hA11 hr11 hof11 hf11 => ?_⟩
    have hA11 := at_sf hs11 hA11
    refine cert_seg (rel := false) (d := 1) (d' := 0) hA11 hr11 hof11 (stab_m 6) (left_m _) (List.replicate 15 {}) (fun o => ok_of (kHK12 wb c rest fs J _ _ _ _ _ _ _ _ _ _ _ _ _ _ o)) fun o x12 hA12 hr12 hof12 => ?_
    have hf12 : x12.fs = fs := At.fsOf hA12 (fHK12 wb c rest fs J _ _ _ _ _ _ _ _ _ _ _ _ _ _ o)
    refine cert_look hA12 hr12 hof12 (stab_m 6) (left_m _) fun σ13 hσ13 => ⟨hh [0, 0], 0, [], κm 6, hσ13, ev_nil, fun o => okAct_sf (G := wgF wb σ13.st σ13.sm ++ cF cb σ13.c0 σ13.c1) rfl rfl (kHK13 wb c rest fs J _ _ _ _ _ _ _ _ _ _ _ _ _ _ _ _ _ o), fun o x13 hA13 hr13 hof13 hf13 => ?_⟩
    have fin : ∀ σ, κm 6 σ → WFin σ := by
      rintro σ ⟨hg, h1⟩
      obtain ⟨p0, p1, pm, rfl, b0, b1, bm, ok⟩ := hg.cases
      obtain ⟨_, e0, e1⟩ := of_decide_eq_true (all3_spec T_end b0 b1 bm ok) h1
      exact ⟨hg, e0, e1⟩
    refine cert_exit hA13 hr13 hof13 (stab_m 6) (fun σ hσ r hr => ?_) fun σ14 hσ14 => ⟨hh [0], fun o => okAct_sf (G := wgF wb σ14.st σ14.sm ++ cF cb σ14.c0 σ14.c1) rfl rfl (kHK14 wb c rest fs J _ _ _ _ _ _ _ _ _ _ _ _ _ _ _ _ _ _ _ _ o), fun o x14 hA14 hr14 hf14 => ?_⟩
    · obtain ⟨_, l0, l1⟩ := fin σ hσ
      match r, hr with
      | 0, _ => exact l0
      | 1, _ => exact l1
    · rw [hf14, hf13, hf12]
      exact hQ x14.g σ14 10 (fin σ14 hσ14) hr14 (At.solo (A := HK14 wb c rest fs J s2 m2 s4 m4 σ6.st σ6.sm (cF cb σ6.c0 σ6.c1) σ7.st σ7.sm (cF cb σ7.c0 σ7.c1) (ST p0 p1 5) (cF cb (C0 p0 p1) (C1 p0)) (SM q0 q1 qm) (cF cb (C0 q0 q1) (C1 q0)) σ13.st σ13.sm (cF cb σ13.c0 σ13.c1) σ14.st σ14.sm (cF cb σ14.c0 σ14.c1)) hA14 (bHK14 wb c rest fs J _ _ _ _ _ _ _ _ _ _ _ _ _ _ _ _ _ _ _ _ o))


/-- registered: the semaphore, and out -/
theorem semaM (hQ : OutQ Q c rest fs) {J : Nat → Value} {s2 s4 : Int} {m2 m4 : List Fact} {o : Nat → Nat} {x : KG} (hA : At (HM4 wb c rest fs J s2 m2 s4 m4) o x) (hr : x.g.status = .running) (hof : x.g.offers = none) :
    Cert Try.prog (wT cb wb) Q (19 + (23 + (16 + (15 + (k + 1 + 1) + 1) + 1) + 1 + 1)) none ⟨x.g, x.fs, κm 5, 1, false, 2⟩ := by
  refine cert_seg (rel := false) (d := 1) (d' := 1) hA hr hof (stab_m 5) (left_m _) (List.replicate 19 {}) (fun o => ok_of (kHM5 wb c rest fs J _ _ _ _ o)) fun o x5 hA5 hr5 hof5 => ?_
  have hA5 : At (HM5 wb c rest fs J s2 m2 s4 m4) o x5 := hA5
  refine cert_look hA5 hr5 hof5 (stab_m 5) (left_m _) fun σ6 hσ6 => ⟨hh [0, 0], 1, [], κm 5, hσ6, ev_nil, fun o => okAct_sf (G := wgF wb σ6.st σ6.sm ++ cF cb σ6.c0 σ6.c1) rfl rfl (kHM6 wb c rest fs J _ _ _ _ _ _ _ o), fun o x6 hA6 hr6 hof6 hf6 => ?_⟩
  have hA6 : At (HM6 wb c rest fs J s2 m2 s4 m4 σ6.st σ6.sm (cF cb σ6.c0 σ6.c1)) o x6 := hA6
  refine cert_look hA6 hr6 hof6 (stab_m 5) (left_m _) fun σ7 hσ7 => ⟨hh [0], 1, _, κm 5, hσ7, ev_write skIn1, fun o => okAct_sf (G := wgF wb σ7.st σ7.sm ++ cF cb σ7.c0 σ7.c1) rfl rfl (kHM7 wb c rest fs J _ _ _ _ _ _ _ _ _ _ o), fun o x7 hA7 hr7 hof7 hf7 => ?_⟩
  refine cert_seg (rel := false) (d := 1) (d' := 1) hA7 hr7 hof7 (stab_m 5) (left_m _) (List.replicate 23 {}) (fun o => ok_of (kHM8 wb c rest fs J _ _ _ _ _ _ _ _ _ _ o)) fun o x8 hA8 hr8 hof8 => ?_
  have hA8 : At (HM8 wb c rest fs J s2 m2 s4 m4 σ6.st σ6.sm (cF cb σ6.c0 σ6.c1) σ7.st σ7.sm (cF cb σ7.c0 σ7.c1)) o x8 := hA8
  refine cert_act hA8 hr8 hof8 (stab_m 5) (left_m _) (hA8.wake (wHM9 wb c rest fs J _ _ _ _ _ _ _ _ _ _ o)) fun σ hσ => ?_
  obtain ⟨hg, hp⟩ := hσ
  obtain ⟨p0, p1, pm, rfl, b0, b1, bm, ok⟩ := hg.cases
  have hp : pm = 5 := hp
  subst hp
  rcases of_decide_eq_true (all3_spec T_sema b0 b1 bm ok) rfl with ⟨e, hb⟩ | ⟨e, ok', e1, e2⟩
  · right
    have hs := sf_at (cb := cb) (wb := wb) rfl e
    refine ⟨fun _ => ?_, fun r h => (by cases h), [1], fun o => by rw [hs]; exact okBlk_of (bHM8 wb c rest fs J _ _ _ _ _ _ _ _ _ _ _ _ o)⟩
    rcases hb with hb | hb
    · exact ⟨0, by omega, hb⟩
    · exact ⟨1, by omega, hb⟩
  · left
    have hs := sf_at (cb := cb) (wb := wb) rfl e
    have hg4 : GI (at_ p0 p1 6) := GI.of b0 b1 (by omega) ok'
    refine ⟨hh [1, 1], at_ p0 p1 6, κm 6, 1, _, ⟨hg4, rfl, rfl, by show 5 ≤ 6; omega⟩, ⟨hg4, rfl⟩, ev_sema skIn1, fun o => okAct_sf hs (sf_at e1 e2) (kHM9 wb c rest fs J _ _ _ _ _ _ _ _ _ _ _ _ o), fun o x9 hA9 hr9 hof9 hf9 => ?_⟩
    have hA9 := at_sf hs hA9
    refine cert_seg (rel := false) (d := 1) (d' := 1) hA9 hr9 hof9 (stab_m 6) (left_m _) (List.replicate 16 {}) (fun o => ok_of (kHM10 wb c rest fs J _ _ _ _ _ _ _ _ _ _ _ _ o)) fun o x10 hA10 hr10 hof10 => ?_
    refine cert_look hA10 hr10 hof10 (stab_m 6) (left_m _) fun σ11 hσ11 => ?_
    obtain ⟨hg11, hp11⟩ := hσ11
    obtain ⟨q0, q1, qm, rfl, c0, c1, cm, ok11⟩ := hg11.cases
    obtain ⟨e11, _⟩ := of_decide_eq_true (all3_spec T_end c0 c1 cm ok11) hp11
    have hs11 := sf_at (cb := cb) (wb := wb) e11 rfl
    refine ⟨hh [0], 1, _, κm 6, ⟨hg11, hp11⟩, ev_rd skIn0, fun o => okAct_sf hs11 hs11 (kHM11 wb c rest fs J _ _ _ _ _ _ _ _ _ _ _ _ _ _ o), fun o x11 hA11 hr11 hof11 hf11 => ?_⟩
    have hA11 := at_sf hs11 hA11
    refine cert_seg (rel := false) (d := 1) (d' := 0) hA11 hr11 hof11 (stab_m 6) (left_m _) (List.replicate 15 {}) (fun o => ok_of (kHM12 wb c rest fs J _ _ _ _ _ _ _ _ _ _ _ _ _ _ o)) fun o x12 hA12 hr12 hof12 => ?_
    have hf12 : x12.fs = fs := At.fsOf hA12 (fHM12 wb c rest fs J _ _ _ _ _ _ _ _ _ _ _ _ _ _ o)
    refine cert_look hA12 hr12 hof12 (stab_m 6) (left_m _) fun σ13 hσ13 => ⟨hh [0, 0], 0, [], κm 6, hσ13, ev_nil, fun o => okAct_sf (G := wgF wb σ13.st σ13.sm ++ cF cb σ13.c0 σ13.c1) rfl rfl (kHM13 wb c rest fs J _ _ _ _ _ _ _ _ _ _ _ _ _ _ _ _ _ o), fun o x13 hA13 hr13 hof13 hf13 => ?_⟩
    have fin : ∀ σ, κm 6 σ → WFin σ := by
      rintro σ ⟨hg, h1⟩
      obtain ⟨p0, p1, pm, rfl, b0, b1, bm, ok⟩ := hg.cases
      obtain ⟨_, e0, e1⟩ := of_decide_eq_true (all3_spec T_end b0 b1 bm ok) h1
      exact ⟨hg, e0, e1⟩
    refine cert_exit hA13 hr13 hof13 (stab_m 6) (fun σ hσ r hr => ?_) fun σ14 hσ14 => ⟨hh [0], fun o => okAct_sf (G := wgF wb σ14.st σ14.sm ++ cF cb σ14.c0 σ14.c1) rfl rfl (kHM14 wb c rest fs J _ _ _ _ _ _ _ _ _ _ _ _ _ _ _ _ _ _ _ _ o), fun o x14 hA14 hr14 hf14 => ?_⟩
    · obtain ⟨_, l0, l1⟩ := fin σ hσ
      match r, hr with
      | 0, _ => exact l0
      | 1, _ => exact l1
    · rw [hf14, hf13, hf12]
      exact hQ x14.g σ14 10 (fin σ14 hσ14) hr14 (At.solo (A := HM14 wb c rest fs J s2 m2 s4 m4 σ6.st σ6.sm (cF cb σ6.c0 σ6.c1) σ7.st σ7.sm (cF cb σ7.c0 σ7.c1) (ST p0 p1 5) (cF cb (C0 p0 p1) (C1 p0)) (SM q0 q1 qm) (cF cb (C0 q0 q1) (C1 q0)) σ13.st σ13.sm (cF cb σ13.c0 σ13.c1) σ14.st σ14.sm (cF cb σ14.c0 σ14.c1)) hA14 (bHM14 wb c rest fs J _ _ _ _ _ _ _ _ _ _ _ _ _ _ _ _ _ _ _ _ o))


def B3 (k : Nat) : Nat := 16 + (35 + (k + 1 + 1) + 1)
def SE (k : Nat) : Nat := 19 + (23 + (16 + (15 + (k + 1 + 1) + 1) + 1) + 1 + 1)
theorem casK (hQ : OutQ Q c rest fs) {J : Nat → Value} {s2 : Int} {m2 : List Fact} {o : Nat → Nat} {x : KG} (hA : At (HK2 wb c rest fs J s2 m2) o x) (hr : x.g.status = .running) (hof : x.g.offers = none) :
    Cert Try.prog (wT cb wb) Q (48 + (9 + (B3 k + SE k) + 1)) none ⟨x.g, x.fs, κm2, 1, false, 2⟩ := by
  refine cert_seg (rel := false) (d := 1) (d' := 1) hA hr hof stab_m2 (left_m _) (List.replicate 48 {}) (fun o => ok_of (kHK3 wb c rest fs J _ _ o)) fun o x3 hA3 hr3 hof3 => ?_
  have hA3 : At (HK3 wb c rest fs J s2 m2) o x3 := hA3
  refine cert_act hA3 hr3 hof3 stab_m2 (left_m _) (hA3.wake (wHKfz4 wb c rest fs J _ _ o)) fun σ hσ => ?_
  obtain ⟨hg, hp, hq⟩ := hσ
  obtain ⟨p0, p1, pm, rfl, b0, b1, bm, ok⟩ := hg.cases
  have hp : pm = 4 := hp
  subst hp
  rcases of_decide_eq_true (all3_spec T_ld b0 b1 bm ok) rfl with ⟨_, hn⟩ | ⟨e, _⟩ | ⟨e, h1, h2⟩
  · exact absurd hq hn
  · obtain ⟨ok', e1, e2⟩ := of_decide_eq_true (all3_spec T_cas b0 b1 bm ok) rfl (by rw [e]; decide)
    rw [e] at e1
    have hs := sf_at (cb := cb) (wb := wb) e rfl
    have hg3 : GI (at_ p0 p1 5) := GI.of b0 b1 (by omega) ok'
    refine .inl ⟨hh [0, 0, 0, 0], at_ p0 p1 5, κm 5, 1, _, ⟨hg3, rfl, rfl, by show 4 ≤ 5; omega⟩, ⟨hg3, rfl⟩, ev_rw skIn0, fun o => okAct_sf hs (sf_at e1 e2) (kHK4 wb c rest fs J _ _ _ _ o), fun o x4 hA4 hr4 hof4 hf4 => ?_⟩
    exact Cert.mono (k := 19 + (23 + (16 + (15 + (k + 1 + 1) + 1) + 1) + 1 + 1)) (by unfold SE; omega) (semaK hQ (at_sf hs hA4) hr4 hof4)
  · have hs := sf_at (cb := cb) (wb := wb) e rfl
    have hκf : κm3 (at_ p0 p1 4) := ⟨hg, rfl, h1, h2⟩
    refine .inl ⟨hh [0, 0, 0], at_ p0 p1 4, κm3, 1, _, ⟨hg, rfl, rfl, Nat.le_refl _⟩, hκf, ev_rd skIn0, fun o => okAct_sf hs hs (kHKfz4 wb c rest fs J _ _ _ _ o), fun o x4 hA4 hr4 hof4 hf4 => ?_⟩
    have hA4 := at_sf hs hA4
    refine Cert.mono (k := 9 + (16 + (35 + (k + 1 + 1) + 1))) (by unfold B3; omega) (cert_seg (rel := false) (d := 1) (d' := 1) hA4 hr4 hof4 (stab_m3) (left_m _) (List.replicate 9 {}) (fun o => ok_of (kHKfz5 wb c rest fs J _ _ _ _ o)) fun o x5 hA5 hr5 hof5 => ?_)
    have hf5 : x5.fs = fs := At.fsOf hA5 (fHKfz5 wb c rest fs J _ _ _ _ o)
    obtain ⟨J', hJ⟩ := head_of hA5 (hHKfz5 wb c rest fs J _ _ _ _ o)
    rw [hf5, hJ]
    exact head3 hQ J'

def B2 (k : Nat) : Nat := 16 + (48 + (9 + (B3 k + SE k) + 1) + 1)
theorem head2 (hQ : OutQ Q c rest fs) (J : Nat → Value) : Cert Try.prog (wT cb wb) Q (16 + (48 + (9 + (B3 k + SE k) + 1) + 1)) none ⟨headG wb J c rest, fs, κm2, 1, false, 2⟩ := by
  refine cert_seg (rel := false) (d := 1) (d' := 1) (orc := fun _ => 0) (at_H0 c rest fs J _) rfl rfl stab_m2 (left_m _) (List.replicate 16 {}) (fun o => ok_of (kH1 wb c rest fs J o)) fun o x hA hr hof => ?_
  have hA : At (H1 wb c rest fs J) o x := hA
  refine cert_look hA hr hof stab_m2 (left_m _) fun σ hσ => ?_
  obtain ⟨hg, h1, h2⟩ := hσ
  obtain ⟨p0, p1, pm, rfl, b0, b1, bm, ok⟩ := hg.cases
  rcases of_decide_eq_true (all3_spec T_ld b0 b1 bm ok) h1 with ⟨_, hn⟩ | ⟨e, _⟩ | ⟨e, e1, e2⟩
  · exact absurd h2 hn
  · have hs := sf_at (cb := cb) (wb := wb) e rfl
    exact ⟨hh [0], 1, _, κm2, ⟨hg, h1, h2⟩, ev_rd skIn0, fun o => okAct_sf hs hs (kHK2 wb c rest fs J _ _ o), fun o x' hA' hr' hof' _ => casK hQ (at_sf hs hA') hr' hof'⟩
  · have hs := sf_at (cb := cb) (wb := wb) e rfl
    exact ⟨hh [0], 1, _, κm3, ⟨hg, h1, e1, e2⟩, ev_rd skIn0, fun o => okAct_sf hs hs (kHZ2 wb c rest fs J _ _ o), fun o x' hA' hr' hof' _ => Cert.mono (by unfold B3; omega) (zero_path (k := k) hQ (at_sf hs hA') hr' hof')⟩

theorem casM (hQ : OutQ Q c rest fs) {J : Nat → Value} {s2 : Int} {m2 : List Fact} {o : Nat → Nat} {x : KG} (hA : At (HM2 wb c rest fs J s2 m2) o x) (hr : x.g.status = .running) (hof : x.g.offers = none) :
    Cert Try.prog (wT cb wb) Q (48 + (9 + (B2 k + SE k) + 1)) none ⟨x.g, x.fs, κm 4, 1, false, 2⟩ := by
  refine cert_seg (rel := false) (d := 1) (d' := 1) hA hr hof (stab_m 4) (left_m _) (List.replicate 48 {}) (fun o => ok_of (kHM3 wb c rest fs J _ _ o)) fun o x3 hA3 hr3 hof3 => ?_
  have hA3 : At (HM3 wb c rest fs J s2 m2) o x3 := hA3
  refine cert_act hA3 hr3 hof3 (stab_m 4) (left_m _) (hA3.wake (wHMfz4 wb c rest fs J _ _ o)) fun σ hσ => ?_
  obtain ⟨hg, hp⟩ := hσ
  obtain ⟨p0, p1, pm, rfl, b0, b1, bm, ok⟩ := hg.cases
  have hp : pm = 4 := hp
  subst hp
  rcases of_decide_eq_true (all3_spec T_ld b0 b1 bm ok) rfl with ⟨e, _⟩ | ⟨e, h1, _⟩ | ⟨e, h1, h2⟩
  · obtain ⟨ok', e1, e2⟩ := of_decide_eq_true (all3_spec T_cas b0 b1 bm ok) rfl (by rw [e]; decide)
    rw [e] at e1
    have hs := sf_at (cb := cb) (wb := wb) e rfl
    have hg3 : GI (at_ p0 p1 5) := GI.of b0 b1 (by omega) ok'
    refine .inl ⟨hh [0, 0, 0, 0], at_ p0 p1 5, κm 5, 1, _, ⟨hg3, rfl, rfl, by show 4 ≤ 5; omega⟩, ⟨hg3, rfl⟩, ev_rw skIn0, fun o => okAct_sf hs (sf_at e1 e2) (kHM4 wb c rest fs J _ _ _ _ o), fun o x4 hA4 hr4 hof4 hf4 => ?_⟩
    exact Cert.mono (k := 19 + (23 + (16 + (15 + (k + 1 + 1) + 1) + 1) + 1 + 1)) (by unfold SE; omega) (semaM hQ (at_sf hs hA4) hr4 hof4)
  · have hs := sf_at (cb := cb) (wb := wb) e rfl
    have hκf : κm2 (at_ p0 p1 4) := ⟨hg, rfl, h1⟩
    refine .inl ⟨hh [0, 0, 0], at_ p0 p1 4, κm2, 1, _, ⟨hg, rfl, rfl, Nat.le_refl _⟩, hκf, ev_rd skIn0, fun o => okAct_sf hs hs (kHMfk4 wb c rest fs J _ _ _ _ o), fun o x4 hA4 hr4 hof4 hf4 => ?_⟩
    have hA4 := at_sf hs hA4
    refine Cert.mono (k := 9 + (16 + (48 + (9 + (B3 k + SE k) + 1) + 1))) (by unfold B2; omega) (cert_seg (rel := false) (d := 1) (d' := 1) hA4 hr4 hof4 (stab_m2) (left_m _) (List.replicate 9 {}) (fun o => ok_of (kHMfk5 wb c rest fs J _ _ _ _ o)) fun o x5 hA5 hr5 hof5 => ?_)
    have hf5 : x5.fs = fs := At.fsOf hA5 (fHMfk5 wb c rest fs J _ _ _ _ o)
    obtain ⟨J', hJ⟩ := head_of hA5 (hHMfk5 wb c rest fs J _ _ _ _ o)
    rw [hf5, hJ]
    exact head2 hQ J'
  · have hs := sf_at (cb := cb) (wb := wb) e rfl
    have hκf : κm3 (at_ p0 p1 4) := ⟨hg, rfl, h1, h2⟩
    refine .inl ⟨hh [0, 0, 0], at_ p0 p1 4, κm3, 1, _, ⟨hg, rfl, rfl, Nat.le_refl _⟩, hκf, ev_rd skIn0, fun o => okAct_sf hs hs (kHMfz4 wb c rest fs J _ _ _ _ o), fun o x4 hA4 hr4 hof4 hf4 => ?_⟩
    have hA4 := at_sf hs hA4
    refine Cert.mono (k := 9 + (16 + (35 + (k + 1 + 1) + 1))) (by unfold B2 B3; omega) (cert_seg (rel := false) (d := 1) (d' := 1) hA4 hr4 hof4 (stab_m3) (left_m _) (List.replicate 9 {}) (fun o => ok_of (kHMfz5 wb c rest fs J _ _ _ _ o)) fun o x5 hA5 hr5 hof5 => ?_)
    have hf5 : x5.fs = fs := At.fsOf hA5 (fHMfz5 wb c rest fs J _ _ _ _ o)
    obtain ⟨J', hJ⟩ := head_of hA5 (hHMfz5 wb c rest fs J _ _ _ _ o)
    rw [hf5, hJ]
    exact head3 hQ J'

theorem head1 (hQ : OutQ Q c rest fs) (J : Nat → Value) : Cert Try.prog (wT cb wb) Q (16 + (48 + (9 + (B2 k + SE k) + 1) + 1)) none ⟨headG wb J c rest, fs, κm 4, 1, false, 2⟩ := by
  refine cert_seg (rel := false) (d := 1) (d' := 1) (orc := fun _ => 0) (at_H0 c rest fs J _) rfl rfl (stab_m 4) (left_m _) (List.replicate 16 {}) (fun o => ok_of (kH1 wb c rest fs J o)) fun o x hA hr hof => ?_
  have hA : At (H1 wb c rest fs J) o x := hA
  refine cert_look hA hr hof (stab_m 4) (left_m _) fun σ hσ => ?_
  obtain ⟨hg, h1⟩ := hσ
  obtain ⟨p0, p1, pm, rfl, b0, b1, bm, ok⟩ := hg.cases
  rcases of_decide_eq_true (all3_spec T_ld b0 b1 bm ok) h1 with ⟨e, _⟩ | ⟨e, h2, _⟩ | ⟨e, e1, e2⟩
  · have hs := sf_at (cb := cb) (wb := wb) e rfl
    exact ⟨hh [0], 1, _, κm 4, ⟨hg, h1⟩, ev_rd skIn0, fun o => okAct_sf hs hs (kHM2 wb c rest fs J _ _ o), fun o x' hA' hr' hof' _ => casM hQ (at_sf hs hA') hr' hof'⟩
  · have hs := sf_at (cb := cb) (wb := wb) e rfl
    exact ⟨hh [0], 1, _, κm2, ⟨hg, h1, h2⟩, ev_rd skIn0, fun o => okAct_sf hs hs (kHK2 wb c rest fs J _ _ o), fun o x' hA' hr' hof' _ => Cert.mono (by unfold B2; omega) (casK (k := k) hQ (at_sf hs hA') hr' hof')⟩
  · have hs := sf_at (cb := cb) (wb := wb) e rfl
    exact ⟨hh [0], 1, _, κm3, ⟨hg, h1, e1, e2⟩, ev_rd skIn0, fun o => okAct_sf hs hs (kHZ2 wb c rest fs J _ _ o), fun o x' hA' hr' hof' _ => Cert.mono (by unfold B2 B3; omega) (zero_path (k := k) hQ (at_sf hs hA') hr' hof')⟩

/-- ████ Wait ████ -/
theorem wait_all (hQ : OutQ Q c rest fs) : Cert Try.prog (wT cb wb) Q (7 + (16 + (48 + (9 + (B2 k + SE k) + 1) + 1))) none ⟨run' (Frame.enter Try.prog 52 #[.pointer (some ⟨wb, 0, none⟩)] .normal) (c :: rest), fs, κm 4, 0, false, 2⟩ := by
  refine cert_seg (rel := false) (d := 0) (d' := 1) (orc := fun _ => 0) (at_W0 c rest fs _) rfl rfl (stab_m 4) (left_m _) (List.replicate 7 {}) (fun o => ok_of (kW1 wb c rest fs o)) fun o x hA hr hof => ?_
  have hf : x.fs = fs := At.fsOf (A := W1 wb c rest fs) hA (fW1 wb c rest fs o)
  obtain ⟨J, hJ⟩ := head_of (A := W1 wb c rest fs) hA (hW1 wb c rest fs o)
  rw [hf, hJ]
  exact head1 hQ J
end
end Go.Proofs

namespace Go.Proofs
open Go Go.Conc Go.Km
set_option linter.unusedSimpArgs false
set_option linter.unusedVariables false

theorem frame_of {A : (Nat → Nat) → Option KG} {o : Nat → Nat} {x : KG} {F : Frame} (hA : At A o x) (hr : x.g.status = .running) (hof : x.g.offers = none) (h : ((A o).map fun x => (x.g.frame, x.g.callers.isEmpty, x.g.dying.isNone)) = some (F, false, true)) :
    x.g = run' F (x.g.callers.headD default :: x.g.callers.tail) := by
  rw [hA.here] at h
  simp only [Option.map_some, Option.some.injEq, Prod.mk.injEq] at h
  obtain ⟨h1, h2, h3⟩ := h
  generalize x.g = g at *
  obtain ⟨fr, cs, stt, dy, off⟩ := g
  simp only at *
  subst h1 hr hof
  cases dy with
  | some d => cases h3
  | none =>
    cases cs with
    | nil => cases h2
    | cons c r => rfl

section
variable {cb wb : Nat} {Q : Goroutine → List Fact → WS → Prop} {c : Frame} {rest : List Frame} {fs : List Fact} {k : Nat}


theorem T_done0 : all3 (fun p0 p1 pm => decide (p0 = 2 → 2 ≤ pm →
    ((ST 2 p1 pm = 8589934592 ∧ ST 3 p1 pm = 4294967296 ∧ OK 3 p1 pm = true ∧ SM 3 p1 pm = SM 2 p1 pm) ∨ (ST 2 p1 pm = 4294967296 ∧ ST 3 p1 pm = 0 ∧ OK 3 p1 pm = true ∧ SM 3 p1 pm = SM 2 p1 pm) ∨ (ST 2 p1 pm = 8589934593 ∧ ST 3 p1 pm = 4294967297 ∧ OK 3 p1 pm = true ∧ SM 3 p1 pm = SM 2 p1 pm) ∨
     (ST 2 p1 pm = 4294967297 ∧ ST 4 p1 pm = 1 ∧ OK 4 p1 pm = true ∧ SM 4 p1 pm = SM 2 p1 pm)))) = true := by decide +kernel
theorem T_last0 : all3 (fun p0 p1 pm => decide (p0 = 4 → ST 4 p1 pm = 1 ∧ ST 6 p1 pm = 0 ∧ OK 6 p1 pm = true ∧ SM 6 p1 pm = SM 4 p1 pm)) = true := by decide +kernel
theorem T_rel0 : all3 (fun p0 p1 pm => decide (p0 = 6 → SM 6 p1 pm = 0 ∧ SM 7 p1 pm = 1 ∧ OK 7 p1 pm = true ∧ ST 7 p1 pm = ST 6 p1 pm)) = true := by decide +kernel
theorem T_cc0 (p1 : Nat) : C0 3 p1 = C0 2 p1 ∧ C0 4 p1 = C0 2 p1 ∧ C0 6 p1 = C0 4 p1 ∧ C0 7 p1 = C0 6 p1 ∧ C1 3 = C1 2 ∧ C1 4 = C1 2 ∧ C1 6 = C1 4 ∧ C1 7 = C1 6 := by simp [C0, C1]


/-- Done's Add(-1), worker 0 -/
theorem add_neg0 {m : Nat} (hq : QuitsD Try.prog m 0 (run' (c.finish (.tuple #[])) rest)) :
    Cert Try.prog (wT cb wb) Q (11 + (38 + (103 + (20 + (27 + (89 + m + 1) + 1) + 1) + 1) + 1 + 1)) (some 0) ⟨run' (Frame.enter Try.prog 49 #[.pointer (some ⟨wb, 0, none⟩), .int .i64 (-1)] .normal) (c :: rest), fs, κ0 2, 0, false, 0⟩ := by
  refine cert_seg (rel := false) (d := 0) (d' := 0) (orc := fun _ => 0) (at_N0 c rest fs _) rfl rfl (stab_0 2) (fun r' σ h hσ hl => by cases h; have hp : σ.p0 = 2 := hσ.2.1; have hl : σ.p0 = 3 ∨ σ.p0 = 7 := hl; omega) (List.replicate 11 {}) (fun o => ok_of (kN1 wb c rest fs o)) fun o x hA hr hof => ?_
  have hA : At (N1 wb c rest fs) o x := hA
  refine cert_look hA hr hof (stab_0 2) (fun r' σ h hσ hl => by cases h; have hp : σ.p0 = 2 := hσ.2.1; have hl : σ.p0 = 3 ∨ σ.p0 = 7 := hl; omega) fun σ2 hσ2 => ⟨hh [0, 0], 0, [], κ0 2, hσ2, ev_nil, fun o => okAct_sf (G := wgF wb σ2.st σ2.sm ++ cF cb σ2.c0 σ2.c1) rfl rfl (kN2 wb c rest fs _ _ _ o), fun o x2 hA2 hr2 hof2 hf2 => ?_⟩
  have hA2 : At (N2 wb c rest fs σ2.st σ2.sm (cF cb σ2.c0 σ2.c1)) o x2 := hA2
  refine cert_rel hA2 hr2 hof2 (stab_0 2) (fun r' σ h hσ hl => by cases h; have hp : σ.p0 = 2 := hσ.2.1; have hl : σ.p0 = 3 ∨ σ.p0 = 7 := hl; omega) fun σ3 hσ3 => ⟨hh [0], fun o => okAct_sf (G := wgF wb σ3.st σ3.sm ++ cF cb σ3.c0 σ3.c1) rfl rfl (kN3 wb c rest fs _ _ _ _ _ _ o), fun o x3 hA3 hr3 hof3 hf3 => ?_⟩
  have hA3 : At (N3 wb c rest fs σ2.st σ2.sm (cF cb σ2.c0 σ2.c1) σ3.st σ3.sm (cF cb σ3.c0 σ3.c1)) o x3 := hA3
  refine cert_seg (rel := true) (d := 0) (d' := 1) hA3 hr3 hof3 (stab_0 2) (fun r' σ h hσ hl => by cases h; have hp : σ.p0 = 2 := hσ.2.1; have hl : σ.p0 = 3 ∨ σ.p0 = 7 := hl; omega) (List.replicate 38 {}) (fun o => ok_of (kN4 wb c rest fs _ _ _ _ _ _ o)) fun o x4 hA4 hr4 hof4 => ?_
  have hA4 : At (N4 wb c rest fs σ2.st σ2.sm (cF cb σ2.c0 σ2.c1) σ3.st σ3.sm (cF cb σ3.c0 σ3.c1)) o x4 := hA4
  refine cert_act hA4 hr4 hof4 (stab_0 2) (fun r' σ h hσ hl => by cases h; have hp : σ.p0 = 2 := hσ.2.1; have hl : σ.p0 = 3 ∨ σ.p0 = 7 := hl; omega) (hA4.wake (wN5a wb c rest fs _ _ _ _ _ _ o)) fun σ hσ => ?_
  obtain ⟨hg, hp, hpm⟩ := hσ
  obtain ⟨p0, p1, pm, rfl, b0, b1, bm, ok⟩ := hg.cases
  have hp : p0 = 2 := hp
  subst hp
  left
  rcases of_decide_eq_true (all3_spec T_done0 b0 b1 bm ok) rfl hpm with ⟨e, e1, ok', e2⟩ | ⟨e, e1, ok', e2⟩ | ⟨e, e1, ok', e2⟩ | ⟨e, e1, ok', e2⟩
  · have hs := sf_at (cb := cb) (wb := wb) e rfl
    have hg' : GI (at_ 3 p1 pm) := GI.of (by omega) b1 bm ok'
    refine ⟨hh [0, 0], at_ 3 p1 pm, κ0 3, 1, _, ⟨hg', rfl, rfl, by show 2 ≤ 3; omega⟩, ⟨hg', rfl, hpm⟩, er_rw skIn0 (.inl rfl), fun o => okAct_sf hs (by obtain ⟨h1, h2, h3, h4, g1, g2, g3, g4⟩ := T_cc0 p1; rw [sf_at e1 e2]; simp only [h1, h2, h3, h4, g1, g2, g3, g4]) (kN5a wb c rest fs _ _ _ _ _ _ _ _ o), fun o x5 hA5 hr5 hof5 hf5 => ?_⟩
    have hA5 := at_sf hs hA5
    exact Cert.mono (k := 89 + m) (by omega) (cert_quit (quits_solo hr5 (At.solo (A := N5a wb c rest fs σ2.st σ2.sm (cF cb σ2.c0 σ2.c1) σ3.st σ3.sm (cF cb σ3.c0 σ3.c1) (SM 2 p1 pm) (cF cb (C0 2 p1) (C1 2))) hA5 (bN5a wb c rest fs _ _ _ _ _ _ _ _ o)) hq) (stab_0 3) fun σ hσ hb => hb (.inl hσ.2.1))
  · have hs := sf_at (cb := cb) (wb := wb) e rfl
    have hg' : GI (at_ 3 p1 pm) := GI.of (by omega) b1 bm ok'
    refine ⟨hh [0, 0], at_ 3 p1 pm, κ0 3, 1, _, ⟨hg', rfl, rfl, by show 2 ≤ 3; omega⟩, ⟨hg', rfl, hpm⟩, er_rw skIn0 (.inl rfl), fun o => okAct_sf hs (by obtain ⟨h1, h2, h3, h4, g1, g2, g3, g4⟩ := T_cc0 p1; rw [sf_at e1 e2]; simp only [h1, h2, h3, h4, g1, g2, g3, g4]) (kN5b wb c rest fs _ _ _ _ _ _ _ _ o), fun o x5 hA5 hr5 hof5 hf5 => ?_⟩
    have hA5 := at_sf hs hA5
    exact Cert.mono (k := 89 + m) (by omega) (cert_quit (quits_solo hr5 (At.solo (A := N5b wb c rest fs σ2.st σ2.sm (cF cb σ2.c0 σ2.c1) σ3.st σ3.sm (cF cb σ3.c0 σ3.c1) (SM 2 p1 pm) (cF cb (C0 2 p1) (C1 2))) hA5 (bN5b wb c rest fs _ _ _ _ _ _ _ _ o)) hq) (stab_0 3) fun σ hσ hb => hb (.inl hσ.2.1))
  · have hs := sf_at (cb := cb) (wb := wb) e rfl
    have hg' : GI (at_ 3 p1 pm) := GI.of (by omega) b1 bm ok'
    refine ⟨hh [0, 0], at_ 3 p1 pm, κ0 3, 1, _, ⟨hg', rfl, rfl, by show 2 ≤ 3; omega⟩, ⟨hg', rfl, hpm⟩, er_rw skIn0 (.inl rfl), fun o => okAct_sf hs (by obtain ⟨h1, h2, h3, h4, g1, g2, g3, g4⟩ := T_cc0 p1; rw [sf_at e1 e2]; simp only [h1, h2, h3, h4, g1, g2, g3, g4]) (kN5e wb c rest fs _ _ _ _ _ _ _ _ o), fun o x5 hA5 hr5 hof5 hf5 => ?_⟩
    have hA5 := at_sf hs hA5
    exact Cert.mono (k := 89 + m) (by omega) (cert_quit (quits_solo hr5 (At.solo (A := N5e wb c rest fs σ2.st σ2.sm (cF cb σ2.c0 σ2.c1) σ3.st σ3.sm (cF cb σ3.c0 σ3.c1) (SM 2 p1 pm) (cF cb (C0 2 p1) (C1 2))) hA5 (bN5e wb c rest fs _ _ _ _ _ _ _ _ o)) hq) (stab_0 3) fun σ hσ hb => hb (.inl hσ.2.1))
  · have hs := sf_at (cb := cb) (wb := wb) e rfl
    have hg' : GI (at_ 4 p1 pm) := GI.of (by omega) b1 bm ok'
    refine ⟨hh [0, 0], at_ 4 p1 pm, κ0 4, 1, _, ⟨hg', rfl, rfl, by show 2 ≤ 4; omega⟩, ⟨hg', rfl, hpm⟩, er_rw skIn0 (.inl rfl), fun o => okAct_sf hs (by obtain ⟨h1, h2, h3, h4, g1, g2, g3, g4⟩ := T_cc0 p1; rw [sf_at e1 e2]; simp only [h1, h2, h3, h4, g1, g2, g3, g4]) (kN5l wb c rest fs _ _ _ _ _ _ _ _ o), fun o x5 hA5 hr5 hof5 hf5 => ?_⟩
    have hA5 := at_sf hs hA5
    refine cert_seg (rel := true) (d := 1) (d' := 1) hA5 hr5 hof5 (stab_0 4) (fun r' σ h hσ hl => by cases h; have hp : σ.p0 = 4 := hσ.2.1; have hl : σ.p0 = 3 ∨ σ.p0 = 7 := hl; omega) (List.replicate 103 {}) (fun o => ok_of (kN6 wb c rest fs _ _ _ _ _ _ _ _ o)) fun o x6 hA6 hr6 hof6 => ?_
    refine cert_look hA6 hr6 hof6 (stab_0 4) (fun r' σ h hσ hl => by cases h; have hp : σ.p0 = 4 := hσ.2.1; have hl : σ.p0 = 3 ∨ σ.p0 = 7 := hl; omega) fun σ7 hσ7 => ?_
    obtain ⟨hg7, hp7, hpm7⟩ := hσ7
    obtain ⟨q0, q1, qm, rfl, c0, c1, cm, ok7⟩ := hg7.cases
    obtain ⟨e7, _⟩ := of_decide_eq_true (all3_spec T_last0 c0 c1 cm ok7) hp7
    have hp7' : q0 = 4 := hp7
    subst hp7'
    have hs7 := sf_at (cb := cb) (wb := wb) e7 rfl
    refine ⟨hh [0], 1, _, κ0 4, ⟨hg7, hp7, hpm7⟩, er_one false skIn0 (.inl rfl), fun o => okAct_sf hs7 hs7 (kN7 wb c rest fs _ _ _ _ _ _ _ _ _ _ o), fun o x7 hA7 hr7 hof7 hf7 => ?_⟩
    have hA7 := at_sf hs7 hA7
    refine cert_seg (rel := true) (d := 1) (d' := 1) hA7 hr7 hof7 (stab_0 4) (fun r' σ h hσ hl => by cases h; have hp : σ.p0 = 4 := hσ.2.1; have hl : σ.p0 = 3 ∨ σ.p0 = 7 := hl; omega) (List.replicate 20 {}) (fun o => ok_of (kN8 wb c rest fs _ _ _ _ _ _ _ _ _ _ o)) fun o x8 hA8 hr8 hof8 => ?_
    refine cert_act hA8 hr8 hof8 (stab_0 4) (fun r' σ h hσ hl => by cases h; have hp : σ.p0 = 4 := hσ.2.1; have hl : σ.p0 = 3 ∨ σ.p0 = 7 := hl; omega) (At.wake hA8 (wN9 wb c rest fs _ _ _ _ _ _ _ _ _ _ o)) fun σ hσ => ?_
    clear e e1 ok' e2 hg' hg ok b0 b1 bm hpm
    obtain ⟨hg, hp, hpm⟩ := hσ
    obtain ⟨p0, p1, pm, rfl, b0, b1, bm, ok⟩ := hg.cases
    have hp : p0 = 4 := hp
    subst hp
    obtain ⟨e, e1, ok', e2⟩ := of_decide_eq_true (all3_spec T_last0 b0 b1 bm ok) rfl
    have hs9 := sf_at (cb := cb) (wb := wb) e rfl
    have hg' : GI (at_ 6 p1 pm) := GI.of (by omega) b1 bm ok'
    refine .inl ⟨hh [0], at_ 6 p1 pm, κ0 6, 1, _, ⟨hg', rfl, rfl, by show 4 ≤ 6; omega⟩, ⟨hg', rfl, hpm⟩, er_one true skIn0 (.inl rfl), fun o => okAct_sf hs9 (by obtain ⟨h1, h2, h3, h4, g1, g2, g3, g4⟩ := T_cc0 p1; rw [sf_at e1 e2]; simp only [h1, h2, h3, h4, g1, g2, g3, g4]) (kN9 wb c rest fs _ _ _ _ _ _ _ _ _ _ _ _ o), fun o x9 hA9 hr9 hof9 hf9 => ?_⟩
    have hA9 := at_sf hs9 hA9
    refine cert_seg (rel := true) (d := 1) (d' := 1) hA9 hr9 hof9 (stab_0 6) (fun r' σ h hσ hl => by cases h; have hp : σ.p0 = 6 := hσ.2.1; have hl : σ.p0 = 3 ∨ σ.p0 = 7 := hl; omega) (List.replicate 27 {}) (fun o => ok_of (kN10 wb c rest fs _ _ _ _ _ _ _ _ _ _ _ _ o)) fun o x10 hA10 hr10 hof10 => ?_
    refine cert_act hA10 hr10 hof10 (stab_0 6) (fun r' σ h hσ hl => by cases h; have hp : σ.p0 = 6 := hσ.2.1; have hl : σ.p0 = 3 ∨ σ.p0 = 7 := hl; omega) (At.wake hA10 (wN11 wb c rest fs _ _ _ _ _ _ _ _ _ _ _ _ o)) fun σ hσ => ?_
    clear e e1 ok' e2 hg' hg ok b0 b1 bm hpm
    obtain ⟨hg, hp, hpm⟩ := hσ
    obtain ⟨s0, s1, sm, rfl, b0, b1, bm, ok⟩ := hg.cases
    have hp : s0 = 6 := hp
    subst hp
    obtain ⟨e, e1, ok', e2⟩ := of_decide_eq_true (all3_spec T_rel0 b0 b1 bm ok) rfl
    have hs11 := sf_at (cb := cb) (wb := wb) rfl e
    have hg' : GI (at_ 7 s1 sm) := GI.of (by omega) b1 bm ok'
    refine .inl ⟨hh [1, 1], at_ 7 s1 sm, κ0 7, 1, _, ⟨hg', rfl, rfl, by show 6 ≤ 7; omega⟩, ⟨hg', rfl, hpm⟩, er_sema skIn1 (.inr rfl), fun o => okAct_sf hs11 (by obtain ⟨h1, h2, h3, h4, g1, g2, g3, g4⟩ := T_cc0 s1; rw [sf_at e2 e1]; simp only [h1, h2, h3, h4, g1, g2, g3, g4]) (kN11 wb c rest fs _ _ _ _ _ _ _ _ _ _ _ _ _ _ o), fun o x11 hA11 hr11 hof11 hf11 => ?_⟩
    have hA11 := at_sf hs11 hA11
    exact Cert.mono (k := 19 + m) (by omega) (cert_quit (quits_solo hr11 (At.solo hA11 (bN11 wb c rest fs _ _ _ _ _ _ _ _ _ _ _ _ _ _ o)) hq) (stab_0 7) fun σ hσ hb => hb (.inr hσ.2.1))


theorem T_done1 : all3 (fun p0 p1 pm => decide (p1 = 1 → 4 ≤ pm →
    ((ST p0 1 pm = 8589934592 ∧ ST p0 3 pm = 4294967296 ∧ OK p0 3 pm = true ∧ SM p0 3 pm = SM p0 1 pm) ∨ (ST p0 1 pm = 4294967296 ∧ ST p0 3 pm = 0 ∧ OK p0 3 pm = true ∧ SM p0 3 pm = SM p0 1 pm) ∨ (ST p0 1 pm = 8589934593 ∧ ST p0 3 pm = 4294967297 ∧ OK p0 3 pm = true ∧ SM p0 3 pm = SM p0 1 pm) ∨
     (ST p0 1 pm = 4294967297 ∧ ST p0 4 pm = 1 ∧ OK p0 4 pm = true ∧ SM p0 4 pm = SM p0 1 pm)))) = true := by decide +kernel
theorem T_last1 : all3 (fun p0 p1 pm => decide (p1 = 4 → ST p0 4 pm = 1 ∧ ST p0 6 pm = 0 ∧ OK p0 6 pm = true ∧ SM p0 6 pm = SM p0 4 pm)) = true := by decide +kernel
theorem T_rel1 : all3 (fun p0 p1 pm => decide (p1 = 6 → SM p0 6 pm = 0 ∧ SM p0 7 pm = 1 ∧ OK p0 7 pm = true ∧ ST p0 7 pm = ST p0 6 pm)) = true := by decide +kernel
theorem T_cc1 (p1 : Nat) : C0 p1 3 = C0 p1 1 ∧ C0 p1 4 = C0 p1 1 ∧ C0 p1 6 = C0 p1 4 ∧ C0 p1 7 = C0 p1 6 := by simp [C0, C1]


/-- Done's Add(-1), worker 1 -/
theorem add_neg1 {m : Nat} (hq : QuitsD Try.prog m 0 (run' (c.finish (.tuple #[])) rest)) :
    Cert Try.prog (wT cb wb) Q (11 + (38 + (103 + (20 + (27 + (89 + m + 1) + 1) + 1) + 1) + 1 + 1)) (some 1) ⟨run' (Frame.enter Try.prog 49 #[.pointer (some ⟨wb, 0, none⟩), .int .i64 (-1)] .normal) (c :: rest), fs, κ1 1, 0, false, 0⟩ := by
  refine cert_seg (rel := false) (d := 0) (d' := 0) (orc := fun _ => 0) (at_N0 c rest fs _) rfl rfl (stab_1 1) (fun r' σ h hσ hl => by cases h; have hp : σ.p1 = 1 := hσ.2.1; have hl : σ.p1 = 3 ∨ σ.p1 = 7 := hl; omega) (List.replicate 11 {}) (fun o => ok_of (kN1 wb c rest fs o)) fun o x hA hr hof => ?_
  have hA : At (N1 wb c rest fs) o x := hA
  refine cert_look hA hr hof (stab_1 1) (fun r' σ h hσ hl => by cases h; have hp : σ.p1 = 1 := hσ.2.1; have hl : σ.p1 = 3 ∨ σ.p1 = 7 := hl; omega) fun σ2 hσ2 => ⟨hh [0, 0], 0, [], κ1 1, hσ2, ev_nil, fun o => okAct_sf (G := wgF wb σ2.st σ2.sm ++ cF cb σ2.c0 σ2.c1) rfl rfl (kN2 wb c rest fs _ _ _ o), fun o x2 hA2 hr2 hof2 hf2 => ?_⟩
  have hA2 : At (N2 wb c rest fs σ2.st σ2.sm (cF cb σ2.c0 σ2.c1)) o x2 := hA2
  refine cert_rel hA2 hr2 hof2 (stab_1 1) (fun r' σ h hσ hl => by cases h; have hp : σ.p1 = 1 := hσ.2.1; have hl : σ.p1 = 3 ∨ σ.p1 = 7 := hl; omega) fun σ3 hσ3 => ⟨hh [0], fun o => okAct_sf (G := wgF wb σ3.st σ3.sm ++ cF cb σ3.c0 σ3.c1) rfl rfl (kN3 wb c rest fs _ _ _ _ _ _ o), fun o x3 hA3 hr3 hof3 hf3 => ?_⟩
  have hA3 : At (N3 wb c rest fs σ2.st σ2.sm (cF cb σ2.c0 σ2.c1) σ3.st σ3.sm (cF cb σ3.c0 σ3.c1)) o x3 := hA3
  refine cert_seg (rel := true) (d := 0) (d' := 1) hA3 hr3 hof3 (stab_1 1) (fun r' σ h hσ hl => by cases h; have hp : σ.p1 = 1 := hσ.2.1; have hl : σ.p1 = 3 ∨ σ.p1 = 7 := hl; omega) (List.replicate 38 {}) (fun o => ok_of (kN4 wb c rest fs _ _ _ _ _ _ o)) fun o x4 hA4 hr4 hof4 => ?_
  have hA4 : At (N4 wb c rest fs σ2.st σ2.sm (cF cb σ2.c0 σ2.c1) σ3.st σ3.sm (cF cb σ3.c0 σ3.c1)) o x4 := hA4
  refine cert_act hA4 hr4 hof4 (stab_1 1) (fun r' σ h hσ hl => by cases h; have hp : σ.p1 = 1 := hσ.2.1; have hl : σ.p1 = 3 ∨ σ.p1 = 7 := hl; omega) (hA4.wake (wN5a wb c rest fs _ _ _ _ _ _ o)) fun σ hσ => ?_
  obtain ⟨hg, hp, hpm⟩ := hσ
  obtain ⟨p0, p1, pm, rfl, b0, b1, bm, ok⟩ := hg.cases
  have hp : p1 = 1 := hp
  subst hp
  left
  rcases of_decide_eq_true (all3_spec T_done1 b0 b1 bm ok) rfl hpm with ⟨e, e1, ok', e2⟩ | ⟨e, e1, ok', e2⟩ | ⟨e, e1, ok', e2⟩ | ⟨e, e1, ok', e2⟩
  · have hs := sf_at (cb := cb) (wb := wb) e rfl
    have hg' : GI (at_ p0 3 pm) := GI.of b0 (by omega) bm ok'
    refine ⟨hh [0, 0], at_ p0 3 pm, κ1 3, 1, _, ⟨hg', rfl, rfl, by show 1 ≤ 3; omega⟩, ⟨hg', rfl, hpm⟩, er_rw skIn0 (.inl rfl), fun o => okAct_sf hs (by obtain ⟨h1, h2, h3, h4⟩ := T_cc1 p0; rw [sf_at e1 e2]; simp only [h1, h2, h3, h4]) (kN5a wb c rest fs _ _ _ _ _ _ _ _ o), fun o x5 hA5 hr5 hof5 hf5 => ?_⟩
    have hA5 := at_sf hs hA5
    exact Cert.mono (k := 89 + m) (by omega) (cert_quit (quits_solo hr5 (At.solo (A := N5a wb c rest fs σ2.st σ2.sm (cF cb σ2.c0 σ2.c1) σ3.st σ3.sm (cF cb σ3.c0 σ3.c1) (SM p0 1 pm) (cF cb (C0 p0 1) (C1 p0))) hA5 (bN5a wb c rest fs _ _ _ _ _ _ _ _ o)) hq) (stab_1 3) fun σ hσ hb => hb (.inl hσ.2.1))
  · have hs := sf_at (cb := cb) (wb := wb) e rfl
    have hg' : GI (at_ p0 3 pm) := GI.of b0 (by omega) bm ok'
    refine ⟨hh [0, 0], at_ p0 3 pm, κ1 3, 1, _, ⟨hg', rfl, rfl, by show 1 ≤ 3; omega⟩, ⟨hg', rfl, hpm⟩, er_rw skIn0 (.inl rfl), fun o => okAct_sf hs (by obtain ⟨h1, h2, h3, h4⟩ := T_cc1 p0; rw [sf_at e1 e2]; simp only [h1, h2, h3, h4]) (kN5b wb c rest fs _ _ _ _ _ _ _ _ o), fun o x5 hA5 hr5 hof5 hf5 => ?_⟩
    have hA5 := at_sf hs hA5
    exact Cert.mono (k := 89 + m) (by omega) (cert_quit (quits_solo hr5 (At.solo (A := N5b wb c rest fs σ2.st σ2.sm (cF cb σ2.c0 σ2.c1) σ3.st σ3.sm (cF cb σ3.c0 σ3.c1) (SM p0 1 pm) (cF cb (C0 p0 1) (C1 p0))) hA5 (bN5b wb c rest fs _ _ _ _ _ _ _ _ o)) hq) (stab_1 3) fun σ hσ hb => hb (.inl hσ.2.1))
  · have hs := sf_at (cb := cb) (wb := wb) e rfl
    have hg' : GI (at_ p0 3 pm) := GI.of b0 (by omega) bm ok'
    refine ⟨hh [0, 0], at_ p0 3 pm, κ1 3, 1, _, ⟨hg', rfl, rfl, by show 1 ≤ 3; omega⟩, ⟨hg', rfl, hpm⟩, er_rw skIn0 (.inl rfl), fun o => okAct_sf hs (by obtain ⟨h1, h2, h3, h4⟩ := T_cc1 p0; rw [sf_at e1 e2]; simp only [h1, h2, h3, h4]) (kN5e wb c rest fs _ _ _ _ _ _ _ _ o), fun o x5 hA5 hr5 hof5 hf5 => ?_⟩
    have hA5 := at_sf hs hA5
    exact Cert.mono (k := 89 + m) (by omega) (cert_quit (quits_solo hr5 (At.solo (A := N5e wb c rest fs σ2.st σ2.sm (cF cb σ2.c0 σ2.c1) σ3.st σ3.sm (cF cb σ3.c0 σ3.c1) (SM p0 1 pm) (cF cb (C0 p0 1) (C1 p0))) hA5 (bN5e wb c rest fs _ _ _ _ _ _ _ _ o)) hq) (stab_1 3) fun σ hσ hb => hb (.inl hσ.2.1))
  · have hs := sf_at (cb := cb) (wb := wb) e rfl
    have hg' : GI (at_ p0 4 pm) := GI.of b0 (by omega) bm ok'
    refine ⟨hh [0, 0], at_ p0 4 pm, κ1 4, 1, _, ⟨hg', rfl, rfl, by show 1 ≤ 4; omega⟩, ⟨hg', rfl, hpm⟩, er_rw skIn0 (.inl rfl), fun o => okAct_sf hs (by obtain ⟨h1, h2, h3, h4⟩ := T_cc1 p0; rw [sf_at e1 e2]; simp only [h1, h2, h3, h4]) (kN5l wb c rest fs _ _ _ _ _ _ _ _ o), fun o x5 hA5 hr5 hof5 hf5 => ?_⟩
    have hA5 := at_sf hs hA5
    refine cert_seg (rel := true) (d := 1) (d' := 1) hA5 hr5 hof5 (stab_1 4) (fun r' σ h hσ hl => by cases h; have hp : σ.p1 = 4 := hσ.2.1; have hl : σ.p1 = 3 ∨ σ.p1 = 7 := hl; omega) (List.replicate 103 {}) (fun o => ok_of (kN6 wb c rest fs _ _ _ _ _ _ _ _ o)) fun o x6 hA6 hr6 hof6 => ?_
    refine cert_look hA6 hr6 hof6 (stab_1 4) (fun r' σ h hσ hl => by cases h; have hp : σ.p1 = 4 := hσ.2.1; have hl : σ.p1 = 3 ∨ σ.p1 = 7 := hl; omega) fun σ7 hσ7 => ?_
    obtain ⟨hg7, hp7, hpm7⟩ := hσ7
    obtain ⟨q0, q1, qm, rfl, c0, c1, cm, ok7⟩ := hg7.cases
    obtain ⟨e7, _⟩ := of_decide_eq_true (all3_spec T_last1 c0 c1 cm ok7) hp7
    have hp7' : q1 = 4 := hp7
    subst hp7'
    have hs7 := sf_at (cb := cb) (wb := wb) e7 rfl
    refine ⟨hh [0], 1, _, κ1 4, ⟨hg7, hp7, hpm7⟩, er_one false skIn0 (.inl rfl), fun o => okAct_sf hs7 hs7 (kN7 wb c rest fs _ _ _ _ _ _ _ _ _ _ o), fun o x7 hA7 hr7 hof7 hf7 => ?_⟩
    have hA7 := at_sf hs7 hA7
    refine cert_seg (rel := true) (d := 1) (d' := 1) hA7 hr7 hof7 (stab_1 4) (fun r' σ h hσ hl => by cases h; have hp : σ.p1 = 4 := hσ.2.1; have hl : σ.p1 = 3 ∨ σ.p1 = 7 := hl; omega) (List.replicate 20 {}) (fun o => ok_of (kN8 wb c rest fs _ _ _ _ _ _ _ _ _ _ o)) fun o x8 hA8 hr8 hof8 => ?_
    refine cert_act hA8 hr8 hof8 (stab_1 4) (fun r' σ h hσ hl => by cases h; have hp : σ.p1 = 4 := hσ.2.1; have hl : σ.p1 = 3 ∨ σ.p1 = 7 := hl; omega) (At.wake hA8 (wN9 wb c rest fs _ _ _ _ _ _ _ _ _ _ o)) fun σ hσ => ?_
    clear e e1 ok' e2 hg' hg ok b0 b1 bm hpm
    obtain ⟨hg, hp, hpm⟩ := hσ
    obtain ⟨p0, p1, pm, rfl, b0, b1, bm, ok⟩ := hg.cases
    have hp : p1 = 4 := hp
    subst hp
    obtain ⟨e, e1, ok', e2⟩ := of_decide_eq_true (all3_spec T_last1 b0 b1 bm ok) rfl
    have hs9 := sf_at (cb := cb) (wb := wb) e rfl
    have hg' : GI (at_ p0 6 pm) := GI.of b0 (by omega) bm ok'
    refine .inl ⟨hh [0], at_ p0 6 pm, κ1 6, 1, _, ⟨hg', rfl, rfl, by show 4 ≤ 6; omega⟩, ⟨hg', rfl, hpm⟩, er_one true skIn0 (.inl rfl), fun o => okAct_sf hs9 (by obtain ⟨h1, h2, h3, h4⟩ := T_cc1 p0; rw [sf_at e1 e2]; simp only [h1, h2, h3, h4]) (kN9 wb c rest fs _ _ _ _ _ _ _ _ _ _ _ _ o), fun o x9 hA9 hr9 hof9 hf9 => ?_⟩
    have hA9 := at_sf hs9 hA9
    refine cert_seg (rel := true) (d := 1) (d' := 1) hA9 hr9 hof9 (stab_1 6) (fun r' σ h hσ hl => by cases h; have hp : σ.p1 = 6 := hσ.2.1; have hl : σ.p1 = 3 ∨ σ.p1 = 7 := hl; omega) (List.replicate 27 {}) (fun o => ok_of (kN10 wb c rest fs _ _ _ _ _ _ _ _ _ _ _ _ o)) fun o x10 hA10 hr10 hof10 => ?_
    refine cert_act hA10 hr10 hof10 (stab_1 6) (fun r' σ h hσ hl => by cases h; have hp : σ.p1 = 6 := hσ.2.1; have hl : σ.p1 = 3 ∨ σ.p1 = 7 := hl; omega) (At.wake hA10 (wN11 wb c rest fs _ _ _ _ _ _ _ _ _ _ _ _ o)) fun σ hσ => ?_
    clear e e1 ok' e2 hg' hg ok b0 b1 bm hpm
    obtain ⟨hg, hp, hpm⟩ := hσ
    obtain ⟨s0, s1, sm, rfl, b0, b1, bm, ok⟩ := hg.cases
    have hp : s1 = 6 := hp
    subst hp
    obtain ⟨e, e1, ok', e2⟩ := of_decide_eq_true (all3_spec T_rel1 b0 b1 bm ok) rfl
    have hs11 := sf_at (cb := cb) (wb := wb) rfl e
    have hg' : GI (at_ s0 7 sm) := GI.of b0 (by omega) bm ok'
    refine .inl ⟨hh [1, 1], at_ s0 7 sm, κ1 7, 1, _, ⟨hg', rfl, rfl, by show 6 ≤ 7; omega⟩, ⟨hg', rfl, hpm⟩, er_sema skIn1 (.inr rfl), fun o => okAct_sf hs11 (by obtain ⟨h1, h2, h3, h4⟩ := T_cc1 s0; rw [sf_at e2 e1]; simp only [h1, h2, h3, h4]) (kN11 wb c rest fs _ _ _ _ _ _ _ _ _ _ _ _ _ _ o), fun o x11 hA11 hr11 hof11 hf11 => ?_⟩
    have hA11 := at_sf hs11 hA11
    exact Cert.mono (k := 19 + m) (by omega) (cert_quit (quits_solo hr11 (At.solo hA11 (bN11 wb c rest fs _ _ _ _ _ _ _ _ _ _ _ _ _ _ o)) hq) (stab_1 7) fun σ hσ hb => hb (.inr hσ.2.1))

end
end Go.Proofs

namespace Go.Proofs
open Go Go.Conc Go.Km
set_option linter.unusedSimpArgs false
set_option linter.unusedVariables false

section
variable {Q : Goroutine → List Fact → WS → Prop} {k : Nat} {b : Nat → Nat}

theorem at_ret {A : (Nat → Nat) → Option KG} {o : Nat → Nat} {x : KG} (hA : At A o x) : At (retA A) o { x with g := run' ((x.g.callers.headD default).finish (.tuple #[])) x.g.callers.tail } := fun o' ho' => by
  have := hA o' ho'
  simp only [retA, this, Option.map_some]

theorem quits_out {r : Option (KG × Array Event)} {o' : Nat → Nat} {n : Nat} {g : Goroutine} (hg : g.status = .running) (hr : soloA Try.prog o' Event.mute n g = r) (h1 : (r.map fun p => (p.1.g, p.1.k, p.1.owe, p.1.oweV, deafBehind 0 p.2)) = r.map fun p => (run' p.1.g.frame [], 0, [], [], 0))
    (h2 : (r.map fun p => (p.1.g.frame.defers, p.1.g.frame.catches Try.prog)) = some ([], false)) (h3 : (r.map fun p => p.1.g.frame.mode) = some (.panicking [goexitEntry])) : QuitsD Try.prog (n + 1) 0 g := by
  cases hr' : r with
  | none => rw [hr'] at h2; simp at h2
  | some p =>
    obtain ⟨x, ev⟩ := p
    rw [hr'] at h1 h2 h3
    simp only [Option.map_some, Option.some.injEq, Prod.mk.injEq] at h1 h2 h3
    refine quits_solo hg ⟨x, ev, hr.trans hr', rfl, h1.2.1, h1.2.2.1, h1.2.2.2.1, h1.2.2.2.2⟩ ?_
    rw [h1.1]
    exact quits_end h3 h2.1 h2.2


theorem T_u2 : all3 (fun p0 p1 pm => decide (p0 = 0 → IntKind.u64.wrap (C0 0 p1 + 5) = C0 1 p1 ∧ C1 1 = C1 0 ∧ ST 1 p1 pm = ST 0 p1 pm ∧ SM 1 p1 pm = SM 0 p1 pm ∧ (2 ≤ pm → OK 1 p1 pm = true))) = true := by decide +kernel
theorem T_u4 : all3 (fun p0 p1 pm => decide (p0 = 1 → IntKind.u64.wrap (C1 1 + 1) = C1 2 ∧ C0 2 p1 = C0 1 p1 ∧ ST 2 p1 pm = ST 1 p1 pm ∧ SM 2 p1 pm = SM 1 p1 pm ∧ (2 ≤ pm → OK 2 p1 pm = true))) = true := by decide +kernel
theorem T_x2 : all3 (fun p0 p1 pm => decide (p1 = 0 → IntKind.u64.wrap (C0 p0 0 + 1) = C0 p0 1 ∧ ST p0 1 pm = ST p0 0 pm ∧ SM p0 1 pm = SM p0 0 pm ∧ (4 ≤ pm → OK p0 1 pm = true))) = true := by decide +kernel

def hU1 : List Hint := flat [(6, [23], none), (0, [24], none), (3, [14], none), (2, [11], none), (17, [5, 6], none), (1, [25, 26], none), (2, [16], none), (0, [13], none), (1, [25], none), (1, [26], none), (27, [15], none), (11, [15], none), (13, [15], none)] 88
def hU3 : List Hint := flat [(30, [7, 8], none), (1, [27, 28], none), (2, [16], none), (0, [13], none), (1, [27], none), (1, [28], none), (27, [15], none), (11, [15], none), (13, [15], none)] 88
def hX1 : List Hint := flat [(6, [23], none), (0, [25], none), (3, [14], none), (2, [12], none), (17, [9, 10], none), (1, [26, 27], none), (2, [16], none), (0, [13], none), (1, [26], none), (1, [27], none), (27, [15], none), (11, [15], none), (13, [15], none)] 88

theorem at_U0 (o : Nat → Nat) : At (U0 b) o (K0 (born Try.prog (bornD (b 16) (b 15) (b 17))) (wFacts b ++ [iFact (b 17) 0])) := fun _ _ => rfl
theorem at_X0 (o : Nat → Nat) : At (X0 b) o (K0 (born Try.prog (bornD (b 16) (b 15) (b 18))) (wFacts b ++ [iFact (b 17) 0, iFact (b 18) 1])) := fun _ _ => rfl
def NB : Nat := 11 + (38 + (103 + (20 + (27 + (89 + 5 + 1) + 1) + 1) + 1) + 1 + 1)

theorem workerEnd0 {o : Nat → Nat} {x : KG} {st2 sm2 x2 y2 st4 sm4 x4 y4 : Int} (hA : At (UE b st2 sm2 x2 y2 st4 sm4 x4 y4) o x) (hr : x.g.status = .running) (hof : x.g.offers = none) :
    Cert Try.prog (wT (b 9) (b 16)) Q NB (some 0) ⟨x.g, x.fs, κ0 2, 0, false, 0⟩ := by
  rw [frame_of hA hr hof (gUE b st2 sm2 x2 y2 st4 sm4 x4 y4 o)]
  have hR := at_ret hA
  have hq := quits_out (g := run' ((x.g.callers.headD default).finish (.tuple #[])) x.g.callers.tail) (n := 4) (o' := fun _ => 0) (r := Uend b st2 sm2 x2 y2 st4 sm4 x4 y4 o) rfl (by simp only [Uend, hR.here, Option.bind_some]) (qU b _ _ _ _ _ _ _ _ o) (rU b _ _ _ _ _ _ _ _ o) (mU b _ _ _ _ _ _ _ _ o)
  exact add_neg0 hq
theorem workerEnd1 {o : Nat → Nat} {x : KG} {st2 sm2 x2 y2 : Int} (hA : At (XE b st2 sm2 x2 y2) o x) (hr : x.g.status = .running) (hof : x.g.offers = none) :
    Cert Try.prog (wT (b 9) (b 16)) Q NB (some 1) ⟨x.g, x.fs, κ1 1, 0, false, 0⟩ := by
  rw [frame_of hA hr hof (gXE b st2 sm2 x2 y2 o)]
  have hR := at_ret hA
  have hq := quits_out (g := run' ((x.g.callers.headD default).finish (.tuple #[])) x.g.callers.tail) (n := 4) (o' := fun _ => 0) (r := Xend b st2 sm2 x2 y2 o) rfl (by simp only [Xend, hR.here, Option.bind_some]) (qX b _ _ _ _ o) (rX b _ _ _ _ o) (mX b _ _ _ _ o)
  exact add_neg1 hq

set_option maxRecDepth 100000 in
theorem worker0 : Cert Try.prog (wT (b 9) (b 16)) Q (hU1.length + (hU3.length + ((List.replicate 33 ({} : Hint)).length + NB + 1) + 1)) (some 0) ⟨born Try.prog (bornD (b 16) (b 15) (b 17)), wFacts b ++ [iFact (b 17) 0], κ0 0, 0, false, 0⟩ := by
  refine cert_seg (rel := false) (d := 0) (d' := 0) (orc := fun _ => 0) (at_U0 _) rfl rfl (stab_0 0) (fun r' σ h hσ hl => by cases h; have hp : σ.p0 = 0 := hσ.2.1; have hl : σ.p0 = 3 ∨ σ.p0 = 7 := hl; omega) hU1 (fun o => ok_of (kU1 b o)) fun o x1 hA1 hr1 hof1 => ?_
  have hA1 : At (U1 b) o x1 := hA1
  refine cert_act hA1 hr1 hof1 (stab_0 0) (fun r' σ h hσ hl => by cases h; have hp : σ.p0 = 0 := hσ.2.1; have hl : σ.p0 = 3 ∨ σ.p0 = 7 := hl; omega) (hA1.wake (wU2 b o)) fun σ hσ => ?_
  obtain ⟨hg, hp, hpm⟩ := hσ
  obtain ⟨p0, p1, pm, rfl, b0, b1, bm, ok⟩ := hg.cases
  have hp : p0 = 0 := hp
  subst hp
  obtain ⟨e1, e2, e3, e4, ok'⟩ := of_decide_eq_true (all3_spec T_u2 b0 b1 bm ok) rfl
  have hg' : GI (at_ 1 p1 pm) := GI.of (by omega) b1 bm (ok' hpm)
  refine .inl ⟨hh [2, 2], at_ 1 p1 pm, κ0 1, 0, _, ⟨hg', rfl, rfl, by show 0 ≤ 1; omega⟩, ⟨hg', rfl, hpm⟩, ev_rw skC0, fun o => okAct_sf (sf_at rfl rfl) (by rw [sf_at e3 e4, ← e1, e2]) (kU2 b _ _ _ _ o), fun o x2 hA2 hr2 hof2 _ => ?_⟩
  have hA2 := at_sf (sf_at rfl rfl) hA2
  refine cert_seg (rel := false) (d := 0) (d' := 0) hA2 hr2 hof2 (stab_0 1) (fun r' σ h hσ hl => by cases h; have hp : σ.p0 = 1 := hσ.2.1; have hl : σ.p0 = 3 ∨ σ.p0 = 7 := hl; omega) hU3 (fun o => ok_of (kU3 b _ _ _ _ o)) fun o x3 hA3 hr3 hof3 => ?_
  refine cert_act hA3 hr3 hof3 (stab_0 1) (fun r' σ h hσ hl => by cases h; have hp : σ.p0 = 1 := hσ.2.1; have hl : σ.p0 = 3 ∨ σ.p0 = 7 := hl; omega) (At.wake hA3 (wU4 b _ _ _ _ o)) fun σ hσ => ?_
  clear e1 e2 e3 e4 ok' hg' ok b0 b1 bm hpm hg
  obtain ⟨hg, hp, hpm⟩ := hσ
  obtain ⟨q0, q1, qm, rfl, b0, b1, bm, ok⟩ := hg.cases
  have hp : q0 = 1 := hp
  subst hp
  obtain ⟨e1, e2, e3, e4, ok'⟩ := of_decide_eq_true (all3_spec T_u4 b0 b1 bm ok) rfl
  have hg' : GI (at_ 2 q1 qm) := GI.of (by omega) b1 bm (ok' hpm)
  refine .inl ⟨hh [3, 3], at_ 2 q1 qm, κ0 2, 0, _, ⟨hg', rfl, rfl, by show 1 ≤ 2; omega⟩, ⟨hg', rfl, hpm⟩, ev_rw skC1, fun o => okAct_sf (sf_at rfl rfl) (by rw [sf_at e3 e4, ← e1, e2]) (kU4 b _ _ _ _ _ _ _ _ o), fun o x4 hA4 hr4 hof4 _ => ?_⟩
  have hA4 := at_sf (sf_at rfl rfl) hA4
  exact cert_seg (rel := false) (d := 0) (d' := 0) hA4 hr4 hof4 (stab_0 2) (fun r' σ h hσ hl => by cases h; have hp : σ.p0 = 2 := hσ.2.1; have hl : σ.p0 = 3 ∨ σ.p0 = 7 := hl; omega) (List.replicate 33 {}) (fun o => ok_of (kUE b _ _ _ _ _ _ _ _ o)) fun o x5 hA5 hr5 hof5 => workerEnd0 hA5 hr5 hof5

set_option maxRecDepth 100000 in
theorem worker1 : Cert Try.prog (wT (b 9) (b 16)) Q (hX1.length + ((List.replicate 33 ({} : Hint)).length + NB + 1)) (some 1) ⟨born Try.prog (bornD (b 16) (b 15) (b 18)), wFacts b ++ [iFact (b 17) 0, iFact (b 18) 1], κ1 0, 0, false, 0⟩ := by
  refine cert_seg (rel := false) (d := 0) (d' := 0) (orc := fun _ => 0) (at_X0 _) rfl rfl (stab_1 0) (fun r' σ h hσ hl => by cases h; have hp : σ.p1 = 0 := hσ.2.1; have hl : σ.p1 = 3 ∨ σ.p1 = 7 := hl; omega) hX1 (fun o => ok_of (kX1 b o)) fun o x1 hA1 hr1 hof1 => ?_
  have hA1 : At (X1 b) o x1 := hA1
  refine cert_act hA1 hr1 hof1 (stab_1 0) (fun r' σ h hσ hl => by cases h; have hp : σ.p1 = 0 := hσ.2.1; have hl : σ.p1 = 3 ∨ σ.p1 = 7 := hl; omega) (hA1.wake (wX2 b o)) fun σ hσ => ?_
  obtain ⟨hg, hp, hpm⟩ := hσ
  obtain ⟨p0, p1, pm, rfl, b0, b1, bm, ok⟩ := hg.cases
  have hp : p1 = 0 := hp
  subst hp
  obtain ⟨e1, e3, e4, ok'⟩ := of_decide_eq_true (all3_spec T_x2 b0 b1 bm ok) rfl
  have hg' : GI (at_ p0 1 pm) := GI.of b0 (by omega) bm (ok' hpm)
  refine .inl ⟨hh [2, 2], at_ p0 1 pm, κ1 1, 0, _, ⟨hg', rfl, rfl, by show 0 ≤ 1; omega⟩, ⟨hg', rfl, hpm⟩, ev_rw skC0, fun o => okAct_sf (sf_at rfl rfl) (by rw [sf_at e3 e4, ← e1]) (kX2 b _ _ _ _ o), fun o x2 hA2 hr2 hof2 _ => ?_⟩
  have hA2 := at_sf (sf_at rfl rfl) hA2
  exact cert_seg (rel := false) (d := 0) (d' := 0) hA2 hr2 hof2 (stab_1 1) (fun r' σ h hσ hl => by cases h; have hp : σ.p1 = 1 := hσ.2.1; have hl : σ.p1 = 3 ∨ σ.p1 = 7 := hl; omega) (List.replicate 33 {}) (fun o => ok_of (kXE b _ _ _ _ o)) fun o x5 hA5 hr5 hof5 => workerEnd1 hA5 hr5 hof5
end
end Go.Proofs

namespace Go.Proofs
open Go Go.Conc Go.Km

theorem perm5 {α : Type} (a s b u c : List α) : (a ++ (s ++ (b ++ (u ++ c)))).Perm ((u ++ s) ++ (a ++ (b ++ c))) := by
  classical
  rw [List.perm_iff_count]
  intro x
  simp only [List.count_append]
  omega

section
variable {c : Frame} {rest : List Frame} {b : Nat → Nat}

/-- how goroutine 0 leaves the crew -/
def QM (c : Frame) (rest : List Frame) (b : Nat → Nat) (g : Goroutine) (fs : List Fact) (σ : WS) : Prop :=
  WFin σ ∧ g.status = .running ∧ ∃ n x o', At (M10 c rest) o' x ∧ fs = x.fs ∧ (∀ i, i < 18 → o' i = b i) ∧
    okSolo 0 0 (run' ((x.g.callers.headD default).finish (.tuple #[])) x.g.callers.tail) (soloA Try.prog (fun _ => 0) (chkOf true) n g)

def kW : Nat := 7 + (16 + (48 + (9 + (B2 0 + SE 0) + 1) + 1))
def kX : Nat := hX1.length + ((List.replicate 33 ({} : Hint)).length + NB + 1)
def kU : Nat := hU1.length + (hU3.length + ((List.replicate 33 ({} : Hint)).length + NB + 1) + 1)

theorem kOf {A : (Nat → Nat) → Option KG} {o : Nat → Nat} {x : KG} {n : Nat} (hA : At A o x) (h : (A o).map (·.k) = some n) : x.k = n := by
  rw [hA.here] at h
  simpa using h

set_option maxRecDepth 100000
theorem main10 {x : KG} {o : Nat → Nat} (hA : At (M10 c rest) o x) (ho : ∀ i, i < 18 → o i = b i) (hr : x.g.status = .running) (hof : x.g.offers = none) :
    Cert Try.prog (wT (b 9) (b 16)) (QM c rest b) kW none ⟨x.g, x.fs, κm 4, 0, false, 2⟩ := by
  have hg := frame_of hA hr hof (gM10 c rest o)
  rw [ho 16 (by omega)] at hg
  have := wait_all (k := 0) (cb := b 9) (wb := b 16) (Q := QM c rest b) (c := x.g.callers.headD default) (rest := x.g.callers.tail) (fs := x.fs) fun g σ n hf hr hs => ⟨hf, hr, n, x, o, hA, rfl, ho, hs⟩
  rw [← hg] at this
  exact this

theorem main9 {x : KG} {o : Nat → Nat} (hA : At (M9 c rest) o x) (hk : 18 ≤ x.k) (ho : ∀ i, i < 18 → o i = b i) (hr : x.g.status = .running) (hof : x.g.offers = none) :
    Cert Try.prog (wT (b 9) (b 16)) (QM c rest b) ((List.replicate 16 ({} : Hint)).length + kW) none ⟨x.g, x.fs, κm 4, 0, false, 2⟩ :=
  cert_seg' (rel := false) (d := 0) (d' := 0) hA hr hof (stab_m 4) (left_m _) (List.replicate 16 {}) (fun o => ok_of (kM10 c rest o)) fun o' x' hoo hA' _ hr' hof' => main10 hA' (fun i hi => (hoo i (by omega)).trans (ho i hi)) hr' hof'

theorem spawn_of {A : (Nat → Nat) → Option KG} {o : Nat → Nat} {x : KG} {dd : Deferred} {F : List Fact} (hA : At A o x) (h : ((A o).map fun x => (spawnOf x, x.fs.map ro)) = some (some (.spawn dd, ⟨[], [], 0, [], #[]⟩), F)) :
    (∃ s, view Try.prog x.g = .op s ∧ krun Try.prog (fun _ => 0) s ⟨[], [], 0, [], #[]⟩ = some (.spawn dd, ⟨[], [], 0, [], #[]⟩)) ∧ x.fs.map ro = F := by
  rw [hA.here] at h
  simp only [Option.map_some, Option.some.injEq, Prod.mk.injEq] at h
  obtain ⟨h1, h2⟩ := h
  refine ⟨?_, h2⟩
  unfold spawnOf at h1
  split at h1
  · rename_i s hv; exact ⟨s, hv, h1⟩
  · cases h1

theorem T_sp1 : all3 (fun p0 p1 pm => decide (pm = 1 → p0 = 0 ∧ OK p0 p1 2 = true ∧ ST p0 p1 2 = ST p0 p1 1 ∧ SM p0 p1 2 = SM p0 p1 1)) = true := by decide +kernel
theorem T_sp2 : all3 (fun p0 p1 pm => decide (pm = 3 → p1 = 0 ∧ OK p0 p1 4 = true ∧ ST p0 p1 4 = ST p0 p1 3 ∧ SM p0 p1 4 = SM p0 p1 3)) = true := by decide +kernel

theorem ghost2 {cb wb : Nat} {σ : WS} (h : κm 3 σ) : ∃ σ', κ1 0 σ' ∧ ((wT cb wb).SF σ' = (wT cb wb).SF σ ∧ (wT cb wb).Tr none σ σ' ∧ (wT cb wb).Busy σ' = (wT cb wb).Busy σ ∧ (wT cb wb).Left σ' = (wT cb wb).Left σ) ∧ κm 4 σ' := by
  obtain ⟨hg, hp⟩ := h
  obtain ⟨p0, p1, pm, rfl, b0, b1, bm, ok⟩ := hg.cases
  have hp : pm = 3 := hp
  subst hp
  obtain ⟨e, ok', e1, e2⟩ := of_decide_eq_true (all3_spec T_sp2 b0 b1 bm ok) rfl
  have hg' : GI (at_ p0 p1 4) := GI.of b0 b1 (by omega) ok'
  refine ⟨at_ p0 p1 4, ⟨hg', e, Nat.le_refl _⟩, ⟨by rw [sf_at e1 e2]; rfl, ⟨hg', rfl, rfl, by show 3 ≤ 4; omega⟩, ?_, ?_⟩, ⟨hg', rfl⟩⟩
  · funext r; match r with
    | 0 => rfl
    | 1 => rfl
    | n + 2 => rfl
  · funext r; match r with
    | 0 => rfl
    | 1 => rfl
    | n + 2 => rfl
theorem ghost1 {cb wb : Nat} {σ : WS} (h : κm 1 σ) : ∃ σ', κ0 0 σ' ∧ ((wT cb wb).SF σ' = (wT cb wb).SF σ ∧ (wT cb wb).Tr none σ σ' ∧ (wT cb wb).Busy σ' = (wT cb wb).Busy σ ∧ (wT cb wb).Left σ' = (wT cb wb).Left σ) ∧ κm 2 σ' := by
  obtain ⟨hg, hp⟩ := h
  obtain ⟨p0, p1, pm, rfl, b0, b1, bm, ok⟩ := hg.cases
  have hp : pm = 1 := hp
  subst hp
  obtain ⟨e, ok', e1, e2⟩ := of_decide_eq_true (all3_spec T_sp1 b0 b1 bm ok) rfl
  have hg' : GI (at_ p0 p1 2) := GI.of b0 b1 (by omega) ok'
  refine ⟨at_ p0 p1 2, ⟨hg', e, Nat.le_refl _⟩, ⟨by rw [sf_at e1 e2]; rfl, ⟨hg', rfl, rfl, by show 1 ≤ 2; omega⟩, ?_, ?_⟩, ⟨hg', rfl⟩⟩
  · funext r; match r with
    | 0 => rfl
    | 1 => rfl
    | n + 2 => rfl
  · funext r; match r with
    | 0 => rfl
    | 1 => rfl
    | n + 2 => rfl

theorem spawnA_k {A : (Nat → Nat) → Option KG} {o : Nat → Nat} {x x' : KG} (hA : At A o x) (hA' : At (spawnA A) o x') : x'.k = x.k := by
  have := hA'.here
  simp only [spawnA, hA.here, Option.map_some, Option.some.injEq] at this
  rw [← this]

def k8 : Nat := (List.replicate 16 ({} : Hint)).length + kW + kX
theorem main8 {x : KG} {o : Nat → Nat} (hA : At (M8 c rest) o x) (hk : 18 ≤ x.k) (ho : ∀ i, i < 18 → o i = b i) (hr : x.g.status = .running) (hof : x.g.offers = none) :
    Cert Try.prog (wT (b 9) (b 16)) (QM c rest b) (k8 + 1) none ⟨x.g, x.fs, κm 3, 0, false, 1⟩ := by
  obtain ⟨⟨s, hv, hkr⟩, hF⟩ := spawn_of hA (sM8 c rest o)
  refine cert_spawn' hA hr hof (stab_m 3) hv hkr rfl (fun σ hσ => ghost2 hσ) (fun x' hA' hr' hof' _ => Cert.mono (by unfold k8; omega) (main9 hA' (by rw [spawnA_k hA hA']; exact hk) ho hr' hof')) ?_
  rw [hF]
  have := worker1 (b := o) (Q := QM c rest b)
  rw [ho 9 (by omega), ho 16 (by omega)] at this
  have e16 : o 16 = b 16 := ho 16 (by omega)
  rw [e16]
  exact Cert.mono (by unfold k8 kX; omega) this

def k7 : Nat := (List.replicate 3 ({} : Hint)).length + (k8 + 1)
theorem main7 {x : KG} {o : Nat → Nat} (hA : At (M7 c rest) o x) (hk : 18 ≤ x.k) (ho : ∀ i, i < 18 → o i = b i) (hr : x.g.status = .running) (hof : x.g.offers = none) :
    Cert Try.prog (wT (b 9) (b 16)) (QM c rest b) k7 none ⟨x.g, x.fs, κm 3, 0, false, 1⟩ :=
  cert_seg' (rel := false) (d := 0) (d' := 0) hA hr hof (stab_m 3) (left_m _) (List.replicate 3 {}) (fun o => ok_of (kM8 c rest o)) fun o' x' hoo hA' hkk hr' hof' => main8 hA' (by omega) (fun i hi => (hoo i (by omega)).trans (ho i hi)) hr' hof'

def k6 : Nat := 47 + (52 + (1 + 1 + (89 + k7)) + 1)
theorem main6 {x : KG} {o : Nat → Nat} (hA : At (M6 c rest) o x) (hk : 18 ≤ x.k) (ho : ∀ i, i < 18 → o i = b i) (hr : x.g.status = .running) (hof : x.g.offers = none) :
    Cert Try.prog (wT (b 9) (b 16)) (QM c rest b) k6 none ⟨x.g, x.fs, κm 2, 0, false, 1⟩ := by
  have hg := frame_of hA hr hof (gM6 c rest o)
  rw [ho 16 (by omega)] at hg
  have hR := at_ret hA
  have := add_one (cb := b 9) (wb := b 16) (Q := QM c rest b) (n := 1) (j := 2) (c := x.g.callers.headD default) (rest := x.g.callers.tail) (fs := x.fs) (.inr rfl) (main7 hR hk ho rfl rfl)
  rw [← hg] at this
  exact this

def hM6 : List Hint := flat [(20, [25], none)] 4
def k5 : Nat := hM6.length + k6
theorem main5 {x : KG} {o : Nat → Nat} (hA : At (M5 c rest) o x) (hk : 18 ≤ x.k) (ho : ∀ i, i < 18 → o i = b i) (hr : x.g.status = .running) (hof : x.g.offers = none) :
    Cert Try.prog (wT (b 9) (b 16)) (QM c rest b) k5 none ⟨x.g, x.fs, κm 2, 0, false, 1⟩ :=
  cert_seg' (rel := false) (d := 0) (d' := 0) hA hr hof (stab_m 2) (left_m _) hM6 (fun o => ok_of (kM6 c rest o)) fun o' x' hoo hA' hkk hr' hof' => main6 hA' (by omega) (fun i hi => (hoo i (by omega)).trans (ho i hi)) hr' hof'

def k4 : Nat := k5 + kU
theorem main4 {x : KG} {o : Nat → Nat} (hA : At (M4 c rest) o x) (hk : 18 ≤ x.k) (ho : ∀ i, i < 18 → o i = b i) (hr : x.g.status = .running) (hof : x.g.offers = none) :
    Cert Try.prog (wT (b 9) (b 16)) (QM c rest b) (k4 + 1) none ⟨x.g, x.fs, κm 1, 0, false, 0⟩ := by
  obtain ⟨⟨s, hv, hkr⟩, hF⟩ := spawn_of hA (sM4 c rest o)
  refine cert_spawn' hA hr hof (stab_m 1) hv hkr rfl (fun σ hσ => ghost1 hσ) (fun x' hA' hr' hof' _ => Cert.mono (by unfold k4; omega) (main5 hA' (by rw [spawnA_k hA hA']; exact hk) ho hr' hof')) ?_
  rw [hF]
  have := worker0 (b := o) (Q := QM c rest b)
  rw [ho 9 (by omega), ho 16 (by omega)] at this
  have e16 : o 16 = b 16 := ho 16 (by omega)
  rw [e16]
  exact Cert.mono (by unfold k4 kU; omega) this

def k3 : Nat := (List.replicate 3 ({} : Hint)).length + (k4 + 1)
theorem main3 {x : KG} {o : Nat → Nat} (hA : At (M3 c rest) o x) (hk : 18 ≤ x.k) (ho : ∀ i, i < 18 → o i = b i) (hr : x.g.status = .running) (hof : x.g.offers = none) :
    Cert Try.prog (wT (b 9) (b 16)) (QM c rest b) k3 none ⟨x.g, x.fs, κm 1, 0, false, 0⟩ :=
  cert_seg' (rel := false) (d := 0) (d' := 0) hA hr hof (stab_m 1) (left_m _) (List.replicate 3 {}) (fun o => ok_of (kM4 c rest o)) fun o' x' hoo hA' hkk hr' hof' => main4 hA' (by omega) (fun i hi => (hoo i (by omega)).trans (ho i hi)) hr' hof'

def kM : Nat := 47 + (52 + (1 + 1 + (89 + k3)) + 1)
/-- ████ goroutine 0, from the call of the first Add on ████ -/
theorem main_cert {x : KG} (hA : At (M1 c rest) b x) (hr : x.g.status = .running) (hof : x.g.offers = none) :
    Cert Try.prog (wT (b 9) (b 16)) (QM c rest b) kM none ⟨x.g, shareL x.fs, κm 0, 0, false, 0⟩ := by
  have hk : x.k = 18 := kOf hA (nM1 c rest b)
  have hg1 : ((M1 c rest b).map fun x => (x.g.frame, x.g.callers.isEmpty, x.g.dying.isNone)) = some (Frame.enter Try.prog 49 #[.pointer (some ⟨b 16, 0, none⟩), .int .i64 1] .normal, false, true) := by
    have := gM1 c rest b
    rw [hA.here] at this ⊢
    simp only [Option.map_some, Option.some.injEq, Prod.mk.injEq] at this ⊢
    exact ⟨this.1, this.2.1, this.2.2.1⟩
  have hg := frame_of hA hr hof hg1
  have h2 : At (M2 c rest) b { x with fs := shareL x.fs } := fun o ho => by simp only [M2, mapF, hA o ho, Option.map_some]
  have hR := at_ret h2
  have := add_one (cb := b 9) (wb := b 16) (Q := QM c rest b) (n := 0) (j := 0) (c := x.g.callers.headD default) (rest := x.g.callers.tail) (fs := shareL x.fs) (.inl rfl) (main3 hR (by show 18 ≤ x.k; omega) (fun _ _ => rfl) rfl rfl)
  rw [← hg] at this
  exact this
end
end Go.Proofs

namespace Go.Proofs
open Go Go.Conc Go.Km

theorem Sat.sub {fs fs' : List Fact} {w : World} (h : Sat fs w) (hs : ∀ f ∈ fs', f ∈ fs) (hn : (fs'.map (·.a)).Nodup) : Sat fs' w :=
  ⟨fun f hf => h.cell f (hs f hf), fun f hf => h.wr f (hs f hf), fun f hf => h.sh f (hs f hf), hn⟩

/-- the facts, the shared ones first -/
theorem all_perm (b : Nat → Nat) : (allFacts b).Perm ((wgF (b 16) 0 0 ++ cF (b 9) 1 0) ++ shareL (allFacts b)) := by
  have h := perm5 ((allFacts b).take 15) (((allFacts b).drop 15).take 2) (((allFacts b).drop 17).take 9) (((allFacts b).drop 26).take 2) ((allFacts b).drop 28)
  exact h

/-- behind the crew -/
noncomputable def M11 (c : Frame) (rest : List Frame) := retA (M10 c rest)
section
variable {c : Frame} {rest : List Frame} {W w : World} {Shun : Loc → Prop} {R : Nat} {Q' : (Loc → Prop) → Nat → Goroutine → World → Prop}

def hM1' : List Hint := hM1

/-- what is asked behind the crew -/
def AfterCrew (c : Frame) (rest : List Frame) (W : World) (Shun : Loc → Prop) (Q' : (Loc → Prop) → Nat → Goroutine → World → Prop) : Prop :=
  ∀ (b : Nat → Nat) (x : KG) (w : World) (S' : Loc → Prop), At (M11 c rest) b x → x.g.status = .running → Sat (cF (b 9) 7 1 ++ x.fs) w → Clear S' (cF (b 9) 7 1 ++ x.fs) w → Was W w → Above W (cF (b 9) 7 1 ++ x.fs) → (∀ l, Shun l → S' l) →
    Rb Try.prog S' w.heap.size x.g w Q'

theorem fin_vals {σ : WS} (h : WFin σ) : σ.c0 = 7 ∧ σ.c1 = 1 := by
  obtain ⟨hg, h0, h1⟩ := h
  have h0 : σ.p0 = 3 ∨ σ.p0 = 7 := h0
  have h1 : σ.p1 = 3 ∨ σ.p1 = 7 := h1
  rw [hg.c0, hg.c1]
  rcases h0 with e | e <;> rcases h1 with e' | e' <;> rw [e, e'] <;> decide

set_option maxRecDepth 100000 in
theorem crew_rb (hlow : ∀ a, Shun (.cell a) → a.block < w.heap.size) (hW : Was W w) (K : AfterCrew c rest W Shun Q') :
    Rb Try.prog Shun R (run' (Frame.enter Try.prog 9 #[] .normal) (c :: rest)) w Q' := by
  refine Rb.raise ?_
  have hA0 : At (M0 c rest) (fun _ => 0) (K0 (run' (Frame.enter Try.prog 9 #[] .normal) (c :: rest)) []) := fun _ _ => rfl
  refine rb_seg' (d' := 0) true hA0 rfl rfl hM1 (Nat.le_refl _) (sat_nil _) ⟨fun f hf => (by cases hf), hlow⟩ hW (fun f hf => (by cases hf)) (fun o => ok_of (kM1 c rest o)) fun b x w1 _ hA _ hr hof hsat hcl hWas hab hsz hfresh => ?_
  have hA : At (M1 c rest) b x := hA
  simp only [if_true]
  have hfs : x.fs = allFacts b := by
    have := gM1 c rest b
    rw [hA.here] at this
    simp only [Option.map_some, Option.some.injEq, Prod.mk.injEq] at this
    exact this.2.2.2
  have hperm := all_perm b
  have hmem : ∀ f ∈ (wgF (b 16) 0 0 ++ cF (b 9) 1 0) ++ shareL (allFacts b), f ∈ x.fs := fun f hf => by rw [hfs]; exact hperm.mem_iff.2 hf
  have hSF : (wT (b 9) (b 16)).SF (at_ 0 0 0) = wgF (b 16) 0 0 ++ cF (b 9) 1 0 := rfl
  have hnod : (((wgF (b 16) 0 0 ++ cF (b 9) 1 0) ++ shareL (allFacts b)).map (·.a)).Nodup := by
    have := hsat.nodup
    rw [hfs] at this
    exact (hperm.map _).nodup_iff.1 this
  have hsat0 : Sat ((wT (b 9) (b 16)).SF (at_ 0 0 0) ++ shareL x.fs) w1 := by rw [hSF, hfs]; exact Sat.sub hsat hmem hnod
  have hSKin : ∀ a ∈ (wT (b 9) (b 16)).SK, ∃ f ∈ x.fs, f.a = a := fun a ha => by
    rw [← (wT (b 9) (b 16)).keys (at_ 0 0 0)] at ha
    obtain ⟨f, hf, rfl⟩ := List.mem_map.1 ha
    exact ⟨f, hmem f (List.mem_append_left _ (by rw [← hSF]; exact hf)), rfl⟩
  have hSK : ∀ a ∈ (wT (b 9) (b 16)).SK, ¬ Shun (.cell a) := fun a ha => by
    obtain ⟨f, hf, rfl⟩ := hSKin a ha
    exact hcl.apart f hf
  have hwg : w.heap.size ≤ (wT (b 9) (b 16)).wg.block := by
    obtain ⟨f, hf, e⟩ := hSKin _ (wT (b 9) (b 16)).wgIn
    rcases hfresh f hf with ⟨g, hg, _⟩ | h
    · cases hg
    · rw [e] at h; exact h
  refine team_rb (T := wT (b 9) (b 16)) (x := ⟨x.g, shareL x.fs, κm 0, 0, false, 0⟩) (σ := at_ 0 0 0) (Q := QM c rest b) (main_cert hA hr hof) ⟨GI.of (by decide) (by decide) (by decide) (by decide), rfl⟩ hsat0 rfl rfl rfl
    ⟨fun f hf => hcl.apart f (hmem f (List.mem_append_right _ (by rw [← hfs]; exact hf))), hcl.low⟩ hSK hwg hWas (fun f hf hw => hab f (hmem f (by rw [hSF, hfs] at hf; exact hf)) hw) fun σ' g' w' fs' hQ hs' hc' hW' hab' => ?_
  obtain ⟨hfin, hr', n, x', o', hA', rfl, ho', hsolo⟩ := hQ
  refine solo_rb hr' hsolo fun d => ?_
  have hR := at_ret hA'
  have e9 : o' 9 = b 9 := ho' 9 (by omega)
  obtain ⟨v0, v1⟩ := fin_vals hfin
  have hSF' : (wT (b 9) (b 16)).SF σ' = wgF (b 16) σ'.st σ'.sm ++ cF (b 9) 7 1 := by rw [← v0, ← v1]; rfl
  rw [hSF'] at hs' hab'
  have hs2 : Sat (cF (b 9) 7 1 ++ x'.fs) w' := by
    have := hs'
    rw [List.append_assoc] at this
    exact this.right
  have happ : ∀ f ∈ cF (b 9) 7 1 ++ x'.fs, ∀ g ∈ wgF (b 16) σ'.st σ'.sm, g.a ≠ f.a := fun f hf g hg => by
    have := hs'
    rw [List.append_assoc] at this
    exact this.apart hg hf
  have := K o' _ (w'.at d) (fun l => Shun l ∨ (wT (b 9) (b 16)).DK l) hR rfl (by rw [e9]; exact hs2.drawn d) (by
    rw [e9]
    refine ⟨fun f hf hS => ?_, fun a ha => ?_⟩
    · rcases hS with hS | hS
      · rcases List.mem_append.1 hf with hf | hf
        · refine hSK f.a ?_ hS
          simp only [cF, List.mem_cons, List.not_mem_nil, or_false] at hf
          rcases hf with rfl | rfl
          · exact skC0
          · exact skC1
        · exact hc'.apart f hf hS
      · rcases hS with hS | hS
        · simp only [Loc.cell.injEq] at hS
          exact happ f hf ⟨⟨b 16, 0, none⟩, .int .u64 σ'.st, true, some (106, 2)⟩ (by simp [wgF]) hS.symm
        · simp only [Loc.cell.injEq] at hS
          exact happ f hf ⟨⟨b 16, 1, none⟩, .int .u32 σ'.sm, true, some (106, 2)⟩ (by simp [wgF]) hS.symm
    · rcases ha with ha | ha | ha
      · exact hc'.low a ha
      · simp only [Loc.cell.injEq] at ha
        subst ha
        exact hs'.lt (f := ⟨⟨b 16, 0, none⟩, .int .u64 σ'.st, true, some (106, 2)⟩) (by simp [wgF])
      · simp only [Loc.cell.injEq] at ha
        subst ha
        exact hs'.lt (f := ⟨⟨b 16, 1, none⟩, .int .u32 σ'.sm, true, some (106, 2)⟩) (by simp [wgF])) (hW'.drawn d) (by
    rw [e9]
    intro f hf hw
    exact hab' f (by rw [List.append_assoc]; exact List.mem_append_right _ hf) hw) (fun l h => .inl h)
  exact this
end
end Go.Proofs
