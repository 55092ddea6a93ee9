/- Certificates are made out of symbolic steps. No conditions beyond those written in the theorems. -/
import Derived.Test.YtebjdfhaglgjiaaKmB
import Derived.Conc.Own2
/-! KM, part 11: CERTIFICATES BY 'kstep': stages ('At'), private steps, a shared act, a release, a go statement, a block, the way out. -/
namespace Go.Km
open Go Go.Conc

/-! ### steps that ask nothing of the world -/
section
variable {P : Program} {orc : Nat → Nat} {x x' : KG} {es : Array Event}

theorem sat_nil (w : World) : Sat [] w := ⟨by simp, by simp, by simp, by simp⟩

theorem kstep_world (hk : kstep P orc {} x = some (x', es)) (hf : x.fs = []) (hok : x'.Ok) (hkk : x'.k = x.k) : x'.fs = [] ∧ ∀ (main : Bool) (w : World), stepG P main x.g w = .go x'.g w es := by
  have H : ∀ orc', (∀ i, i < x.k → orc' i = orc i) → kstep P orc' {} x = some (x', es) := fun orc' ho => kstep_congr hk fun i hi => ho i (by rw [hkk] at hi; exact hi)
  have main : ∀ (main : Bool) (w : World), stepG P main x.g w = .go x'.g w es ∧ Turn x.fs w x'.fs w := by
    intro main w
    obtain ⟨orc', x1, es1, w', ho, h1, h2, h3, h4⟩ := kstep_sound (main := main) (w := w) (by rw [hf]; exact sat_nil w) fun orc' ho => ⟨x', es, H orc' ho, hok⟩
    rw [H orc' ho] at h1
    cases h1
    obtain rfl := h4 hkk rfl
    exact ⟨h2, h3⟩
  refine ⟨?_, fun m w => (main m w).1⟩
  have ht := (main true default).2
  rw [hf] at ht
  obtain ⟨new, e, hn⟩ := ht.grow
  cases hx : x'.fs with
  | nil => rfl
  | cons f r =>
    rw [hx] at e
    simp only [List.map_cons, List.map_nil, List.nil_append] at e
    have := hn (f.a, f.wr) (by rw [← e]; simp)
    omega

theorem kstep_offers {h : Hint} (hx : kstep P orc h x = some (x', es)) : x'.g.offers = none := by
  unfold kstep at hx
  cases hv : view P x.g with
  | go g' =>
    simp only [hv, Option.some.injEq, Prod.mk.injEq] at hx; obtain ⟨rfl, rfl⟩ := hx
    unfold view at hv
    dsimp only at hv ⊢
    (repeat' split at hv) <;> first | (cases hv; rfl) | cases hv
  | op s =>
    simp only [hv] at hx
    revert hx
    split
    · split <;> (intro hx; simp only [Option.some.injEq, Prod.mk.injEq] at hx; obtain ⟨rfl, rfl⟩ := hx; rfl)
    · intro hx; simp only [Option.some.injEq, Prod.mk.injEq] at hx; obtain ⟨rfl, rfl⟩ := hx; rfl
    · split
      · intro hx; cases hx
      · intro hx; simp only [Option.some.injEq, Prod.mk.injEq] at hx; obtain ⟨rfl, rfl⟩ := hx; rfl
    · intro hx; simp only [Option.some.injEq, Prod.mk.injEq] at hx; obtain ⟨rfl, rfl⟩ := hx; rfl
    · intro hx; cases hx
  | ret s =>
    simp only [hv] at hx
    revert hx
    split
    · split
      · intro hx; simp only [Option.some.injEq, Prod.mk.injEq] at hx; obtain ⟨rfl, rfl⟩ := hx; rfl
      · split
        · intro hx; cases hx
        · intro hx; simp only [Option.some.injEq, Prod.mk.injEq] at hx; obtain ⟨rfl, rfl⟩ := hx; rfl
      · intro hx; cases hx
    · intro hx; cases hx
  | dcall d fr =>
    simp only [hv] at hx
    revert hx
    split
    · intro hx; simp only [Option.some.injEq, Prod.mk.injEq] at hx; obtain ⟨rfl, rfl⟩ := hx; rfl
    · intro hx; simp only [Option.some.injEq, Prod.mk.injEq] at hx; obtain ⟨rfl, rfl⟩ := hx; rfl
    · intro hx; cases hx
  | none => simp only [hv] at hx; cases hx

theorem quits_seg {m d : Nat} : ∀ (n : Nat) (x x' : KG) (acc ev : Array Event), x.fs = [] → x.g.status = .running → krunL P orc Event.mute (List.replicate n {}) x acc = some (x', ev) → x'.Ok → x'.k = x.k → QuitsD P m (deafBehind d ev) x'.g → QuitsD P (n + m) (deafBehind d acc) x.g
  | 0, x, x', acc, ev, _, _, hk, _, _, hq => by
    simp only [List.replicate, krunL, Option.some.injEq, Prod.mk.injEq] at hk
    obtain ⟨rfl, rfl⟩ := hk
    rw [Nat.zero_add]; exact hq
  | n + 1, x, x', acc, ev, hf, hrun, hk, hok, hkk, hq => by
    simp only [List.replicate, krunL] at hk
    split at hk
    · rename_i x1 es h1
      split at hk
      · rename_i hm
        have hle := krunL_le _ hk
        have hle1 := kstep_le h1
        have hk1 : x1.k = x.k := by omega
        obtain ⟨hf1, hw⟩ := kstep_world h1 hf (hle.2 hok) hk1
        have := quits_seg (m := m) (d := d) n x1 x' (acc ++ es) ev hf1 (kstep_running h1) hk hok (by omega) hq
        rw [deafBehind_app] at this
        rw [Nat.add_right_comm]
        exact .inr ⟨hrun, x1.g, es, fun e he => List.all_eq_true.1 hm e (Array.mem_toList_iff.2 he), fun w => hw false w, this⟩
      · cases hk
    · cases hk
end

theorem krunL_running {P : Program} {orc : Nat → Nat} {chk : Event → Bool} : ∀ (hs : List Hint) {h : Hint} {x x' : KG} {acc ev : Array Event}, krunL P orc chk (h :: hs) x acc = some (x', ev) → x'.g.status = .running
  | [], h, x, x', acc, ev, hk => by
    simp only [krunL] at hk
    split at hk
    · rename_i x1 es h1
      split at hk
      · simp only [Option.some.injEq, Prod.mk.injEq] at hk; rw [← hk.1]; exact kstep_running h1
      · cases hk
    · cases hk
  | h2 :: hs, h, x, x', acc, ev, hk => by
    rw [krunL] at hk
    split at hk
    · split at hk
      · exact krunL_running hs hk
      · cases hk
    · cases hk

/-! ### private steps -/
def isMark (e : Event) : Bool := match e.loc with
  | .mark _ => true
  | _ => false
def chkP (rel : Bool) (e : Event) : Bool := e.mute || (!rel && !isMark e)

variable {P : Program} {T : TeamP} {Q : Goroutine → List Fact → T.S → Prop}

theorem evOk_priv {who : Option Nat} {rel : Bool} {d : Nat} {fs : List Fact} {w : World} {es : Array Event} (hs : Sat fs w) (hin : ∀ e ∈ es, EvIn (keys fs) e) (hc : ∀ e ∈ es, chkP rel e = true) : EvOk T who rel d fs w.heap.size es := by
  cases rel with
  | true => exact evOk_mute fun e he => by have := hc e he; simpa [chkP] using this
  | false =>
    refine ⟨fun e he => ⟨(hin e he).low hs, fun hl => ?_, fun x hx => ?_⟩, fun h => by cases h⟩
    · have := hc e he
      obtain ⟨loc, wr, sy⟩ := e
      simp only at hl; subst hl
      simp [chkP, isMark, Event.mute] at this
    · have := hc e he
      rcases hin e he with ⟨p, hp, hl, hw⟩ | ⟨m, hm, _⟩
      · obtain ⟨f, hf, rfl⟩ := List.mem_map.1 hp
        left
        obtain ⟨loc, wr, sy⟩ := e
        simp only at hl; subst hl
        rw [ofEvent_cell0] at hx
        simp only [MemAct.touch?, Option.some.injEq] at hx
        subst hx
        exact ⟨f, hf, rfl, hw⟩
      · rcases Bool.or_eq_true _ _ |>.mp this with h | h
        · rw [touch_mute h] at hx; cases hx
        · subst hm; simp [isMark] at h

section
variable {who : Option Nat} {κ : T.S → Prop} {rel : Bool} {c k d d' : Nat}

theorem krunL_cert (hstab : Stable T who κ) (hleft : ∀ r σ, who = some r → κ σ → ¬ T.Left σ r) : ∀ (hs : List Hint) (x : KG) (orc : Nat → Nat) (acc : Array Event), x.g.status = .running → x.g.offers = none →
    (∀ orc', (∀ i, i < x.k → orc' i = orc i) → ∃ x' ev, krunL P orc' (chkP rel) hs x acc = some (x', ev) ∧ x'.Ok) →
    (∀ orc' x' ev, (∀ i, i < x.k → orc' i = orc i) → krunL P orc' (chkP rel) hs x acc = some (x', ev) → x'.g.status = .running → x'.g.offers = none → Cert P T Q k who ⟨x'.g, x'.fs, κ, deafBehind d ev, rel, c⟩) →
    Cert P T Q (hs.length + k) who ⟨x.g, x.fs, κ, deafBehind d acc, rel, c⟩
  | [], x, orc, acc, hrun, hoff, H, K => by
    rw [List.length_nil, Nat.zero_add]
    exact K orc x acc (fun _ _ => rfl) rfl hrun hoff
  | h :: hs, x, orc, acc, hrun, hoff, H, K => by
    have H1 : ∀ orc', (∀ i, i < x.k → orc' i = orc i) → ∃ x' es, kstep P orc' h x = some (x', es) ∧ x'.Ok := by
      intro orc' ho
      obtain ⟨x', ev, hk, hok⟩ := H orc' ho
      simp only [krunL] at hk
      split at hk
      · rename_i x1 es h1
        split at hk
        · exact ⟨x1, es, h1, (krunL_le hs hk).2 hok⟩
        · cases hk
      · cases hk
    rw [show (h :: hs).length + k = (hs.length + k) + 1 by simp; omega]
    refine .inr ⟨hrun, hoff, hstab, hleft, fun σ w hκ hsat => ?_⟩
    obtain ⟨orc1, x1, es, w1, ho1, hk1, hst, ht, _⟩ := kstep_sound (main := who.isNone) (w := w) hsat.right H1
    obtain ⟨x1', es', hk1', hok1⟩ := H1 orc1 ho1
    have e1 : x1' = x1 ∧ es' = es := by rw [hk1] at hk1'; cases hk1'; exact ⟨rfl, rfl⟩
    obtain ⟨rfl, rfl⟩ := e1
    have hle := kstep_le hk1
    have hchk : es'.toList.all (chkP rel) = true := by
      obtain ⟨x', ev, hk, _⟩ := H orc1 ho1
      simp only [krunL, hk1] at hk
      split at hk
      · assumption
      · cases hk
    have step_eq : ∀ orc', (∀ i, i < x1'.k → orc' i = orc1 i) → krunL P orc' (chkP rel) (h :: hs) x acc = krunL P orc' (chkP rel) hs x1' (acc ++ es') := by
      intro orc' ho
      simp only [krunL, kstep_congr hk1 ho, hchk, if_true]
    have agree : ∀ orc' : Nat → Nat, (∀ i, i < x1'.k → orc' i = orc1 i) → ∀ i, i < x.k → orc' i = orc i := fun orc' ho i hi => (ho i (Nat.lt_of_lt_of_le hi hle.1)).trans (ho1 i hi)
    have hrec := krunL_cert hstab hleft hs x1' orc1 (acc ++ es') (kstep_running hk1) (kstep_offers hk1) (fun orc' ho => by
        obtain ⟨x', ev, hk, hok⟩ := H orc' (agree orc' ho)
        rw [step_eq orc' ho] at hk
        exact ⟨x', ev, hk, hok⟩) (fun orc' x' ev ho hk hr hof => K orc' x' ev (agree orc' ho) (by rw [step_eq orc' ho]; exact hk) hr hof)
    rw [deafBehind_app] at hrec
    exact .go hst (ht.frame hsat) (evOk_priv ht.sat (kstep_ev hk1 hok1).2 fun e he => List.all_eq_true.1 hchk e (Array.mem_toList_iff.2 he)) (.inl rfl) hκ hrec
end

/-! ### stages: what a thread is, as a function of its oracle -/
def At (A : (Nat → Nat) → Option KG) (orc : Nat → Nat) (x : KG) : Prop := ∀ orc', (∀ i, i < x.k → orc' i = orc i) → A orc' = some x
def segA (P : Program) (chk : Event → Bool) (hs : List Hint) (A : (Nat → Nat) → Option KG) : (Nat → Nat) → Option (KG × Array Event) := fun o => (A o).bind fun x => krunL P o chk hs x #[]
def nextA (B : (Nat → Nat) → Option (KG × Array Event)) : (Nat → Nat) → Option KG := fun o => (B o).map (·.1)
def actA (P : Program) (h : Hint) (G : List Fact) (A : (Nat → Nat) → Option KG) : (Nat → Nat) → Option (KG × Array Event) := fun o => (A o).bind fun x => kstep P o h { x with fs := G ++ x.fs }
/-- behind a shared act: its own facts stand as they were -/
def afterA (P : Program) (h : Hint) (G : List Fact) (A : (Nat → Nat) → Option KG) : (Nat → Nat) → Option KG := fun o => (A o).bind fun x => (kstep P o h { x with fs := G ++ x.fs }).map fun r => { r.1 with fs := x.fs }

def okB (d d' : Nat) (r : Option (KG × Array Event)) : Prop := ∃ x ev, r = some (x, ev) ∧ x.Ok ∧ deafBehind d ev = d'
def sumL (d : Nat) (r : Option (KG × Array Event)) := r.map fun p => (p.1.owe.map Prod.fst, p.1.oweV.map Prod.fst, deafBehind d p.2)
def sumR (d' : Nat) (r : Option (KG × Array Event)) := r.map fun p => (p.1.owe.map Prod.snd, p.1.oweV.map Prod.snd, d')

theorem eq_of_maps {α : Type} : ∀ (l : List (α × α)), l.map Prod.fst = l.map Prod.snd → ∀ p ∈ l, p.1 = p.2
  | [], _, p, hp => by simp at hp
  | q :: l, h, p, hp => by
    simp only [List.map_cons, List.cons.injEq] at h
    rcases List.mem_cons.1 hp with rfl | hp
    · exact h.1
    · exact eq_of_maps l h.2 p hp

theorem ok_of {d d' : Nat} {r : Option (KG × Array Event)} (h : (r.isSome, sumL d r) = (true, sumR d' r)) : okB d d' r := by
  cases r with
  | none => simp at h
  | some p =>
    obtain ⟨x, ev⟩ := p
    simp only [sumL, sumR, Option.isSome_some, Option.map_some, Prod.mk.injEq, Option.some.injEq, true_and] at h
    exact ⟨x, ev, rfl, ⟨eq_of_maps _ h.1, eq_of_maps _ h.2.1⟩, h.2.2⟩

section
variable {who : Option Nat} {κ : T.S → Prop} {rel : Bool} {c k d d' : Nat} {A : (Nat → Nat) → Option KG} {orc : Nat → Nat} {x : KG}

theorem At.here (h : At A orc x) : A orc = some x := h orc fun _ _ => rfl

/-- private steps -/
theorem cert_seg (hA : At A orc x) (hrun : x.g.status = .running) (hoff : x.g.offers = none) (hstab : Stable T who κ) (hleft : ∀ r σ, who = some r → κ σ → ¬ T.Left σ r) (hs : List Hint)
    (H : ∀ o, okB d d' (segA P (chkP rel) hs A o)) (K : ∀ o x', At (nextA (segA P (chkP rel) hs A)) o x' → x'.g.status = .running → x'.g.offers = none → Cert P T Q k who ⟨x'.g, x'.fs, κ, d', rel, c⟩) :
    Cert P T Q (hs.length + k) who ⟨x.g, x.fs, κ, d, rel, c⟩ := by
  have eqn : ∀ o, (∀ i, i < x.k → o i = orc i) → segA P (chkP rel) hs A o = krunL P o (chkP rel) hs x #[] := fun o ho => by simp only [segA, hA o ho, Option.bind_some]
  refine krunL_cert (d := d) (acc := #[]) hstab hleft hs x orc hrun hoff (fun o ho => ?_) (fun o x' ev ho hk hr hof => ?_)
  · obtain ⟨x', ev, h1, h2, _⟩ := H o
    rw [eqn o ho] at h1
    exact ⟨x', ev, h1, h2⟩
  · obtain ⟨x1, ev1, h1, h2, h3⟩ := H o
    rw [eqn o ho, hk] at h1
    cases h1
    rw [h3]
    refine K o x' (fun o' ho' => ?_) hr hof
    have hle := (krunL_le hs hk).1
    simp only [nextA, eqn o' (fun i hi => (ho' i (Nat.lt_of_lt_of_le hi hle)).trans (ho i hi)), krunL_congr hs hk ho', Option.map_some]

/-- What a shared act's list may be (touches of shared cells alone). -/
def EvA (T : TeamP) (who : Option Nat) (rel : Bool) (d : Nat) (es : List Event) : Prop :=
  (∀ e ∈ es, e.loc ≠ .mark (.release T.wg) ∧ ∀ x, (MemAct.ofEvent e).touch? = some x → ∃ a ∈ T.SK, x.loc = .cell a ∧ (x.kind = .atomic ∨ (x.kind = .said ∧ who.isNone = true))) ∧
  (rel = true → (∀ e ∈ es, ∀ x, (MemAct.ofEvent e).touch? = some x → x.loc.isMemory = true → T.DK x.loc ∧ x.kind = .atomic) ∧
    ∀ (i : Nat) (e : Event), es[i]? = some e → (MemAct.ofEvent e).touch? ≠ none → deafBehind d (es.toArray.extract 0 i) ≠ 0)

def okAct (T : TeamP) (d d' : Nat) (σ' : T.S) (es : List Event) (a : Option KG) (r : Option (KG × Array Event)) : Prop := ∃ x0 x ev, a = some x0 ∧ r = some (x, ev) ∧ x.Ok ∧ deafBehind d ev = d' ∧ ev.toList = es ∧ x.fs = T.SF σ' ++ x0.fs
theorem okAct_of {σ' : T.S} {es : List Event} {G : List Fact} {a : Option KG} {r : Option (KG × Array Event)} (hG : T.SF σ' = G) (ha : a.isSome = true) (h : (r.isSome, sumL d r, r.map fun p => (p.2.toList, p.1.fs)) = (true, sumR d' r, a.map fun x => (es, G ++ x.fs))) : okAct T d d' σ' es a r := by
  cases r with
  | none => simp at h
  | some p =>
    obtain ⟨x, ev⟩ := p
    cases a with
    | none => simp at ha
    | some x0 =>
      simp only [sumL, sumR, Option.isSome_some, Option.map_some, Prod.mk.injEq, Option.some.injEq, true_and] at h
      exact ⟨x0, x, ev, rfl, rfl, ⟨eq_of_maps _ h.1.1, eq_of_maps _ h.1.2.1⟩, h.1.2.2, h.2.1, by rw [hG]; exact h.2.2⟩

theorem act_sound (hA : At A orc x) {h : Hint} {σ σ' : T.S} {es : List Event} {w : World} (hsat : Sat (T.SF σ ++ x.fs) w) (H : ∀ o, okAct T d d' σ' es (A o) (actA P h (T.SF σ) A o)) :
    ∃ o x' w', stepG P who.isNone x.g w = .go x'.g w' es.toArray ∧ Turn (T.SF σ ++ x.fs) w (T.SF σ' ++ x'.fs) w' ∧ At (afterA P h (T.SF σ) A) o x' ∧ x'.fs = x.fs ∧ deafBehind d es.toArray = d' ∧ (∀ e ∈ es, (MemAct.ofEvent e).low w'.heap.size) ∧
      x'.g.status = .running ∧ x'.g.offers = none := by
  have eqn : ∀ o, (∀ i, i < x.k → o i = orc i) → actA P h (T.SF σ) A o = kstep P o h { x with fs := T.SF σ ++ x.fs } := fun o ho => by simp only [actA, hA o ho, Option.bind_some]
  obtain ⟨o, x1, es1, w', ho, hk, hst, ht, _⟩ := kstep_sound (main := who.isNone) (x := { x with fs := T.SF σ ++ x.fs }) (orc := orc) (h := h) (w := w) hsat (fun o ho => by
    obtain ⟨_, x', ev, _, h1, h2, _⟩ := H o
    rw [eqn o ho] at h1
    exact ⟨x', ev, h1, h2⟩)
  obtain ⟨x0, x2, es2, h0, h1, hok, hd, he, hf⟩ := H o
  rw [eqn o ho, hk] at h1
  cases h1
  rw [hA o ho] at h0
  cases h0
  have hes : es1 = es.toArray := by rw [← he]
  subst hes
  refine ⟨o, { x1 with fs := x.fs }, w', hst, by rw [hf] at ht; exact ht, fun o' ho' => ?_, rfl, hd, fun e he' => ((kstep_ev hk hok).2 e (by simpa using he')).low ht.sat, (kstep_running hk : x1.g.status = .running), (kstep_offers hk : x1.g.offers = none)⟩
  have hle := (kstep_le hk).1
  simp only [afterA, hA o' (fun i hi => (ho' i (Nat.lt_of_lt_of_le hi hle)).trans (ho i hi)), Option.bind_some, kstep_congr hk ho', Option.map_some]

theorem EvA.ok {es : List Event} {fs : List Fact} {B : Nat} (h : EvA T who rel d es) (hl : ∀ e ∈ es, (MemAct.ofEvent e).low B) : EvOk T who rel d fs B es.toArray := by
  refine ⟨fun e he => ?_, fun hr => ⟨fun e he => (h.2 hr).1 e (by simpa using he), fun i e he => (h.2 hr).2 i e (by simpa using he)⟩⟩
  have he' : e ∈ es := by simpa using he
  exact ⟨hl e he', (h.1 e he').1, fun x hx => .inr ((h.1 e he').2 x hx)⟩

/-! blocked -/
def kblk {α : Type} (P : Program) : Sem α → List Fact → List Nat → List (Addr × Addr) → Option (List (Addr × Addr))
  | .load _ a k, fs, hs, ow => match hs with
    | i :: hs => match fs[i]? with
      | some f => kblk P (k f.v) fs hs ((a, f.a) :: ow)
      | none => none
    | [] => none
  | .program k, fs, hs, ow => kblk P (k P) fs hs ow
  | .mark _ k, fs, hs, ow => kblk P k fs hs ow
  | .choose q k, fs, hs, ow => if q.forced then kblk P (k 0) fs hs ow else none
  | .halt .blocked, _, _, ow => some ow
  | _, _, _, _ => none

theorem kblk_sound {α : Type} {w : World} {fs : List Fact} (hs : Sat fs w) : ∀ (e : Sem α) (hh : List Nat) (ow ow' : List (Addr × Addr)) (es : Array Event), kblk P e fs hh ow = some ow' → (∀ p ∈ ow', p.1 = p.2) → (∀ p ∈ ow, p ∈ ow') ∧ ∃ es', e.runT P w es = (.halt .blocked w, es') := by
  intro e
  induction e with
  | load m a k ih =>
    intro hh ow ow' es h ho
    unfold kblk at h
    split at h
    · split at h
      · rename_i f hf
        obtain ⟨h1, es', h2⟩ := ih _ _ _ _ (es.push ⟨.cell a, false, m == .atomic⟩) h ho
        have ha : a = f.a := ho (a, f.a) (h1 _ (by simp))
        refine ⟨fun p hp => h1 p (by simp [hp]), es', ?_⟩
        have hc := hs.cell f (List.mem_of_getElem? hf)
        rw [← ha] at hc
        simp only [Sem.runT, hc]
        exact h2
      · cases h
    · cases h
  | program k ih => intro hh ow ow' es h ho; exact ih _ _ _ _ _ h ho
  | mark m k ih => intro hh ow ow' es h ho; exact ih _ _ _ (es.push ⟨.mark m, false, true⟩) h ho
  | choose q k ih =>
    intro hh ow ow' es h ho
    simp only [kblk] at h
    split at h
    · rename_i hq
      obtain ⟨h1, es', h2⟩ := ih _ _ _ _ es h ho
      exact ⟨h1, es', by simp only [Sem.runT, hq, if_true]; exact h2⟩
    · cases h
  | halt hl =>
    intro hh ow ow' es h ho
    cases hl with
    | blocked => simp only [kblk, Option.some.injEq] at h; subst h; exact ⟨fun _ h => h, es, rfl⟩
    | _ => simp [kblk] at h
  | pure a => intro hh ow ow' es h ho; simp [kblk] at h
  | store m a v k ih => intro hh ow ow' es h ho; simp [kblk] at h
  | new o k ih => intro hh ow ow' es h ho; simp [kblk] at h
  | getObj r k ih => intro hh ow ow' es h ho; simp [kblk] at h
  | setObj r o k ih => intro hh ow ow' es h ho; simp [kblk] at h
  | shape r k ih => intro hh ow ow' es h ho; simp [kblk] at h
  | freeze a n k ih => intro hh ow ow' es h ho; simp [kblk] at h
  | frozen a k ih => intro hh ow ow' es h ho; simp [kblk] at h
  | sys c k ih => intro hh ow ow' es h ho; simp [kblk] at h

def blkA (P : Program) (hh : List Nat) (G : List Fact) (A : (Nat → Nat) → Option KG) : (Nat → Nat) → Option (List (Addr × Addr)) := fun o => (A o).bind fun x => match view P x.g with
  | .op s => kblk P s (G ++ x.fs) hh []
  | _ => none
def okBlk (r : Option (List (Addr × Addr))) : Prop := ∃ l, r = some l ∧ ∀ p ∈ l, p.1 = p.2
theorem okBlk_of {r : Option (List (Addr × Addr))} (h : (r.isSome, r.map (·.map Prod.fst)) = (true, r.map (·.map Prod.snd))) : okBlk r := by
  cases r with
  | none => simp at h
  | some l =>
    simp only [Option.isSome_some, Option.map_some, Prod.mk.injEq, Option.some.injEq, true_and] at h
    exact ⟨l, rfl, eq_of_maps _ h⟩

theorem blk_sound (hA : At A orc x) (hoff : x.g.offers = none) {hh : List Nat} {G : List Fact} {w : World} (hsat : Sat (G ++ x.fs) w) (H : ∀ o, okBlk (blkA P hh G A o)) (main : Bool) : stepG P main x.g w = .go { x.g with status := .blocked } w #[] := by
  obtain ⟨l, h1, h2⟩ := H orc
  simp only [blkA, hA.here, Option.bind_some] at h1
  split at h1
  · rename_i s hv
    obtain ⟨hd, hkind, hst⟩ := view_op (main := main) (w := w) hv
    obtain ⟨_, es', h3⟩ := kblk_sound hsat s hh [] l #[] h1 h2
    rw [hst]
    clear hst hv hA hsat h1
    generalize x.g = g at *
    obtain ⟨fr, cs, stt, dy, off⟩ := g
    simp only at hd hoff
    subst hd hoff
    simp [stepG.apply, h3, GStep.after, seen, -Sem.runT_eq]
  · cases h1

/-- a shared act; or it blocks -/
theorem cert_act (hA : At A orc x) (hrun : x.g.status = .running) (hoff : x.g.offers = none) (hstab : Stable T who κ) (hleft : ∀ r σ, who = some r → κ σ → ¬ T.Left σ r) (hw : mayWake P x.g = true)
    (K : ∀ σ, κ σ → (∃ h σ' κ' d' es, T.Tr who σ σ' ∧ κ' σ' ∧ EvA T who rel d es ∧ (∀ o, okAct T d d' σ' es (A o) (actA P h (T.SF σ) A o)) ∧
        ∀ o x', At (afterA P h (T.SF σ) A) o x' → x'.g.status = .running → x'.g.offers = none → x'.fs = x.fs → Cert P T Q k who ⟨x'.g, x'.fs, κ', d', rel, c⟩) ∨
      ((who = none → ∃ r, r < c ∧ T.Busy σ r) ∧ (∀ r, who = some r → ¬ T.Busy σ r) ∧ ∃ hh, ∀ o, okBlk (blkA P hh (T.SF σ) A o))) :
    Cert P T Q (k + 1) who ⟨x.g, x.fs, κ, d, rel, c⟩ := by
  refine .inr ⟨hrun, hoff, hstab, hleft, fun σ w hκ hsat => ?_⟩
  rcases K σ hκ with ⟨h, σ', κ', d', es, hT, hκ', hev, H, hC⟩ | ⟨h1, h2, hh, H⟩
  · obtain ⟨o, x', w', hst, ht, hat, hfs, hd, hl, hr, hof⟩ := act_sound (who := who) hA hsat H
    subst hd
    exact .go hst ht (hev.ok hl) (.inr ⟨hw, hT⟩) hκ' (hC o x' hat hr hof hfs)
  · exact .blk (blk_sound hA hoff hsat H _) h1 h2

/-- a worker's release -/
theorem cert_rel {r : Nat} (hA : At A orc x) (hrun : x.g.status = .running) (hoff : x.g.offers = none) (hstab : Stable T (some r) κ) (hleft : ∀ r' σ, some r = some r' → κ σ → ¬ T.Left σ r')
    (K : ∀ σ, κ σ → ∃ h, (∀ o, okAct T 0 0 σ [⟨.mark (.releaseMerge T.wg), false, true⟩] (A o) (actA P h (T.SF σ) A o)) ∧
      ∀ o x', At (afterA P h (T.SF σ) A) o x' → x'.g.status = .running → x'.g.offers = none → x'.fs = x.fs → Cert P T Q k (some r) ⟨x'.g, x'.fs, κ, 0, true, c⟩) :
    Cert P T Q (k + 1) (some r) ⟨x.g, x.fs, κ, 0, false, c⟩ := by
  refine .inr ⟨hrun, hoff, hstab, hleft, fun σ w hκ hsat => ?_⟩
  obtain ⟨h, H, K⟩ := K σ hκ
  obtain ⟨o, x', w', hst, ht, hat, hfs, hd, hl, hr, hof⟩ := act_sound (who := some r) hA hsat H
  exact .rel rfl rfl rfl hst ht (K o x' hat hr hof hfs)

/-- goroutine 0's acquire -/
theorem cert_exit (hA : At A orc x) (hrun : x.g.status = .running) (hoff : x.g.offers = none) (hstab : Stable T none κ)
    (hl : ∀ σ, κ σ → ∀ r, r < c → T.Left σ r)
    (K : ∀ σ, κ σ → ∃ h, (∀ o, okAct T 0 0 σ [⟨.mark (.acquire T.wg), false, true⟩] (A o) (actA P h (T.SF σ) A o)) ∧ ∀ o x', At (afterA P h (T.SF σ) A) o x' → x'.g.status = .running → x'.fs = x.fs → Q x'.g x'.fs σ) :
    Cert P T Q (k + 1) none ⟨x.g, x.fs, κ, 0, rel, c⟩ := by
  refine .inr ⟨hrun, hoff, hstab, fun r σ h => (by cases h), fun σ w hκ hsat => ?_⟩
  obtain ⟨h, H, K⟩ := K σ hκ
  obtain ⟨o, x', w', hst, ht, hat, hfs, hd, _, hr, _⟩ := act_sound (who := none) hA hsat H
  exact .exit rfl rfl hst ht (hl σ hκ) (K o x' hat hr hfs)

/-- the go statement -/
theorem view_spawn {g : Goroutine} {dd : Deferred} {f : Fn} {cc : Array Value} {w : World} {main : Bool} (hv : view P g = .op (.pure (.spawn dd))) (hd : dd.target = .fn f cc) : stepG P main g w = .spawn (run' (g.frame.finish undef) g.callers) (born P dd) w #[] := by
  obtain ⟨_, hkind, hst⟩ := view_op (main := main) (w := w) hv
  have hk' : (g.frame.kind == CallKind.early) = false := by simpa using hkind
  rw [hst]
  simp [stepG.apply, Sem.runT, hk', GStep.after, born, hd, run', seen]

def ro (f : Fact) : Fact := { f with wr := false }
def spawnA (A : (Nat → Nat) → Option KG) : (Nat → Nat) → Option KG := fun o => (A o).map fun x => { x with g := run' (x.g.frame.finish undef) x.g.callers, fs := x.fs.map ro }

end

/-! ### goroutine 0, beside leavers -/
section
variable {Shun : Loc → Prop} {R d' : Nat} {A : (Nat → Nat) → Option KG} {orc : Nat → Nat} {x : KG} {w W : World} {Q' : (Loc → Prop) → Nat → Goroutine → World → Prop}

theorem rb_seg (keep : Bool) (hA : At A orc x) (hrun : x.g.status = .running) (hs : List Hint) (hR : R ≤ w.heap.size) (hsat : Sat x.fs w) (hcl : Clear Shun x.fs w) (hW : Was W w) (hab : Above W x.fs)
    (H : ∀ o, okB 0 d' (segA P (chkOf keep) hs A o))
    (K : ∀ o x' w', At (nextA (segA P (chkOf keep) hs A)) o x' → x'.g.status = .running → Sat x'.fs w' → Clear Shun x'.fs w' → Was W w' → Above W x'.fs → w.heap.size ≤ w'.heap.size → Rb P Shun (if keep then R else w'.heap.size) x'.g w' Q') :
    Rb P Shun R x.g w Q' := by
  have eqn : ∀ o, (∀ i, i < x.k → o i = orc i) → segA P (chkOf keep) hs A o = krunL P o (chkOf keep) hs x #[] := fun o ho => by simp only [segA, hA o ho, Option.bind_some]
  refine krunL_rb keep hs x w orc #[] R hR hsat hcl hrun (fun o ho => ?_) (fun o x' ev w' ho hk ht hcl' hok' => ?_)
  · obtain ⟨x', ev, h1, h2, _⟩ := H o
    rw [eqn o ho] at h1
    exact ⟨x', ev, h1, h2⟩
  · refine K o x' w' (fun o' ho' => ?_) ?_ ht.sat hcl' (hW.turn hab ht).1 (hW.turn hab ht).2 ht.size
    · have hle := (krunL_le hs hk).1
      simp only [nextA, eqn o' (fun i hi => (ho' i (Nat.lt_of_lt_of_le hi hle)).trans (ho i hi)), krunL_congr hs hk ho', Option.map_some]
    · cases hs with
      | nil => simp only [krunL, Option.some.injEq, Prod.mk.injEq] at hk; rw [← hk.1]; exact hrun
      | cons h hs => exact krunL_running hs hk
end
end Go.Km

namespace Go.Km
open Go Go.Conc

variable {P : Program} {T : TeamP} {Q : Goroutine → List Fact → T.S → Prop}

/-! ### steps that ask nothing of the world, from a stage -/
/-- 'n' steps that meet no cell, by themselves. -/
def soloA (P : Program) (orc : Nat → Nat) (chk : Event → Bool) (n : Nat) (g : Goroutine) : Option (KG × Array Event) := krunL P orc chk (List.replicate n {}) ⟨g, [], 0, [], []⟩ #[]
def okSolo (d d' : Nat) (g' : Goroutine) (r : Option (KG × Array Event)) : Prop := ∃ x ev, r = some (x, ev) ∧ x.g = g' ∧ x.k = 0 ∧ x.owe = [] ∧ x.oweV = [] ∧ deafBehind d ev = d'
theorem okSolo_of {d d' : Nat} {g' : Goroutine} {r : Option (KG × Array Event)} (h : (r.map fun p => (p.1.g, p.1.k, p.1.owe, p.1.oweV, deafBehind d p.2)) = some (g', 0, [], [], d')) : okSolo d d' g' r := by
  cases r with
  | none => simp at h
  | some p =>
    obtain ⟨x, ev⟩ := p
    simp only [Option.map_some, Option.some.injEq, Prod.mk.injEq] at h
    exact ⟨x, ev, rfl, h.1, h.2.1, h.2.2.1, h.2.2.2.1, h.2.2.2.2⟩

/-- a worker leaves -/
theorem quits_solo {orc : Nat → Nat} {n m d d' : Nat} {g g' : Goroutine} (hrun : g.status = .running) (h : okSolo d d' g' (soloA P orc Event.mute n g)) (hq : QuitsD P m d' g') : QuitsD P (n + m) d g := by
  obtain ⟨x, ev, h1, rfl, h3, h4, h5, h6⟩ := h
  have := quits_seg (m := m) (d := d) n ⟨g, [], 0, [], []⟩ x #[] ev rfl hrun h1 ⟨by rw [h4]; simp, by rw [h5]; simp⟩ h3 (by rw [h6]; exact hq)
  exact this

theorem quits_end {fr : Frame} (h1 : fr.mode = .panicking [goexitEntry]) (h2 : fr.defers = []) (h3 : fr.catches P = false) : QuitsD P 1 0 (run' fr []) := by
  refine .inr ⟨rfl, { frame := fr, callers := [], status := .finished, dying := none }, #[], by simp, fun w => ?_, ⟨rfl, rfl⟩⟩
  simp [run', stepG, unwind, h1, h2, h3, goexitEntry]

section
variable {Shun : Loc → Prop} {R : Nat} {w : World} {Q' : (Loc → Prop) → Nat → Goroutine → World → Prop}

theorem pure_rb : ∀ (n : Nat) (x x' : KG) (orc : Nat → Nat) (acc ev : Array Event) (w : World), x.fs = [] → x.g.status = .running → krunL P orc (chkOf true) (List.replicate n {}) x acc = some (x', ev) → x'.Ok → x'.k = x.k → (∀ d, Rb P Shun R x'.g (w.at d) Q') → Rb P Shun R x.g w Q'
  | 0, x, x', orc, acc, ev, w, _, _, hk, _, _, K => by
    simp only [List.replicate, krunL, Option.some.injEq, Prod.mk.injEq] at hk
    obtain ⟨rfl, rfl⟩ := hk
    exact K w.drawn
  | n + 1, x, x', orc, acc, ev, w, hf, hrun, hk, hok, hkk, K => by
    simp only [List.replicate, krunL] at hk
    split at hk
    · rename_i x1 es h1
      split at hk
      · rename_i hm
        have hle := krunL_le _ hk
        have hle1 := kstep_le h1
        have hk1 : x1.k = x.k := by omega
        obtain ⟨hf1, hw⟩ := kstep_world h1 hf (hle.2 hok) hk1
        refine Rb.step hrun fun d => ⟨x1.g, w.at d, es, hw true (w.at d), Nat.le_refl _, fun e he => ?_, R, Nat.le_refl _, fun e he a ha => ?_, pure_rb n x1 x' orc (acc ++ es) ev (w.at d) hf1 (kstep_running h1) hk hok (by omega) fun d' => K d'⟩
        · have hc := List.all_eq_true.1 hm e (Array.mem_toList_iff.2 he)
          have hin := (kstep_ev h1 (hle.2 hok)).2 e he
          rw [hf1] at hin
          simp only [chkOf, Bool.and_eq_true] at hc
          have hs : Sat [] (w.at d) := sat_nil _
          have hin' : EvIn (keys []) e := hin
          rcases hin' with ⟨p, hp, _⟩ | ⟨mk, hmk, ha⟩
          · simp [keys] at hp
          · subst hmk
            have hnone : ∀ a, markAddr mk ≠ some a := fun a h => by obtain ⟨p, hp, _⟩ := ha a h; simp [keys] at hp
            have h1 := hc.1
            refine ⟨fun x hx _ => ?_, fun h => ?_, fun h => ?_, ?_⟩
            · cases mk <;> simp [MemAct.ofEvent, MemAct.touch?, markAddr] at hx hnone
            · simp only [Loc.mark.injEq] at h; subst h; simp [noDE] at h1
            · simp only [Loc.mark.injEq] at h; subst h; simp [noDE] at h1
            · cases mk <;> simp [MemAct.ofEvent, MemAct.low, markAddr] at hnone ⊢
        · have hc := List.all_eq_true.1 hm e (Array.mem_toList_iff.2 he)
          simp [chkOf, noRel, ha] at hc
      · cases hk
    · cases hk

theorem solo_rb {orc : Nat → Nat} {n : Nat} {g g' : Goroutine} (hrun : g.status = .running) (h : okSolo 0 0 g' (soloA P orc (chkOf true) n g)) (K : ∀ d, Rb P Shun R g' (w.at d) Q') : Rb P Shun R g w Q' := by
  obtain ⟨x, ev, h1, rfl, h3, h4, h5, h6⟩ := h
  exact pure_rb n ⟨g, [], 0, [], []⟩ x orc #[] ev w rfl hrun h1 ⟨by rw [h4]; simp, by rw [h5]; simp⟩ h3 K
end

section
variable {who : Option Nat} {κ : T.S → Prop} {rel : Bool} {c k d d' : Nat} {A : (Nat → Nat) → Option KG} {orc : Nat → Nat} {x : KG}

/-- a look at the shared cells: nothing is turned -/
theorem cert_look (hA : At A orc x) (hrun : x.g.status = .running) (hoff : x.g.offers = none) (hstab : Stable T who κ) (hleft : ∀ r σ, who = some r → κ σ → ¬ T.Left σ r)
    (K : ∀ σ, κ σ → ∃ h d' es κ', κ' σ ∧ EvA T who rel d es ∧ (∀ o, okAct T d d' σ es (A o) (actA P h (T.SF σ) A o)) ∧
        ∀ o x', At (afterA P h (T.SF σ) A) o x' → x'.g.status = .running → x'.g.offers = none → x'.fs = x.fs → Cert P T Q k who ⟨x'.g, x'.fs, κ', d', rel, c⟩) :
    Cert P T Q (k + 1) who ⟨x.g, x.fs, κ, d, rel, c⟩ := by
  refine .inr ⟨hrun, hoff, hstab, hleft, fun σ w hκ hsat => ?_⟩
  obtain ⟨h, d', es, κ', hκ', hev, H, hC⟩ := K σ hκ
  obtain ⟨o, x', w', hst, ht, hat, hfs, hd, hl, hr, hof⟩ := act_sound (who := who) hA hsat H
  subst hd
  exact .go hst ht (hev.ok hl) (.inl rfl) hκ' (hC o x' hat hr hof hfs)

/-- leaving -/
theorem cert_quit {r m : Nat} (hq : QuitsD P m d x.g) (hstab : Stable T (some r) κ) (hb : ∀ σ, κ σ → ¬ T.Busy σ r) : Cert P T Q m (some r) ⟨x.g, x.fs, κ, d, true, c⟩ := by
  have : Quit P T (some r) m ⟨x.g, x.fs, κ, d, true, c⟩ := ⟨r, rfl, hq, rfl, hstab, hb⟩
  cases m with
  | zero => exact this
  | succ m => exact .inl this

theorem At.const (x : KG) (orc : Nat → Nat) : At (fun _ => some x) orc x := fun _ _ => rfl
end

theorem okAct_act {T : TeamP} {P : Program} {d d' : Nat} {σ' : T.S} {es : List Event} {h : Hint} {G G' : List Fact} {A : (Nat → Nat) → Option KG} {o : Nat → Nat} (hG : T.SF σ' = G')
    (H : ((actA P h G A o).isSome, sumL d (actA P h G A o), (actA P h G A o).map fun p => (p.2.toList, p.1.fs)) = (true, sumR d' (actA P h G A o), (A o).map fun x => (es, G' ++ x.fs))) : okAct T d d' σ' es (A o) (actA P h G A o) := by
  refine okAct_of hG ?_ H
  have h1 := (Prod.mk.inj H).1
  cases hA : A o with
  | none => rw [show actA P h G A o = none by simp [actA, hA]] at h1; cases h1
  | some x => rfl
theorem At.wake {P : Program} {A : (Nat → Nat) → Option KG} {orc : Nat → Nat} {x : KG} (hA : At A orc x) (h : (A orc).map (fun x => mayWake P x.g) = some true) : mayWake P x.g = true := by
  rw [hA.here] at h
  simpa using h

section
variable {P : Program} {T : TeamP} {Q : Goroutine → List Fact → T.S → Prop} {who : Option Nat} {κ : T.S → Prop} {rel : Bool} {c k d d' : Nat} {A : (Nat → Nat) → Option KG} {orc : Nat → Nat} {x : KG} {fs : List Fact}

theorem krunL_solo (hstab : Stable T who κ) (hleft : ∀ r σ, who = some r → κ σ → ¬ T.Left σ r) : ∀ (n : Nat) (x x' : KG) (acc ev : Array Event), x.fs = [] → x.g.status = .running → x.g.offers = none → krunL P orc (chkP rel) (List.replicate n {}) x acc = some (x', ev) → x'.Ok → x'.k = x.k →
    Cert P T Q k who ⟨x'.g, fs, κ, deafBehind d ev, rel, c⟩ → Cert P T Q (n + k) who ⟨x.g, fs, κ, deafBehind d acc, rel, c⟩
  | 0, x, x', acc, ev, _, _, _, hk, _, _, hq => by
    simp only [List.replicate, krunL, Option.some.injEq, Prod.mk.injEq] at hk
    obtain ⟨rfl, rfl⟩ := hk
    rw [Nat.zero_add]; exact hq
  | n + 1, x, x', acc, ev, hf, hrun, hoff, hk, hok, hkk, hq => by
    simp only [List.replicate, krunL] at hk
    split at hk
    · rename_i x1 es h1
      split at hk
      · rename_i hm
        have hle := krunL_le _ hk
        have hle1 := kstep_le h1
        have hk1 : x1.k = x.k := by omega
        obtain ⟨hf1, hw⟩ := kstep_world h1 hf (hle.2 hok) hk1
        have hmu : ∀ e ∈ es, e.mute = true := fun e he => by
          have hc := List.all_eq_true.1 hm e (Array.mem_toList_iff.2 he)
          have hin := (kstep_ev h1 (hle.2 hok)).2 e he
          rw [hf1] at hin
          have hin' : EvIn (keys []) e := hin
          rcases hin' with ⟨p, hp, _⟩ | ⟨mk, hmk, _⟩
          · simp [keys] at hp
          · rcases Bool.or_eq_true _ _ |>.mp hc with h | h
            · exact h
            · subst hmk; simp [isMark] at h
        have := krunL_solo hstab hleft n x1 x' (acc ++ es) ev hf1 (kstep_running h1) (kstep_offers h1) hk hok (by omega) hq
        rw [deafBehind_app] at this
        rw [Nat.add_right_comm]
        exact .inr ⟨hrun, hoff, hstab, hleft, fun σ w hκ hsat => .go (hw _ w) (.refl hsat) (evOk_mute hmu) (.inl rfl) hκ this⟩
      · cases hk
    · cases hk

/-- steps that meet no cell, in company -/
theorem cert_solo {g g' : Goroutine} {n : Nat} (hrun : g.status = .running) (hoff : g.offers = none) (hstab : Stable T who κ) (hleft : ∀ r σ, who = some r → κ σ → ¬ T.Left σ r) (h : okSolo d d' g' (soloA P orc (chkP rel) n g))
    (K : Cert P T Q k who ⟨g', fs, κ, d', rel, c⟩) : Cert P T Q (n + k) who ⟨g, fs, κ, d, rel, c⟩ := by
  obtain ⟨x, ev, h1, rfl, h3, h4, h5, h6⟩ := h
  exact krunL_solo (d := d) hstab hleft n ⟨g, [], 0, [], []⟩ x #[] ev rfl hrun hoff h1 ⟨by rw [h4]; simp, by rw [h5]; simp⟩ h3 (by rw [h6]; exact K)

theorem At.solo {n : Nat} {chk : Event → Bool} {g' : Goroutine} {o' : Nat → Nat} (hA : At A orc x) (h : (((A orc).bind fun x => soloA P o' chk n x.g).map fun p => (p.1.g, p.1.k, p.1.owe, p.1.oweV, deafBehind d p.2)) = some (g', 0, [], [], d')) : okSolo d d' g' (soloA P o' chk n x.g) := by
  rw [hA.here] at h
  exact okSolo_of h

/-! lists of events -/
theorem evA_of {es : List Event} (h : ∀ e ∈ es, (∃ a ∈ T.SK, ∃ wr, e = ⟨.cell a, wr, true⟩) ∨ e.mute = true) : EvA T who false d es := by
  refine ⟨fun e he => ?_, fun h => by cases h⟩
  rcases h e he with ⟨a, ha, wr, rfl⟩ | hm
  · refine ⟨by simp, fun x hx => ?_⟩
    rw [ofEvent_cell0] at hx
    simp only [MemAct.touch?, Option.some.injEq] at hx
    subst hx
    exact ⟨a, ha, rfl, .inl rfl⟩
  · refine ⟨fun hl => ?_, fun x hx => by rw [touch_mute hm] at hx; cases hx⟩
    obtain ⟨loc, wr, sy⟩ := e
    simp only at hl; subst hl
    simp [Event.mute] at hm
theorem evA_said {es : List Event} (h : ∀ e ∈ es, ∃ a ∈ T.SK, e = ⟨.mark (.read a), false, true⟩ ∨ e = ⟨.mark (.write a), false, true⟩) : EvA T none false d es := by
  refine ⟨fun e he => ?_, fun h => by cases h⟩
  obtain ⟨a, ha, rfl | rfl⟩ := h e he
  · exact ⟨by simp, fun x hx => by simp only [MemAct.ofEvent, MemAct.touch?, Option.some.injEq] at hx; subst hx; exact ⟨a, ha, rfl, .inr ⟨rfl, rfl⟩⟩⟩
  · exact ⟨by simp, fun x hx => by simp only [MemAct.ofEvent, MemAct.touch?, Option.some.injEq] at hx; subst hx; exact ⟨a, ha, rfl, .inr ⟨rfl, rfl⟩⟩⟩
theorem evA_rel {es : List Event} (h : ∀ e ∈ es, (∃ a ∈ T.SK, T.DK (.cell a) ∧ ∃ wr, e = ⟨.cell a, wr, true⟩) ∨ e.mute = true) (hd : ∀ (i : Nat) (e : Event), es[i]? = some e → e.mute = true ∨ deafBehind d (es.toArray.extract 0 i) ≠ 0) : EvA T who true d es := by
  refine ⟨fun e he => ?_, fun _ => ⟨fun e he x hx hm => ?_, fun i e he hn => ?_⟩⟩
  · rcases h e he with ⟨a, ha, _, wr, rfl⟩ | hm
    · refine ⟨by simp, fun x hx => ?_⟩
      rw [ofEvent_cell0] at hx
      simp only [MemAct.touch?, Option.some.injEq] at hx
      subst hx
      exact ⟨a, ha, rfl, .inl rfl⟩
    · refine ⟨fun hl => ?_, fun x hx => by rw [touch_mute hm] at hx; cases hx⟩
      obtain ⟨loc, wr, sy⟩ := e
      simp only at hl; subst hl
      simp [Event.mute] at hm
  · rcases h e he with ⟨a, ha, hdk, wr, rfl⟩ | hmu
    · rw [ofEvent_cell0] at hx
      simp only [MemAct.touch?, Option.some.injEq] at hx
      subst hx
      exact ⟨hdk, rfl⟩
    · rw [touch_mute hmu] at hx; cases hx
  · exact (hd i e he).resolve_left fun hm => hn (touch_mute hm)
end
end Go.Km

namespace Go.Km
open Go Go.Conc

variable {P : Program} {T : TeamP} {Q : Goroutine → List Fact → T.S → Prop}

theorem stepG_spawn_of {g : Goroutine} {dd : Deferred} {f : Fn} {cc : Array Value} {w : World} {main : Bool} {s : Sem Next} {orc : Nat → Nat} (hv : view P g = .op s) (hk : krun P orc s ⟨[], [], 0, [], #[]⟩ = some (.spawn dd, ⟨[], [], 0, [], #[]⟩)) (hd : dd.target = .fn f cc) :
    stepG P main g w = .spawn (run' (g.frame.finish undef) g.callers) (born P dd) w #[] := by
  obtain ⟨_, hkind, hst⟩ := view_op (main := main) (w := w) hv
  have hk' : (g.frame.kind == CallKind.early) = false := by simpa using hkind
  have hr : s.runT P w #[] = (.ok (.spawn dd) w, #[]) := krun_pure s hk rfl rfl w
  rw [hst]
  simp [stepG.apply, hr, hk', GStep.after, born, hd, run', seen, -Sem.runT_eq]

section
variable {who : Option Nat} {κ : T.S → Prop} {rel : Bool} {c k d d' : Nat} {A : (Nat → Nat) → Option KG} {orc : Nat → Nat} {x : KG}

theorem cert_spawn' (hA : At A orc x) (hrun : x.g.status = .running) (hoff : x.g.offers = none) (hstab : Stable T none κ) {dd : Deferred} {f : Fn} {cc : Array Value} {s : Sem Next} {o' : Nat → Nat}
    (hv : view P x.g = .op s) (hk : krun P o' s ⟨[], [], 0, [], #[]⟩ = some (.spawn dd, ⟨[], [], 0, [], #[]⟩)) (hd : dd.target = .fn f cc)
    {κC κ' : T.S → Prop} (hκC : ∀ σ, κ σ → ∃ σ', κC σ' ∧ (T.SF σ' = T.SF σ ∧ T.Tr none σ σ' ∧ T.Busy σ' = T.Busy σ ∧ T.Left σ' = T.Left σ) ∧ κ' σ')
    (K : ∀ x', At (spawnA A) orc x' → x'.g.status = .running → x'.g.offers = none → x'.fs = x.fs.map ro → Cert P T Q k none ⟨x'.g, x'.fs, κ', 0, rel, c + 1⟩)
    (KC : Cert P T Q k (some c) ⟨born P dd, x.fs.map ro, κC, 0, false, 0⟩) :
    Cert P T Q (k + 1) none ⟨x.g, x.fs, κ, 0, rel, c⟩ := by
  refine .inr ⟨hrun, hoff, hstab, fun r σ h => (by cases h), fun σ w hκ hsat => ?_⟩
  have hn' : ((x.fs.map ro).map (·.a)).Nodup := by
    rw [List.map_map]; exact hsat.right.nodup
  have hsub : ∀ f ∈ x.fs.map ro, ∃ g ∈ x.fs, g.a = f.a ∧ g.v = f.v ∧ (f.wr = true → g.wr = true) ∧ (f.sh = g.sh ∨ f.sh = none) := fun f hf => by
    obtain ⟨g, hg, rfl⟩ := List.mem_map.1 hf
    exact ⟨g, hg, rfl, rfl, fun h => by simp [ro] at h, .inl rfl⟩
  have hro : ∀ f ∈ x.fs.map ro, f.wr = false := fun f hf => by obtain ⟨g, hg, rfl⟩ := List.mem_map.1 hf; rfl
  obtain ⟨σ', k1, k2, k3⟩ := hκC σ hκ
  refine .spawn (fs0 := x.fs.map ro) (fsC := x.fs.map ro) (κC := κC) rfl rfl (stepG_spawn_of hv hk hd) hsub hsub hn' hn' (fun f hf g hg _ => ⟨hro f hf, hro g hg⟩) k1 k2 k3 ?_ KC
  exact K { x with g := run' (x.g.frame.finish undef) x.g.callers, fs := x.fs.map ro } (fun o ho => by simp only [spawnA, hA o ho, Option.map_some]) rfl rfl rfl
end

end Go.Km

namespace Go.Km
open Go Go.Conc

variable {P : Program} {T : TeamP} {Q : Goroutine → List Fact → T.S → Prop}
section
variable {who : Option Nat} {κ : T.S → Prop} {rel : Bool} {c k d d' : Nat} {A : (Nat → Nat) → Option KG} {orc : Nat → Nat} {x : KG}

/-- private steps; what is drawn anew comes behind what was drawn -/
theorem cert_seg' (hA : At A orc x) (hrun : x.g.status = .running) (hoff : x.g.offers = none) (hstab : Stable T who κ) (hleft : ∀ r σ, who = some r → κ σ → ¬ T.Left σ r) (hs : List Hint)
    (H : ∀ o, okB d d' (segA P (chkP rel) hs A o)) (K : ∀ o x', (∀ i, i < x.k → o i = orc i) → At (nextA (segA P (chkP rel) hs A)) o x' → x.k ≤ x'.k → x'.g.status = .running → x'.g.offers = none → Cert P T Q k who ⟨x'.g, x'.fs, κ, d', rel, c⟩) :
    Cert P T Q (hs.length + k) who ⟨x.g, x.fs, κ, d, rel, c⟩ := by
  have eqn : ∀ o, (∀ i, i < x.k → o i = orc i) → segA P (chkP rel) hs A o = krunL P o (chkP rel) hs x #[] := fun o ho => by simp only [segA, hA o ho, Option.bind_some]
  refine krunL_cert (d := d) (acc := #[]) hstab hleft hs x orc hrun hoff (fun o ho => ?_) (fun o x' ev ho hk hr hof => ?_)
  · obtain ⟨x', ev, h1, h2, _⟩ := H o
    rw [eqn o ho] at h1
    exact ⟨x', ev, h1, h2⟩
  · obtain ⟨x1, ev1, h1, h2, h3⟩ := H o
    rw [eqn o ho, hk] at h1
    cases h1
    rw [h3]
    have hle := (krunL_le hs hk).1
    refine K o x' ho (fun o' ho' => ?_) hle hr hof
    simp only [nextA, eqn o' (fun i hi => (ho' i (Nat.lt_of_lt_of_le hi hle)).trans (ho i hi)), krunL_congr hs hk ho', Option.map_some]
end

section
variable {Shun : Loc → Prop} {R d' : Nat} {A : (Nat → Nat) → Option KG} {orc : Nat → Nat} {x : KG} {w W : World} {Q' : (Loc → Prop) → Nat → Goroutine → World → Prop}

theorem rb_seg' (keep : Bool) (hA : At A orc x) (hrun : x.g.status = .running) (hoff : x.g.offers = none) (hs : List Hint) (hR : R ≤ w.heap.size) (hsat : Sat x.fs w) (hcl : Clear Shun x.fs w) (hW : Was W w) (hab : Above W x.fs)
    (H : ∀ o, okB 0 d' (segA P (chkOf keep) hs A o))
    (K : ∀ o x' w', (∀ i, i < x.k → o i = orc i) → At (nextA (segA P (chkOf keep) hs A)) o x' → x.k ≤ x'.k → x'.g.status = .running → x'.g.offers = none → Sat x'.fs w' → Clear Shun x'.fs w' → Was W w' → Above W x'.fs → w.heap.size ≤ w'.heap.size →
      (∀ f ∈ x'.fs, (∃ g ∈ x.fs, g.a = f.a) ∨ w.heap.size ≤ f.a.block) → Rb P Shun (if keep then R else w'.heap.size) x'.g w' Q') :
    Rb P Shun R x.g w Q' := by
  have eqn : ∀ o, (∀ i, i < x.k → o i = orc i) → segA P (chkOf keep) hs A o = krunL P o (chkOf keep) hs x #[] := fun o ho => by simp only [segA, hA o ho, Option.bind_some]
  refine krunL_rb keep hs x w orc #[] R hR hsat hcl hrun (fun o ho => ?_) (fun o x' ev w' ho hk ht hcl' hok' => ?_)
  · obtain ⟨x', ev, h1, h2, _⟩ := H o
    rw [eqn o ho] at h1
    exact ⟨x', ev, h1, h2⟩
  · have hle := (krunL_le hs hk).1
    refine K o x' w' ho (fun o' ho' => ?_) hle ?_ ?_ ht.sat hcl' (hW.turn hab ht).1 (hW.turn hab ht).2 ht.size (fun f hf => ?_)
    · simp only [nextA, eqn o' (fun i hi => (ho' i (Nat.lt_of_lt_of_le hi hle)).trans (ho i hi)), krunL_congr hs hk ho', Option.map_some]
    · cases hs with
      | nil => simp only [krunL, Option.some.injEq, Prod.mk.injEq] at hk; rw [← hk.1]; exact hrun
      | cons h hs => exact krunL_running hs hk
    · have : ∀ (hs : List Hint) (x x' : KG) (acc ev : Array Event), x.g.offers = none → krunL P o (chkOf keep) hs x acc = some (x', ev) → x'.g.offers = none := by
        intro hs
        induction hs with
        | nil => intro x x' acc ev ho hk; simp only [krunL, Option.some.injEq, Prod.mk.injEq] at hk; rw [← hk.1]; exact ho
        | cons h hs ih =>
          intro x x' acc ev ho hk
          simp only [krunL] at hk
          split at hk
          · rename_i x1 es h1
            split at hk
            · exact ih _ _ _ _ (kstep_offers h1) hk
            · cases hk
          · cases hk
      exact this hs x x' _ _ hoff hk
    · rcases ht.mem hf with ⟨g, hg, e, _⟩ | ⟨hb, _, _⟩
      · exact .inl ⟨g, hg, e⟩
      · exact .inr hb
end
end Go.Km
