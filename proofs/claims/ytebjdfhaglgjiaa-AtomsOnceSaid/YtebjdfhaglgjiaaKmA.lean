/- Symbolic steps of one goroutine over known cells, by the kernel, are sound; goroutine 0 walks beside goroutines that only leave. No conditions beyond those written in the theorems. -/
import Derived.Conc.Own
import Derived.Conc.Beside
/-! KM, part 1: a model's operation ('Sem') run over KNOWN CELLS, with hints and an oracle. -/
namespace Go.Km
open Go Go.Conc

/-- A known cell: its address, what it holds, whether it may be written. -/
structure Fact where
  a : Addr
  v : Value
  wr : Bool
  sh : Option (TypeId × Nat) := none

structure St where
  fs : List Fact
  hint : List Nat
  k : Nat
  owe : List (Addr × Addr)
  ev : Array Event

def one : Value → Bool
  | .agg _ | .tuple _ => false
  | _ => true

def newFacts (b : Nat) (sh : Option (TypeId × Nat)) : List Value → Nat → List Fact
  | [], _ => []
  | v :: r, j => ⟨⟨b, j, none⟩, v, true, sh⟩ :: newFacts b sh r (j + 1)

/-- The place that a mark names. -/
def markAddr : Mark → Option Addr
  | .acquire a | .release a | .releaseMerge a | .read a | .write a => some a
  | _ => none

def krun {α : Type} (P : Program) (orc : Nat → Nat) : Sem α → St → Option (α × St)
  | .pure a, s => some (a, s)
  | .load m a k, s => match s.hint with
    | i :: hs => match s.fs[i]? with
      | some f => krun P orc (k f.v) { s with hint := hs, owe := (a, f.a) :: s.owe, ev := s.ev.push ⟨.cell a, false, m == Go.Mode.atomic⟩ }
      | none => none
    | [] => none
  | .store m a v k, s => if one v then match s.hint with
      | i :: hs => match s.fs[i]? with
        | some f => if f.wr then krun P orc k { s with fs := s.fs.set i { f with v := v }, hint := hs, owe := (a, f.a) :: s.owe, ev := s.ev.push ⟨.cell a, true, m == Go.Mode.atomic⟩ } else none
        | none => none
      | [] => none
    else none
  | .new o k, s => match o with
    | .cells arr ty (0, 0) => krun P orc (k (orc s.k)) { s with fs := s.fs ++ newFacts (orc s.k) (some (ty, arr.toList.length)) arr.toList 0, k := s.k + 1 }
    | _ => none
  | .choose q k, s => if q.forced then krun P orc (k 0) s else krun P orc (k (q.cut (orc s.k))) { s with k := s.k + 1 }
  | .program k, s => krun P orc (k P) s
  | .mark m k, s => match markAddr m with
    | none => krun P orc k { s with ev := s.ev.push ⟨.mark m, false, true⟩ }
    | some a => match s.hint with
      | i :: hs => match s.fs[i]? with
        | some f => krun P orc k { s with hint := hs, owe := (⟨a.block, 0, none⟩, ⟨f.a.block, 0, none⟩) :: s.owe, ev := s.ev.push ⟨.mark m, false, true⟩ }
        | none => none
      | [] => none
  | .shape r k, s => match s.hint with
    | i :: hs => match s.fs[i]? with
      | some f => match f.sh with
        | some sh => krun P orc (k (some sh)) { s with hint := hs, owe := (⟨r, 0, none⟩, ⟨f.a.block, 0, none⟩) :: s.owe }
        | none => krun P orc (k (some (orc s.k, orc (s.k + 1)))) { s with hint := hs, k := s.k + 2, owe := (⟨r, 0, none⟩, ⟨f.a.block, 0, none⟩) :: s.owe }
      | none => none
    | [] => none
  | .frozen a k, s => match s.hint with
    | i :: hs => match s.fs[i]? with
      | some f => if f.wr then krun P orc (k false) { s with hint := hs, owe := (a, f.a) :: s.owe } else none
      | none => none
    | [] => none
  | _, _ => none

def Owed (s : St) : Prop := ∀ p ∈ s.owe, p.1 = p.2

section
variable {α : Type} {P : Program} {orc orc2 : Nat → Nat}

theorem krun_le : ∀ (e : Sem α) {s s' : St} {r : α}, krun P orc e s = some (r, s') → s.k ≤ s'.k ∧ (∀ p ∈ s.owe, p ∈ s'.owe) := by
  intro e
  induction e with
  | pure a => intro s s' r h; simp only [krun, Option.some.injEq, Prod.mk.injEq] at h; obtain ⟨_, rfl⟩ := h; exact ⟨Nat.le_refl _, fun _ h => h⟩
  | load m a k ih =>
    intro s s' r h
    simp only [krun] at h
    split at h
    · split at h
      · have := ih _ h; exact ⟨this.1, fun p hp => this.2 p (by simp [hp])⟩
      · cases h
    · cases h
  | store m a v k ih =>
    intro s s' r h
    simp only [krun] at h
    split at h
    · split at h
      · split at h
        · split at h
          · have := ih h; exact ⟨this.1, fun p hp => this.2 p (by simp [hp])⟩
          · cases h
        · cases h
      · cases h
    · cases h
  | new o k ih =>
    intro s s' r h
    simp only [krun] at h
    split at h
    · have := ih _ h; exact ⟨Nat.le_of_succ_le this.1, this.2⟩
    · cases h
  | choose q k ih =>
    intro s s' r h
    simp only [krun] at h
    split at h
    · exact ih _ h
    · have := ih _ h; exact ⟨Nat.le_of_succ_le this.1, this.2⟩
  | program k ih => intro s s' r h; exact ih _ h
  | mark m k ih =>
    intro s s' r h
    simp only [krun] at h
    split at h
    · exact ih (s := { s with ev := s.ev.push ⟨.mark m, false, true⟩ }) h
    · split at h
      · split at h
        · have := ih h; exact ⟨this.1, fun p hp => this.2 p (by simp [hp])⟩
        · cases h
      · cases h
  | shape r k ih =>
    intro s s' r h
    simp only [krun] at h
    split at h
    · split at h
      · split at h
        · have := ih _ h; exact ⟨this.1, fun p hp => this.2 p (by simp [hp])⟩
        · have := ih _ h; exact ⟨Nat.le_trans (Nat.le_add_right _ 2) this.1, fun p hp => this.2 p (by simp [hp])⟩
      · cases h
    · cases h
  | freeze a n k ih => intro s s' r h; simp [krun] at h
  | frozen a k ih =>
    intro s s' r h
    simp only [krun] at h
    split at h
    · split at h
      · split at h
        · have := ih _ h; exact ⟨this.1, fun p hp => this.2 p (by simp [hp])⟩
        · cases h
      · cases h
    · cases h
  | getObj r k ih => intro s s' r h; simp [krun] at h
  | setObj r o k ih => intro s s' r h; simp [krun] at h
  | sys c k ih => intro s s' r h; simp [krun] at h
  | halt h => intro s s' r h; simp [krun] at h

theorem krun_congr : ∀ (e : Sem α) {s s' : St} {r : α}, krun P orc e s = some (r, s') → (∀ i, i < s'.k → orc2 i = orc i) → krun P orc2 e s = some (r, s') := by
  intro e
  induction e with
  | pure a => intro s s' r h _; exact h
  | load m a k ih =>
    intro s s' r h ho
    simp only [krun] at h ⊢
    split at h
    · split at h
      · exact ih _ h ho
      · cases h
    · cases h
  | store m a v k ih =>
    intro s s' r h ho
    simp only [krun] at h ⊢
    by_cases hv : one v = true
    · rw [if_pos hv] at h ⊢
      split at h
      · split at h
        · rename_i f _
          by_cases hw : f.wr = true
          · rw [if_pos hw] at h ⊢; exact ih h ho
          · rw [if_neg hw] at h; cases h
        · cases h
      · cases h
    · rw [if_neg hv] at h; cases h
  | new o k ih =>
    intro s s' r h ho
    simp only [krun] at h ⊢
    split at h
    · have hk := (krun_le _ h).1
      have e : orc2 s.k = orc s.k := ho _ hk
      rw [e]
      exact ih _ h ho
    · cases h
  | choose q k ih =>
    intro s s' r h ho
    simp only [krun] at h ⊢
    split at h
    · rename_i h1; rw [if_pos h1]; exact ih _ h ho
    · rename_i h1
      rw [if_neg h1]
      have hk := (krun_le _ h).1
      have e : orc2 s.k = orc s.k := ho _ hk
      rw [e]
      exact ih _ h ho
  | program k ih => intro s s' r h ho; exact ih _ h ho
  | mark m k ih =>
    intro s s' r h ho
    simp only [krun] at h ⊢
    split at h
    · exact ih h ho
    · split at h
      · split at h
        · exact ih h ho
        · cases h
      · cases h
  | shape r k ih =>
    intro s s' r h ho
    simp only [krun] at h ⊢
    split at h
    · split at h
      · split at h
        · exact ih _ h ho
        · have hk := (krun_le _ h).1
          have e : orc2 s.k = orc s.k := ho _ (Nat.lt_of_lt_of_le (Nat.lt_succ_of_lt (Nat.lt_succ_self _)) hk)
          have e2 : orc2 (s.k + 1) = orc (s.k + 1) := ho _ (Nat.lt_of_lt_of_le (Nat.lt_succ_self _) hk)
          rw [e, e2]
          exact ih _ h ho
      · cases h
    · cases h
  | freeze a n k ih => intro s s' r h; simp [krun] at h
  | frozen a k ih =>
    intro s s' r h ho
    simp only [krun] at h ⊢
    split at h
    · split at h
      · rename_i f _
        by_cases hw : f.wr = true
        · rw [if_pos hw] at h ⊢; exact ih _ h ho
        · rw [if_neg hw] at h; cases h
      · cases h
    · cases h
  | getObj r k ih => intro s s' r h; simp [krun] at h
  | setObj r o k ih => intro s s' r h; simp [krun] at h
  | sys c k ih => intro s s' r h; simp [krun] at h
  | halt h => intro s s' r h; simp [krun] at h
end

/-- An entry of a step's list: an access to a known cell (a write: to a writable one), or a mark (if it names a place, that lies in a known cell's block). -/
def EvIn (fs : List (Addr × Bool)) (e : Event) : Prop :=
  (∃ p ∈ fs, e.loc = .cell p.1 ∧ (e.write = true → p.2 = true)) ∨ (∃ m, e = ⟨.mark m, false, true⟩ ∧ ∀ a, markAddr m = some a → ∃ p ∈ fs, a.block = p.1.block)

theorem EvIn.mono {fs new : List (Addr × Bool)} {e : Event} (h : EvIn fs e) : EvIn (fs ++ new) e := by
  rcases h with ⟨p, hp, h⟩ | ⟨m, hm, h⟩
  · exact .inl ⟨p, by simp [hp], h⟩
  · exact .inr ⟨m, hm, fun a ha => let ⟨p, hp, e⟩ := h a ha; ⟨p, by simp [hp], e⟩⟩

def keys (fs : List Fact) : List (Addr × Bool) := fs.map fun f => (f.a, f.wr)

theorem keys_set {fs : List Fact} {i : Nat} {f : Fact} (hi : fs[i]? = some f) (v : Value) : keys (fs.set i { f with v := v }) = keys fs := by
  have hlt : i < fs.length := (List.getElem?_eq_some_iff.1 hi).1
  have hfi : fs[i] = f := (List.getElem?_eq_some_iff.1 hi).2
  unfold keys
  rw [List.map_set]
  apply List.ext_getElem?
  intro j
  by_cases hj : i = j
  · subst hj; simp [hlt, hfi]
  · simp [List.getElem?_set_ne hj]

theorem krun_ev {α : Type} {P : Program} {orc : Nat → Nat} : ∀ (e : Sem α) {s s' : St} {r : α}, krun P orc e s = some (r, s') → (∀ p ∈ s'.owe, p.1 = p.2) →
    (∃ new, keys s'.fs = keys s.fs ++ new) ∧ ∀ x ∈ s'.ev, x ∈ s.ev ∨ EvIn (keys s'.fs) x := by
  intro e
  induction e with
  | pure a => intro s s' r h _; simp only [krun, Option.some.injEq, Prod.mk.injEq] at h; obtain ⟨_, rfl⟩ := h; exact ⟨⟨[], by simp⟩, fun x hx => .inl hx⟩
  | load m a k ih =>
    intro s s' r h ho
    simp only [krun] at h
    split at h
    · split at h
      · rename_i f hf
        obtain ⟨⟨new, e1⟩, e2⟩ := ih _ h ho
        have ha := ho (a, f.a) ((krun_le _ h).2 _ (by simp))
        refine ⟨⟨new, e1⟩, fun x hx => ?_⟩
        rcases e2 x hx with hx | hx
        · rcases Array.mem_push.1 hx with hx | rfl
          · exact .inl hx
          · refine .inr (.inl ⟨(f.a, f.wr), ?_, by simp at ha; simp [ha], by simp⟩)
            rw [e1]; exact List.mem_append_left _ (List.mem_map.2 ⟨f, List.mem_of_getElem? hf, rfl⟩)
        · exact .inr hx
      · cases h
    · cases h
  | store m a v k ih =>
    intro s s' r h ho
    simp only [krun] at h
    split at h
    · split at h
      · split at h
        · split at h
          · rename_i f hf hw
            obtain ⟨⟨new, e1⟩, e2⟩ := ih h ho
            have ha := ho (a, f.a) ((krun_le _ h).2 _ (by simp))
            have e1' : keys s'.fs = keys s.fs ++ new := by rw [e1]; dsimp only; rw [keys_set hf]
            refine ⟨⟨new, e1'⟩, fun x hx => ?_⟩
            rcases e2 x hx with hx | hx
            · rcases Array.mem_push.1 hx with hx | rfl
              · exact .inl hx
              · refine .inr (.inl ⟨(f.a, f.wr), ?_, by simp at ha; simp [ha], fun _ => hw⟩)
                rw [e1']; exact List.mem_append_left _ (List.mem_map.2 ⟨f, List.mem_of_getElem? hf, rfl⟩)
            · exact .inr hx
          · cases h
        · cases h
      · cases h
    · cases h
  | new o k ih =>
    intro s s' r h ho
    simp only [krun] at h
    split at h
    · obtain ⟨⟨new, e1⟩, e2⟩ := ih _ h ho
      exact ⟨⟨_, by rw [e1]; simp only [keys, List.map_append, List.append_assoc]; rfl⟩, e2⟩
    · cases h
  | choose q k ih =>
    intro s s' r h ho
    simp only [krun] at h
    split at h
    · exact ih _ h ho
    · exact ih _ (s := { s with k := s.k + 1 }) h ho
  | program k ih => intro s s' r h ho; exact ih _ h ho
  | mark m k ih =>
    intro s s' r h ho
    simp only [krun] at h
    split at h
    · rename_i hm
      obtain ⟨e1, e2⟩ := ih h ho
      refine ⟨e1, fun x hx => ?_⟩
      rcases e2 x hx with hx | hx
      · rcases Array.mem_push.1 hx with hx | rfl
        · exact .inl hx
        · exact .inr (.inr ⟨m, rfl, fun a ha => by rw [hm] at ha; cases ha⟩)
      · exact .inr hx
    · rename_i a hm
      split at h
      · split at h
        · rename_i f hf
          obtain ⟨⟨new, e1⟩, e2⟩ := ih h ho
          have ha := ho _ ((krun_le _ h).2 _ (List.mem_cons_self))
          refine ⟨⟨new, e1⟩, fun x hx => ?_⟩
          rcases e2 x hx with hx | hx
          · rcases Array.mem_push.1 hx with hx | rfl
            · exact .inl hx
            · refine .inr (.inr ⟨m, rfl, fun a' ha' => ⟨(f.a, f.wr), ?_, ?_⟩⟩)
              · rw [e1]; exact List.mem_append_left _ (List.mem_map.2 ⟨f, List.mem_of_getElem? hf, rfl⟩)
              · rw [hm] at ha'; cases ha'; simp at ha; exact ha
          · exact .inr hx
        · cases h
      · cases h
  | shape r k ih =>
    intro s s' r h ho
    simp only [krun] at h
    split at h
    · split at h
      · split at h
        · have := ih _ h ho
          exact this
        · have := ih _ h ho
          exact this
      · cases h
    · cases h
  | freeze a n k ih => intro s s' r h; simp [krun] at h
  | frozen a k ih =>
    intro s s' r h ho
    simp only [krun] at h
    split at h
    · split at h
      · split at h
        · have := ih _ h ho
          exact this
        · cases h
      · cases h
    · cases h
  | getObj r k ih => intro s s' r h; simp [krun] at h
  | setObj r o k ih => intro s s' r h; simp [krun] at h
  | sys c k ih => intro s s' r h; simp [krun] at h
  | halt h => intro s s' r h; simp [krun] at h

/-! ### What the facts say of a world; how a world and its facts turn -/
structure Sat (fs : List Fact) (w : World) : Prop where
  cell : ∀ f ∈ fs, w.cell? f.a = some f.v
  wr : ∀ f ∈ fs, f.wr = true → w.frozen? f.a = false
  sh : ∀ f ∈ fs, ∀ q, f.sh = some q → w.shape? f.a.block = some q
  nodup : (fs.map (·.a)).Nodup

/-- The world has turned at writable facts and by new blocks alone. -/
structure Turn (fs : List Fact) (w : World) (fs' : List Fact) (w' : World) : Prop where
  sat : Sat fs' w'
  tape : w'.tape = w.tape
  os : w'.os = w.os
  output : w'.output = w.output
  size : w.heap.size ≤ w'.heap.size
  block : ∀ b, b < w.heap.size → (∀ f ∈ fs, f.wr = true → f.a.block ≠ b) → w'.heap[b]? = w.heap[b]?
  cell : ∀ a : Addr, a.block < w.heap.size → (∀ f ∈ fs, f.wr = true → f.a ≠ a) → w'.cell? a = w.cell? a ∧ w'.frozen? a = w.frozen? a
  shape : ∀ b, b < w.heap.size → w'.shape? b = w.shape? b
  grow : ∃ new, fs'.map (fun f => (f.a, f.wr)) = fs.map (fun f => (f.a, f.wr)) ++ new ∧ ∀ p ∈ new, w.heap.size ≤ p.1.block ∧ p.1.block < w'.heap.size ∧ p.2 = true

theorem Turn.refl {fs : List Fact} {w : World} (h : Sat fs w) : Turn fs w fs w :=
  ⟨h, rfl, rfl, rfl, Nat.le_refl _, fun _ _ _ => rfl, fun _ _ _ => ⟨rfl, rfl⟩, fun _ _ => rfl, [], by simp, by simp⟩

theorem cell_block_lt {w : World} {a : Addr} {v : Value} (h : w.cell? a = some v) : a.block < w.heap.size := by
  unfold World.cell? at h
  rcases Nat.lt_or_ge a.block w.heap.size with hl | hl
  · exact hl
  · rw [Array.getElem?_eq_none hl] at h; cases h

theorem Turn.mem {fs fs' : List Fact} {w w' : World} (h : Turn fs w fs' w') {f : Fact} (hf : f ∈ fs') : (∃ g ∈ fs, g.a = f.a ∧ g.wr = f.wr) ∨ (w.heap.size ≤ f.a.block ∧ f.a.block < w'.heap.size ∧ f.wr = true) := by
  obtain ⟨new, e, hn⟩ := h.grow
  have hm : (f.a, f.wr) ∈ fs'.map (fun f => (f.a, f.wr)) := List.mem_map.2 ⟨f, hf, rfl⟩
  rw [e, List.mem_append] at hm
  rcases hm with hm | hm
  · obtain ⟨g, hg, he⟩ := List.mem_map.1 hm
    simp only [Prod.mk.injEq] at he
    exact .inl ⟨g, hg, he.1, he.2⟩
  · exact .inr ⟨(hn _ hm).1, (hn _ hm).2.1, (hn _ hm).2.2⟩

theorem Turn.trans {fs fs1 fs2 : List Fact} {w w1 w2 : World} (h : Turn fs w fs1 w1) (k : Turn fs1 w1 fs2 w2) : Turn fs w fs2 w2 := by
  refine ⟨k.sat, k.tape.trans h.tape, k.os.trans h.os, k.output.trans h.output, Nat.le_trans h.size k.size, fun b hb hf => ?_, fun a ha hf => ?_, fun b hb => (k.shape b (Nat.lt_of_lt_of_le hb h.size)).trans (h.shape b hb), ?_⟩
  · rw [k.block b (Nat.lt_of_lt_of_le hb h.size) (fun f hf1 hw => ?_), h.block b hb hf]
    rcases h.mem hf1 with ⟨g, hg, e1, e2⟩ | ⟨e1, _, _⟩
    · rw [← e1]; exact hf g hg (e2.trans hw)
    · omega
  · obtain ⟨k1, k2⟩ := k.cell a (Nat.lt_of_lt_of_le ha h.size) (fun f hf1 hw => by
      rcases h.mem hf1 with ⟨g, hg, e1, e2⟩ | ⟨e1, _, _⟩
      · rw [← e1]; exact hf g hg (e2.trans hw)
      · intro e; rw [e] at e1; omega)
    obtain ⟨h1, h2⟩ := h.cell a ha hf
    exact ⟨k1.trans h1, k2.trans h2⟩
  · obtain ⟨n1, e1, p1⟩ := h.grow
    obtain ⟨n2, e2, p2⟩ := k.grow
    refine ⟨n1 ++ n2, by rw [e2, e1, List.append_assoc], fun p hp => ?_⟩
    rcases List.mem_append.1 hp with hp | hp
    · have := p1 p hp; exact ⟨this.1, Nat.lt_of_lt_of_le this.2.1 k.size, this.2.2⟩
    · have := p2 p hp; exact ⟨Nat.le_trans h.size this.1, this.2.1, this.2.2⟩

theorem Sat.lt {fs : List Fact} {w : World} (h : Sat fs w) {f : Fact} (hf : f ∈ fs) : f.a.block < w.heap.size := cell_block_lt (h.cell f hf)

/-- A store at a writable fact. -/
theorem Turn.store {fs : List Fact} {w : World} (h : Sat fs w) {i : Nat} {f : Fact} (hi : fs[i]? = some f) (hw : f.wr = true) (v : Value) :
    Turn fs w (fs.set i { f with v := v }) (w.setCell f.a v) := by
  have hlt : i < fs.length := (List.getElem?_eq_some_iff.1 hi).1
  have hfi : fs[i] = f := (List.getElem?_eq_some_iff.1 hi).2
  have hmem : f ∈ fs := List.mem_of_getElem? hi
  have hc := h.cell f hmem
  have hmap : (fs.set i { f with v := v }).map (·.a) = fs.map (·.a) := by
    rw [List.map_set]
    apply List.ext_getElem?
    intro j
    by_cases hj : i = j
    · subst hj; simp [hlt, hfi]
    · simp [List.getElem?_set_ne hj]
  have hmap2 : (fs.set i { f with v := v }).map (fun f => (f.a, f.wr)) = fs.map (fun f => (f.a, f.wr)) := by
    rw [List.map_set]
    apply List.ext_getElem?
    intro j
    by_cases hj : i = j
    · subst hj; simp [hlt, hfi]
    · simp [List.getElem?_set_ne hj]
  have hfz : ∀ a, (w.setCell f.a v).frozen? a = w.frozen? a := fun a => by
    unfold World.frozen? World.setCell
    simp only [Array.getElem?_modify]
    by_cases hb : f.a.block = a.block
    · rw [if_pos hb]
      cases w.heap[a.block]? with
      | none => rfl
      | some o => cases o <;> rfl
    · rw [if_neg hb]
  have hsh : ∀ b, (w.setCell f.a v).shape? b = w.shape? b := fun b => by
    unfold World.shape? World.setCell
    simp only [Array.getElem?_modify]
    by_cases hb : f.a.block = b
    · rw [if_pos hb]
      cases w.heap[b]? with
      | none => rfl
      | some o =>
        cases o with
        | cells c ty fr => simp only [Option.map_some]; split <;> simp
        | _ => rfl
    · rw [if_neg hb]
  have hne : ∀ a, f.a ≠ a → w.cell? a ≠ none → (w.setCell f.a v).cell? a = w.cell? a := fun a ha hn => by
    unfold World.cell? World.setCell at *
    simp only [Array.getElem?_modify]
    by_cases hb : f.a.block = a.block
    · rw [if_pos hb]
      cases ho : w.heap[a.block]? with
      | none => rfl
      | some o =>
        cases o with
        | cells c ty fr =>
          simp only [Option.map_some]
          by_cases hs : a.spot.isSome = true
          · simp [ho, hs] at hn
          · have hsa : a.spot = none := by simpa using hs
            have hsf : f.a.spot = none := by
              by_cases hf' : f.a.spot.isSome = true
              · simp [hb, ho, hf'] at hc
              · simpa using hf'
            simp only [hsa, hsf, Option.isSome_none, Bool.false_eq_true, if_false]
            have hoff : f.a.off ≠ a.off := by
              intro e
              apply ha
              rw [show f.a = ⟨f.a.block, f.a.off, f.a.spot⟩ from rfl, show a = ⟨a.block, a.off, a.spot⟩ from rfl, hb, e, hsa, hsf]
            rw [Array.getElem?_setIfInBounds_ne hoff]
        | _ => rfl
    · rw [if_neg hb]
  have heq : (w.setCell f.a v).cell? f.a = some v := by
    unfold World.cell? World.setCell at *
    simp only [Array.getElem?_modify, if_pos]
    cases ho : w.heap[f.a.block]? with
    | none => rw [ho] at hc; cases hc
    | some o =>
      cases o with
      | cells c ty fr =>
        rw [ho] at hc
        simp only [Option.map_some]
        by_cases hs : f.a.spot.isSome = true
        · simp [hs] at hc
        · simp only [hs, Bool.false_eq_true, if_false] at hc ⊢
          have := (Array.getElem?_eq_some_iff.1 hc).1
          simp [this]
      | _ => rw [ho] at hc; cases hc
  refine ⟨⟨fun g hg => ?_, fun g hg hgw => ?_, fun g hg q hq => ?_, by rw [hmap]; exact h.nodup⟩, rfl, rfl, rfl, by simp [World.setCell], fun b hb hf => ?_, fun a ha hf => ?_, fun b _ => hsh b, [], by simp [hmap2], by simp⟩
  · obtain ⟨j, hj, rfl⟩ := List.mem_iff_getElem.1 hg
    by_cases hij : i = j
    · subst hij; simp; exact heq
    · have hj' : j < fs.length := by simpa using hj
      rw [List.getElem_set_ne hij]
      have hgm : fs[j] ∈ fs := List.getElem_mem hj'
      have hne' : f.a ≠ fs[j].a := by
        intro e
        have hnd := h.nodup
        rw [List.nodup_iff_pairwise_ne, List.pairwise_iff_getElem] at hnd
        rcases Nat.lt_or_gt_of_ne hij with hl | hl
        · have := hnd i j (by simpa using hlt) (by simpa using hj') hl
          simp [hfi, e] at this
        · have := hnd j i (by simpa using hj') (by simpa using hlt) hl
          simp [hfi, e] at this
      rw [hne _ hne' (by rw [h.cell _ hgm]; simp)]
      exact h.cell _ hgm
  · rw [hfz]
    obtain ⟨j, hj, rfl⟩ := List.mem_iff_getElem.1 hg
    by_cases hij : i = j
    · subst hij; simp; exact h.wr f hmem hw
    · have hj' : j < fs.length := by simpa using hj
      rw [List.getElem_set_ne hij] at hgw ⊢
      exact h.wr _ (List.getElem_mem hj') hgw
  · rw [hsh]
    obtain ⟨j, hj, rfl⟩ := List.mem_iff_getElem.1 hg
    by_cases hij : i = j
    · subst hij; simp at hq ⊢; exact h.sh f hmem q hq
    · have hj' : j < fs.length := by simpa using hj
      rw [List.getElem_set_ne hij] at hq ⊢
      exact h.sh _ (List.getElem_mem hj') q hq
  · unfold World.setCell
    simp only [Array.getElem?_modify]
    rw [if_neg (hf f hmem hw)]
  · refine ⟨?_, hfz a⟩
    have hfa := hf f hmem hw
    by_cases hn : w.cell? a = none
    · rw [hn]
      unfold World.cell? World.setCell at *
      simp only [Array.getElem?_modify]
      by_cases hb : f.a.block = a.block
      · rw [if_pos hb]
        cases ho : w.heap[a.block]? with
        | none => rfl
        | some o =>
          cases o with
          | cells c ty fr =>
            simp only [ho, Option.map_some] at hn ⊢
            by_cases hs : a.spot.isSome = true
            · simp [hs]
            · simp only [hs, Bool.false_eq_true, if_false] at hn ⊢
              have : c.size ≤ a.off := by simpa using hn
              split <;> simp [this]
          | _ => rfl
      · rw [if_neg hb]; exact hn
    · exact hne a hfa hn

theorem newFacts_sh (b : Nat) (sh : Option (TypeId × Nat)) : ∀ (cs : List Value) (j : Nat), ∀ f ∈ newFacts b sh cs j, f.sh = sh
  | [], _, f, h => by simp [newFacts] at h
  | v :: r, j, f, h => by
    simp only [newFacts, List.mem_cons] at h
    rcases h with rfl | h
    · rfl
    · exact newFacts_sh b sh r (j + 1) f h

theorem newFacts_a (b : Nat) (sh : Option (TypeId × Nat)) : ∀ (cs : List Value) (j : Nat), ∀ f ∈ newFacts b sh cs j, f.a.block = b ∧ f.a.spot = none ∧ j ≤ f.a.off ∧ cs[f.a.off - j]? = some f.v ∧ f.wr = true
  | [], _, f, h => by simp [newFacts] at h
  | v :: r, j, f, h => by
    simp only [newFacts, List.mem_cons] at h
    rcases h with rfl | h
    · simp
    · obtain ⟨h1, h2, h3, h4, h5⟩ := newFacts_a b sh r (j + 1) f h
      refine ⟨h1, h2, by omega, ?_, h5⟩
      have : f.a.off - j = (f.a.off - (j + 1)) + 1 := by omega
      rw [this]; simpa using h4

theorem newFacts_nodup (b : Nat) (sh : Option (TypeId × Nat)) : ∀ (cs : List Value) (j : Nat), ((newFacts b sh cs j).map (·.a)).Nodup
  | [], _ => by simp [newFacts]
  | v :: r, j => by
    simp only [newFacts, List.map_cons, List.nodup_cons]
    refine ⟨fun h => ?_, newFacts_nodup b sh r (j + 1)⟩
    obtain ⟨f, hf, e⟩ := List.mem_map.1 h
    have := (newFacts_a b sh r (j + 1) f hf).2.2.1
    rw [e] at this
    simp at this
    omega

/-- A new block. -/
theorem Turn.new {fs : List Fact} {w : World} (h : Sat fs w) (arr : Array Value) (ty : TypeId) :
    Turn fs w (fs ++ newFacts w.heap.size (some (ty, arr.toList.length)) arr.toList 0) { w with heap := w.heap.push (.cells arr ty (0, 0)) } := by
  have hold : ∀ b, b < w.heap.size → (w.heap.push (.cells arr ty (0, 0)))[b]? = w.heap[b]? := fun b hb => by
    rw [Array.getElem?_push]; simp [Nat.ne_of_lt hb]
  have hcell : ∀ a : Addr, a.block < w.heap.size → World.cell? { w with heap := w.heap.push (.cells arr ty (0, 0)) } a = w.cell? a := fun a ha => by
    unfold World.cell?; simp only [hold a.block ha]
  have hfz : ∀ a : Addr, a.block < w.heap.size → World.frozen? { w with heap := w.heap.push (.cells arr ty (0, 0)) } a = w.frozen? a := fun a ha => by
    unfold World.frozen?; simp only [hold a.block ha]
  have hnew : (w.heap.push (.cells arr ty (0, 0)))[w.heap.size]? = some (.cells arr ty (0, 0)) := by simp
  refine ⟨⟨fun f hf => ?_, fun f hf hw => ?_, fun f hf q hq => ?_, ?_⟩, rfl, rfl, rfl, by simp, fun b hb _ => hold b hb, fun a ha _ => ⟨hcell a ha, hfz a ha⟩, fun b hb => (by unfold World.shape?; simp only [hold b hb]), (newFacts w.heap.size (some (ty, arr.toList.length)) arr.toList 0).map (fun f => (f.a, f.wr)), by simp, fun p hp => ?_⟩
  · rcases List.mem_append.1 hf with hf | hf
    · rw [hcell _ (h.lt hf)]; exact h.cell f hf
    · obtain ⟨h1, h2, _, h4, _⟩ := newFacts_a _ _ _ _ f hf
      unfold World.cell?
      simp only [h1, hnew, h2]
      simpa using h4
  · rcases List.mem_append.1 hf with hf | hf
    · rw [hfz _ (h.lt hf)]; exact h.wr f hf hw
    · obtain ⟨h1, _⟩ := newFacts_a _ _ _ _ f hf
      unfold World.frozen?
      simp only [h1, hnew]
      simp
  · rcases List.mem_append.1 hf with hf | hf
    · unfold World.shape?
      simp only [hold _ (h.lt hf)]
      exact h.sh f hf q hq
    · have h0 := newFacts_sh _ _ _ _ f hf
      obtain ⟨h1, _⟩ := newFacts_a _ _ _ _ f hf
      rw [h0] at hq
      unfold World.shape?
      simp only [h1, hnew]
      simpa using hq
  · rw [List.map_append, List.nodup_append]
    refine ⟨h.nodup, newFacts_nodup _ _ _ _, fun a ha b hb e => ?_⟩
    obtain ⟨f, hf, rfl⟩ := List.mem_map.1 ha
    obtain ⟨g, hg, rfl⟩ := List.mem_map.1 hb
    have h1 := h.lt hf
    have h2 := (newFacts_a _ _ _ _ g hg).1
    rw [e] at h1
    omega
  · obtain ⟨f, hf, rfl⟩ := List.mem_map.1 hp
    obtain ⟨h1, _, _, _, h5⟩ := newFacts_a _ _ _ _ f hf
    exact ⟨by simp [h1], by simp [h1], h5⟩

theorem Sat.drawn {fs : List Fact} {w : World} (h : Sat fs w) (d : Nat) : Sat fs { w with drawn := d } := ⟨h.cell, h.wr, h.sh, h.nodup⟩
theorem Turn.drawn {fs : List Fact} {w : World} (h : Sat fs w) (d : Nat) : Turn fs w fs { w with drawn := d } :=
  ⟨h.drawn d, rfl, rfl, rfl, Nat.le_refl _, fun _ _ _ => rfl, fun _ _ _ => ⟨rfl, rfl⟩, fun _ _ => rfl, [], by simp, by simp⟩

def upd (orc : Nat → Nat) (k n : Nat) : Nat → Nat := fun i => if i = k then n else orc i

/-- ████ THE OPERATION IS CARRIED OUT AS 'krun' SAYS, at the oracle that the world itself gives. ████ -/
theorem krun_sound {α : Type} {P : Program} : ∀ (e : Sem α) (s : St) (w : World) (orc : Nat → Nat), Sat s.fs w →
    (∀ orc', (∀ i, i < s.k → orc' i = orc i) → ∃ r s', krun P orc' e s = some (r, s') ∧ Owed s') →
    ∃ orc' r s' w', (∀ i, i < s.k → orc' i = orc i) ∧ krun P orc' e s = some (r, s') ∧ e.runT P w s.ev = (.ok r w', s'.ev) ∧ Turn s.fs w s'.fs w' := by
  intro e
  induction e with
  | pure a =>
    intro s w orc hs H
    exact ⟨orc, a, s, w, fun _ _ => rfl, rfl, rfl, .refl hs⟩
  | load m a k ih =>
    intro s w orc hs H
    obtain ⟨r0, s0, h0, o0⟩ := H orc (fun _ _ => rfl)
    cases hh : s.hint with
    | nil => simp [krun, hh] at h0
    | cons i hsn =>
      cases hf : s.fs[i]? with
      | none => simp [krun, hh, hf] at h0
      | some f =>
        have hk : ∀ orc', krun P orc' (.load m a k) s = krun P orc' (k f.v) { s with hint := hsn, owe := (a, f.a) :: s.owe, ev := s.ev.push ⟨.cell a, false, m == Go.Mode.atomic⟩ } := fun orc' => by simp only [krun, hh, hf]
        have ha : a = f.a := by
          rw [hk] at h0
          exact o0 (a, f.a) ((krun_le _ h0).2 _ (by simp))
        obtain ⟨orc', r, s', w', h1, h2, h3, h4⟩ := ih f.v { s with hint := hsn, owe := (a, f.a) :: s.owe, ev := s.ev.push ⟨.cell a, false, m == Go.Mode.atomic⟩ } w orc hs (fun orc' ho => by
          obtain ⟨r, s', h, o⟩ := H orc' ho; rw [hk] at h; exact ⟨r, s', h, o⟩)
        refine ⟨orc', r, s', w', h1, by rw [hk]; exact h2, ?_, h4⟩
        have hc : w.cell? a = some f.v := by rw [ha]; exact hs.cell f (List.mem_of_getElem? hf)
        simp only [Sem.runT, hc]
        exact h3
  | store m a v k ih =>
    intro s w orc hs H
    obtain ⟨r0, s0, h0, o0⟩ := H orc (fun _ _ => rfl)
    by_cases hv : one v = true
    · cases hh : s.hint with
      | nil => simp [krun, hh] at h0
      | cons i hsn =>
        cases hf : s.fs[i]? with
        | none => simp [krun, hh, hf] at h0
        | some f =>
          by_cases hw : f.wr = true
          · have hk : ∀ orc', krun P orc' (.store m a v k) s = krun P orc' k { s with fs := s.fs.set i { f with v := v }, hint := hsn, owe := (a, f.a) :: s.owe, ev := s.ev.push ⟨.cell a, true, m == Go.Mode.atomic⟩ } := fun orc' => by
              simp only [krun, hh, hf, hv, hw, if_true]
            have ha : a = f.a := by
              rw [hk] at h0
              exact o0 (a, f.a) ((krun_le _ h0).2 _ (by simp))
            have hmem := List.mem_of_getElem? hf
            have ht := Turn.store hs hf hw v
            obtain ⟨orc', r, s', w', h1, h2, h3, h4⟩ := ih { s with fs := s.fs.set i { f with v := v }, hint := hsn, owe := (a, f.a) :: s.owe, ev := s.ev.push ⟨.cell a, true, m == Go.Mode.atomic⟩ } (w.setCell f.a v) orc ht.sat (fun orc' ho => by
              obtain ⟨r, s', h, o⟩ := H orc' ho; rw [hk] at h; exact ⟨r, s', h, o⟩)
            refine ⟨orc', r, s', w', h1, by rw [hk]; exact h2, ?_, ht.trans h4⟩
            have hc : w.cell? a = some f.v := by rw [ha]; exact hs.cell f hmem
            have hz : w.frozen? a = false := by rw [ha]; exact hs.wr f hmem hw
            have hrun : (Sem.store m a v k).runT P w s.ev = k.runT P (w.setCell a v) (s.ev.push ⟨.cell a, true, m == Go.Mode.atomic⟩) := by
              cases v <;> first
                | (simp [one] at hv; done)
                | (simp only [Sem.runT, hc, hz]; simp)
            rw [hrun, ha]
            rw [ha] at h3
            exact h3
          · simp [krun, hh, hf, hv, hw] at h0
    · simp [krun, hv] at h0
  | new o k ih =>
    intro s w orc hs H
    obtain ⟨r0, s0, h0, _⟩ := H orc (fun _ _ => rfl)
    cases o with
    | cells arr ty fr =>
      obtain ⟨lo, hi⟩ := fr
      by_cases hfr : lo = 0 ∧ hi = 0
      · obtain ⟨rfl, rfl⟩ := hfr
        have hk : ∀ orc', krun P orc' (.new (.cells arr ty (0, 0)) k) s = krun P orc' (k (orc' s.k)) { s with fs := s.fs ++ newFacts (orc' s.k) (some (ty, arr.toList.length)) arr.toList 0, k := s.k + 1 } := fun orc' => by simp only [krun]
        have ht := Turn.new hs arr ty
        obtain ⟨orc', r, s', w', h1, h2, h3, h4⟩ := ih w.heap.size { s with fs := s.fs ++ newFacts w.heap.size (some (ty, arr.toList.length)) arr.toList 0, k := s.k + 1 } _ (upd orc s.k w.heap.size) ht.sat (fun orc' ho => by
          have e : orc' s.k = w.heap.size := by rw [ho s.k (Nat.lt_succ_self _)]; simp [upd]
          obtain ⟨r, s', h, o⟩ := H orc' (fun i hi => by rw [ho i (Nat.lt_succ_of_lt hi)]; simp [upd, Nat.ne_of_lt hi])
          rw [hk, e] at h
          exact ⟨r, s', h, o⟩)
        have e : orc' s.k = w.heap.size := by rw [h1 s.k (Nat.lt_succ_self _)]; simp [upd]
        refine ⟨orc', r, s', w', fun i hi => by rw [h1 i (Nat.lt_succ_of_lt hi)]; simp [upd, Nat.ne_of_lt hi], by rw [hk, e]; exact h2, ?_, ht.trans h4⟩
        simp only [Sem.runT]
        exact h3
      · exfalso
        simp only [krun] at h0
        split at h0
        · rename_i heq; cases heq; exact hfr ⟨rfl, rfl⟩
        · cases h0
    | _ => simp [krun] at h0
  | choose q k ih =>
    intro s w orc hs H
    by_cases hq : q.forced = true
    · have hk : ∀ orc', krun P orc' (.choose q k) s = krun P orc' (k 0) s := fun orc' => by simp only [krun, hq, if_true]
      obtain ⟨orc', r, s', w', h1, h2, h3, h4⟩ := ih 0 s w orc hs (fun orc' ho => by obtain ⟨r, s', h, o⟩ := H orc' ho; rw [hk] at h; exact ⟨r, s', h, o⟩)
      exact ⟨orc', r, s', w', h1, by rw [hk]; exact h2, by simp only [Sem.runT, hq, if_true]; exact h3, h4⟩
    · have hk : ∀ orc', krun P orc' (.choose q k) s = krun P orc' (k (q.cut (orc' s.k))) { s with k := s.k + 1 } := fun orc' => by simp only [krun, hq]; simp
      have ht := Turn.drawn hs (w.drawn + 1)
      obtain ⟨orc', r, s', w', h1, h2, h3, h4⟩ := ih (q.cut (w.tape w.drawn q)) { s with k := s.k + 1 } { w with drawn := w.drawn + 1 } (upd orc s.k (w.tape w.drawn q)) ht.sat (fun orc' ho => by
        have e : orc' s.k = w.tape w.drawn q := by rw [ho s.k (Nat.lt_succ_self _)]; simp [upd]
        obtain ⟨r, s', h, o⟩ := H orc' (fun i hi => by rw [ho i (Nat.lt_succ_of_lt hi)]; simp [upd, Nat.ne_of_lt hi])
        rw [hk, e] at h
        exact ⟨r, s', h, o⟩)
      have e : orc' s.k = w.tape w.drawn q := by rw [h1 s.k (Nat.lt_succ_self _)]; simp [upd]
      refine ⟨orc', r, s', w', fun i hi => by rw [h1 i (Nat.lt_succ_of_lt hi)]; simp [upd, Nat.ne_of_lt hi], by rw [hk, e]; exact h2, ?_, ht.trans h4⟩
      simp only [Sem.runT, hq]
      simpa using h3
  | program k ih =>
    intro s w orc hs H
    obtain ⟨orc', r, s', w', h1, h2, h3, h4⟩ := ih P s w orc hs H
    exact ⟨orc', r, s', w', h1, h2, by simp only [Sem.runT]; exact h3, h4⟩
  | mark m k ih =>
    intro s w orc hs H
    obtain ⟨r0, s0, h0, _⟩ := H orc (fun _ _ => rfl)
    cases hm : markAddr m with
    | none =>
      have hk : ∀ orc', krun P orc' (.mark m k) s = krun P orc' k { s with ev := s.ev.push ⟨.mark m, false, true⟩ } := fun orc' => by simp only [krun, hm]
      obtain ⟨orc', r, s', w', h1, h2, h3, h4⟩ := ih { s with ev := s.ev.push ⟨.mark m, false, true⟩ } w orc hs (fun orc' ho => by obtain ⟨r, s', h, o⟩ := H orc' ho; rw [hk] at h; exact ⟨r, s', h, o⟩)
      exact ⟨orc', r, s', w', h1, by rw [hk]; exact h2, by simp only [Sem.runT]; exact h3, h4⟩
    | some a =>
      cases hh : s.hint with
      | nil => simp [krun, hm, hh] at h0
      | cons i hsn =>
        cases hf : s.fs[i]? with
        | none => simp [krun, hm, hh, hf] at h0
        | some f =>
          have hk : ∀ orc', krun P orc' (.mark m k) s = krun P orc' k { s with hint := hsn, owe := (⟨a.block, 0, none⟩, ⟨f.a.block, 0, none⟩) :: s.owe, ev := s.ev.push ⟨.mark m, false, true⟩ } := fun orc' => by simp only [krun, hm, hh, hf]
          obtain ⟨orc', r, s', w', h1, h2, h3, h4⟩ := ih { s with hint := hsn, owe := (⟨a.block, 0, none⟩, ⟨f.a.block, 0, none⟩) :: s.owe, ev := s.ev.push ⟨.mark m, false, true⟩ } w orc hs (fun orc' ho => by obtain ⟨r, s', h, o⟩ := H orc' ho; rw [hk] at h; exact ⟨r, s', h, o⟩)
          exact ⟨orc', r, s', w', h1, by rw [hk]; exact h2, by simp only [Sem.runT]; exact h3, h4⟩
  | shape r k ih =>
    intro s w orc hs H
    obtain ⟨r0, s0, h0, o0⟩ := H orc (fun _ _ => rfl)
    cases hh : s.hint with
    | nil => simp [krun, hh] at h0
    | cons i hsn =>
      cases hf : s.fs[i]? with
      | none => simp [krun, hh, hf] at h0
      | some f =>
        cases hfs : f.sh with
        | some sh =>
          have hk : ∀ orc', krun P orc' (.shape r k) s = krun P orc' (k (some sh)) { s with hint := hsn, owe := (⟨r, 0, none⟩, ⟨f.a.block, 0, none⟩) :: s.owe } := fun orc' => by simp only [krun, hh, hf, hfs]
          have ha : r = f.a.block := by
            rw [hk] at h0
            have := o0 _ ((krun_le _ h0).2 _ (List.mem_cons_self))
            simpa using this
          have hsh : w.shape? r = some sh := by rw [ha]; exact hs.sh f (List.mem_of_getElem? hf) sh hfs
          obtain ⟨orc', r', s', w', h1, h2, h3, h4⟩ := ih (some sh) { s with hint := hsn, owe := (⟨r, 0, none⟩, ⟨f.a.block, 0, none⟩) :: s.owe } w orc hs (fun orc' ho => by
            obtain ⟨r, s', h, o⟩ := H orc' ho; rw [hk] at h; exact ⟨r, s', h, o⟩)
          refine ⟨orc', r', s', w', h1, by rw [hk]; exact h2, ?_, h4⟩
          simp only [Sem.runT, hsh]
          exact h3
        | none =>
          have hk : ∀ orc', krun P orc' (.shape r k) s = krun P orc' (k (some (orc' s.k, orc' (s.k + 1)))) { s with hint := hsn, k := s.k + 2, owe := (⟨r, 0, none⟩, ⟨f.a.block, 0, none⟩) :: s.owe } := fun orc' => by simp only [krun, hh, hf, hfs]
          have hb : r = f.a.block := by
            rw [hk] at h0
            have := o0 _ ((krun_le _ h0).2 _ List.mem_cons_self)
            simpa using this
          have hc := hs.cell f (List.mem_of_getElem? hf)
          have hsh : ∃ ty n, w.shape? r = some (ty, n) := by
            rw [hb]
            unfold World.cell? at hc
            unfold World.shape?
            cases ho : w.heap[f.a.block]? with
            | none => rw [ho] at hc; cases hc
            | some o => cases o with
              | cells c ty fr => exact ⟨ty, c.size, rfl⟩
              | _ => rw [ho] at hc; cases hc
          obtain ⟨ty, n, hsh⟩ := hsh
          obtain ⟨orc', r', s', w', h1, h2, h3, h4⟩ := ih (some (ty, n)) { s with hint := hsn, k := s.k + 2, owe := (⟨r, 0, none⟩, ⟨f.a.block, 0, none⟩) :: s.owe } w (upd (upd orc s.k ty) (s.k + 1) n) hs (fun orc' ho => by
            have e : orc' s.k = ty := by rw [ho s.k (by show s.k < s.k + 2; omega)]; simp [upd]
            have e2 : orc' (s.k + 1) = n := by rw [ho (s.k + 1) (by show s.k + 1 < s.k + 2; omega)]; simp [upd]
            obtain ⟨r, s', h, o⟩ := H orc' (fun i hi => by rw [ho i (by show i < s.k + 2; omega)]; simp only [upd]; rw [if_neg (by omega), if_neg (by omega)])
            rw [hk, e, e2] at h
            exact ⟨r, s', h, o⟩)
          have e : orc' s.k = ty := by rw [h1 s.k (by show s.k < s.k + 2; omega)]; simp [upd]
          have e2 : orc' (s.k + 1) = n := by rw [h1 (s.k + 1) (by show s.k + 1 < s.k + 2; omega)]; simp [upd]
          refine ⟨orc', r', s', w', fun i hi => by rw [h1 i (by show i < s.k + 2; omega)]; simp only [upd]; rw [if_neg (by omega), if_neg (by omega)], by rw [hk, e, e2]; exact h2, ?_, h4⟩
          simp only [Sem.runT, hsh]
          exact h3
  | freeze a n k ih => intro s w orc hs H; obtain ⟨r0, s0, h0, _⟩ := H orc (fun _ _ => rfl); simp [krun] at h0
  | frozen a k ih =>
    intro s w orc hs H
    obtain ⟨r0, s0, h0, o0⟩ := H orc (fun _ _ => rfl)
    cases hh : s.hint with
    | nil => simp [krun, hh] at h0
    | cons i hsn =>
      cases hf : s.fs[i]? with
      | none => simp [krun, hh, hf] at h0
      | some f =>
        by_cases hw : f.wr = true
        · have hk : ∀ orc', krun P orc' (.frozen a k) s = krun P orc' (k false) { s with hint := hsn, owe := (a, f.a) :: s.owe } := fun orc' => by simp only [krun, hh, hf, hw, if_true]
          have ha : a = f.a := by
            rw [hk] at h0
            exact o0 (a, f.a) ((krun_le _ h0).2 _ (by simp))
          obtain ⟨orc', r, s', w', h1, h2, h3, h4⟩ := ih false { s with hint := hsn, owe := (a, f.a) :: s.owe } w orc hs (fun orc' ho => by
            obtain ⟨r, s', h, o⟩ := H orc' ho; rw [hk] at h; exact ⟨r, s', h, o⟩)
          refine ⟨orc', r, s', w', h1, by rw [hk]; exact h2, ?_, h4⟩
          have hz : w.frozen? a = false := by rw [ha]; exact hs.wr f (List.mem_of_getElem? hf) hw
          simp only [Sem.runT, hz]
          exact h3
        · simp [krun, hh, hf, hw] at h0
  | getObj r k ih => intro s w orc hs H; obtain ⟨r0, s0, h0, _⟩ := H orc (fun _ _ => rfl); simp [krun] at h0
  | setObj r o k ih => intro s w orc hs H; obtain ⟨r0, s0, h0, _⟩ := H orc (fun _ _ => rfl); simp [krun] at h0
  | sys c k ih => intro s w orc hs H; obtain ⟨r0, s0, h0, _⟩ := H orc (fun _ _ => rfl); simp [krun] at h0
  | halt h => intro s w orc hs H; obtain ⟨r0, s0, h0, _⟩ := H orc (fun _ _ => rfl); simp [krun] at h0

/-- An operation that meets no cell and draws nothing leaves the world as it was. -/
theorem krun_pure {α : Type} {P : Program} {orc : Nat → Nat} : ∀ (e : Sem α) {s s' : St} {r : α}, krun P orc e s = some (r, s') → s.hint = [] → s'.k = s.k → ∀ w, e.runT P w s.ev = (.ok r w, s'.ev) := by
  intro e
  induction e with
  | pure a => intro s s' r h _ _ w; simp only [krun, Option.some.injEq, Prod.mk.injEq] at h; obtain ⟨rfl, rfl⟩ := h; rfl
  | load m a k ih => intro s s' r h hh; simp [krun, hh] at h
  | store m a v k ih =>
    intro s s' r h hh
    simp only [krun, hh] at h
    split at h <;> cases h
  | new o k ih =>
    intro s s' r h _ hk
    simp only [krun] at h
    split at h
    · have := (krun_le _ h).1
      simp only at this
      omega
    · cases h
  | choose q k ih =>
    intro s s' r h hh hk w
    simp only [krun] at h
    split at h
    · rename_i hq
      have := ih _ h hh hk w
      simp only [Sem.runT, hq, if_true]
      exact this
    · have := (krun_le _ h).1
      simp only at this
      omega
  | program k ih => intro s s' r h hh hk w; exact ih _ h hh hk w
  | mark m k ih =>
    intro s s' r h hh hk w
    simp only [krun] at h
    split at h
    · have := ih (s := { s with ev := s.ev.push ⟨.mark m, false, true⟩ }) h hh hk w
      simp only [Sem.runT]
      exact this
    · simp [hh] at h
  | shape r k ih => intro s s' r' h hh; simp [krun, hh] at h
  | freeze a n k ih => intro s s' r h; simp [krun] at h
  | frozen a k ih => intro s s' r h hh; simp [krun, hh] at h
  | getObj r k ih => intro s s' r h; simp [krun] at h
  | setObj r o k ih => intro s s' r h; simp [krun] at h
  | sys c k ih => intro s s' r h; simp [krun] at h
  | halt h => intro s s' r h; simp [krun] at h

/-- What stood at 'W' stands. -/
structure Was (W w : World) : Prop where
  size : W.heap.size ≤ w.heap.size
  block : ∀ b, b < W.heap.size → w.heap[b]? = W.heap[b]?
  tape : w.tape = W.tape
  os : w.os = W.os
  output : w.output = W.output
def Above (W : World) (fs : List Fact) : Prop := ∀ f ∈ fs, f.wr = true → W.heap.size ≤ f.a.block
theorem Was.refl (W : World) : Was W W := ⟨Nat.le_refl _, fun _ _ => rfl, rfl, rfl, rfl⟩
theorem Was.drawn {W w : World} (h : Was W w) (d : Nat) : Was W { w with drawn := d } := ⟨h.size, h.block, h.tape, h.os, h.output⟩
theorem Was.turn {W w w' : World} {fs fs' : List Fact} (h : Was W w) (ha : Above W fs) (ht : Turn fs w fs' w') : Was W w' ∧ Above W fs' := by
  refine ⟨⟨Nat.le_trans h.size ht.size, fun b hb => ?_, ht.tape.trans h.tape, ht.os.trans h.os, ht.output.trans h.output⟩, fun f hf hw => ?_⟩
  · rw [ht.block b (Nat.lt_of_lt_of_le hb h.size) fun f hf hw e => by have := ha f hf hw; omega]
    exact h.block b hb
  · rcases ht.mem hf with ⟨g, hg, e1, e2⟩ | ⟨hb, _, _⟩
    · rw [← e1]; exact ha g hg (e2.trans hw)
    · exact Nat.le_trans h.size hb
end Go.Km

/-! KM, part 2: ONE STEP OF A GOROUTINE, seen as what it asks of the world ('view'), and run over known cells ('kstep'). -/
namespace Go.Km
open Go Go.Conc

inductive View where
  | go (g : Goroutine)
  | op (s : Sem Next)
  | ret (s : Sem Value)
  | dcall (d : Deferred) (fr : Frame)
  | none

def isPlainTarget : Target → Bool
  | .fn (.func _) _ => true
  | _ => false

def view (P : Program) (g : Goroutine) : View :=
  match g.dying, g.frame.roundOf, g.frame.kind with
  | some _, _, _ => .none
  | _, some _, _ => .none
  | _, _, .early => .none
  | _, _, _ =>
    let fr := g.frame
    let to (k : List Item) : View := .go { frame := { fr with todo := k }, callers := g.callers, status := .running, dying := none }
    match fr.mode with
    | .run =>
      match fr.todo with
      | [] => .go { frame := { fr with mode := .returning }, callers := g.callers, status := .running, dying := none }
      | .code .ret :: _ => .go { frame := { fr with mode := .returning }, callers := g.callers, status := .running, dying := none }
      | .code .skip :: k => to k
      | .code (.label _) :: k => to k
      | .inBlock _ :: k => to k
      | .inScope _ :: k => to k
      | .code (.seq a b) :: k => to (.code a :: .code b :: k)
      | .code (.cond c thn els) :: k => match fr.eval c with
        | .bool b => to (.code (if b then thn else els) :: k)
        | _ => .none
      | .code (.block id body) :: k => to (.code body :: .inBlock id :: k)
      | .code (.loop body) :: k => to (.code body :: .inLoop body :: k)
      | .inLoop body :: k => to (.code body :: .inLoop body :: k)
      | .code (.scope body) :: k => to (.code body :: .inScope body :: k)
      | .code (.exit id) :: k => match exitTo id k with
        | some k' => to k'
        | Option.none => .none
      | .code (.goto l) :: k => match gotoIn l k with
        | some k' => to k'
        | Option.none => .none
      | .code (.region _ ops false) :: k => to (.inRegion ops (List.range ops.size) :: k)
      | .inRegion _ [] :: k => to k
      | .inRegion ops (i :: _) :: _ => match ops[i]? with
        | some o => if Region.wanted o (yielded ops fr.tmps) then .op (execOp fr.eval o)
          else .go { frame := fr.finish undef, callers := g.callers, status := .running, dying := none }
        | Option.none => .none
      | _ => .none
    | .returning =>
      match fr.defers with
      | d :: ds => if isPlainTarget d.target then .dcall d { fr with defers := ds } else .none
      | [] => match P.funcs[fr.fn]? with
        | some fn => .ret (results fn fr.tmps)
        | Option.none => .none
    | .panicking _ =>
      match fr.defers with
      | d :: ds => if isPlainTarget d.target then .dcall d { fr with defers := ds } else .none
      | [] => .none

theorem seen_nil (P : Program) (fn : FuncId) : seen P fn #[] = #[] := by simp [seen]

section
variable {P : Program} {main : Bool} {g : Goroutine} {w : World}

theorem view_go {g' : Goroutine} (h : view P g = .go g') : stepG P main g w = .go g' w := by
  obtain ⟨fr, callers, status, dying, offers⟩ := g
  obtain ⟨fn, tmps, todo, defers, mode, kind, roundOf⟩ := fr
  unfold view at h
  simp only at h
  split at h
  · cases h
  · cases h
  · cases h
  rename_i h1 h2 h3
  have hd : dying = none := by
    cases dying with
    | none => rfl
    | some d => exact absurd rfl (h1 d)
  have hr : roundOf = none := by
    cases roundOf with
    | none => rfl
    | some d => exact absurd rfl (h2 d)
  subst hd hr
  split at h
  · skip
    split at h
    all_goals (first | (cases h; done) | skip)
    all_goals (try (simp only [View.go.injEq] at h; subst h; simp [stepG, stepG.exec]; done))
    · rename_i c thn els k
      split at h
      · rename_i b he
        simp only [View.go.injEq] at h
        subst h
        simp [stepG, stepG.exec, he]
      · cases h
    · rename_i id k
      split at h
      · rename_i k' he
        simp only [View.go.injEq] at h
        subst h
        simp [stepG, stepG.exec, he]
      · cases h
    · rename_i l k
      split at h
      · rename_i k' he
        simp only [View.go.injEq] at h
        subst h
        simp [stepG, stepG.exec, he]
      · cases h
    · rename_i ops i rest k
      split at h
      · rename_i o ho
        split at h
        · cases h
        · rename_i hw
          simp only [View.go.injEq] at h
          subst h
          simp [stepG, stepG.exec, ho, hw]
      · cases h
  · split at h
    · split at h <;> cases h
    · split at h <;> cases h
  · split at h
    · split at h <;> cases h
    · cases h

theorem view_op {s : Sem Next} (h : view P g = .op s) :
    g.dying = none ∧ g.frame.kind ≠ .early ∧ stepG P main g w = stepG.apply P true g.frame g.callers none s w := by
  obtain ⟨fr, callers, status, dying, offers⟩ := g
  obtain ⟨fn, tmps, todo, defers, mode, kind, roundOf⟩ := fr
  unfold view at h
  simp only at h
  split at h
  · cases h
  · cases h
  · cases h
  rename_i h1 h2 h3
  have hd : dying = none := by
    cases dying with
    | none => rfl
    | some d => exact absurd rfl (h1 d)
  have hr : roundOf = none := by
    cases roundOf with
    | none => rfl
    | some d => exact absurd rfl (h2 d)
  subst hd hr
  refine ⟨rfl, fun e => h3 e, ?_⟩
  split at h
  · skip
    split at h
    all_goals (first | (cases h; done) | skip)
    · split at h <;> cases h
    · split at h <;> cases h
    · split at h <;> cases h
    · rename_i ops i rest k
      split at h
      · rename_i o ho
        split at h
        · rename_i hw
          simp only [View.op.injEq] at h
          subst h
          simp [stepG, stepG.exec, stepG.oper, Frame.oper?, ho, hw]
        · cases h
      · cases h
  · split at h
    · split at h <;> cases h
    · split at h <;> cases h
  · split at h
    · split at h <;> cases h
    · cases h

theorem view_ret {s : Sem Value} (h : view P g = .ret s) :
    g.dying = none ∧ stepG P main g w = GStep.after (seen P g.frame.fn (s.runT P w #[]).2) (match (s.runT P w #[]).1 with
        | .ok v w => doReturn P main g.frame g.callers none v w
        | .halt (.stuck s) w => .ended (.stuck s (g.frame.pos P)) w
        | .halt _ w => .ended (.stuck "return: the result variables cannot be read" (g.frame.pos P)) w) := by
  obtain ⟨fr, callers, status, dying, offers⟩ := g
  obtain ⟨fn, tmps, todo, defers, mode, kind, roundOf⟩ := fr
  unfold view at h
  simp only at h
  split at h
  · cases h
  · cases h
  · cases h
  rename_i h1 h2 h3
  have hd : dying = none := by
    cases dying with
    | none => rfl
    | some d => exact absurd rfl (h1 d)
  have hr : roundOf = none := by
    cases roundOf with
    | none => rfl
    | some d => exact absurd rfl (h2 d)
  subst hd hr
  refine ⟨rfl, ?_⟩
  split at h
  · split at h
    all_goals (first | (cases h; done) | skip)
    · split at h <;> cases h
    · split at h <;> cases h
    · split at h <;> cases h
    · split at h
      · split at h <;> cases h
      · cases h
  · skip
    split at h
    · split at h <;> cases h
    · skip
      split at h
      · rename_i fn' hfn
        simp only [View.ret.injEq] at h
        subst h
        simp only [stepG, unwind, hfn]
        rfl
      · cases h
  · split at h
    · split at h <;> cases h
    · cases h

theorem view_dcall {d : Deferred} {fr : Frame} (h : view P g = .dcall d fr) :
    g.dying = none ∧ isPlainTarget d.target = true ∧ stepG P main g w = callDeferred P fr g.callers none d w := by
  obtain ⟨fr, callers, status, dying, offers⟩ := g
  obtain ⟨fn, tmps, todo, defers, mode, kind, roundOf⟩ := fr
  unfold view at h
  simp only at h
  split at h
  · cases h
  · cases h
  · cases h
  rename_i h1 h2 h3
  have hd : dying = none := by
    cases dying with
    | none => rfl
    | some d => exact absurd rfl (h1 d)
  have hr : roundOf = none := by
    cases roundOf with
    | none => rfl
    | some d => exact absurd rfl (h2 d)
  subst hd hr
  refine ⟨rfl, ?_⟩
  split at h
  · split at h
    all_goals (first | (cases h; done) | skip)
    · split at h <;> cases h
    · split at h <;> cases h
    · split at h <;> cases h
    · split at h
      · split at h <;> cases h
      · cases h
  · skip
    split at h
    · rename_i d' ds
      split at h
      · rename_i ht
        simp only [View.dcall.injEq] at h
        obtain ⟨rfl, rfl⟩ := h
        refine ⟨ht, ?_⟩
        obtain ⟨target, args⟩ := d'
        cases target with
        | fn f c => cases f <;> simp [isPlainTarget] at ht; simp [stepG, unwind]
        | _ => simp [isPlainTarget] at ht
      · cases h
    · split at h <;> cases h
  · skip
    split at h
    · rename_i d' ds
      split at h
      · rename_i ht
        simp only [View.dcall.injEq] at h
        obtain ⟨rfl, rfl⟩ := h
        refine ⟨ht, ?_⟩
        obtain ⟨target, args⟩ := d'
        cases target with
        | fn f c => cases f <;> simp [isPlainTarget] at ht; simp [stepG, unwind]
        | _ => simp [isPlainTarget] at ht
      · cases h
    · cases h
end
end Go.Km

/-! KM, part 3: 'kstep', and that the machine's own step is what it says. -/
namespace Go.Km
open Go Go.Conc

structure Hint where
  facts : List Nat := []
  rep : Option Value := none

structure KG where
  g : Goroutine
  fs : List Fact
  k : Nat
  owe : List (Addr × Addr)
  oweV : List (Value × Value)

def KG.Ok (x : KG) : Prop := (∀ p ∈ x.owe, p.1 = p.2) ∧ ∀ p ∈ x.oweV, p.1 = p.2

def stay (x : KG) (s : St) (g : Goroutine) : KG := ⟨g, s.fs, s.k, s.owe, x.oweV⟩
def start (x : KG) (h : Hint) : St := ⟨x.fs, h.facts, x.k, x.owe, #[]⟩
def run' (frame : Frame) (callers : List Frame) : Goroutine := { frame, callers, status := .running, dying := none }

def isWrapCall : List Item → Bool
  | .call _ true _ _ :: _ => true
  | _ => false

def kstep (P : Program) (orc : Nat → Nat) (h : Hint) (x : KG) : Option (KG × Array Event) :=
  match view P x.g with
  | .go g' => some ({ x with g := g' }, #[])
  | .op s => match krun P orc s (start x h) with
    | some (.value v, s') => match h.rep with
      | none => some (stay x s' (run' (x.g.frame.finish v) x.g.callers), seen P x.g.frame.fn s'.ev)
      | some v' => some (⟨run' (x.g.frame.finish v') x.g.callers, s'.fs, s'.k, s'.owe, (v, v') :: x.oweV⟩, seen P x.g.frame.fn s'.ev)
    | some (.skip, s') => some (stay x s' (run' (x.g.frame.finish undef) x.g.callers), seen P x.g.frame.fn s'.ev)
    | some (.enter f args, s') => if isWrapCall x.g.frame.todo then none else some (stay x s' (run' (Frame.enter P f args .normal) (x.g.frame :: x.g.callers)), seen P x.g.frame.fn s'.ev)
    | some (.defer d, s') => some (stay x s' (run' ({ x.g.frame with defers := d :: x.g.frame.defers }.finish undef) x.g.callers), seen P x.g.frame.fn s'.ev)
    | _ => none
  | .ret s => match krun P orc s (start x h), x.g.callers with
    | some (v, s'), caller :: rest => match x.g.frame.kind with
      | .normal => some (stay x s' (run' (caller.finish v) rest), seen P x.g.frame.fn s'.ev)
      | .deferred => match caller.mode with
        | .panicking ({ recovered := true, .. } :: _) => none
        | _ => some (stay x s' (run' caller rest), seen P x.g.frame.fn s'.ev)
      | _ => none
    | _, _ => none
  | .dcall d fr => match krun P orc (invoke d.target d.args) (start x h) with
    | some (.enter f args, s') => some (stay x s' (run' (Frame.enter P f args .deferred) (fr :: x.g.callers)), seen P fr.fn s'.ev)
    | some (.value _, s') => some (stay x s' (run' fr x.g.callers), seen P fr.fn s'.ev)
    | _ => none
  | .none => none

section
variable {P : Program} {main : Bool} {orc orc2 : Nat → Nat} {h : Hint} {x x' : KG} {es : Array Event} {w : World}

theorem apply_value {fr : Frame} {callers : List Frame} {s : Sem Next} {w w' : World} {v : Value} {ev : Array Event} (hk : fr.kind ≠ .early) (hr : s.runT P w #[] = (.ok (.value v) w', ev)) :
    stepG.apply P true fr callers none s w = .go (run' (fr.finish v) callers) w' (seen P fr.fn ev) := by
  have hk' : (fr.kind == CallKind.early) = false := by simpa using hk
  simp [stepG.apply, hr, hk', GStep.after, run', -Sem.runT_eq]
theorem apply_skip {fr : Frame} {callers : List Frame} {s : Sem Next} {w w' : World} {ev : Array Event} (hk : fr.kind ≠ .early) (hr : s.runT P w #[] = (.ok .skip w', ev)) :
    stepG.apply P true fr callers none s w = .go (run' (fr.finish undef) callers) w' (seen P fr.fn ev) := by
  have hk' : (fr.kind == CallKind.early) = false := by simpa using hk
  simp [stepG.apply, hr, hk', GStep.after, run', -Sem.runT_eq]
theorem apply_enter {fr : Frame} {callers : List Frame} {s : Sem Next} {w w' : World} {f : FuncId} {args : Array Value} {ev : Array Event} (hk : fr.kind ≠ .early) (hw : isWrapCall fr.todo = false) (hr : s.runT P w #[] = (.ok (.enter f args) w', ev)) :
    stepG.apply P true fr callers none s w = .go (run' (Frame.enter P f args .normal) (fr :: callers)) w' (seen P fr.fn ev) := by
  have hk' : (fr.kind == CallKind.early) = false := by simpa using hk
  simp only [stepG.apply, hr, hk', GStep.after, run', if_true, Bool.false_eq_true, if_false]
  unfold isWrapCall at hw
  split at hw
  · cases hw
  · rename_i hne
    split
    · rename_i d r s k ht; exact absurd ht (hne _ _ _ _)
    · simp
theorem apply_defer {fr : Frame} {callers : List Frame} {s : Sem Next} {w w' : World} {d : Deferred} {ev : Array Event} (hk : fr.kind ≠ .early) (hr : s.runT P w #[] = (.ok (.defer d) w', ev)) :
    stepG.apply P true fr callers none s w = .go (run' ({ fr with defers := d :: fr.defers }.finish undef) callers) w' (seen P fr.fn ev) := by
  have hk' : (fr.kind == CallKind.early) = false := by simpa using hk
  simp [stepG.apply, hr, hk', GStep.after, run', -Sem.runT_eq]

theorem kstep_le (hx : kstep P orc h x = some (x', es)) : x.k ≤ x'.k ∧ (∀ p ∈ x.owe, p ∈ x'.owe) ∧ (∀ p ∈ x.oweV, p ∈ x'.oweV) := by
  unfold kstep at hx
  split at hx
  · simp only [Option.some.injEq, Prod.mk.injEq] at hx; obtain ⟨rfl, _⟩ := hx; exact ⟨Nat.le_refl _, fun _ h => h, fun _ h => h⟩
  · split at hx
    · rename_i hk
      have := krun_le _ hk
      split at hx <;> (simp only [Option.some.injEq, Prod.mk.injEq] at hx; obtain ⟨rfl, _⟩ := hx)
      · exact ⟨this.1, this.2, fun _ h => h⟩
      · exact ⟨this.1, this.2, fun _ h => by simp [h]⟩
    · rename_i hk
      have := krun_le _ hk
      simp only [Option.some.injEq, Prod.mk.injEq] at hx; obtain ⟨rfl, _⟩ := hx
      exact ⟨this.1, this.2, fun _ h => h⟩
    · rename_i hk
      have := krun_le _ hk
      split at hx
      · cases hx
      · simp only [Option.some.injEq, Prod.mk.injEq] at hx; obtain ⟨rfl, _⟩ := hx
        exact ⟨this.1, this.2, fun _ h => h⟩
    · rename_i hk
      have := krun_le _ hk
      simp only [Option.some.injEq, Prod.mk.injEq] at hx; obtain ⟨rfl, _⟩ := hx
      exact ⟨this.1, this.2, fun _ h => h⟩
    · cases hx
  · split at hx
    · rename_i hk _
      have := krun_le _ hk
      split at hx
      · simp only [Option.some.injEq, Prod.mk.injEq] at hx; obtain ⟨rfl, _⟩ := hx
        exact ⟨this.1, this.2, fun _ h => h⟩
      · split at hx
        · cases hx
        · simp only [Option.some.injEq, Prod.mk.injEq] at hx; obtain ⟨rfl, _⟩ := hx
          exact ⟨this.1, this.2, fun _ h => h⟩
      · cases hx
    · cases hx
  · split at hx
    · rename_i hk
      have := krun_le _ hk
      simp only [Option.some.injEq, Prod.mk.injEq] at hx; obtain ⟨rfl, _⟩ := hx
      exact ⟨this.1, this.2, fun _ h => h⟩
    · rename_i hk
      have := krun_le _ hk
      simp only [Option.some.injEq, Prod.mk.injEq] at hx; obtain ⟨rfl, _⟩ := hx
      exact ⟨this.1, this.2, fun _ h => h⟩
    · cases hx
  · cases hx

theorem kstep_congr (hx : kstep P orc h x = some (x', es)) (ho : ∀ i, i < x'.k → orc2 i = orc i) : kstep P orc2 h x = some (x', es) := by
  unfold kstep at hx ⊢
  cases hv : view P x.g with
  | go g' => simp only [hv] at hx ⊢; exact hx
  | op s =>
    simp only [hv] at hx ⊢
    cases hk : krun P orc s (start x h) with
    | none => rw [hk] at hx; cases hx
    | some r =>
      obtain ⟨r, s'⟩ := r
      rw [hk] at hx
      have hle : s'.k ≤ x'.k := by
        revert hx
        cases r <;> simp only [reduceCtorEq, false_imp_iff] <;> (try (split <;> (try simp only [reduceCtorEq, false_imp_iff]))) <;> (intro hx; simp only [Option.some.injEq, Prod.mk.injEq] at hx; obtain ⟨rfl, _⟩ := hx; exact Nat.le_refl _)
      rw [krun_congr _ hk (fun i hi => ho i (Nat.lt_of_lt_of_le hi hle))]
      exact hx
  | ret s =>
    simp only [hv] at hx ⊢
    cases hk : krun P orc s (start x h) with
    | none => rw [hk] at hx; simp at hx
    | some r =>
      obtain ⟨r, s'⟩ := r
      rw [hk] at hx
      have hle : s'.k ≤ x'.k := by
        cases hc : x.g.callers with
        | nil => simp [hc] at hx
        | cons c rest =>
          simp only [hc] at hx
          split at hx
          · simp only [Option.some.injEq, Prod.mk.injEq] at hx; obtain ⟨rfl, _⟩ := hx; exact Nat.le_refl _
          · split at hx
            · cases hx
            · simp only [Option.some.injEq, Prod.mk.injEq] at hx; obtain ⟨rfl, _⟩ := hx; exact Nat.le_refl _
          · cases hx
      rw [krun_congr _ hk (fun i hi => ho i (Nat.lt_of_lt_of_le hi hle))]
      exact hx
  | dcall d fr =>
    simp only [hv] at hx ⊢
    cases hk : krun P orc (invoke d.target d.args) (start x h) with
    | none => rw [hk] at hx; cases hx
    | some r =>
      obtain ⟨r, s'⟩ := r
      rw [hk] at hx
      have hle : s'.k ≤ x'.k := by
        revert hx
        cases r <;> simp only [reduceCtorEq, false_imp_iff] <;> (intro hx; simp only [Option.some.injEq, Prod.mk.injEq] at hx; obtain ⟨rfl, _⟩ := hx; exact Nat.le_refl _)
      rw [krun_congr _ hk (fun i hi => ho i (Nat.lt_of_lt_of_le hi hle))]
      exact hx
  | none => simp only [hv] at hx; cases hx

/-- ████ ONE STEP ████ -/
theorem kstep_sound (hs : Sat x.fs w) (H : ∀ orc', (∀ i, i < x.k → orc' i = orc i) → ∃ x' es, kstep P orc' h x = some (x', es) ∧ x'.Ok) :
    ∃ orc' x' es w', (∀ i, i < x.k → orc' i = orc i) ∧ kstep P orc' h x = some (x', es) ∧ stepG P main x.g w = .go x'.g w' es ∧ Turn x.fs w x'.fs w' ∧ (x'.k = x.k → h.facts = [] → w' = w) := by
  obtain ⟨x0, es0, h0, o0⟩ := H orc (fun _ _ => rfl)
  cases hv : view P x.g with
  | none => unfold kstep at h0; simp only [hv] at h0; cases h0
  | go g' => exact ⟨orc, { x with g := g' }, #[], w, fun _ _ => rfl, by unfold kstep; simp only [hv], view_go hv, .refl hs, fun _ _ => rfl⟩
  | op s =>
    have H2 : ∀ orc', (∀ i, i < (start x h).k → orc' i = orc i) → ∃ r s', krun P orc' s (start x h) = some (r, s') ∧ Owed s' := by
      intro orc' ho
      obtain ⟨x', es, hk, hok⟩ := H orc' ho
      unfold kstep at hk
      simp only [hv] at hk
      cases hr : krun P orc' s (start x h) with
      | none => rw [hr] at hk; cases hk
      | some r =>
        obtain ⟨r, s'⟩ := r
        refine ⟨r, s', rfl, ?_⟩
        rw [hr] at hk
        revert hk
        cases r <;> simp only [reduceCtorEq, false_imp_iff] <;> (try (split <;> (try simp only [reduceCtorEq, false_imp_iff]))) <;> (intro hk; simp only [Option.some.injEq, Prod.mk.injEq] at hk; obtain ⟨rfl, _⟩ := hk; exact hok.1)
    obtain ⟨orc', r, s', w', h1, h2, h3, h4⟩ := krun_sound s (start x h) w orc hs H2
    have hpure : s'.k = (start x h).k → (start x h).hint = [] → w' = w := fun hk hh => by
      have := krun_pure (orc := orc') s h2 hh hk w
      rw [h3] at this
      exact (Result.ok.inj (Prod.mk.inj this).1).2
    obtain ⟨x', es, hk, hok⟩ := H orc' h1
    obtain ⟨_, hkind, hst⟩ := view_op (main := main) (w := w) hv
    refine ⟨orc', x', es, w', h1, hk, ?_⟩
    unfold kstep at hk
    simp only [hv, h2] at hk
    rw [hst]
    revert hk
    cases r with
    | value v =>
      dsimp only
      cases hrep : h.rep with
      | none =>
        intro hk
        simp only [Option.some.injEq, Prod.mk.injEq] at hk
        obtain ⟨rfl, rfl⟩ := hk
        exact ⟨apply_value hkind h3, h4, hpure⟩
      | some v' =>
        intro hk
        simp only [Option.some.injEq, Prod.mk.injEq] at hk
        obtain ⟨rfl, rfl⟩ := hk
        have e : v = v' := hok.2 (v, v') (by simp)
        subst e
        exact ⟨apply_value hkind h3, h4, hpure⟩
    | skip =>
      intro hk
      simp only [Option.some.injEq, Prod.mk.injEq] at hk
      obtain ⟨rfl, rfl⟩ := hk
      exact ⟨apply_skip hkind h3, h4, hpure⟩
    | enter f args =>
      dsimp only
      intro hk
      split at hk
      · cases hk
      · rename_i hw
        simp only [Option.some.injEq, Prod.mk.injEq] at hk
        obtain ⟨rfl, rfl⟩ := hk
        exact ⟨apply_enter hkind (by simpa using hw) h3, h4, hpure⟩
    | defer d =>
      intro hk
      simp only [Option.some.injEq, Prod.mk.injEq] at hk
      obtain ⟨rfl, rfl⟩ := hk
      exact ⟨apply_defer hkind h3, h4, hpure⟩
    | _ => intro hk; cases hk
  | ret s =>
    have H2 : ∀ orc', (∀ i, i < (start x h).k → orc' i = orc i) → ∃ r s', krun P orc' s (start x h) = some (r, s') ∧ Owed s' := by
      intro orc' ho
      obtain ⟨x', es, hk, hok⟩ := H orc' ho
      unfold kstep at hk
      simp only [hv] at hk
      cases hr : krun P orc' s (start x h) with
      | none => rw [hr] at hk; simp at hk
      | some r =>
        obtain ⟨r, s'⟩ := r
        refine ⟨r, s', rfl, ?_⟩
        rw [hr] at hk
        cases hc : x.g.callers with
        | nil => simp [hc] at hk
        | cons c rest =>
          simp only [hc] at hk
          split at hk
          · simp only [Option.some.injEq, Prod.mk.injEq] at hk; obtain ⟨rfl, _⟩ := hk; exact hok.1
          · split at hk
            · cases hk
            · simp only [Option.some.injEq, Prod.mk.injEq] at hk; obtain ⟨rfl, _⟩ := hk; exact hok.1
          · cases hk
    obtain ⟨orc', r, s', w', h1, h2, h3, h4⟩ := krun_sound s (start x h) w orc hs H2
    have hpure : s'.k = (start x h).k → (start x h).hint = [] → w' = w := fun hk hh => by
      have := krun_pure (orc := orc') s h2 hh hk w
      rw [h3] at this
      exact (Result.ok.inj (Prod.mk.inj this).1).2
    obtain ⟨x', es, hk, hok⟩ := H orc' h1
    obtain ⟨hd, hst⟩ := view_ret (main := main) (w := w) hv
    refine ⟨orc', x', es, w', h1, hk, ?_⟩
    unfold kstep at hk
    simp only [hv, h2] at hk
    rw [hst, show s.runT P w #[] = (.ok r w', s'.ev) from h3]
    cases hc : x.g.callers with
    | nil => simp [hc] at hk
    | cons c rest =>
      simp only [hc] at hk
      dsimp only
      unfold doReturn
      dsimp only
      split at hk
      · rename_i hkd
        simp only [Option.some.injEq, Prod.mk.injEq] at hk
        obtain ⟨rfl, rfl⟩ := hk
        exact ⟨by simp [hkd, GStep.after, stay, run'], h4, hpure⟩
      · rename_i hkd
        split at hk
        · cases hk
        · rename_i hcm
          simp only [Option.some.injEq, Prod.mk.injEq] at hk
          obtain ⟨rfl, rfl⟩ := hk
          refine ⟨?_, h4, hpure⟩
          simp only [hkd]
          simp [GStep.after, stay, run']
      · cases hk
  | dcall d fr =>
    have H2 : ∀ orc', (∀ i, i < (start x h).k → orc' i = orc i) → ∃ r s', krun P orc' (invoke d.target d.args) (start x h) = some (r, s') ∧ Owed s' := by
      intro orc' ho
      obtain ⟨x', es, hk, hok⟩ := H orc' ho
      unfold kstep at hk
      simp only [hv] at hk
      cases hr : krun P orc' (invoke d.target d.args) (start x h) with
      | none => rw [hr] at hk; cases hk
      | some r =>
        obtain ⟨r, s'⟩ := r
        refine ⟨r, s', rfl, ?_⟩
        rw [hr] at hk
        revert hk
        cases r <;> simp only [reduceCtorEq, false_imp_iff] <;> (intro hk; simp only [Option.some.injEq, Prod.mk.injEq] at hk; obtain ⟨rfl, _⟩ := hk; exact hok.1)
    obtain ⟨orc', r, s', w', h1, h2, h3, h4⟩ := krun_sound (invoke d.target d.args) (start x h) w orc hs H2
    have hpure : s'.k = (start x h).k → (start x h).hint = [] → w' = w := fun hk hh => by
      have := krun_pure (orc := orc') (invoke d.target d.args) h2 hh hk w
      rw [h3] at this
      exact (Result.ok.inj (Prod.mk.inj this).1).2
    obtain ⟨x', es, hk, hok⟩ := H orc' h1
    obtain ⟨hd, hpt, hst⟩ := view_dcall (main := main) (w := w) hv
    refine ⟨orc', x', es, w', h1, hk, ?_⟩
    unfold kstep at hk
    simp only [hv, h2] at hk
    rw [hst]
    have hcd : callDeferred P fr x.g.callers none d w = GStep.after (seen P fr.fn s'.ev) (match (Result.ok r w' : Result Next) with
        | .ok (.enter f args) w => .go { frame := Frame.enter P f args .deferred, callers := fr :: x.g.callers, status := .running, dying := none } w
        | .ok (.value _) w => .go { frame := fr, callers := x.g.callers, status := .running, dying := none } w
        | _ => callDeferred P fr x.g.callers none d w) ∨ (∀ f args, r ≠ .enter f args) ∧ (∀ v, r ≠ .value v) := by
      have h3' : (invoke d.target d.args).runT P w #[] = (.ok r w', s'.ev) := h3
      obtain ⟨target, args⟩ := d
      cases target with
      | fn f c =>
        cases r with
        | enter f args => left; unfold callDeferred; simp only [h3']; simp
        | value v => left; unfold callDeferred; simp only [h3']; simp
        | _ => right; exact ⟨by simp, by simp⟩
      | _ => simp [isPlainTarget] at hpt
    revert hk
    cases r with
    | value v =>
      intro hk
      simp only [Option.some.injEq, Prod.mk.injEq] at hk
      obtain ⟨rfl, rfl⟩ := hk
      rcases hcd with hcd | hcd
      · exact ⟨by rw [hcd]; simp [GStep.after, stay, run'], h4, hpure⟩
      · exact absurd rfl (hcd.2 v)
    | enter f args =>
      intro hk
      simp only [Option.some.injEq, Prod.mk.injEq] at hk
      obtain ⟨rfl, rfl⟩ := hk
      rcases hcd with hcd | hcd
      · exact ⟨by rw [hcd]; simp [GStep.after, stay, run'], h4, hpure⟩
      · exact absurd rfl (hcd.1 f args)
    | _ => intro hk; cases hk
end
end Go.Km

/-! KM, part 4: many steps; ALONE: one goroutine, its trace. -/
namespace Go.Km
open Go Go.Conc

theorem mem_seen {P : Program} {fn : FuncId} {es : Array Event} {e : Event} (h : e ∈ seen P fn es) : e ∈ es := by
  unfold seen at h
  dsimp only at h
  have key : ∀ (l : List Event) (q : Bool) (kept : Array Event),
      e ∈ (l.foldl (fun (x : Bool × Array Event) e => match e.loc with
        | .mark (.extern f) => ((P.funcs[f]?).any (·.norace), x.2)
        | _ => (x.1, if x.1 && !e.sync then x.2 else x.2.push e)) (q, kept)).2 → e ∈ kept ∨ e ∈ l := by
    intro l
    induction l with
    | nil => intro q kept h; exact .inl h
    | cons y l ih =>
      intro q kept h
      rw [List.foldl_cons] at h
      dsimp only at h
      split at h
      · rcases ih _ _ h with h | h
        · exact .inl h
        · exact .inr (by simp [h])
      · rcases ih _ _ h with h | h
        · split at h
          · exact .inl h
          · rcases Array.mem_push.1 h with h | rfl
            · exact .inl h
            · exact .inr (by simp)
        · exact .inr (by simp [h])
  rw [← Array.foldl_toList] at h
  rcases key es.toList _ _ h with h | h
  · simp at h
  · exact Array.mem_toList_iff.1 h

section
variable {P : Program} {main : Bool} {orc orc2 : Nat → Nat} {h : Hint} {x x' : KG} {es : Array Event} {w : World}

theorem kstep_ev (hx : kstep P orc h x = some (x', es)) (ho : x'.Ok) : (∃ new, keys x'.fs = keys x.fs ++ new) ∧ ∀ e ∈ es, EvIn (keys x'.fs) e := by
  have fin : ∀ {α : Type} {s : Sem α} {r : α} {s' : St} {fn : FuncId}, krun P orc s (start x h) = some (r, s') → Owed s' →
      (∃ new, keys s'.fs = keys x.fs ++ new) ∧ ∀ e ∈ seen P fn s'.ev, EvIn (keys s'.fs) e := by
    intro α s r s' fn hk ho
    obtain ⟨h1, h2⟩ := krun_ev s hk ho
    refine ⟨h1, fun e he => ?_⟩
    rcases h2 e (mem_seen he) with h | h
    · simp [start] at h
    · exact h
  unfold kstep at hx
  cases hv : view P x.g with
  | go g' => simp only [hv, Option.some.injEq, Prod.mk.injEq] at hx; obtain ⟨rfl, rfl⟩ := hx; exact ⟨⟨[], by simp⟩, by simp⟩
  | op s =>
    simp only [hv] at hx
    cases hk : krun P orc s (start x h) with
    | none => rw [hk] at hx; cases hx
    | some r =>
      obtain ⟨r, s'⟩ := r
      rw [hk] at hx
      revert hx
      cases r <;> simp only [reduceCtorEq, false_imp_iff] <;> (try (split <;> (try simp only [reduceCtorEq, false_imp_iff]))) <;> (intro hx; simp only [Option.some.injEq, Prod.mk.injEq] at hx; obtain ⟨rfl, rfl⟩ := hx; exact fin hk ho.1)
  | ret s =>
    simp only [hv] at hx
    cases hk : krun P orc s (start x h) with
    | none => rw [hk] at hx; simp at hx
    | some r =>
      obtain ⟨r, s'⟩ := r
      rw [hk] at hx
      cases hc : x.g.callers with
      | nil => simp [hc] at hx
      | cons c rest =>
        simp only [hc] at hx
        split at hx
        · simp only [Option.some.injEq, Prod.mk.injEq] at hx; obtain ⟨rfl, rfl⟩ := hx; exact fin hk ho.1
        · split at hx
          · cases hx
          · simp only [Option.some.injEq, Prod.mk.injEq] at hx; obtain ⟨rfl, rfl⟩ := hx; exact fin hk ho.1
        · cases hx
  | dcall d fr =>
    simp only [hv] at hx
    cases hk : krun P orc (invoke d.target d.args) (start x h) with
    | none => rw [hk] at hx; cases hx
    | some r =>
      obtain ⟨r, s'⟩ := r
      rw [hk] at hx
      revert hx
      cases r <;> simp only [reduceCtorEq, false_imp_iff] <;> (intro hx; simp only [Option.some.injEq, Prod.mk.injEq] at hx; obtain ⟨rfl, rfl⟩ := hx; exact fin hk ho.1)
  | none => simp only [hv] at hx; cases hx
end

def krunL (P : Program) (orc : Nat → Nat) (chk : Event → Bool) : List Hint → KG → Array Event → Option (KG × Array Event)
  | [], x, acc => some (x, acc)
  | h :: hs, x, acc => match kstep P orc h x with
    | some (x', es) => if es.toList.all chk then krunL P orc chk hs x' (acc ++ es) else none
    | none => none

/-- Hints, written short: so many steps without one, then one with. -/
def flat : List (Nat × List Nat × Option Value) → Nat → List Hint
  | [], m => List.replicate m {}
  | (n, fs, r) :: l, m => List.replicate n {} ++ ({ facts := fs, rep := r } : Hint) :: flat l m

theorem krunL_le {P : Program} {orc : Nat → Nat} {chk : Event → Bool} : ∀ (hs : List Hint) {x x' : KG} {acc ev : Array Event}, krunL P orc chk hs x acc = some (x', ev) → x.k ≤ x'.k ∧ (x'.Ok → x.Ok)
  | [], x, x', acc, ev, h => by simp only [krunL, Option.some.injEq, Prod.mk.injEq] at h; obtain ⟨rfl, _⟩ := h; exact ⟨Nat.le_refl _, id⟩
  | h :: hs, x, x', acc, ev, hk => by
    simp only [krunL] at hk
    split at hk
    · rename_i x1 es h1
      split at hk
      · have a := krunL_le hs hk
        have b := kstep_le h1
        exact ⟨Nat.le_trans b.1 a.1, fun o => ⟨fun p hp => (a.2 o).1 p (b.2.1 p hp), fun p hp => (a.2 o).2 p (b.2.2 p hp)⟩⟩
      · cases hk
    · cases hk

theorem krunL_congr {P : Program} {orc orc2 : Nat → Nat} {chk : Event → Bool} : ∀ (hs : List Hint) {x x' : KG} {acc ev : Array Event}, krunL P orc chk hs x acc = some (x', ev) → (∀ i, i < x'.k → orc2 i = orc i) → krunL P orc2 chk hs x acc = some (x', ev)
  | [], x, x', acc, ev, h, _ => h
  | h :: hs, x, x', acc, ev, hk, ho => by
    simp only [krunL] at hk ⊢
    split at hk
    · rename_i x1 es h1
      split at hk
      · rename_i hc
        have a := krunL_le hs hk
        rw [kstep_congr h1 (fun i hi => ho i (Nat.lt_of_lt_of_le hi a.1))]
        simp only [if_pos hc]
        exact krunL_congr hs hk ho
      · cases hk
    · cases hk

section
variable {P : Program}

theorem EvIn.low {fs : List Fact} {w : World} {e : Event} (hs : Sat fs w) (h : EvIn (keys fs) e) : (MemAct.ofEvent e).low w.heap.size := by
  have hlt : ∀ p ∈ keys fs, p.1.block < w.heap.size := fun p hp => by
    obtain ⟨f, hf, rfl⟩ := List.mem_map.1 hp
    exact hs.lt hf
  obtain ⟨loc, wr, sy⟩ := e
  rcases h with ⟨p, hp, hl, _⟩ | ⟨m, hm, ha⟩
  · simp only at hl; subst hl
    rw [ofEvent_cell0]
    exact hlt p hp
  · cases hm
    cases m with
    | acquire a => obtain ⟨p, hp, e⟩ := ha a rfl; show a.block < _; rw [e]; exact hlt p hp
    | release a => obtain ⟨p, hp, e⟩ := ha a rfl; show a.block < _; rw [e]; exact hlt p hp
    | releaseMerge a => obtain ⟨p, hp, e⟩ := ha a rfl; show a.block < _; rw [e]; exact hlt p hp
    | read a => obtain ⟨p, hp, e⟩ := ha a rfl; show a.block < _; rw [e]; exact hlt p hp
    | write a => obtain ⟨p, hp, e⟩ := ha a rfl; show a.block < _; rw [e]; exact hlt p hp
    | _ => trivial

theorem kstep_running {orc : Nat → Nat} {h : Hint} {x x' : KG} {es : Array Event} (hx : kstep P orc h x = some (x', es)) : x'.g.status = .running := by
  unfold kstep at hx
  cases hv : view P x.g with
  | go g' =>
    simp only [hv, Option.some.injEq, Prod.mk.injEq] at hx; obtain ⟨rfl, rfl⟩ := hx
    unfold view at hv
    dsimp only at hv ⊢
    (repeat' split at hv) <;> first | (cases hv; rfl) | cases hv
  | op s =>
    simp only [hv] at hx
    revert hx
    split
    · split <;> (intro hx; simp only [Option.some.injEq, Prod.mk.injEq] at hx; obtain ⟨rfl, rfl⟩ := hx; rfl)
    · intro hx; simp only [Option.some.injEq, Prod.mk.injEq] at hx; obtain ⟨rfl, rfl⟩ := hx; rfl
    · split
      · intro hx; cases hx
      · intro hx; simp only [Option.some.injEq, Prod.mk.injEq] at hx; obtain ⟨rfl, rfl⟩ := hx; rfl
    · intro hx; simp only [Option.some.injEq, Prod.mk.injEq] at hx; obtain ⟨rfl, rfl⟩ := hx; rfl
    · intro hx; cases hx
  | ret s =>
    simp only [hv] at hx
    revert hx
    split
    · split
      · intro hx; simp only [Option.some.injEq, Prod.mk.injEq] at hx; obtain ⟨rfl, rfl⟩ := hx; rfl
      · split
        · intro hx; cases hx
        · intro hx; simp only [Option.some.injEq, Prod.mk.injEq] at hx; obtain ⟨rfl, rfl⟩ := hx; rfl
      · intro hx; cases hx
    · intro hx; cases hx
  | dcall d fr =>
    simp only [hv] at hx
    revert hx
    split
    · intro hx; simp only [Option.some.injEq, Prod.mk.injEq] at hx; obtain ⟨rfl, rfl⟩ := hx; rfl
    · intro hx; simp only [Option.some.injEq, Prod.mk.injEq] at hx; obtain ⟨rfl, rfl⟩ := hx; rfl
    · intro hx; cases hx
  | none => simp only [hv] at hx; cases hx

end
end Go.Km

/-! KM, part 5: GOROUTINE 0's OWN WAY BESIDE LEAVERS, on whatever tape ('Rb'); many steps of 'kstep' are such a way. -/
namespace Go.Km
open Go Go.Conc
open Go.ConcN (sumTo sumTo_upd upd_ne upd_same)

structure Bes (P : Program) (Shun : Loc → Prop) (R : Nat) (gs : Array Goroutine) (q : Nat → Nat) (g : Goroutine) (w : World) (t : Trace) : Prop where
  at0 : gs[0]? = some g
  old : Leavers P t gs q
  past : Past Shun w.heap.size t
  /-- whatever was released lies in a block below R -/
  rel : ∀ op ∈ t, ∀ a, op.act = .mark (.release a) → a.block < R

/-- Goroutine 0, standing as 'g', all others leaving: comes, on whatever tape, to where 'Q' holds. -/
def Rb (P : Program) (Shun : Loc → Prop) (R : Nat) (g : Goroutine) (w : World) (Q : (Loc → Prop) → Nat → Goroutine → World → Prop) : Prop :=
  ∀ gs q sl t, Bes P Shun R gs q g w t → ∃ N gs' q' sl' t' Shun' R' g' w', runNT P N (crowd gs w sl) t = (.next (crowd gs' w' sl'), t') ∧ Bes P Shun' R' gs' q' g' w' t' ∧ Q Shun' R' g' w'

section
variable {P : Program} {Shun : Loc → Prop} {g : Goroutine} {w : World} {R : Nat} {Q Q' : (Loc → Prop) → Nat → Goroutine → World → Prop}

theorem Rb.now (h : Q Shun R g w) : Rb P Shun R g w Q := fun gs q sl t hB => ⟨0, gs, q, sl, t, Shun, R, g, w, rfl, hB, h⟩

theorem Bes.raise {gs : Array Goroutine} {q : Nat → Nat} {t : Trace} (h : Bes P Shun R gs q g w t) : Bes P Shun w.heap.size gs q g w t :=
  ⟨h.at0, h.old, h.past, fun op hop a ha => by have := h.past.seen op hop; rw [ha] at this; exact this⟩
/-- All that the trace names lies in the blocks that there are. -/
theorem Rb.raise (h : Rb P Shun w.heap.size g w Q) : Rb P Shun R g w Q := fun gs q sl t hB => h gs q sl t hB.raise

theorem runNT_then {m m' m'' : Machine} {t t' t'' : Trace} {N K : Nat} (h : runNT P N m t = (.next m', t')) (hk : runNT P K m' t' = (.next m'', t'')) : runNT P (N + K) m t = (.next m'', t'') := by
  rw [runNT_add, h]; exact hk

theorem Rb.bind (h : Rb P Shun R g w Q) (k : ∀ S' R' g' w', Q S' R' g' w' → Rb P S' R' g' w' Q') : Rb P Shun R g w Q' := by
  intro gs q sl t hB
  obtain ⟨N, gs1, q1, sl1, t1, S1, R1, g1, w1, e1, hB1, hq⟩ := h gs q sl t hB
  obtain ⟨K, gs2, q2, sl2, t2, S2, R2, g2, w2, e2, hB2, hq2⟩ := k _ _ _ _ hq gs1 q1 sl1 t1 hB1
  exact ⟨N + K, gs2, q2, sl2, t2, S2, R2, g2, w2, runNT_then e1 e2, hB2, hq2⟩

theorem Rb.mono (h : Rb P Shun R g w Q) (k : ∀ S' R' g' w', Q S' R' g' w' → Q' S' R' g' w') : Rb P Shun R g w Q' := h.bind fun _ _ _ _ hq => .now (k _ _ _ _ hq)

theorem deafBehind_app (d : Nat) (a b : Array Event) : deafBehind d (a ++ b) = deafBehind (deafBehind d a) b := by
  unfold deafBehind; rw [Array.foldl_append]

theorem Bes.awake {gs : Array Goroutine} {q : Nat → Nat} {t : Trace} (h : Bes P Shun R gs q g w t) (hrun : g.status = .running) : ∀ x ∈ gs, awake x := by
  intro x hx
  obtain ⟨i, hi, rfl⟩ := Array.mem_iff_getElem.1 hx
  rcases Nat.eq_zero_or_pos i with rfl | hpos
  · have : gs[0] = g := by simpa [Array.getElem?_eq_getElem hi] using h.at0
    rw [this]; exact awake_of (.inl hrun)
  · exact awake_of ((h.old.old i _ hpos (Array.getElem?_eq_getElem hi)).status.elim .inl fun x => .inr (.inr x))

/-- A leaver slips. -/
theorem Bes.slip {gs : Array Goroutine} {q : Nat → Nat} {t : Trace} (h : Bes P Shun R gs q g w t) (hrun : g.status = .running) {i : Nat} {x : Goroutine} (hpos : 0 < i) (hi : gs[i]? = some x) (hx : x.status = .running) (sl : Option (Nat × Nat)) (d : Nat) :
    ∃ gs' q' t', runT P (crowd gs (w.at d) sl) i = (.next (crowd gs' (w.at d) sl), t') ∧ Bes P Shun R gs' q' g (w.at d) (t ++ t') ∧ sumTo gs'.size q' < sumTo gs.size q := by
  have hL := h.old
  have hP := h.past
  have h0 := h.at0
  have hq := hL.old i x hpos hi
  have hi0 : (i == 0) = false := by simp; omega
  have hlt : i < gs.size := (Array.getElem?_eq_some_iff.1 hi).1
  cases hqi : q i with
  | zero => rw [hqi] at hq; rw [hq.1] at hx; cases hx
  | succ k =>
    rw [hqi] at hq
    rcases hq with ⟨hf, _⟩ | ⟨_, g', es, hm, hstp, hq'⟩
    · rw [hf] at hx; cases hx
    have hrunT := runT_crowd_go (P := P) (gs := gs) (w := w.at d) (sl := sl) (i := i) hi (by rw [hi0]; exact hstp (w.at d))
    have hsz : ((gs.map (woken P x g' (w.at d))).setIfInBounds i g').size = gs.size := by simp
    have hsum : sumTo gs.size (Go.ConcN.upd q i k) + (k + 1) = sumTo gs.size q + k := by
      have := sumTo_upd q k id hlt
      simpa [hqi] using this
    refine ⟨_, Go.ConcN.upd q i k, _, hrunT, ⟨?_, ⟨fun j y hj hy => ?_, fun j hj => ?_⟩, hP.mute (by omega) hm, fun op hop a ha => ?_⟩, by rw [hsz]; omega⟩
    · have hne : i ≠ 0 := by omega
      rw [Array.getElem?_setIfInBounds_ne hne, Array.getElem?_map, h0]
      simp [woken_run hrun]
    · by_cases hji : i = j
      · subst hji
        rw [Array.getElem?_setIfInBounds_self_of_lt (by simpa using hlt)] at hy
        obtain rfl := Option.some.inj hy
        rw [upd_same, Deaf_own]
        exact hq'
      · rw [Array.getElem?_setIfInBounds_ne hji, Array.getElem?_map] at hy
        obtain ⟨z, hz, rfl⟩ := Option.map_eq_some_iff.1 hy
        have hqj := hL.old j z hj hz
        rw [woken_quitsD hqj, upd_ne q k (Ne.symm hji), Deaf_other t hji _ (fun op hop => by obtain ⟨e, _, rfl⟩ := Go.Conc.mem_ofEvents hop; rfl)]
        exact hqj
    · rw [Deaf_other t (g' := i) (by simp at hj; omega) _ (fun op hop => by obtain ⟨e, _, rfl⟩ := Go.Conc.mem_ofEvents hop; rfl)]
      exact hL.above j (by simpa using hj)
    · rcases Array.mem_append.1 hop with hop | hop
      · exact h.rel op hop a ha
      · obtain ⟨e, he, rfl⟩ := Go.Conc.mem_ofEvents hop
        have := hm e he
        obtain ⟨loc, wr, sy⟩ := e
        cases loc <;> simp_all [Event.mute, MemAct.ofEvent]

theorem ofEvent_release {e : Event} {a : Addr} (h : MemAct.ofEvent e = .mark (.release a)) : e.loc = .mark (.release a) := by
  obtain ⟨loc, wr, sy⟩ := e
  cases loc with
  | obj r => cases wr <;> cases sy <;> simp [MemAct.ofEvent] at h
  | mark m => simp only [MemAct.ofEvent, MemAct.mark.injEq] at h; rw [h]
  | _ => simp [MemAct.ofEvent] at h

/-- Goroutine 0's own step. -/
theorem Bes.own {gs : Array Goroutine} {q : Nat → Nat} {t : Trace} (h : Bes P Shun R gs q g w t) {g' : Goroutine} {w' : World} {es : Array Event} {d : Nat} (hgo : stepG P true g (w.at d) = .go g' w' es) (hsz : w.heap.size ≤ w'.heap.size) (hes : ∀ e ∈ es, EvL Shun w'.heap.size e) (sl : Option (Nat × Nat)) {R' : Nat} (hR : R ≤ R') (hrl : ∀ e ∈ es, ∀ a, e.loc = .mark (.release a) → a.block < R') :
    ∃ gs' t', runT P (crowd gs (w.at d) sl) 0 = (.next (crowd gs' w' sl), t') ∧ Bes P Shun R' gs' q g' w' (t ++ t') := by
  have hL := h.old
  have h0 := h.at0
  have hrunT := runT_crowd_go (P := P) (gs := gs) (w := w.at d) (sl := sl) (i := 0) h0 (show stepG P (0 == 0) g (w.at d) = _ from hgo)
  have hlt : 0 < gs.size := (Array.getElem?_eq_some_iff.1 h0).1
  refine ⟨_, _, hrunT, ⟨by simp [hlt], ⟨fun j x hj hx => ?_, fun j hj => ?_⟩, (h.past.mono hsz).own hes, fun op hop a ha => ?_⟩⟩
  · have hne : 0 ≠ j := by omega
    rw [Array.getElem?_setIfInBounds_ne hne, Array.getElem?_map] at hx
    obtain ⟨y, hy, rfl⟩ := Option.map_eq_some_iff.1 hx
    have hq := hL.old j y hj hy
    rw [woken_quitsD hq, Deaf_other t (by omega) _ (fun op hop => by obtain ⟨e, _, rfl⟩ := Go.Conc.mem_ofEvents hop; rfl)]
    exact hq
  · rw [Deaf_other t (g' := 0) (by simp at hj; omega) _ (fun op hop => by obtain ⟨e, _, rfl⟩ := Go.Conc.mem_ofEvents hop; rfl)]
    exact hL.above j (by simpa using hj)
  · rcases Array.mem_append.1 hop with hop | hop
    · exact Nat.lt_of_lt_of_le (h.rel op hop a ha) hR
    · obtain ⟨e, he, rfl⟩ := Go.Conc.mem_ofEvents hop
      exact hrl e he a (ofEvent_release ha)

theorem Rb.step (hrun : g.status = .running)
    (h : ∀ n, ∃ g' w' es, stepG P true g (w.at n) = .go g' w' es ∧ w.heap.size ≤ w'.heap.size ∧ (∀ e ∈ es, EvL Shun w'.heap.size e) ∧ ∃ R', R ≤ R' ∧ (∀ e ∈ es, ∀ a, e.loc = .mark (.release a) → a.block < R') ∧ Rb P Shun R' g' w' Q) : Rb P Shun R g w Q := by
  intro gs q
  generalize hs : sumTo gs.size q = s
  induction s using Nat.strongRecOn generalizing gs q w with
  | _ s ih =>
    intro sl t hB
    obtain ⟨i, x, d, sl1, hi, hx, hst⟩ := crowd_pick (P := P) (gs := gs) (w := w) (sl := sl) (hB.awake hrun) ⟨0, g, hB.at0, hrun⟩
    rcases Nat.eq_zero_or_pos i with rfl | hpos
    · obtain rfl : x = g := by rw [hB.at0] at hi; exact (Option.some.inj hi).symm
      obtain ⟨g', w', es, hgo, hsz, hev, R', hle, hrl, hR⟩ := h d
      obtain ⟨gs', t1, hrunT, hB'⟩ := hB.own hgo hsz hev sl1 hle hrl
      obtain ⟨N, gs2, q2, sl2, t2, S2, R2, g2, w2, e2, hB2, hq2⟩ := hR gs' q sl1 (t ++ t1) hB'
      exact ⟨N + 1, gs2, q2, sl2, t2, S2, R2, g2, w2, by simp only [runNT, hst, hrunT]; exact e2, hB2, hq2⟩
    · obtain ⟨gs', q', t1, hrunT, hB', hlt⟩ := hB.slip hrun hpos hi hx sl1 d
      obtain ⟨N, gs2, q2, sl2, t2, S2, R2, g2, w2, e2, hB2, hq2⟩ := ih _ (hs ▸ hlt) (w := w.at d) (fun n => h n) gs' q' rfl sl1 (t ++ t1) hB'
      exact ⟨N + 1, gs2, q2, sl2, t2, S2, R2, g2, w2, by simp only [runNT, hst, hrunT]; exact e2, hB2, hq2⟩

/-- The facts lie apart from the shunned places, and those lie in old blocks. -/
structure Clear (Shun : Loc → Prop) (fs : List Fact) (w : World) : Prop where
  apart : ∀ f ∈ fs, ¬ Shun (.cell f.a)
  low : ∀ a, Shun (.cell a) → a.block < w.heap.size

theorem Clear.turn {fs fs' : List Fact} {w w' : World} (h : Clear Shun fs w) (ht : Turn fs w fs' w') : Clear Shun fs' w' := by
  refine ⟨fun f hf hs => ?_, fun a ha => Nat.lt_of_lt_of_le (h.low a ha) ht.size⟩
  rcases ht.mem hf with ⟨g, hg, e, _⟩ | ⟨hb, _, _⟩
  · exact h.apart g hg (by rw [e]; exact hs)
  · have := h.low _ hs; omega
theorem Clear.drawn {fs : List Fact} {w : World} (h : Clear Shun fs w) (n : Nat) : Clear Shun fs (w.at n) := ⟨h.apart, h.low⟩

/-- It neither deafens nor lets hear again. -/
def noDE (e : Event) : Bool := match e.loc with
  | .mark .disable | .mark .enable => false
  | _ => true

def noRel (e : Event) : Bool := match e.loc with
  | .mark (.release _) => false
  | _ => true
def chkOf (keep : Bool) (e : Event) : Bool := noDE e && (!keep || noRel e)

theorem EvIn.evL {fs : List Fact} {w : World} {e : Event} (hs : Sat fs w) (hc : Clear Shun fs w) (h : EvIn (keys fs) e) (hn : noDE e = true) : EvL Shun w.heap.size e := by
  refine ⟨fun x hx hsx hp => ?_, fun he => ?_, fun he => ?_, h.low hs⟩
  · obtain ⟨loc, wr, sy⟩ := e
    rcases h with ⟨p, hp', hl, _⟩ | ⟨m, hm, _⟩
    · simp only at hl; subst hl
      rw [ofEvent_cell0] at hx
      simp only [MemAct.touch?, Option.some.injEq] at hx
      subst hx
      obtain ⟨f, hf, rfl⟩ := List.mem_map.1 hp'
      exact hc.apart f hf hsx
    · cases hm
      cases m <;> simp [MemAct.ofEvent, MemAct.touch?] at hx <;> (subst hx; cases hp)
  · unfold noDE at hn; rw [he] at hn; simp at hn
  · unfold noDE at hn; rw [he] at hn; simp at hn

/-- ████ MANY STEPS, goroutine 0, beside leavers ████ -/
theorem krunL_rb (keep : Bool) : ∀ (hs : List Hint) (x : KG) (w : World) (orc : Nat → Nat) (acc : Array Event) (R : Nat), R ≤ w.heap.size → Sat x.fs w → Clear Shun x.fs w → x.g.status = .running →
    (∀ orc', (∀ i, i < x.k → orc' i = orc i) → ∃ x' ev, krunL P orc' (chkOf keep) hs x acc = some (x', ev) ∧ x'.Ok) →
    (∀ orc' x' ev w', (∀ i, i < x.k → orc' i = orc i) → krunL P orc' (chkOf keep) hs x acc = some (x', ev) → Turn x.fs w x'.fs w' → Clear Shun x'.fs w' → x'.Ok → Rb P Shun (if keep then R else w'.heap.size) x'.g w' Q) →
    Rb P Shun R x.g w Q
  | [], x, w, orc, acc, R, hRw, hs, hc, _, H, K => by
    obtain ⟨x', ev, h1, h2⟩ := H orc (fun _ _ => rfl)
    have : x' = x := by simp only [krunL, Option.some.injEq, Prod.mk.injEq] at h1; exact h1.1.symm
    subst this
    have hK := K orc x' acc w (fun _ _ => rfl) rfl (.refl hs) hc h2
    cases keep with
    | true => exact hK
    | false => exact hK.raise
  | h :: hs, x, w, orc, acc, R, hRw, hsat, hcl, hrun, H, K => by
    refine Rb.step hrun fun n => ?_
    have hsat' : Sat x.fs (w.at n) := hsat.drawn n
    have H1 : ∀ orc', (∀ i, i < x.k → orc' i = orc i) → ∃ x' es, kstep P orc' h x = some (x', es) ∧ x'.Ok := by
      intro orc' ho
      obtain ⟨x', ev, hk, hok⟩ := H orc' ho
      simp only [krunL] at hk
      split at hk
      · rename_i x1 es h1
        split at hk
        · exact ⟨x1, es, h1, (krunL_le hs hk).2 hok⟩
        · cases hk
      · cases hk
    obtain ⟨orc1, x1, es, w1, ho1, hk1, hst, ht, _⟩ := kstep_sound (main := true) hsat' H1
    obtain ⟨x1', es', hk1', hok1⟩ := H1 orc1 ho1
    have e1 : x1' = x1 ∧ es' = es := by rw [hk1] at hk1'; cases hk1'; exact ⟨rfl, rfl⟩
    obtain ⟨rfl, rfl⟩ := e1
    have hle := kstep_le hk1
    have hchk : es'.toList.all (chkOf keep) = true := by
      obtain ⟨x', ev, hk, _⟩ := H orc1 ho1
      simp only [krunL, hk1] at hk
      split at hk
      · assumption
      · cases hk
    have hcl1 := (hcl.drawn n).turn ht
    have hck : ∀ e ∈ es', chkOf keep e = true := fun e he => List.all_eq_true.1 hchk e (Array.mem_toList_iff.2 he)
    have hRw1 : R ≤ w1.heap.size := Nat.le_trans hRw ht.size
    refine ⟨x1'.g, w1, es', hst, ht.size, fun e he => EvIn.evL ht.sat hcl1 ((kstep_ev hk1 hok1).2 e he) (by have := hck e he; simp only [chkOf, Bool.and_eq_true] at this; exact this.1), if keep then R else w1.heap.size, by split <;> omega, fun e he a ha => ?_, ?_⟩
    · cases keep with
      | true => have := hck e he; simp [chkOf, noRel, ha] at this
      | false =>
        have := ((kstep_ev hk1 hok1).2 e he).low ht.sat
        have he' : MemAct.ofEvent e = .mark (.release a) := by obtain ⟨loc, wr, sy⟩ := e; simp only at ha; subst ha; rfl
        rw [he'] at this
        exact this
    have step_eq : ∀ orc', (∀ i, i < x1'.k → orc' i = orc1 i) → krunL P orc' (chkOf keep) (h :: hs) x acc = krunL P orc' (chkOf keep) hs x1' (acc ++ es') := by
      intro orc' ho
      simp only [krunL, kstep_congr hk1 ho, hchk, if_true]
    have agree : ∀ orc' : Nat → Nat, (∀ i, i < x1'.k → orc' i = orc1 i) → ∀ i, i < x.k → orc' i = orc i := fun orc' ho i hi => (ho i (Nat.lt_of_lt_of_le hi hle.1)).trans (ho1 i hi)
    refine krunL_rb keep hs x1' w1 orc1 (acc ++ es') _ (by split <;> omega) ht.sat hcl1 (kstep_running hk1) (fun orc' ho => ?_) (fun orc' x' ev w' ho hk ht' hcl' hok' => ?_)
    · obtain ⟨x', ev, hk, hok⟩ := H orc' (agree orc' ho)
      rw [step_eq orc' ho] at hk
      exact ⟨x', ev, hk, hok⟩
    · have hK := K orc' x' ev w' (agree orc' ho) (by rw [step_eq orc' ho]; exact hk) ((Turn.drawn hsat n).trans (ht.trans ht')) hcl' hok'
      cases keep with
      | true => exact hK
      | false => exact hK
end
end Go.Km
