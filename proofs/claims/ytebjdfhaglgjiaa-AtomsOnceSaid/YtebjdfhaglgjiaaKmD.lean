/- Goroutine 0: regions that draw their order, appends, deaf stretches, calls by their contracts, the end of the run. No conditions beyond those written in the theorems. -/
import Derived.Test.YtebjdfhaglgjiaaKmC
import Derived.Orders
import Derived.Laws.Append
import Derived.Laws.AppendOwn
import Derived.Conc.AppendEvents3
import Derived.Conc.EventLaws
/-! KM, part 15: A REGION THAT DRAWS ITS ORDER: every order is tried, each comes to the same. -/
namespace Go.Km
open Go Go.Conc

def ords (md : Region.Mode) (ops : Array Oper) : Nat → Array Bool → List (List Nat)
  | 0, _ => [[]]
  | fuel + 1, listed => match Region.ready md ops listed with
    | [] => [[]]
    | rs => rs.flatMap fun i => (ords md ops fuel (listed.setIfInBounds i true)).map (i :: ·)
def allOrds (mixed : Bool) (ops : Array Oper) : List (List Nat) :=
  if mixed || !Region.departs ops then ords .any ops ops.size (Array.replicate ops.size false)
  else ords .text ops ops.size (Array.replicate ops.size false) ++ ords .gc ops ops.size (Array.replicate ops.size false)

theorem go_mem (md : Region.Mode) (ops : Array Oper) : ∀ (fuel t : Nat) (listed : Array Bool), Region.linearise.go md ops fuel t listed [] ∈ ords md ops fuel listed := by
  intro fuel
  induction fuel with
  | zero => intro t listed; simp [Region.linearise.go, ords]
  | succ fuel ih =>
    intro t listed
    simp only [Region.linearise.go]
    change (match (Region.ready md ops listed)[t % (Region.ready md ops listed).length]? with
      | some i => Region.linearise.go md ops fuel (t / (Region.ready md ops listed).length) (listed.setIfInBounds i true) [i]
      | none => [].reverse) ∈ ords md ops (fuel + 1) listed
    unfold ords
    cases hr : Region.ready md ops listed with
    | nil => simp
    | cons a rs =>
      have hlt : t % (a :: rs).length < (a :: rs).length := Nat.mod_lt _ (by simp)
      rw [List.getElem?_eq_getElem hlt]
      simp only [List.mem_flatMap, List.mem_map]
      refine ⟨(a :: rs)[t % (a :: rs).length], List.getElem_mem hlt, _, ih (t / (a :: rs).length) _, ?_⟩
      rw [linearise_go_acc md ops fuel _ _ [_]]
      rfl

theorem schedule_mem (mixed : Bool) (ops : Array Oper) (t : Nat) : Region.schedule mixed ops t ∈ allOrds mixed ops := by
  unfold Region.schedule allOrds
  split
  · exact go_mem .any ops _ _ _
  · rw [List.mem_append]
    by_cases h : t % 2 == 0
    · left; rw [if_pos h]; exact go_mem .text ops _ _ _
    · right; rw [if_neg h]; exact go_mem .gc ops _ _ _

/-- the order is drawn -/
def drawTo (l : List Nat) (x : KG) : KG := match x.g.frame.todo with
  | .code (.region _ ops true) :: k => { x with g := run' { x.g.frame with todo := .inRegion ops l :: k } x.g.callers }
  | _ => x
def drawInfo (P : Program) (x : KG) : List (List Nat) × Bool := match x.g.frame.todo, x.g.frame.mode, x.g.dying, x.g.frame.roundOf with
  | .code (.region _ ops true) :: _, .run, none, none => (allOrds (P.follows .mixedOrders) ops, true)
  | _, _, _, _ => ([], false)
def drawA (l : List Nat) (A : (Nat → Nat) → Option KG) : (Nat → Nat) → Option KG := fun o => (A o).map (drawTo l)

theorem draw_step {P : Program} {x : KG} {L : List (List Nat)} (h : drawInfo P x = (L, true)) (main : Bool) (w : World) :
    ∃ l ∈ L, stepG P main x.g w = .go (drawTo l x).g { w with drawn := w.drawn + 1 } #[] := by
  obtain ⟨g, fs, k, owe, oweV⟩ := x
  obtain ⟨fr, cs, stt, dy, off⟩ := g
  obtain ⟨fn, tmps, todo, defers, mode, kind, roundOf⟩ := fr
  unfold drawInfo at h
  dsimp only at h
  split at h
  · rename_i id ops kk
    simp only [Prod.mk.injEq, and_true] at h
    subst h
    refine ⟨Region.schedule (P.follows .mixedOrders) ops (w.tape w.drawn (.order fn id)), schedule_mem _ _ _, ?_⟩
    simp [stepG, stepG.exec, choose, Sem.run, Question.forced, Question.cut, drawTo, run']
  · simp at h

section
variable {P : Program} {Shun : Loc → Prop} {R : Nat} {A : (Nat → Nat) → Option KG} {orc : Nat → Nat} {x : KG} {w W : World} {Q' : (Loc → Prop) → Nat → Goroutine → World → Prop}

theorem drawTo_run {l : List Nat} {x : KG} (h : x.g.status = .running) : (drawTo l x).g.status = .running := by
  unfold drawTo; split <;> first | rfl | exact h
theorem drawTo_off {l : List Nat} {x : KG} (h : x.g.offers = none) : (drawTo l x).g.offers = none := by
  unfold drawTo; split <;> first | rfl | exact h
theorem drawTo_fs (l : List Nat) (x : KG) : (drawTo l x).fs = x.fs ∧ (drawTo l x).k = x.k := by
  unfold drawTo; split <;> exact ⟨rfl, rfl⟩

/-- ████ goroutine 0 draws an order ████ -/
theorem rb_draw {L : List (List Nat)} (hl : List Nat → List Hint) (l0 : List Nat) (hA : At A orc x) (hrun : x.g.status = .running) (hoff : x.g.offers = none) (hR : R ≤ w.heap.size) (hsat : Sat x.fs w) (hcl : Clear Shun x.fs w) (hW : Was W w) (hab : Above W x.fs)
    (hL : (A orc).map (drawInfo P) = some (L, true)) (h0 : l0 ∈ L)
    (H : ∀ l ∈ L, ∀ o, okB 0 0 (segA P (chkOf true) (hl l) (drawA l A) o))
    (E : ∀ l ∈ L, ∀ o, (nextA (segA P (chkOf true) (hl l) (drawA l A)) o).map (fun x => (x.g, x.fs)) = (nextA (segA P (chkOf true) (hl l0) (drawA l0 A)) o).map (fun x => (x.g, x.fs)))
    (K : ∀ o x' w', (∀ i, i < x.k → o i = orc i) → At (nextA (segA P (chkOf true) (hl l0) (drawA l0 A))) o x' → x.k ≤ x'.k → x'.g.status = .running → x'.g.offers = none → Sat x'.fs w' → Clear Shun x'.fs w' → Was W w' → Above W x'.fs → w.heap.size ≤ w'.heap.size → Rb P Shun R x'.g w' Q') :
    Rb P Shun R x.g w Q' := by
  have hinfo : drawInfo P x = (L, true) := by
    rw [hA.here] at hL
    simpa using hL
  refine Rb.step hrun fun n => ?_
  obtain ⟨l, hlm, hst⟩ := draw_step hinfo true (w.at n)
  refine ⟨_, _, _, hst, Nat.le_refl _, by simp, R, Nat.le_refl _, by simp, ?_⟩
  have hAl : ∀ l, At (drawA l A) orc (drawTo l x) := fun l o ho => by
    rw [(drawTo_fs l x).2] at ho
    simp only [drawA, hA o ho, Option.map_some]
  have hfs := (drawTo_fs l x).1
  refine rb_seg' (W := W) (d' := 0) true (hAl l) (drawTo_run hrun) (drawTo_off hoff) (hl l) hR (by rw [hfs]; exact hsat.drawn _) (by rw [hfs]; exact hcl.drawn _) (hW.drawn _) (by rw [hfs]; exact hab) (H l hlm) fun o x' w' ho hA' hk hr hof hs hc hw hb hsz _ => ?_
  have e := E l hlm o
  rw [hA'.here] at e
  obtain ⟨x0, ev0, h1, hok, _⟩ := H l0 h0 o
  have hn : nextA (segA P (chkOf true) (hl l0) (drawA l0 A)) o = some x0 := by simp only [nextA, h1, Option.map_some]
  rw [hn] at e
  simp only [Option.map_some, Option.some.injEq, Prod.mk.injEq] at e
  obtain ⟨e1, e2⟩ := e
  rw [(drawTo_fs l x).2] at ho
  have hrun0 : krunL P o (chkOf true) (hl l0) (drawTo l0 x) #[] = some (x0, ev0) := by
    have := h1
    simp only [segA, hAl l0 o (fun i hi => ho i (by rw [(drawTo_fs l0 x).2] at hi; exact hi)), Option.bind_some] at this
    exact this
  have hle := (krunL_le _ hrun0).1
  rw [(drawTo_fs l0 x).2] at hle
  have hA0 : At (nextA (segA P (chkOf true) (hl l0) (drawA l0 A))) o x0 := fun o' ho' => by
    simp only [nextA, segA, hAl l0 o' (fun i hi => by rw [(drawTo_fs l0 x).2] at hi; exact (ho' i (Nat.lt_of_lt_of_le hi hle)).trans (ho i hi)), Option.bind_some, krunL_congr _ hrun0 ho', Option.map_some]
  simp only [if_true]
  rw [e1]
  exact K o x0 w' ho hA0 hle (by rw [← e1]; exact hr) (by rw [← e1]; exact hof) (by rw [← e2]; exact hs) (by rw [← e2]; exact hc) hw (by rw [← e2]; exact hb) hsz
end
end Go.Km

/-! KM, part 16: GOROUTINE 0's WAYS, with facts that stand aside ('G'). -/
namespace Go.Km
open Go Go.Conc

/-- What is held between the steps of goroutine 0's. -/
structure RS (Shun : Loc → Prop) (W : World) (fs : List Fact) (w : World) : Prop where
  sat : Sat fs w
  clear : Clear Shun fs w
  was : Was W w
  above : Above W fs

section
variable {P : Program} {Shun : Loc → Prop} {R d' : Nat} {A : (Nat → Nat) → Option KG} {orc : Nat → Nat} {x : KG} {w W : World} {Q' : (Loc → Prop) → Nat → Goroutine → World → Prop} {G : List Fact}

theorem RS.drawn {fs : List Fact} (h : RS Shun W fs w) (n : Nat) : RS Shun W fs (w.at n) := ⟨h.sat.drawn n, h.clear.drawn n, h.was.drawn n, h.above⟩
theorem RS.turn {fs fs' : List Fact} {w' : World} (h : RS Shun W (G ++ fs) w) (ht : Turn fs w fs' w') : RS Shun W (G ++ fs') w' :=
  have ht' := ht.frame h.sat
  ⟨ht'.sat, h.clear.turn ht', (h.was.turn h.above ht').1, (h.was.turn h.above ht').2⟩
theorem RS.perm {fs fs' : List Fact} (h : RS Shun W fs w) (hp : fs.Perm fs') : RS Shun W fs' w :=
  ⟨⟨fun f hf => h.sat.cell f (hp.mem_iff.2 hf), fun f hf => h.sat.wr f (hp.mem_iff.2 hf), fun f hf => h.sat.sh f (hp.mem_iff.2 hf), (hp.map _).nodup_iff.1 h.sat.nodup⟩,
   ⟨fun f hf => h.clear.apart f (hp.mem_iff.2 hf), h.clear.low⟩, h.was, fun f hf => h.above f (hp.mem_iff.2 hf)⟩
theorem RS.part {fs fs' : List Fact} (h : RS Shun W (fs ++ fs') w) : RS Shun W fs' w :=
  ⟨h.sat.right, ⟨fun f hf => h.clear.apart f (List.mem_append_right _ hf), h.clear.low⟩, h.was, fun f hf => h.above f (List.mem_append_right _ hf)⟩

theorem krunL_off {orc : Nat → Nat} {chk : Event → Bool} : ∀ (hs : List Hint) (x x' : KG) (acc ev : Array Event), x.g.status = .running → x.g.offers = none → krunL P orc chk hs x acc = some (x', ev) → x'.g.status = .running ∧ x'.g.offers = none
  | [], x, x', acc, ev, hr, ho, hk => by simp only [krunL, Option.some.injEq, Prod.mk.injEq] at hk; rw [← hk.1]; exact ⟨hr, ho⟩
  | h :: hs, x, x', acc, ev, _, _, hk => by
    simp only [krunL] at hk
    split at hk
    · rename_i x1 es h1
      split at hk
      · exact krunL_off hs _ _ _ _ (kstep_running h1) (kstep_offers h1) hk
      · cases hk
    · cases hk

theorem rbG_seg (keep : Bool) (hA : At A orc x) (hrun : x.g.status = .running) (hoff : x.g.offers = none) (hs : List Hint) (hR : R ≤ w.heap.size) (hRS : RS Shun W (G ++ x.fs) w)
    (H : ∀ o, okB 0 d' (segA P (chkOf keep) hs A o))
    (K : ∀ o x' w', (∀ i, i < x.k → o i = orc i) → At (nextA (segA P (chkOf keep) hs A)) o x' → x.k ≤ x'.k → x'.g.status = .running → x'.g.offers = none → RS Shun W (G ++ x'.fs) w' → Turn x.fs w x'.fs w' → Rb P Shun (if keep then R else w'.heap.size) x'.g w' Q') :
    Rb P Shun R x.g w Q' := by
  have eqn : ∀ o, (∀ i, i < x.k → o i = orc i) → segA P (chkOf keep) hs A o = krunL P o (chkOf keep) hs x #[] := fun o ho => by simp only [segA, hA o ho, Option.bind_some]
  refine krunL_rb keep hs x w orc #[] R hR hRS.sat.right ⟨fun f hf => hRS.clear.apart f (List.mem_append_right _ hf), hRS.clear.low⟩ hrun (fun o ho => ?_) (fun o x' ev w' ho hk ht _ hok' => ?_)
  · obtain ⟨x', ev, h1, h2, _⟩ := H o
    rw [eqn o ho] at h1
    exact ⟨x', ev, h1, h2⟩
  · have hle := (krunL_le hs hk).1
    obtain ⟨hr, hof⟩ := krunL_off hs x x' _ _ hrun hoff hk
    refine K o x' w' ho (fun o' ho' => ?_) hle hr hof (hRS.turn ht) ht
    simp only [nextA, eqn o' (fun i hi => (ho' i (Nat.lt_of_lt_of_le hi hle)).trans (ho i hi)), krunL_congr hs hk ho', Option.map_some]

theorem rbG_draw {L : List (List Nat)} (hl : List Nat → List Hint) (l0 : List Nat) (hA : At A orc x) (hrun : x.g.status = .running) (hoff : x.g.offers = none) (hR : R ≤ w.heap.size) (hRS : RS Shun W (G ++ x.fs) w)
    (hL : (A orc).map (drawInfo P) = some (L, true)) (h0 : l0 ∈ L)
    (H : ∀ l ∈ L, ∀ o, okB 0 0 (segA P (chkOf true) (hl l) (drawA l A) o))
    (E : ∀ l ∈ L, ∀ o, (nextA (segA P (chkOf true) (hl l) (drawA l A)) o).map (fun x => (x.g, x.fs)) = (nextA (segA P (chkOf true) (hl l0) (drawA l0 A)) o).map (fun x => (x.g, x.fs)))
    (K : ∀ o x' w', (∀ i, i < x.k → o i = orc i) → At (nextA (segA P (chkOf true) (hl l0) (drawA l0 A))) o x' → x.k ≤ x'.k → x'.g.status = .running → x'.g.offers = none → RS Shun W (G ++ x'.fs) w' → Turn x.fs w x'.fs w' → Rb P Shun R x'.g w' Q') :
    Rb P Shun R x.g w Q' := by
  have hinfo : drawInfo P x = (L, true) := by
    rw [hA.here] at hL
    simpa using hL
  refine Rb.step hrun fun n => ?_
  obtain ⟨l, hlm, hst⟩ := draw_step hinfo true (w.at n)
  refine ⟨_, _, _, hst, Nat.le_refl _, by simp, R, Nat.le_refl _, by simp, ?_⟩
  have hAl : ∀ l, At (drawA l A) orc (drawTo l x) := fun l o ho => by
    rw [(drawTo_fs l x).2] at ho
    simp only [drawA, hA o ho, Option.map_some]
  have hfs := (drawTo_fs l x).1
  refine rbG_seg (W := W) (G := G) (d' := 0) true (hAl l) (drawTo_run hrun) (drawTo_off hoff) (hl l) hR (by rw [hfs]; exact hRS.drawn _) (H l hlm) fun o x' w' ho hA' hk hr hof hs ht => ?_
  have e := E l hlm o
  rw [hA'.here] at e
  obtain ⟨x0, ev0, h1, hok, _⟩ := H l0 h0 o
  have hn : nextA (segA P (chkOf true) (hl l0) (drawA l0 A)) o = some x0 := by simp only [nextA, h1, Option.map_some]
  rw [hn] at e
  simp only [Option.map_some, Option.some.injEq, Prod.mk.injEq] at e
  obtain ⟨e1, e2⟩ := e
  rw [(drawTo_fs l x).2] at ho
  have hrun0 : krunL P o (chkOf true) (hl l0) (drawTo l0 x) #[] = some (x0, ev0) := by
    have := h1
    simp only [segA, hAl l0 o (fun i hi => ho i (by rw [(drawTo_fs l0 x).2] at hi; exact hi)), Option.bind_some] at this
    exact this
  have hle := (krunL_le _ hrun0).1
  rw [(drawTo_fs l0 x).2] at hle
  have hA0 : At (nextA (segA P (chkOf true) (hl l0) (drawA l0 A))) o x0 := fun o' ho' => by
    simp only [nextA, segA, hAl l0 o' (fun i hi => by rw [(drawTo_fs l0 x).2] at hi; exact (ho' i (Nat.lt_of_lt_of_le hi hle)).trans (ho i hi)), Option.bind_some, krunL_congr _ hrun0 ho', Option.map_some]
  simp only [if_true]
  rw [e1]
  exact K o x0 w' ho hA0 hle (by rw [← e1]; exact hr) (by rw [← e1]; exact hof) (by rw [← e2]; exact hs) (by
    rw [hfs] at ht
    rw [← e2]
    have h1 : Turn x.fs w x.fs { (w.at n) with drawn := (w.at n).drawn + 1 } := Turn.drawn (d := (w.at n).drawn + 1) hRS.sat.right
    exact h1.trans ht)
end
end Go.Km

namespace Go.Km
open Go Go.Conc

section
variable {P : Program} {Shun : Loc → Prop} {R : Nat} {w W : World} {Q' : (Loc → Prop) → Nat → Goroutine → World → Prop}

/-- One operation of goroutine 0's, its doing given outright. -/
theorem rb_op {g : Goroutine} {s : Sem Next} (hrun : g.status = .running) (hv : view P g = .op s)
    (h : ∀ n, ∃ v w', s.run P (w.at n) = .ok (.value v) w' ∧ w.heap.size ≤ w'.heap.size ∧ (∀ e ∈ s.events P (w.at n) #[], EvL Shun w'.heap.size e ∧ ∀ a, e.loc ≠ .mark (.release a)) ∧ Rb P Shun R (run' (g.frame.finish v) g.callers) w' Q') : Rb P Shun R g w Q' := by
  refine Rb.step hrun fun n => ?_
  obtain ⟨v, w', hr, hsz, hev, hR⟩ := h n
  obtain ⟨_, hk, hst⟩ := view_op (main := true) (w := w.at n) hv
  have hrt : s.runT P (w.at n) #[] = (.ok (.value v) w', s.events P (w.at n) #[]) := by rw [Sem.runT_eq, hr]
  refine ⟨_, w', seen P g.frame.fn (s.events P (w.at n) #[]), by rw [hst]; exact apply_value hk hrt, hsz, fun e he => (hev e (mem_seen he)).1, R, Nat.le_refl _, fun e he a ha => absurd ha ((hev e (mem_seen he)).2 a), hR⟩

theorem RS.init {fs fs' : List Fact} (h : RS Shun W (fs ++ fs') w) : RS Shun W fs w :=
  ⟨h.sat.left, ⟨fun f hf => h.clear.apart f (List.mem_append_left _ hf), h.clear.low⟩, h.was, fun f hf => h.above f (List.mem_append_left _ hf)⟩

theorem RS.push {fs : List Fact} (h : RS Shun W fs w) (arr : Array Value) (ty : TypeId) (m d : Nat) :
    RS Shun W (fs ++ (newFacts w.heap.size (some (ty, arr.toList.length)) arr.toList 0).take m) { w with heap := w.heap.push (.cells arr ty (0, 0)), drawn := d } := by
  have h1 := RS.turn (G := []) (fs := fs) h (Turn.new h.sat arr ty)
  have h2 : RS Shun W (fs ++ newFacts w.heap.size (some (ty, arr.toList.length)) arr.toList 0) { w with heap := w.heap.push (.cells arr ty (0, 0)), drawn := d } := RS.drawn h1 d
  rw [← List.take_append_drop m (newFacts w.heap.size (some (ty, arr.toList.length)) arr.toList 0), ← List.append_assoc] at h2
  exact h2.init

theorem run_builtin_append {ats : Array TypeId} {ty : TypeId} {cs : Array Bool} {args : Array Value} {v : Value} {w' : World} (h : (Builtin.append_ ats ty args).run P w = .ok v w') :
    (builtin .append ats ty cs args).run P w = .ok (.value v) w' ∧ (builtin .append ats ty cs args).events P w #[] = (Builtin.append_ ats ty args).events P w #[] := by
  constructor
  · simp [builtin, h]
  · simp [builtin]

theorem evl_of {B : Nat} {e : Event} {a : Addr} (h : (∃ ad, e.loc = .cell ad ∧ ((e.write = false ∧ ad.block = a.block) ∨ some ad.block = (none : Option Nat))) ∨ ∃ m, e = ⟨.mark m, false, true⟩ ∧ Conc.Neutral m) (hS : ∀ ad : Addr, ad.block = a.block → ¬ Shun (.cell ad)) (hB : a.block < B) :
    EvL Shun B e ∧ ∀ a, e.loc ≠ .mark (.release a) := by
  obtain ⟨loc, wr, sy⟩ := e
  rcases h with ⟨ad, hl, ⟨_, hb⟩ | hb⟩ | ⟨m, hm, hn⟩
  · simp only at hl; subst hl
    refine ⟨⟨fun x hx hs => ?_, by simp, by simp, ?_⟩, by simp⟩
    · rw [ofEvent_cell0] at hx
      simp only [MemAct.touch?, Option.some.injEq] at hx
      subst hx
      exact absurd hs (hS ad hb)
    · rw [ofEvent_cell0]; show ad.block < B; rw [hb]; exact hB
  · cases hb
  · cases hm
    have : m = .noRoom := hn
    subst this
    exact ⟨⟨fun x hx => by simp [MemAct.ofEvent, MemAct.touch?] at hx, by simp, by simp, trivial⟩, by simp⟩

/-- the first append, to the nil slice -/
theorem rb_app1 {g : Goroutine} {t ty e : TypeId} {i : TypeInfo} {z u : Value} {cs : Array Bool} {a : Addr} {c : Nat} {fs : List Fact} (hrun : g.status = .running)
    (hv : view P g = .op (builtin .append #[t, t] ty cs #[.slice none 0 0, .slice (some a) 1 c])) (ht : P.underlying t = some (.slice e)) (hi : P.info? e = some i) (hz : i.zero = some z) (hsz : i.size = 1) (hby : i.bytes = 8) (hzc : z.cells.size = 1) (hu : u.oneCell' = true)
    (hRS : RS Shun W fs w) (ha : w.cell? a = some u) (_hsp : a.spot = none) (hS : ∀ ad : Addr, ad.block = a.block → ¬ Shun (.cell ad))
    (K : ∀ cap (zs : Array Value) w', 1 ≤ cap → cap ≤ maxLen → zs.size = cap - 1 → w'.heap = w.heap.push (.cells (#[u] ++ zs) e (0, 0)) → (∀ m, RS Shun W (fs ++ (newFacts w.heap.size (some (e, (#[u] ++ zs).toList.length)) (#[u] ++ zs).toList 0).take m) w') →
      Rb P Shun R (run' (g.frame.finish (.slice (some ⟨w.heap.size, 0, none⟩) 1 cap)) g.callers) w' Q') : Rb P Shun R g w Q' := by
  have hlt : a.block < w.heap.size := cell_block_lt ha
  have hnews : ∀ (w : World), w.cell? a = some u → ∀ (j : Nat) (v : Value), [u][j]? = some v → w.cell? (a.add j) = some v := by
    intro w ha j v hj
    match j with
    | 0 =>
      simp only [List.getElem?_cons_zero, Option.some.injEq] at hj
      subst hj
      rw [show a.add 0 = a by unfold Addr.add; simp]
      exact ha
    | j + 1 => simp at hj
  refine rb_op hrun hv fun n => ?_
  have hrun' := run_append_nil (P := P) (w := w.at n) t ty e i z ht hi hz a 1 c [u] (by simp [hsz]) (hnews (w.at n) ha) (by omega) (by decide) (by rw [hby]; decide)
  obtain ⟨h1, h2⟩ := run_builtin_append (cs := cs) hrun'
  refine ⟨_, _, h1, by simp [World.alloc, World.drew, World.at], fun ev hev => ?_, ?_⟩
  · rw [h2] at hev
    have := events_append_where (P := P) (w.at n) 0 t ty e i z 1 8 ht hi hz hsz hby (.slice none 0 0) 0 [] (World.ownsRow_nil _ _ _ _) a 1 c [u] (by simp) (hnews (w.at n) ha) (fun v hv => by simp at hv; rw [hv]; exact hu) (by simp [maxLen]) (by simp) ev hev
    exact evl_of this hS (by simp [World.alloc, World.drew, World.at]; omega)
  · have hge := grownCap_ge (w.at n) 1 0 e
    refine K (grownCap (w.at n) 1 0 e) (Builtin.zeroCells z.cells (grownCap (w.at n) 1 0 e - 1)) _ hge (grownCap_le_maxLen _ _ _ _ (by simp [maxLen])) (by rw [size_zeroCells, hzc]; omega) rfl fun m => ?_
    exact RS.push hRS (#[u] ++ Builtin.zeroCells z.cells (grownCap (w.at n) 1 0 e - 1)) e m _
end
end Go.Km

/-! KM, part 18: THE ORDERS OF A DRAWING REGION, reckoned over a number as a set: fast in the kernel. -/
namespace Go.Km
open Go Go.Conc

def depsOf (md : Region.Mode) (ops : Array Oper) : List (List Nat) := ops.toList.map fun o => (o.after.toList.filter (Region.binds md)).map (·.on)
def readyD (D : List (List Nat)) (mask : Nat) : List Nat := (List.range D.length).filter fun i => !mask.testBit i && ((D[i]?).map (·.all mask.testBit)).getD false
def ordsD (D : List (List Nat)) : Nat → Nat → List (List Nat)
  | 0, _ => [[]]
  | fuel + 1, mask => match readyD D mask with
    | [] => [[]]
    | rs => rs.flatMap fun i => (ordsD D fuel (mask ||| (1 <<< i))).map (i :: ·)

def MaskOf (n : Nat) (listed : Array Bool) (mask : Nat) : Prop := listed.size = n ∧ ∀ i, mask.testBit i = listed.getD i false

theorem ready_mask {md : Region.Mode} {ops : Array Oper} {listed : Array Bool} {mask : Nat} (h : MaskOf ops.size listed mask) : Region.ready md ops listed = readyD (depsOf md ops) mask := by
  obtain ⟨hs, hb⟩ := h
  unfold Region.ready readyD
  rw [show (depsOf md ops).length = ops.size by simp [depsOf]]
  apply List.filter_congr
  intro i hi
  have hi : i < ops.size := by simpa using hi
  have e1 : listed.getD i true = mask.testBit i := by
    rw [hb i]; simp [Array.getD, hs, hi]
  rw [e1]
  congr 1
  have e2 : (depsOf md ops)[i]? = (ops[i]?).map fun o => (o.after.toList.filter (Region.binds md)).map (·.on) := by simp [depsOf]
  rw [e2, Option.map_map]
  congr 1
  cases ops[i]? with
  | none => rfl
  | some o =>
    simp only [Option.map_some, Function.comp, Option.some.injEq]
    rw [List.all_map, List.all_filter, ← Array.all_toList]
    congr 1
    funext e
    simp only [Function.comp, hb]

theorem mask_set {n : Nat} {listed : Array Bool} {mask i : Nat} (h : MaskOf n listed mask) (hi : i < n) : MaskOf n (listed.setIfInBounds i true) (mask ||| (1 <<< i)) := by
  obtain ⟨hs, hb⟩ := h
  refine ⟨by simpa using hs, fun j => ?_⟩
  rw [Nat.testBit_or, hb j, Nat.one_shiftLeft, Nat.testBit_two_pow]
  by_cases hij : i = j
  · subst hij
    simp [Array.getD, hs, hi]
  · by_cases hj : j < listed.size
    · simp [Array.getD, hj, hij]
    · simp [Array.getD, hj, hij]

theorem ords_mask {md : Region.Mode} {ops : Array Oper} : ∀ (fuel : Nat) (listed : Array Bool) (mask : Nat), MaskOf ops.size listed mask → ords md ops fuel listed = ordsD (depsOf md ops) fuel mask
  | 0, _, _, _ => rfl
  | fuel + 1, listed, mask, h => by
    unfold ords ordsD
    rw [ready_mask h]
    have hmem : ∀ i ∈ readyD (depsOf md ops) mask, i < ops.size := fun i hi => by
      have := (List.mem_filter.1 hi).1
      simpa [depsOf] using this
    cases hr : readyD (depsOf md ops) mask with
    | nil => rfl
    | cons a rs =>
      simp only
      rw [hr] at hmem
      have : ∀ i ∈ a :: rs, (ords md ops fuel (listed.setIfInBounds i true)).map (i :: ·) = (ordsD (depsOf md ops) fuel (mask ||| (1 <<< i))).map (i :: ·) := fun i hi => by
        rw [ords_mask fuel _ _ (mask_set h (hmem i hi))]
      generalize a :: rs = l at *
      clear hr hmem
      induction l with
      | nil => rfl
      | cons b l ih => simp only [List.flatMap_cons]; rw [this b (by simp), ih fun i hi => this i (by simp [hi])]

theorem mask_zero (n : Nat) : MaskOf n (Array.replicate n false) 0 := by
  refine ⟨by simp, fun i => ?_⟩
  simp only [Nat.zero_testBit]
  by_cases hi : i < n <;> simp [Array.getD, hi]

def allOrdsD (mixed dep : Bool) (n : Nat) (Da Dt Dg : List (List Nat)) : List (List Nat) :=
  if mixed || !dep then ordsD Da n 0 else ordsD Dt n 0 ++ ordsD Dg n 0

theorem allOrds_mask (mixed : Bool) (ops : Array Oper) : allOrds mixed ops = allOrdsD mixed (Region.departs ops) ops.size (depsOf .any ops) (depsOf .text ops) (depsOf .gc ops) := by
  unfold allOrds allOrdsD
  rw [ords_mask _ _ _ (mask_zero _), ords_mask _ _ _ (mask_zero _), ords_mask _ _ _ (mask_zero _)]

def departsL (ops : Array Oper) : Bool := ops.toList.any fun o => o.after.toList.any fun e => !Region.binds .any e
theorem departsL_eq (ops : Array Oper) : Region.departs ops = departsL ops := by
  unfold Region.departs departsL
  rw [← Array.any_toList]
  congr 1
  funext o
  rw [← Array.any_toList]
/-- what a drawing region is, for the kernel to reckon -/
def drawData (P : Program) (x : KG) : Option (Bool × Bool × Nat × List (List Nat) × List (List Nat) × List (List Nat)) := match x.g.frame.todo, x.g.frame.mode, x.g.dying, x.g.frame.roundOf with
  | .code (.region _ ops true) :: _, .run, none, none => some (P.follows .mixedOrders, departsL ops, ops.size, depsOf .any ops, depsOf .text ops, depsOf .gc ops)
  | _, _, _, _ => none
theorem drawInfo_of {P : Program} {x : KG} {m d : Bool} {n : Nat} {Da Dt Dg : List (List Nat)} {L : List (List Nat)} (h : drawData P x = some (m, d, n, Da, Dt, Dg)) (hL : allOrdsD m d n Da Dt Dg = L) : drawInfo P x = (L, true) := by
  unfold drawData at h
  unfold drawInfo
  split at h
  · rename_i e1 e2 e3 e4
    try rw [e1, e2, e3, e4]
    simp only [Option.some.injEq, Prod.mk.injEq] at h
    obtain ⟨h1, h2, h3, h4, h5, h6⟩ := h
    simp only [Prod.mk.injEq, and_true]
    rw [allOrds_mask, departsL_eq, h1, h2, h3, h4, h5, h6, hL]
  · cases h
end Go.Km

namespace Go.Km
open Go Go.Conc

section
variable {P : Program} {Shun : Loc → Prop} {R : Nat} {w W : World} {Q' : (Loc → Prop) → Nat → Goroutine → World → Prop}

theorem evl_of2 {B : Nat} {e : Event} {a : Addr} {row : Nat} (h : (∃ ad, e.loc = .cell ad ∧ ((e.write = false ∧ ad.block = a.block) ∨ some ad.block = some row)) ∨ ∃ m, e = ⟨.mark m, false, true⟩ ∧ Conc.Neutral m) (hS : ∀ ad : Addr, ad.block = a.block → ¬ Shun (.cell ad)) (hS2 : ∀ ad : Addr, ad.block = row → ¬ Shun (.cell ad)) (hB : a.block < B) (hB2 : row < B) :
    EvL Shun B e ∧ ∀ a, e.loc ≠ .mark (.release a) := by
  rcases h with ⟨ad, hl, hb | hb⟩ | hm
  · exact evl_of (a := a) (.inl ⟨ad, hl, .inl hb⟩) hS hB
  · obtain ⟨loc, wr, sy⟩ := e
    simp only at hl; subst hl
    have hb : ad.block = row := Option.some.inj hb
    refine ⟨⟨fun x hx hs => ?_, by simp, by simp, ?_⟩, by simp⟩
    · rw [ofEvent_cell0] at hx
      simp only [MemAct.touch?, Option.some.injEq] at hx
      subst hx
      exact absurd hs (hS2 ad hb)
    · rw [ofEvent_cell0]; show ad.block < B; rw [hb]; exact hB2
  · exact evl_of (a := a) (.inr hm) hS hB

/-- a further append that grows -/
theorem rb_app2g {g : Goroutine} {t ty e : TypeId} {i : TypeInfo} {z u u0 : Value} {cs : Array Bool} {a : Addr} {c B : Nat} {fs : List Fact} (hrun : g.status = .running)
    (hv : view P g = .op (builtin .append #[t, t] ty cs #[.slice (some ⟨B, 0, none⟩) 1 1, .slice (some a) 1 c])) (ht : P.underlying t = some (.slice e)) (hi : P.info? e = some i) (hz : i.zero = some z) (hsz : i.size = 1) (hby : i.bytes = 8) (hzc : z.cells.size = 1) (hu : u.oneCell' = true)
    (hRS : RS Shun W fs w) (ha : w.cell? a = some u) (hown : w.ownsRow 0 e 1 (.slice (some ⟨B, 0, none⟩) 1 1) 1 [u0]) (h0 : w.cell? ⟨B, 0, none⟩ = some u0) (hS : ∀ ad : Addr, ad.block = a.block → ¬ Shun (.cell ad)) (hS2 : ∀ ad : Addr, ad.block = B → ¬ Shun (.cell ad))
    (K : ∀ cap (zs : Array Value) w', 2 ≤ cap → zs.size = cap - 2 → w'.heap = w.heap.push (.cells (#[u0, u] ++ zs) e (0, 0)) → (∀ m, RS Shun W (fs ++ (newFacts w.heap.size (some (e, (#[u0, u] ++ zs).toList.length)) (#[u0, u] ++ zs).toList 0).take m) w') →
      Rb P Shun R (run' (g.frame.finish (.slice (some ⟨w.heap.size, 0, none⟩) 2 cap)) g.callers) w' Q') : Rb P Shun R g w Q' := by
  have hlt : a.block < w.heap.size := cell_block_lt ha
  have hltB : B < w.heap.size := cell_block_lt h0
  have one : ∀ (w : World) (a : Addr) (u : Value), w.cell? a = some u → ∀ (j : Nat) (v : Value), [u][j]? = some v → w.cell? (a.add j) = some v := by
    intro w a u ha j v hj
    match j with
    | 0 =>
      simp only [List.getElem?_cons_zero, Option.some.injEq] at hj
      subst hj
      rw [show a.add 0 = a by unfold Addr.add; simp]
      exact ha
    | j + 1 => simp at hj
  refine rb_op hrun hv fun n => ?_
  have hrun' := run_append_grow (P := P) (w := w.at n) t ty e i z ht hi hz ⟨B, 0, none⟩ 1 1 [u0] (by simp [hsz]) (one (w.at n) _ _ h0) a 1 c [u] (by simp [hsz]) (one (w.at n) _ _ ha) (by omega) (by decide) (growslice_fits_succ (by rw [hby]; decide) (by rw [hby]; decide))
  obtain ⟨h1, h2⟩ := run_builtin_append (cs := cs) hrun'
  refine ⟨_, _, h1, by simp [World.alloc, World.drew, World.at], fun ev hev => ?_, ?_⟩
  · rw [h2] at hev
    have := events_append_where (P := P) (w.at n) 0 t ty e i z 1 8 ht hi hz hsz hby (.slice (some ⟨B, 0, none⟩) 1 1) 1 [u0] hown a 1 c [u] (by simp) (one (w.at n) _ _ ha) (fun v hv => by simp at hv; rw [hv]; exact hu) (by simp [maxLen]) (by simp) ev hev
    exact evl_of2 this hS hS2 (by simp [World.alloc, World.drew, World.at]; omega) (by simp [World.alloc, World.drew, World.at]; omega)
  · have hge := grownCap_ge (w.at n) 2 1 e
    have hK := K (grownCap (w.at n) 2 1 e) (Builtin.zeroCells z.cells (grownCap (w.at n) 2 1 e - 2)) { w with heap := w.heap.push (.cells (#[u0, u] ++ Builtin.zeroCells z.cells (grownCap (w.at n) 2 1 e - 2)) e (0, 0)), drawn := n + 1 } hge (by rw [size_zeroCells, hzc]; omega) rfl (fun m => RS.push hRS _ e m (n + 1))
    have e1 : ([u0].toArray ++ [u].toArray : Array Value) = #[u0, u] := rfl
    show Rb P Shun R _ ((w.at n).drew.alloc (.cells ([u0].toArray ++ [u].toArray ++ Builtin.zeroCells z.cells (grownCap (w.at n) 2 1 e - 2)) e (0, 0))) Q'
    rw [e1]
    exact hK
end
end Go.Km

namespace Go.Km
open Go Go.Conc

section
variable {P : Program} {Shun : Loc → Prop} {R : Nat} {w W : World} {Q' : (Loc → Prop) → Nat → Goroutine → World → Prop}

theorem frozen_setRow (w : World) (g : Nat) (cs : Array Value) (a : Addr) : (w.setRow g cs).frozen? a = w.frozen? a := by
  unfold World.frozen? World.setRow
  simp only [Array.getElem?_modify]
  by_cases hb : g = a.block
  · rw [if_pos hb]
    cases w.heap[a.block]? with
    | none => rfl
    | some o => cases o <;> rfl
  · rw [if_neg hb]

/-- a row is laid anew in which no fact lies -/
theorem RS.setRow {fs : List Fact} (h : RS Shun W fs w) {g : Nat} (cs : Array Value) (hn : ∀ f ∈ fs, f.a.block ≠ g) (hW : W.heap.size ≤ g) : RS Shun W fs (w.setRow g cs) := by
  refine ⟨⟨fun f hf => ?_, fun f hf hw => ?_, fun f hf q hq => ?_, h.sat.nodup⟩, ⟨h.clear.apart, fun a ha => by rw [size_setRow]; exact h.clear.low a ha⟩, ⟨by rw [size_setRow]; exact h.was.size, fun b hb => ?_, h.was.tape, h.was.os, h.was.output⟩, h.above⟩
  · rw [cell_setRow_other _ _ _ _ (hn f hf)]; exact h.sat.cell f hf
  · rw [frozen_setRow]; exact h.sat.wr f hf hw
  · have := h.sat.sh f hf q hq
    unfold World.shape? at this ⊢
    rw [setRow_other _ _ _ _ (hn f hf)]; exact this
  · rw [setRow_other _ _ _ _ (by omega)]; exact h.was.block b hb

/-- a row's cells, as facts -/
theorem RS.addRow {fs : List Fact} (h : RS Shun W fs w) {B : Nat} {arr : Array Value} {ty : TypeId} (hB : w.heap[B]? = some (.cells arr ty (0, 0))) (hn : ∀ f ∈ fs, f.a.block ≠ B) (hW : W.heap.size ≤ B) (hS : ∀ ad : Addr, ad.block = B → ¬ Shun (.cell ad)) :
    RS Shun W (fs ++ newFacts B (some (ty, arr.toList.length)) arr.toList 0) w := by
  have hrow : Sat (newFacts B (some (ty, arr.toList.length)) arr.toList 0) w := by
    refine ⟨fun f hf => ?_, fun f hf _ => ?_, fun f hf q hq => ?_, newFacts_nodup _ _ _ _⟩
    · obtain ⟨h1, h2, _, h4, _⟩ := newFacts_a _ _ _ _ f hf
      unfold World.cell?
      simp only [h1, hB, h2]
      simpa using h4
    · obtain ⟨h1, _⟩ := newFacts_a _ _ _ _ f hf
      unfold World.frozen?
      simp only [h1, hB]
      simp
    · have h0 := newFacts_sh _ _ _ _ f hf
      obtain ⟨h1, _⟩ := newFacts_a _ _ _ _ f hf
      rw [h0] at hq
      unfold World.shape?
      simp only [h1, hB]
      simpa using hq
  refine ⟨h.sat.join hrow fun f hf g hg e => hn f hf (by rw [e]; exact (newFacts_a _ _ _ _ g hg).1), ⟨fun f hf => ?_, h.clear.low⟩, h.was, fun f hf hw => ?_⟩
  · rcases List.mem_append.1 hf with hf | hf
    · exact h.clear.apart f hf
    · exact hS f.a (newFacts_a _ _ _ _ f hf).1
  · rcases List.mem_append.1 hf with hf | hf
    · exact h.above f hf hw
    · rw [(newFacts_a _ _ _ _ f hf).1]; exact hW

/-- a further append that finds room -/
theorem rb_app2r {g : Goroutine} {t ty e : TypeId} {i : TypeInfo} {z u u0 : Value} {cs : Array Bool} {a : Addr} {c B cap : Nat} {cur : Array Value} {fs : List Fact} (hrun : g.status = .running)
    (hv : view P g = .op (builtin .append #[t, t] ty cs #[.slice (some ⟨B, 0, none⟩) 1 cap, .slice (some a) 1 c])) (ht : P.underlying t = some (.slice e)) (hi : P.info? e = some i) (hz : i.zero = some z) (hsz : i.size = 1) (hby : i.bytes = 8) (hu : u.oneCell' = true)
    (hcap : 2 ≤ cap) (hmax : cap ≤ maxLen) (hcur : cur.size = cap) (h00 : cur.toList.take 1 = [u0])
    (hRS : RS Shun W fs w) (hn : ∀ f ∈ fs, f.a.block ≠ B) (hW : W.heap.size ≤ B) (ha : w.cell? a = some u) (hB : w.heap[B]? = some (.cells cur e (0, 0))) (hS : ∀ ad : Addr, ad.block = a.block → ¬ Shun (.cell ad)) (hS2 : ∀ ad : Addr, ad.block = B → ¬ Shun (.cell ad))
    (K : ∀ w', RS Shun W fs w' → w'.heap.size = w.heap.size → w'.heap[B]? = some (.cells ([u0, u] ++ cur.toList.drop 2).toArray e (0, 0)) →
      Rb P Shun R (run' (g.frame.finish (.slice (some ⟨B, 0, none⟩) 2 cap)) g.callers) w' Q') : Rb P Shun R g w Q' := by
  have hlt : a.block < w.heap.size := cell_block_lt ha
  have hltB : B < w.heap.size := (Array.getElem?_eq_some_iff.1 hB).1
  have one : ∀ (w : World) (a : Addr) (u : Value), w.cell? a = some u → ∀ (j : Nat) (v : Value), [u][j]? = some v → w.cell? (a.add j) = some v := by
    intro w a u ha j v hj
    match j with
    | 0 =>
      simp only [List.getElem?_cons_zero, Option.some.injEq] at hj
      subst hj
      rw [show a.add 0 = a by unfold Addr.add; simp]
      exact ha
    | j + 1 => simp at hj
  refine rb_op hrun hv fun n => ?_
  have hone : ∀ v ∈ [u], v.oneCell' = true := fun v hv => by simp at hv; rw [hv]; exact hu
  have hrun' := run_append_room (P := P) (w := w.at n) t ty e i ht hi B 1 cap cur hB a 1 c [u] (by simp [hsz]) (one (w.at n) _ _ ha) hone hcap (by rw [hsz, hcur]; simpa using hcap)
  obtain ⟨h1, h2⟩ := run_builtin_append (cs := cs) hrun'
  refine ⟨_, _, h1, by simp [World.at], fun ev hev => ?_, ?_⟩
  · rw [h2] at hev
    have hown : (w.at n).ownsRow 0 e 1 (.slice (some ⟨B, 0, none⟩) 1 cap) 1 [u0] := ⟨by simp, .inr ⟨B, cap, cur, rfl, Nat.zero_le _, hB, by omega, hmax, by rw [hcur, Nat.mul_one], by simpa using h00⟩⟩
    have := events_append_where (P := P) (w.at n) 0 t ty e i z 1 8 ht hi hz hsz hby (.slice (some ⟨B, 0, none⟩) 1 cap) 1 [u0] hown a 1 c [u] (by simp) (one (w.at n) _ _ ha) hone (by simp [maxLen]) (by simp) ev hev
    exact evl_of2 this hS hS2 (by simp [World.at]; omega) (by simp [World.at]; omega)
  · have e1 : cur.toList.take (1 * i.size) ++ [u] ++ cur.toList.drop (1 * i.size + [u].length) = [u0, u] ++ cur.toList.drop 2 := by
      rw [hsz]; simp only [Nat.mul_one, h00, List.length_singleton]; rfl
    rw [e1]
    refine K _ (RS.setRow (hRS.drawn n) _ hn hW) (by rw [size_setRow]; rfl) ?_
    exact setRow_heap (w.at n) B cur _ e (0, 0) hB
end
end Go.Km

/-! KM, part 21: GOROUTINE 0's WAY THROUGH A DEAF STRETCH (between 'disable' and 'enable'), beside leavers. -/
namespace Go.Km
open Go Go.Conc
open Go.ConcN (sumTo sumTo_upd upd_ne upd_same)

structure PastD (Shun : Loc → Prop) (B d : Nat) (t : Trace) : Prop where
  clean : ∀ said, ¬ Race said t
  known : ∀ i a, touchAt t i = some a → a.loc.isMemory = true → Knows t 0 i ∨ (Shun a.loc ∧ a.kind = .atomic)
  over : t.HandedOver
  hears : Deaf t 0 = d
  seen : ∀ op ∈ t, op.act.low B

def EvM (Shun : Loc → Prop) (B : Nat) (e : Event) : Prop := (∀ x, (MemAct.ofEvent e).touch? = some x → Shun x.loc → x.kind ≠ .plain) ∧ (MemAct.ofEvent e).low B

section
variable {Shun : Loc → Prop} {B d : Nat} {t : Trace}
theorem PastD.to (h : PastD Shun B 0 t) : Past Shun B t := ⟨h.clean, h.known, h.over, h.hears, h.seen⟩
theorem PastD.of (h : Past Shun B t) : PastD Shun B 0 t := ⟨h.clean, h.known, h.over, h.hears, h.seen⟩
theorem PastD.mono {B' : Nat} (h : PastD Shun B d t) (hB : B ≤ B') : PastD Shun B' d t := ⟨h.clean, h.known, h.over, h.hears, fun op hop => MemAct.low_mono hB (h.seen op hop)⟩
theorem PastD.own (h : PastD Shun B d t) {fn : FuncId} {pos : String} {es : Array Event} (hes : ∀ e ∈ es, EvM Shun B e) : PastD Shun B (deafBehind d es) (t ++ MemOp.ofEvents 0 fn pos es) := by
  have hu : ∀ op ∈ MemOp.ofEvents 0 fn pos es, op.g = 0 := fun op hop => by obtain ⟨e, _, rfl⟩ := Go.Conc.mem_ofEvents hop; rfl
  have hs : ∀ op ∈ MemOp.ofEvents 0 fn pos es, ∀ b, op.act.touch? = some b → Shun b.loc → b.kind ≠ .plain := fun op hop b hb => by obtain ⟨e, he, rfl⟩ := Go.Conc.mem_ofEvents hop; exact (hes e he).1 b hb
  refine ⟨fun said => noRace_append (h.clean said) hu fun i a ha op hop b hb hc => ?_, fun i a ha hm => ?_, handedOver_app h.over fun op hop => .inl (hu op hop), by rw [Deaf_own, h.hears], seen_app h.seen fun op hop => by obtain ⟨e, he, rfl⟩ := Go.Conc.mem_ofEvents hop; exact (hes e he).2⟩
  · rcases h.known i a ha hc.2.1 with hk | ⟨hsa, hka⟩
    · exact hk
    · have hkb := hs op hop b hb (hc.1 ▸ hsa)
      obtain ⟨_, _, _, hcase⟩ := hc
      rw [hka] at hcase
      rcases hcase with x | x | ⟨_, x, _⟩
      · cases x
      · exact absurd x hkb
      · cases x
  · obtain ⟨x, hx, hxa⟩ := touch_of ha
    rcases getElem?_append_cases hx with ⟨_, hx'⟩ | ⟨_, hxu⟩
    · exact (h.known i a (by rw [touchAt_of hx']; exact hxa) hm).imp (·.app _) id
    · have := knows_own hx
      rw [hu x hxu] at this
      exact .inl this
theorem PastD.mute (h : PastD Shun B d t) {g : Nat} (hg : g ≠ 0) {fn : FuncId} {pos : String} {es : Array Event} (hm : ∀ e ∈ es, e.mute = true) : PastD Shun B d (t ++ MemOp.ofEvents g fn pos es) := by
  have hu : ∀ op ∈ MemOp.ofEvents g fn pos es, op.g = g := fun op hop => by obtain ⟨e, _, rfl⟩ := Go.Conc.mem_ofEvents hop; rfl
  have hn : ∀ op ∈ MemOp.ofEvents g fn pos es, op.act.touch? = none := fun op hop => by obtain ⟨e, he, rfl⟩ := Go.Conc.mem_ofEvents hop; exact touch_mute (hm e he)
  have hl : ∀ op ∈ MemOp.ofEvents g fn pos es, op.act.low B := fun op hop => by obtain ⟨e, he, rfl⟩ := Go.Conc.mem_ofEvents hop; exact low_mute (hm e he) B
  refine ⟨fun said => noRace_append (h.clean said) hu fun i a _ op hop b hb _ => (by rw [hn op hop] at hb; cases hb), fun i a ha hmm => ?_, handedOver_app h.over fun op hop => .inr (hn op hop), (Deaf_other t hg _ hu).trans h.hears, seen_app h.seen hl⟩
  obtain ⟨x, hx, hxa⟩ := touch_of ha
  rcases getElem?_append_cases hx with ⟨_, hx'⟩ | ⟨_, hxu⟩
  · exact (h.known i a (by rw [touchAt_of hx']; exact hxa) hmm).imp (·.app _) id
  · rw [hn x hxu] at hxa; cases hxa
end

structure BesD (P : Program) (Shun : Loc → Prop) (R d : Nat) (gs : Array Goroutine) (q : Nat → Nat) (g : Goroutine) (w : World) (t : Trace) : Prop where
  at0 : gs[0]? = some g
  old : Leavers P t gs q
  past : PastD Shun w.heap.size d t
  rel : ∀ op ∈ t, ∀ a, op.act = .mark (.release a) → a.block < R

def RbD (P : Program) (Shun : Loc → Prop) (R d : Nat) (g : Goroutine) (w : World) (Q : (Loc → Prop) → Nat → Goroutine → World → Prop) : Prop :=
  ∀ gs q sl t, BesD P Shun R d gs q g w t → ∃ N gs' q' sl' t' Shun' R' g' w', runNT P N (crowd gs w sl) t = (.next (crowd gs' w' sl'), t') ∧ Bes P Shun' R' gs' q' g' w' t' ∧ Q Shun' R' g' w'

section
variable {P : Program} {Shun : Loc → Prop} {g : Goroutine} {w : World} {R d0 : Nat} {Q Q' : (Loc → Prop) → Nat → Goroutine → World → Prop}

theorem RbD.to (h : RbD P Shun R 0 g w Q) : Rb P Shun R g w Q := fun gs q sl t hB => h gs q sl t ⟨hB.at0, hB.old, .of hB.past, hB.rel⟩
theorem RbD.of (h : Rb P Shun R g w Q) : RbD P Shun R 0 g w Q := fun gs q sl t hB => h gs q sl t ⟨hB.at0, hB.old, hB.past.to, hB.rel⟩

theorem BesD.awake {gs : Array Goroutine} {q : Nat → Nat} {t : Trace} (h : BesD P Shun R d0 gs q g w t) (hrun : g.status = .running) : ∀ x ∈ gs, awake x := by
  intro x hx
  obtain ⟨i, hi, rfl⟩ := Array.mem_iff_getElem.1 hx
  rcases Nat.eq_zero_or_pos i with rfl | hpos
  · have : gs[0] = g := by simpa [Array.getElem?_eq_getElem hi] using h.at0
    rw [this]; exact awake_of (.inl hrun)
  · exact awake_of ((h.old.old i _ hpos (Array.getElem?_eq_getElem hi)).status.elim .inl fun x => .inr (.inr x))

theorem BesD.slip {gs : Array Goroutine} {q : Nat → Nat} {t : Trace} (h : BesD P Shun R d0 gs q g w t) (hrun : g.status = .running) {i : Nat} {x : Goroutine} (hpos : 0 < i) (hi : gs[i]? = some x) (hx : x.status = .running) (sl : Option (Nat × Nat)) (d : Nat) :
    ∃ gs' q' t', runT P (crowd gs (w.at d) sl) i = (.next (crowd gs' (w.at d) sl), t') ∧ BesD P Shun R d0 gs' q' g (w.at d) (t ++ t') ∧ sumTo gs'.size q' < sumTo gs.size q := by
  have hL := h.old
  have hP := h.past
  have h0 := h.at0
  have hq := hL.old i x hpos hi
  have hi0 : (i == 0) = false := by simp; omega
  have hlt : i < gs.size := (Array.getElem?_eq_some_iff.1 hi).1
  cases hqi : q i with
  | zero => rw [hqi] at hq; rw [hq.1] at hx; cases hx
  | succ k =>
    rw [hqi] at hq
    rcases hq with ⟨hf, _⟩ | ⟨_, g', es, hm, hstp, hq'⟩
    · rw [hf] at hx; cases hx
    have hrunT := runT_crowd_go (P := P) (gs := gs) (w := w.at d) (sl := sl) (i := i) hi (by rw [hi0]; exact hstp (w.at d))
    have hsz : ((gs.map (woken P x g' (w.at d))).setIfInBounds i g').size = gs.size := by simp
    have hsum : sumTo gs.size (Go.ConcN.upd q i k) + (k + 1) = sumTo gs.size q + k := by
      have := sumTo_upd q k id hlt
      simpa [hqi] using this
    refine ⟨_, Go.ConcN.upd q i k, _, hrunT, ⟨?_, ⟨fun j y hj hy => ?_, fun j hj => ?_⟩, hP.mute (by omega) hm, fun op hop a ha => ?_⟩, by rw [hsz]; omega⟩
    · have hne : i ≠ 0 := by omega
      rw [Array.getElem?_setIfInBounds_ne hne, Array.getElem?_map, h0]
      simp [woken_run hrun]
    · by_cases hji : i = j
      · subst hji
        rw [Array.getElem?_setIfInBounds_self_of_lt (by simpa using hlt)] at hy
        obtain rfl := Option.some.inj hy
        rw [upd_same, Deaf_own]
        exact hq'
      · rw [Array.getElem?_setIfInBounds_ne hji, Array.getElem?_map] at hy
        obtain ⟨z, hz, rfl⟩ := Option.map_eq_some_iff.1 hy
        have hqj := hL.old j z hj hz
        rw [woken_quitsD hqj, upd_ne q k (Ne.symm hji), Deaf_other t hji _ (fun op hop => by obtain ⟨e, _, rfl⟩ := Go.Conc.mem_ofEvents hop; rfl)]
        exact hqj
    · rw [Deaf_other t (g' := i) (by simp at hj; omega) _ (fun op hop => by obtain ⟨e, _, rfl⟩ := Go.Conc.mem_ofEvents hop; rfl)]
      exact hL.above j (by simpa using hj)
    · rcases Array.mem_append.1 hop with hop | hop
      · exact h.rel op hop a ha
      · obtain ⟨e, he, rfl⟩ := Go.Conc.mem_ofEvents hop
        have := hm e he
        obtain ⟨loc, wr, sy⟩ := e
        cases loc <;> simp_all [Event.mute, MemAct.ofEvent]

theorem BesD.own {gs : Array Goroutine} {q : Nat → Nat} {t : Trace} (h : BesD P Shun R d0 gs q g w t) {g' : Goroutine} {w' : World} {es : Array Event} {d : Nat} (hgo : stepG P true g (w.at d) = .go g' w' es) (hsz : w.heap.size ≤ w'.heap.size) (hes : ∀ e ∈ es, EvM Shun w'.heap.size e) (sl : Option (Nat × Nat)) {R' : Nat} (hR : R ≤ R') (hrl : ∀ e ∈ es, ∀ a, e.loc = .mark (.release a) → a.block < R') :
    ∃ gs' t', runT P (crowd gs (w.at d) sl) 0 = (.next (crowd gs' w' sl), t') ∧ BesD P Shun R' (deafBehind d0 es) gs' q g' w' (t ++ t') := by
  have hL := h.old
  have h0 := h.at0
  have hrunT := runT_crowd_go (P := P) (gs := gs) (w := w.at d) (sl := sl) (i := 0) h0 (show stepG P (0 == 0) g (w.at d) = _ from hgo)
  have hlt : 0 < gs.size := (Array.getElem?_eq_some_iff.1 h0).1
  refine ⟨_, _, hrunT, ⟨by simp [hlt], ⟨fun j x hj hx => ?_, fun j hj => ?_⟩, (h.past.mono hsz).own hes, fun op hop a ha => ?_⟩⟩
  · have hne : 0 ≠ j := by omega
    rw [Array.getElem?_setIfInBounds_ne hne, Array.getElem?_map] at hx
    obtain ⟨y, hy, rfl⟩ := Option.map_eq_some_iff.1 hx
    have hq := hL.old j y hj hy
    rw [woken_quitsD hq, Deaf_other t (by omega) _ (fun op hop => by obtain ⟨e, _, rfl⟩ := Go.Conc.mem_ofEvents hop; rfl)]
    exact hq
  · rw [Deaf_other t (g' := 0) (by simp at hj; omega) _ (fun op hop => by obtain ⟨e, _, rfl⟩ := Go.Conc.mem_ofEvents hop; rfl)]
    exact hL.above j (by simpa using hj)
  · rcases Array.mem_append.1 hop with hop | hop
    · exact Nat.lt_of_lt_of_le (h.rel op hop a ha) hR
    · obtain ⟨e, he, rfl⟩ := Go.Conc.mem_ofEvents hop
      exact hrl e he a (ofEvent_release ha)

theorem RbD.step (hrun : g.status = .running)
    (h : ∀ n, ∃ g' w' es, stepG P true g (w.at n) = .go g' w' es ∧ w.heap.size ≤ w'.heap.size ∧ (∀ e ∈ es, EvM Shun w'.heap.size e) ∧ ∃ R', R ≤ R' ∧ (∀ e ∈ es, ∀ a, e.loc = .mark (.release a) → a.block < R') ∧ RbD P Shun R' (deafBehind d0 es) g' w' Q) : RbD P Shun R d0 g w Q := by
  intro gs q
  generalize hs : sumTo gs.size q = s
  induction s using Nat.strongRecOn generalizing gs q w with
  | _ s ih =>
    intro sl t hB
    obtain ⟨i, x, d, sl1, hi, hx, hst⟩ := crowd_pick (P := P) (gs := gs) (w := w) (sl := sl) (hB.awake hrun) ⟨0, g, hB.at0, hrun⟩
    rcases Nat.eq_zero_or_pos i with rfl | hpos
    · obtain rfl : x = g := by rw [hB.at0] at hi; exact (Option.some.inj hi).symm
      obtain ⟨g', w', es, hgo, hsz, hev, R', hle, hrl, hR⟩ := h d
      obtain ⟨gs', t1, hrunT, hB'⟩ := hB.own hgo hsz hev sl1 hle hrl
      obtain ⟨N, gs2, q2, sl2, t2, S2, R2, g2, w2, e2, hB2, hq2⟩ := hR gs' q sl1 (t ++ t1) hB'
      exact ⟨N + 1, gs2, q2, sl2, t2, S2, R2, g2, w2, by simp only [runNT, hst, hrunT]; exact e2, hB2, hq2⟩
    · obtain ⟨gs', q', t1, hrunT, hB', hlt⟩ := hB.slip hrun hpos hi hx sl1 d
      obtain ⟨N, gs2, q2, sl2, t2, S2, R2, g2, w2, e2, hB2, hq2⟩ := ih _ (hs ▸ hlt) (w := w.at d) (fun n => h n) gs' q' rfl sl1 (t ++ t1) hB'
      exact ⟨N + 1, gs2, q2, sl2, t2, S2, R2, g2, w2, by simp only [runNT, hst, hrunT]; exact e2, hB2, hq2⟩

theorem EvIn.evM {fs : List Fact} {w : World} {e : Event} (hs : Sat fs w) (hc : Clear Shun fs w) (h : EvIn (keys fs) e) : EvM Shun w.heap.size e := by
  refine ⟨fun x hx hsx hp => ?_, h.low hs⟩
  obtain ⟨loc, wr, sy⟩ := e
  rcases h with ⟨p, hp', hl, _⟩ | ⟨m, hm, _⟩
  · simp only at hl; subst hl
    rw [ofEvent_cell0] at hx
    simp only [MemAct.touch?, Option.some.injEq] at hx
    subst hx
    obtain ⟨f, hf, rfl⟩ := List.mem_map.1 hp'
    exact hc.apart f hf hsx
  · cases hm
    cases m <;> simp [MemAct.ofEvent, MemAct.touch?] at hx <;> (subst hx; cases hp)

/-- ████ MANY STEPS, goroutine 0, beside leavers, through deaf stretches ████ -/
theorem krunL_rbD : ∀ (hs : List Hint) (x : KG) (w : World) (orc : Nat → Nat) (acc : Array Event) (R : Nat), R ≤ w.heap.size → Sat x.fs w → Clear Shun x.fs w → x.g.status = .running →
    (∀ orc', (∀ i, i < x.k → orc' i = orc i) → ∃ x' ev, krunL P orc' noRel hs x acc = some (x', ev) ∧ x'.Ok ∧ deafBehind 0 ev = 0) →
    (∀ orc' x' ev w', (∀ i, i < x.k → orc' i = orc i) → krunL P orc' noRel hs x acc = some (x', ev) → Turn x.fs w x'.fs w' → Clear Shun x'.fs w' → x'.Ok → Rb P Shun R x'.g w' Q) →
    RbD P Shun R (deafBehind 0 acc) x.g w Q
  | [], x, w, orc, acc, R, hRw, hs, hc, _, H, K => by
    obtain ⟨x', ev, h1, h2, h3⟩ := H orc (fun _ _ => rfl)
    have e : x' = x ∧ ev = acc := by simp only [krunL, Option.some.injEq, Prod.mk.injEq] at h1; exact ⟨h1.1.symm, h1.2.symm⟩
    obtain ⟨rfl, rfl⟩ := e
    rw [h3]
    exact .of (K orc x' ev w (fun _ _ => rfl) rfl (.refl hs) hc h2)
  | h :: hs, x, w, orc, acc, R, hRw, hsat, hcl, hrun, H, K => by
    refine RbD.step hrun fun n => ?_
    have hsat' : Sat x.fs (w.at n) := hsat.drawn n
    have H1 : ∀ orc', (∀ i, i < x.k → orc' i = orc i) → ∃ x' es, kstep P orc' h x = some (x', es) ∧ x'.Ok := by
      intro orc' ho
      obtain ⟨x', ev, hk, hok, _⟩ := H orc' ho
      simp only [krunL] at hk
      split at hk
      · rename_i x1 es h1
        split at hk
        · exact ⟨x1, es, h1, (krunL_le hs hk).2 hok⟩
        · cases hk
      · cases hk
    obtain ⟨orc1, x1, es, w1, ho1, hk1, hst, ht, _⟩ := kstep_sound (main := true) hsat' H1
    obtain ⟨x1', es', hk1', hok1⟩ := H1 orc1 ho1
    have e1 : x1' = x1 ∧ es' = es := by rw [hk1] at hk1'; cases hk1'; exact ⟨rfl, rfl⟩
    obtain ⟨rfl, rfl⟩ := e1
    have hle := kstep_le hk1
    have hchk : es'.toList.all noRel = true := by
      obtain ⟨x', ev, hk, _⟩ := H orc1 ho1
      simp only [krunL, hk1] at hk
      split at hk
      · assumption
      · cases hk
    have hcl1 := (hcl.drawn n).turn ht
    have hck : ∀ e ∈ es', noRel e = true := fun e he => List.all_eq_true.1 hchk e (Array.mem_toList_iff.2 he)
    have hRw1 : R ≤ w1.heap.size := Nat.le_trans hRw ht.size
    refine ⟨x1'.g, w1, es', hst, ht.size, fun e he => EvIn.evM ht.sat hcl1 ((kstep_ev hk1 hok1).2 e he), R, Nat.le_refl _, fun e he a ha => by have := hck e he; simp [noRel, ha] at this, ?_⟩
    have step_eq : ∀ orc', (∀ i, i < x1'.k → orc' i = orc1 i) → krunL P orc' noRel (h :: hs) x acc = krunL P orc' noRel hs x1' (acc ++ es') := by
      intro orc' ho
      simp only [krunL, kstep_congr hk1 ho, hchk, if_true]
    have agree : ∀ orc' : Nat → Nat, (∀ i, i < x1'.k → orc' i = orc1 i) → ∀ i, i < x.k → orc' i = orc i := fun orc' ho i hi => (ho i (Nat.lt_of_lt_of_le hi hle.1)).trans (ho1 i hi)
    rw [← deafBehind_app]
    refine krunL_rbD hs x1' w1 orc1 (acc ++ es') _ hRw1 ht.sat hcl1 (kstep_running hk1) (fun orc' ho => ?_) (fun orc' x' ev w' ho hk ht' hcl' hok' => ?_)
    · obtain ⟨x', ev, hk, hok, hd⟩ := H orc' (agree orc' ho)
      rw [step_eq orc' ho] at hk
      exact ⟨x', ev, hk, hok, hd⟩
    · exact K orc' x' ev w' (agree orc' ho) (by rw [step_eq orc' ho]; exact hk) ((Turn.drawn hsat n).trans (ht.trans ht')) hcl' hok'

variable {A : (Nat → Nat) → Option KG} {orc : Nat → Nat} {x : KG} {W : World} {G : List Fact}

/-- from a stage, through deaf stretches -/
theorem rbG_segD (hA : At A orc x) (hrun : x.g.status = .running) (hoff : x.g.offers = none) (hs : List Hint) (hR : R ≤ w.heap.size) (hRS : RS Shun W (G ++ x.fs) w)
    (H : ∀ o, okB 0 0 (segA P noRel hs A o))
    (K : ∀ o x' w', (∀ i, i < x.k → o i = orc i) → At (nextA (segA P noRel hs A)) o x' → x.k ≤ x'.k → x'.g.status = .running → x'.g.offers = none → RS Shun W (G ++ x'.fs) w' → Turn x.fs w x'.fs w' → Rb P Shun R x'.g w' Q') :
    Rb P Shun R x.g w Q' := by
  have eqn : ∀ o, (∀ i, i < x.k → o i = orc i) → segA P noRel hs A o = krunL P o noRel hs x #[] := fun o ho => by simp only [segA, hA o ho, Option.bind_some]
  have := krunL_rbD (P := P) (Q := Q') hs x w orc #[] R hR hRS.sat.right ⟨fun f hf => hRS.clear.apart f (List.mem_append_right _ hf), hRS.clear.low⟩ hrun (fun o ho => ?_) (fun o x' ev w' ho hk ht _ hok' => ?_)
  · exact RbD.to this
  · obtain ⟨x', ev, h1, h2, h3⟩ := H o
    rw [eqn o ho] at h1
    exact ⟨x', ev, h1, h2, h3⟩
  · have hle := (krunL_le hs hk).1
    obtain ⟨hr, hof⟩ := krunL_off hs x x' _ _ hrun hoff hk
    refine K o x' w' ho (fun o' ho' => ?_) hle hr hof (hRS.turn ht) ht
    simp only [nextA, eqn o' (fun i hi => (ho' i (Nat.lt_of_lt_of_le hi hle)).trans (ho i hi)), krunL_congr hs hk ho', Option.map_some]
end
end Go.Km

/-! KM, part 22: facts taken out and put back; A REGION THAT DRAWS ITS ORDER, by the set of what is done ('mask'); macros at a stage. -/
namespace Go.Km
open Go Go.Conc

/-! ### facts -/
def pickF (idx : List Nat) (l : List Fact) : List Fact := (l.zipIdx.filter fun p => idx.contains p.2).map (·.1)
def restF (idx : List Nat) (l : List Fact) : List Fact := (l.zipIdx.filter fun p => !idx.contains p.2).map (·.1)
theorem pick_perm (idx : List Nat) (l : List Fact) : l.Perm (restF idx l ++ pickF idx l) := by
  have h1 : (l.zipIdx.map (·.1)) = l := by simp [List.zipIdx_map_fst]
  have h2 := List.filter_append_perm (fun p : Fact × Nat => idx.contains p.2) l.zipIdx
  have h3 := (h2.map (·.1))
  rw [h1, List.map_append] at h3
  exact h3.symm.trans List.perm_append_comm

section
variable {Shun : Loc → Prop} {W w : World} {G l l' : List Fact}
theorem RS.out (idx : List Nat) {r p : List Fact} (hr : restF idx l = r) (hp : pickF idx l = p) (h : RS Shun W (G ++ l) w) : RS Shun W ((G ++ r) ++ p) w := by
  subst hr hp
  rw [List.append_assoc]
  exact h.perm (List.Perm.append_left G (pick_perm idx l))
theorem RS.back (idx : List Nat) {r p : List Fact} (hr : restF idx l' = r) (hp : pickF idx l' = p) (h : RS Shun W ((G ++ r) ++ p) w) : RS Shun W (G ++ l') w := by
  subst hr hp
  rw [List.append_assoc] at h
  exact h.perm (List.Perm.append_left G (pick_perm idx l').symm)
theorem RS.drop (idx : List Nat) {r : List Fact} (hr : restF idx l = r) (h : RS Shun W (G ++ l) w) : RS Shun W (G ++ r) w := (RS.out idx hr rfl h).init
theorem RS.aside {r p : List Fact} (h : RS Shun W (G ++ (r ++ p)) w) : RS Shun W ((G ++ r) ++ p) w := by rw [List.append_assoc]; exact h
theorem RS.unaside {r p : List Fact} (h : RS Shun W ((G ++ r) ++ p) w) : RS Shun W (G ++ (r ++ p)) w := by rw [← List.append_assoc]; exact h
end

/-! ### the orders, by levels -/
def levOk (D : List (List Nat)) : List (List Nat) → Nat → Bool
  | [], _ => false
  | [ms], full => ms.all (fun m => m == full)
  | ms :: ms' :: r, full => ms.all (fun m => !(readyD D m).isEmpty && (readyD D m).all (fun i => ms'.contains (m ||| (1 <<< i)))) && levOk D (ms' :: r) full

structure DrawX where
  fr : Frame
  K : List Item
  ops : Array Oper
  T : Nat → Array Value
  F : Nat → List Fact
/-- the state behind the operations of 'm', 'l' to come -/
def DrawX.at (X : DrawX) (cs : List Frame) (m : Nat) (l : List Nat) : KG := ⟨run' { X.fr with tmps := X.T m, todo := .inRegion X.ops l :: X.K } cs, X.F m, 0, [], []⟩
def DrawX.edge (P : Program) (X : DrawX) (cs : List Frame) (hl : Nat → Nat → List Hint) (m i : Nat) : Prop :=
  ∀ l o, ∃ x ev, krunL P o (chkOf true) (hl m i) (X.at cs m (i :: l)) #[] = some (x, ev) ∧ x.Ok ∧ x.g = (X.at cs (m ||| (1 <<< i)) l).g ∧ x.fs = X.F (m ||| (1 <<< i))

section
variable {P : Program} {Shun : Loc → Prop} {R : Nat} {w W : World} {Q' : (Loc → Prop) → Nat → Goroutine → World → Prop} {G : List Fact}

theorem rb_mask {X : DrawX} {cs : List Frame} {D : List (List Nat)} {hl : Nat → Nat → List Hint} {full : Nat} (_hroff : X.fr.mode = .run)
    (K : ∀ w', R ≤ w'.heap.size → RS Shun W (G ++ X.F full) w' → Rb P Shun R (X.at cs full []).g w' Q') :
    ∀ (Lev : List (List Nat)) (fuel : Nat), Lev.length = fuel + 1 → levOk D Lev full = true → (∀ ms ∈ Lev, ∀ m ∈ ms, ∀ i ∈ readyD D m, X.edge P cs hl m i) →
      ∀ ms, Lev.head? = some ms → ∀ m ∈ ms, ∀ l ∈ ordsD D fuel m, ∀ w, R ≤ w.heap.size → RS Shun W (G ++ X.F m) w → Rb P Shun R (X.at cs m l).g w Q' := by
  intro Lev
  induction Lev with
  | nil => intro fuel h; simp at h
  | cons ms0 r ih =>
    intro fuel hlen hok hE ms hms m hm l hl' w hR hRS
    simp only [List.head?_cons, Option.some.injEq] at hms
    subst hms
    cases r with
    | nil =>
      simp only [List.length_cons, List.length_nil] at hlen
      obtain rfl : fuel = 0 := by omega
      simp only [ordsD, List.mem_singleton] at hl'
      subst hl'
      simp only [levOk, List.all_eq_true] at hok
      have : m = full := by simpa using hok m hm
      subst this
      exact K w hR hRS
    | cons ms' r =>
      simp only [levOk, Bool.and_eq_true, List.all_eq_true] at hok
      obtain ⟨h1, h2⟩ := hok
      obtain ⟨h3, h4⟩ := h1 m hm
      cases fuel with
      | zero => simp at hlen
      | succ fuel =>
        unfold ordsD at hl'
        cases hr : readyD D m with
        | nil => rw [hr] at h3; simp at h3
        | cons a rs =>
          rw [hr] at hl'
          simp only [List.mem_flatMap, List.mem_map] at hl'
          obtain ⟨i, hi, l', hl', rfl⟩ := hl'
          rw [← hr] at hi
          have hE1 := hE ms0 (by simp) m hm i hi
          have hmem : (m ||| (1 <<< i)) ∈ ms' := by simpa using h4 i hi
          refine krunL_rb true (hl m i) (X.at cs m (i :: l')) w (fun _ => 0) #[] R hR hRS.sat.right ⟨fun f hf => hRS.clear.apart f (List.mem_append_right _ hf), hRS.clear.low⟩ rfl (fun o _ => ?_) (fun o x' ev w' _ hk ht _ hok' => ?_)
          · obtain ⟨x, ev, e1, e2, _⟩ := hE1 l' o
            exact ⟨x, ev, e1, e2⟩
          · obtain ⟨x, ev', e1, e2, e3, e4⟩ := hE1 l' o
            rw [hk] at e1
            simp only [Option.some.injEq, Prod.mk.injEq] at e1
            obtain ⟨rfl, _⟩ := e1
            simp only [if_true]
            rw [e3]
            have hRS' := hRS.turn (G := G) ht
            rw [e4] at hRS'
            exact ih fuel (by simpa using hlen) h2 (fun ms hms => hE ms (List.mem_cons_of_mem _ hms)) ms' rfl _ hmem l' hl' w' (Nat.le_trans hR ht.size) hRS'

/-- ████ goroutine 0 at a region that draws its order ████ -/
theorem rb_drawM {X : DrawX} {cs : List Frame} {D Dt Dg : List (List Nat)} {hl : Nat → Nat → List Hint} {full id n : Nat} {dep : Bool} {Lev : List (List Nat)} {fr : Frame} (hfr : X.fr = fr) (htodo : fr.todo = .code (.region id X.ops true) :: X.K) (htmps : fr.tmps = X.T 0)
    (hd : drawData P ⟨run' fr cs, [], 0, [], []⟩ = some (true, dep, n, D, Dt, Dg)) (hlev : levOk D Lev full = true) (hlen : Lev.length = n + 1) (h0 : Lev.head? = some [0])
    (hE : ∀ ms ∈ Lev, ∀ m ∈ ms, ∀ i ∈ readyD D m, X.edge P cs hl m i) (hR : R ≤ w.heap.size) (hRS : RS Shun W (G ++ X.F 0) w)
    (K : ∀ w', R ≤ w'.heap.size → RS Shun W (G ++ X.F full) w' → Rb P Shun R (X.at cs full []).g w' Q') :
    Rb P Shun R (run' fr cs) w Q' := by
  subst hfr
  have hinfo := drawInfo_of hd (L := ordsD D n 0) (by simp [allOrdsD])
  have hmode : X.fr.mode = .run := by
    unfold drawData at hd
    split at hd
    · rename_i h _ _; exact h
    · cases hd
  refine Rb.step rfl fun d => ?_
  obtain ⟨l, hlm, hst⟩ := draw_step hinfo true (w.at d)
  refine ⟨_, _, _, hst, Nat.le_refl _, by simp, R, Nat.le_refl _, by simp, ?_⟩
  have e : (drawTo l ⟨run' X.fr cs, [], 0, [], []⟩).g = (X.at cs 0 l).g := by
    unfold drawTo DrawX.at
    simp only [run', htodo, ← htmps]
  rw [e]
  exact rb_mask hmode K Lev n hlen hlev hE [0] h0 0 (by simp) l hlm _ hR (hRS.drawn _)

/-! edges, for the kernel -/
def pairsOf (Lev : List (List Nat)) (D : List (List Nat)) : List (Nat × Nat) := Lev.flatMap fun ms => ms.flatMap fun m => (readyD D m).map fun i => (m, i)
def DrawX.edgeL (P : Program) (X : DrawX) (cs : List Frame) (hl : Nat → Nat → List Hint) (l : List Nat) (o : Nat → Nat) (p : Nat × Nat) :=
  ((krunL P o (chkOf true) (hl p.1 p.2) (X.at cs p.1 (p.2 :: l)) #[]).isSome, (krunL P o (chkOf true) (hl p.1 p.2) (X.at cs p.1 (p.2 :: l)) #[]).map fun q => (q.1.owe.map Prod.fst, q.1.oweV.map Prod.fst, q.1.g, q.1.fs))
def DrawX.edgeR (P : Program) (X : DrawX) (cs : List Frame) (hl : Nat → Nat → List Hint) (l : List Nat) (o : Nat → Nat) (p : Nat × Nat) :=
  (true, (krunL P o (chkOf true) (hl p.1 p.2) (X.at cs p.1 (p.2 :: l)) #[]).map fun q => (q.1.owe.map Prod.snd, q.1.oweV.map Prod.snd, (X.at cs (p.1 ||| (1 <<< p.2)) l).g, X.F (p.1 ||| (1 <<< p.2))))
theorem edges_of {X : DrawX} {cs : List Frame} {hl : Nat → Nat → List Hint} {D Lev : List (List Nat)} {Ps : List (Nat × Nat)} (hP : pairsOf Lev D = Ps) (h : ∀ l o, Ps.map (X.edgeL P cs hl l o) = Ps.map (X.edgeR P cs hl l o)) :
    ∀ ms ∈ Lev, ∀ m ∈ ms, ∀ i ∈ readyD D m, X.edge P cs hl m i := by
  intro ms hms m hm i hi l o
  have hp : (m, i) ∈ Ps := by
    rw [← hP]
    simp only [pairsOf, List.mem_flatMap, List.mem_map]
    exact ⟨ms, hms, m, hm, i, hi, rfl⟩
  have e := List.map_inj_left.1 (h l o) _ hp
  unfold DrawX.edgeL DrawX.edgeR at e
  dsimp only at e
  cases hk : krunL P o (chkOf true) (hl m i) (X.at cs m (i :: l)) #[] with
  | none => rw [hk] at e; simp at e
  | some q =>
    obtain ⟨x, ev⟩ := q
    rw [hk] at e
    simp only [Option.isSome_some, Option.map_some, Prod.mk.injEq, Option.some.injEq, true_and] at e
    obtain ⟨e1, e2, e3, e4⟩ := e
    exact ⟨x, ev, rfl, ⟨eq_of_maps _ e1, eq_of_maps _ e2⟩, e3, e4⟩
/-- the temporaries behind the operations of 'm' -/
def fillT (base : Array Value) (vals : List (Nat × Value)) (m : Nat) : Array Value := (vals.zipIdx.foldl (fun t p => if m.testBit p.2 then t.set p.1.1 p.1.2 else t) base.toList).toArray
end

/-! ### what a call does -/
def CallC (P : Program) (f : FuncId) (args : Array Value) (fs : List Fact) (v : Value) (fs' : List Fact) : Prop :=
  ∀ (Shun : Loc → Prop) (R : Nat) (W w : World) (Q' : (Loc → Prop) → Nat → Goroutine → World → Prop) (G : List Fact) (c : Frame) (rest : List Frame), R ≤ w.heap.size → RS Shun W (G ++ fs) w →
    (∀ w', R ≤ w'.heap.size → RS Shun W (G ++ fs') w' → Rb P Shun R (run' (c.finish v) rest) w' Q') → Rb P Shun R (run' (Frame.enter P f args .normal) (c :: rest)) w Q'

def popA (v : Value) (φ : List Fact → List Fact) (A : (Nat → Nat) → Option KG) : (Nat → Nat) → Option KG := fun o => (A o).map fun x => { x with g := run' ((x.g.callers.headD default).finish v) x.g.callers.tail, fs := φ x.fs }
def topA (A : (Nat → Nat) → Option KG) (o : Nat → Nat) := (A o).map fun x => (x.g.frame, x.g.callers.isEmpty, x.g.dying.isNone)

section
variable {P : Program} {Shun : Loc → Prop} {R : Nat} {w W : World} {Q' : (Loc → Prop) → Nat → Goroutine → World → Prop} {G : List Fact} {A : (Nat → Nat) → Option KG} {o : Nat → Nat} {x : KG}

theorem At.top (hA : At A o x) (hrun : x.g.status = .running) (hoff : x.g.offers = none) {fr : Frame} (h : topA A o = some (fr, false, true)) : ∃ c rest, x.g.callers = c :: rest ∧ x.g = run' fr (c :: rest) := by
  unfold topA at h
  rw [hA.here] at h
  simp only [Option.map_some, Option.some.injEq, Prod.mk.injEq] at h
  obtain ⟨h1, h2, h3⟩ := h
  obtain ⟨⟨fr', cs, st, dy, off⟩, fs, k, ow, owV⟩ := x
  simp only at h1 h2 h3 hrun hoff
  subst h1 hrun hoff
  cases cs with
  | nil => simp at h2
  | cons c rest =>
    cases dy with
    | some d => simp at h3
    | none => exact ⟨c, rest, rfl, rfl⟩

theorem At.pop (hA : At A o x) {c : Frame} {rest : List Frame} (hc : x.g.callers = c :: rest) (v : Value) (φ : List Fact → List Fact) : At (popA v φ A) o { x with g := run' (c.finish v) rest, fs := φ x.fs } := fun o' ho' => by
  have := hA o' ho'
  simp only [popA, this, Option.map_some, hc, List.headD_cons, List.tail_cons]

theorem At.fsIs (hA : At A o x) {l : List Fact} (h : (A o).map (·.fs) = some l) : x.fs = l := by
  rw [hA.here] at h
  simpa using h

/-- a call, by its contract -/
theorem rb_call {f : FuncId} {args : Array Value} {fs fs' l r : List Fact} {v : Value} (C : CallC P f args fs v fs') (hA : At A o x) (hrun : x.g.status = .running) (hoff : x.g.offers = none) (htop : topA A o = some (Frame.enter P f args .normal, false, true))
    (hl : (A o).map (·.fs) = some l) (idx : List Nat) (φ : List Fact → List Fact) (h1 : restF idx l = r) (h2 : pickF idx l = fs) (h3 : restF idx (φ l) = r) (h4 : pickF idx (φ l) = fs') (hR : R ≤ w.heap.size) (hRS : RS Shun W (G ++ x.fs) w)
    (K : ∀ x' w', At (popA v φ A) o x' → x'.k = x.k → x'.g.status = .running → x'.g.offers = none → x'.fs = φ l → R ≤ w'.heap.size → RS Shun W (G ++ x'.fs) w' → Rb P Shun R x'.g w' Q') : Rb P Shun R x.g w Q' := by
  obtain ⟨c, rest, hc, hg⟩ := hA.top hrun hoff htop
  have hfs := hA.fsIs hl
  rw [hg]
  refine C Shun R W w Q' (G ++ r) c rest hR (RS.out idx h1 h2 (by rw [← hfs]; exact hRS)) fun w' hR' hRS' => ?_
  have hA' := hA.pop hc v φ
  rw [hfs] at hA'
  exact K _ w' hA' rfl rfl rfl rfl hR' (RS.back idx h3 h4 hRS')
end
theorem At.is {A : (Nat → Nat) → Option KG} {o : Nat → Nat} {x : KG} (hA : At A o x) {g : Goroutine} {l : List Fact} (h : (A o).map (fun x => (x.g, x.fs)) = some (g, l)) : x.g = g ∧ x.fs = l := by
  rw [hA.here] at h
  simpa using h
def opsOf : List Item → Array Oper
  | .code (.region _ ops _) :: _ => ops
  | _ => #[]
/-- new values at some positions -/
def setV (l : List (Nat × Value)) (fs : List Fact) : List Fact := l.foldl (fun fs p => fs.modify p.1 fun f => { f with v := p.2 }) fs
end Go.Km

/-! KM, part 23: macros at a stage. -/
namespace Go.Km
open Go Go.Conc

section
variable {P : Program} {Shun : Loc → Prop} {R : Nat} {w W : World} {Q' : (Loc → Prop) → Nat → Goroutine → World → Prop} {G : List Fact} {A : (Nat → Nat) → Option KG} {o : Nat → Nat} {x : KG}

/-- a call, by its contract; what is asked of the stage in one equation -/
theorem rb_call2 {f : FuncId} {args : Array Value} {fs fs' : List Fact} {v : Value} (C : CallC P f args fs v fs') (hA : At A o x) (hrun : x.g.status = .running) (hoff : x.g.offers = none) (idx : List Nat) (φ : List Fact → List Fact)
    (h : (topA A o, (A o).map fun x => (pickF idx x.fs, pickF idx (φ x.fs), restF idx (φ x.fs))) = (some (Frame.enter P f args .normal, false, true), (A o).map fun x => (fs, fs', restF idx x.fs))) (hR : R ≤ w.heap.size) (hRS : RS Shun W (G ++ x.fs) w)
    (K : ∀ x' w', At (popA v φ A) o x' → x'.k = x.k → x'.g.status = .running → x'.g.offers = none → R ≤ w'.heap.size → RS Shun W (G ++ x'.fs) w' → Rb P Shun R x'.g w' Q') : Rb P Shun R x.g w Q' := by
  obtain ⟨h1, h2⟩ := Prod.mk.inj h
  obtain ⟨c, rest, hc, hg⟩ := hA.top hrun hoff h1
  rw [hA.here] at h2
  simp only [Option.map_some, Option.some.injEq, Prod.mk.injEq] at h2
  obtain ⟨e1, e2, e3⟩ := h2
  rw [hg]
  refine C Shun R W w Q' (G ++ restF idx x.fs) c rest hR (RS.out idx rfl e1 hRS) fun w' hR' hRS' => ?_
  exact K _ w' (hA.pop hc v φ) rfl rfl rfl hR' (RS.back idx e3 e2 hRS')

/-- some facts alone -/
theorem RS.only (idx : List Nat) {l : List Fact} (h : RS Shun W (G ++ l) w) : RS Shun W ([] ++ pickF idx l) w := (RS.out idx rfl rfl h).part

theorem RS.mk' {fs : List Fact} (h1 : Sat fs w) (h2 : Clear Shun fs w) (h3 : Was W w) (h4 : Above W fs) : RS Shun W ([] ++ fs) w := ⟨h1, h2, h3, h4⟩
end

/-- other facts at a stage -/
def onFs (φ : (Nat → Nat) → List Fact → List Fact) (A : (Nat → Nat) → Option KG) : (Nat → Nat) → Option KG := fun o => (A o).map fun x => { x with fs := φ o x.fs }
theorem At.onFs {A : (Nat → Nat) → Option KG} {o : Nat → Nat} {x : KG} (hA : At A o x) {φ : (Nat → Nat) → List Fact → List Fact} (hφ : ∀ o', (∀ i, i < x.k → o' i = o i) → φ o' x.fs = φ o x.fs) : At (onFs φ A) o { x with fs := φ o x.fs } := fun o' ho' => by
  have := hA o' ho'
  simp only [Go.Km.onFs, this, Option.map_some, hφ o' ho']
theorem At.kIs {A : (Nat → Nat) → Option KG} {o : Nat → Nat} {x : KG} (hA : At A o x) {n : Nat} (h : (A o).map (·.k) = some n) : x.k = n := by
  rw [hA.here] at h
  simpa using h
/-- what a stage's goroutine is -/
theorem At.gIs {A : (Nat → Nat) → Option KG} {o : Nat → Nat} {x : KG} (hA : At A o x) {g : Goroutine} (h : (A o).map (·.g) = some g) : x.g = g := by
  rw [hA.here] at h
  simpa using h
end Go.Km

/-! KM, part 24: more macros at a stage: an index into a slice; a region that draws, inside; a deferred call. -/
namespace Go.Km
open Go Go.Conc

section
variable {P : Program} {Shun : Loc → Prop} {R : Nat} {w W : World} {Q' : (Loc → Prop) → Nat → Goroutine → World → Prop} {G : List Fact} {A : (Nat → Nat) → Option KG} {o : Nat → Nat} {x : KG}

def valS (s : Sem Value) : Sem Next := s >>= fun v => pure (.value v)

/-- the address of an element -/
theorem rb_index {g : Goroutine} {t : TypeId} {a : Addr} {n cap : Nat} {i : Int} {sz : Nat} (hrun : g.status = .running) (hv : view P g = .op (valS (Instr.indexAt t (.slice (some a) n cap) (.int .i64 i))))
    (ht : P.underlying t = some (.slice (P.elem t))) (hs : ∀ w : World, (sizeOf (P.elem t)).run P w = .ok sz w) (hi : 0 ≤ i ∧ i < n)
    (K : ∀ d, Rb P Shun R (run' (g.frame.finish (.pointer (some (a.add (i.toNat * sz))))) g.callers) (w.at d) Q') : Rb P Shun R g w Q' := by
  refine rb_op hrun hv fun d => ⟨.pointer (some (a.add (i.toNat * sz))), w.at d, ?_, Nat.le_refl _, fun e he => ?_, K d⟩
  · unfold valS
    have h1 := run_indexAt_slice (P := P) (w := w.at d) t a n cap .i64 i ht
    rw [if_pos hi, hs] at h1
    rw [Sem.run_bind, h1]
    rfl
  · have h2 := events_indexAt_slice (P := P) (w := w.at d) (es := #[]) t a n cap .i64 i ht hi
    exfalso
    have : (valS (Instr.indexAt t (.slice (some a) n cap) (.int .i64 i))).events P (w.at d) #[] = #[] := by
      unfold valS
      have h1 := run_indexAt_slice (P := P) (w := w.at d) t a n cap .i64 i ht
      rw [if_pos hi, hs] at h1
      rw [Sem.events_bind, h2, h1]
      rfl
    rw [this] at he
    simp at he

def putV (v : Value) (A : (Nat → Nat) → Option KG) : (Nat → Nat) → Option KG := fun o => (A o).map fun x => { x with g := run' (x.g.frame.finish v) x.g.callers }
theorem At.put {A : (Nat → Nat) → Option KG} {o : Nat → Nat} {x : KG} (v : Value) (hA : At A o x) : At (putV v A) o { x with g := run' (x.g.frame.finish v) x.g.callers } := fun o' ho' => by
  have := hA o' ho'
  simp only [putV, this, Option.map_some]
/-- the operation that a goroutine stands at -/
def opAt (P : Program) (x : KG) : Option (Sem Next) := match view P x.g with
  | .op s => some s
  | _ => none
theorem At.op {A : (Nat → Nat) → Option KG} {o : Nat → Nat} {x : KG} {s : Sem Next} (hA : At A o x) (h : (A o).map (fun x => opAt P x) = some (some s)) : view P x.g = .op s := by
  rw [hA.here] at h
  simp only [Option.map_some, Option.some.injEq] at h
  unfold opAt at h
  split at h
  · rename_i s' hv; rw [hv]; simp only [Option.some.injEq] at h; rw [h]
  · cases h

/-! ### a region that draws, inside -/
def regA (X : (Nat → Nat) → DrawX) (full : Nat) (φ : List Fact → List Fact) (A : (Nat → Nat) → Option KG) : (Nat → Nat) → Option KG := fun o => (A o).map fun x => { x with g := ((X o).at x.g.callers full []).g, fs := φ x.fs }

theorem rb_region {X : (Nat → Nat) → DrawX} {D Dt Dg : List (List Nat)} {hl : Nat → Nat → List Hint} {full id n : Nat} {dep : Bool} {Lev : List (List Nat)} (hA : At A o x) (hrun : x.g.status = .running) (hoff : x.g.offers = none)
    (idx : List Nat) (φ : List Fact → List Fact)
    (h : (A o).map (fun x => (x.g.frame, x.g.dying.isNone, pickF idx x.fs, pickF idx (φ x.fs), restF idx (φ x.fs))) = (A o).map fun x => ((X o).fr, true, (X o).F 0, (X o).F full, restF idx x.fs))
    (hX : ∀ o', (∀ i, i < x.k → o' i = o i) → X o' = X o)
    (htodo : (X o).fr.todo = .code (.region id (X o).ops true) :: (X o).K) (htmps : (X o).fr.tmps = (X o).T 0)
    (hd : ∀ cs, drawData P ⟨run' (X o).fr cs, [], 0, [], []⟩ = some (true, dep, n, D, Dt, Dg)) (hlev : levOk D Lev full = true) (hlen : Lev.length = n + 1) (h0 : Lev.head? = some [0])
    (hE : ∀ cs, ∀ ms ∈ Lev, ∀ m ∈ ms, ∀ i ∈ readyD D m, (X o).edge P cs hl m i) (hR : R ≤ w.heap.size) (hRS : RS Shun W (G ++ x.fs) w)
    (K : ∀ x' w', At (regA X full φ A) o x' → x'.k = x.k → x'.g.status = .running → x'.g.offers = none → R ≤ w'.heap.size → RS Shun W (G ++ x'.fs) w' → Rb P Shun R x'.g w' Q') : Rb P Shun R x.g w Q' := by
  have hA1 := hA.here
  rw [hA1] at h
  simp only [Option.map_some, Option.some.injEq, Prod.mk.injEq] at h
  obtain ⟨h1, h2, h3, h4, h5⟩ := h
  have hg : x.g = run' (X o).fr x.g.callers := by
    obtain ⟨⟨fr', cs, st, dy, off⟩, fs, k, ow, owV⟩ := x
    simp only at h1 h2 hrun hoff
    subst h1 hrun hoff
    cases dy with
    | some d => simp at h2
    | none => rfl
  rw [hg]
  refine rb_drawM (X := X o) (G := G ++ restF idx x.fs) rfl htodo htmps (hd x.g.callers) hlev hlen h0 (hE x.g.callers) hR (RS.out idx rfl h3 hRS) fun w' hR' hRS' => ?_
  refine K { x with g := ((X o).at x.g.callers full []).g, fs := φ x.fs } w' (fun o' ho' => ?_) rfl rfl rfl hR' (RS.back idx h5 h4 hRS')
  have := hA o' ho'
  simp only [regA, this, Option.map_some, hX o' ho']

/-! ### a deferred call -/
def CallD (P : Program) (f : FuncId) (args : Array Value) (fs : List Fact) (fs' : List Fact) : Prop :=
  ∀ (Shun : Loc → Prop) (R : Nat) (W w : World) (Q' : (Loc → Prop) → Nat → Goroutine → World → Prop) (G : List Fact) (c : Frame) (rest : List Frame), c.mode = .returning → R ≤ w.heap.size → RS Shun W (G ++ fs) w →
    (∀ w', R ≤ w'.heap.size → RS Shun W (G ++ fs') w' → Rb P Shun R (run' c rest) w' Q') → Rb P Shun R (run' (Frame.enter P f args .deferred) (c :: rest)) w Q'
def popD (φ : List Fact → List Fact) (A : (Nat → Nat) → Option KG) : (Nat → Nat) → Option KG := fun o => (A o).map fun x => { x with g := run' (x.g.callers.headD default) x.g.callers.tail, fs := φ x.fs }
theorem rb_callD {f : FuncId} {args : Array Value} {fs fs' : List Fact} (C : CallD P f args fs fs') (hA : At A o x) (hrun : x.g.status = .running) (hoff : x.g.offers = none) (idx : List Nat) (φ : List Fact → List Fact)
    (h : (topA A o, (A o).map fun x => ((x.g.callers.headD default).mode, pickF idx x.fs, pickF idx (φ x.fs), restF idx (φ x.fs))) = (some (Frame.enter P f args .deferred, false, true), (A o).map fun x => (.returning, fs, fs', restF idx x.fs))) (hR : R ≤ w.heap.size) (hRS : RS Shun W (G ++ x.fs) w)
    (K : ∀ x' w', At (popD φ A) o x' → x'.k = x.k → x'.g.status = .running → x'.g.offers = none → R ≤ w'.heap.size → RS Shun W (G ++ x'.fs) w' → Rb P Shun R x'.g w' Q') : Rb P Shun R x.g w Q' := by
  obtain ⟨h1, h2⟩ := Prod.mk.inj h
  obtain ⟨c, rest, hc, hg⟩ := hA.top hrun hoff h1
  rw [hA.here] at h2
  simp only [Option.map_some, Option.some.injEq, Prod.mk.injEq, hc, List.headD_cons] at h2
  obtain ⟨e0, e1, e2, e3⟩ := h2
  rw [hg]
  refine C Shun R W w Q' (G ++ restF idx x.fs) c rest e0 hR (RS.out idx rfl e1 hRS) fun w' hR' hRS' => ?_
  refine K { x with g := run' c rest, fs := φ x.fs } w' (fun o' ho' => ?_) rfl rfl rfl hR' (RS.back idx e3 e2 hRS')
  have := hA o' ho'
  simp only [popD, this, Option.map_some, hc, List.headD_cons, List.tail_cons]
end

/-! ### owed values that are no matter of reckoning -/
theorem ok_of2 {d' : Nat} {r : Option (KG × Array Event)} {l : List (Value × Value)} (h : (r.isSome, r.map fun p => (p.1.owe.map Prod.fst, p.1.oweV, deafBehind 0 p.2)) = (true, r.map fun p => (p.1.owe.map Prod.snd, l, d'))) (hl : ∀ p ∈ l, p.1 = p.2) : okB 0 d' r := by
  cases r with
  | none => simp at h
  | some p =>
    obtain ⟨x, ev⟩ := p
    simp only [Option.isSome_some, Option.map_some, Prod.mk.injEq, Option.some.injEq, true_and] at h
    exact ⟨x, ev, rfl, ⟨eq_of_maps _ h.1, by rw [h.2.1]; exact hl⟩, h.2.2⟩

/-- old cells, as facts that are read alone -/
theorem RS.addOld {Shun : Loc → Prop} {W w : World} {fs : List Fact} (h : RS Shun W fs w) (ha : ∀ f ∈ fs, W.heap.size ≤ f.a.block) (as : List (Addr × Value)) (hn : (as.map (·.1)).Nodup) (hS : ∀ p ∈ as, ¬ Shun (.cell p.1)) (hc : ∀ p ∈ as, W.cell? p.1 = some p.2) :
    RS Shun W (fs ++ as.map fun p => ⟨p.1, p.2, false, none⟩) w := by
  have hlt : ∀ p ∈ as, p.1.block < W.heap.size := fun p hp => cell_block_lt (hc p hp)
  have hs : Sat (as.map fun p => (⟨p.1, p.2, false, none⟩ : Fact)) w := by
    refine ⟨fun f hf => ?_, fun f hf hw => ?_, fun f hf q hq => ?_, by rw [List.map_map]; exact hn⟩
    · obtain ⟨p, hp, rfl⟩ := List.mem_map.1 hf
      have := hc p hp
      unfold World.cell? at this ⊢
      rw [h.was.block _ (hlt p hp)]
      exact this
    · obtain ⟨p, hp, rfl⟩ := List.mem_map.1 hf; cases hw
    · obtain ⟨p, hp, rfl⟩ := List.mem_map.1 hf; cases hq
  refine ⟨h.sat.join hs fun f hf g hg e => ?_, ⟨fun f hf => ?_, h.clear.low⟩, h.was, fun f hf hw => ?_⟩
  · obtain ⟨p, hp, rfl⟩ := List.mem_map.1 hg
    have := ha f hf; have := hlt p hp
    simp only at e
    rw [e] at *
    omega
  · rcases List.mem_append.1 hf with hf | hf
    · exact h.clear.apart f hf
    · obtain ⟨p, hp, rfl⟩ := List.mem_map.1 hf; exact hS p hp
  · rcases List.mem_append.1 hf with hf | hf
    · exact ha f hf
    · obtain ⟨p, hp, rfl⟩ := List.mem_map.1 hf; cases hw
end Go.Km

/-! KM, part 25: FROM GOROUTINE 0's WAY TO THE RUN. -/
namespace Go.Km
open Go Go.Conc

/-- goroutine 0 stands at the step that ends the run -/
def EndsWith (P : Program) (v : Value) (W : World) : (Loc → Prop) → Nat → Goroutine → World → Prop := fun _ _ g w => g.status = .running ∧ (∀ d, stepG P true g (w.at d) = .ended (.done v) (w.at d) #[]) ∧ Was W w

theorem run_of_rb {P : Program} {g : Goroutine} {W : World} {v : Value} {R : Nat} (h : Rb P (fun _ => False) R g W (EndsWith P v W)) :
    ∃ M last o w' t', runNT P (M + 1) (crowd #[g] W none) #[] = (.ended o w', t') ∧ runN P M (crowd #[g] W none) = .next last ∧ step P last = .ended o w' ∧ Good P (fun v' w' => v' = v ∧ Was W w') last o w' t' := by
  have hB : Bes P (fun _ => False) R #[g] (fun _ => 0) g W #[] := ⟨rfl, leavers_one P g, past_nil.mono (Nat.zero_le _), by simp⟩
  obtain ⟨N, gs', q', sl', t', S', R', g', w', e1, hB', hq⟩ := h _ _ none _ hB
  obtain ⟨hrun, hend, hwas⟩ := hq
  obtain ⟨N2, last, o, w2, t2, r1, r2, r3, r4⟩ := beside_ends (P := P) (Shun := S') (B := w'.heap.size) (D := fun _ _ _ => False) (Post := fun v' w' => v' = v ∧ Was W w') (sl := sl') (n := 0) (fun _ _ _ h => h.elim) hB'.at0 hB'.old hB'.past
    (show ∀ w₁, AtRel w' w₁ → AtEnd P S' w'.heap.size (fun v' w' => v' = v ∧ Was W w') g' w₁ from fun w₁ hw => by
      obtain ⟨d, rfl⟩ := hw
      exact ⟨hrun, v, #[], hend d, by simp, rfl, hwas.drawn d⟩)
  refine ⟨N + N2, last, o, w2, t2, ?_, ?_, r3, r4⟩
  · rw [Nat.add_assoc, runNT_add, e1]; exact r1
  · rw [runN_add, ← runNT_fst P _ _ #[], e1]; exact r2
end Go.Km
