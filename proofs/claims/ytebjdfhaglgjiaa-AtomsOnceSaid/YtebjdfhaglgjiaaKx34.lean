/- Words tells the cells, whatever capacity append draws. No conditions beyond those written in the theorems. -/
import Derived.Test.YtebjdfhaglgjiaaKwB
import Derived.Test.YtebjdfhaglgjiaaKmD
namespace Go.Proofs
open Go Go.Conc Go.Km

def f34 (p q : Nat) (v0 v1 : Int) (u : Bool) : List Fact := [⟨⟨q, 0, none⟩, .int .u64 v0, u, some (93, 2)⟩, ⟨⟨q, 1, none⟩, .int .u64 v1, u, some (93, 2)⟩, ⟨⟨p, 0, none⟩, .slice (some ⟨q, 0, none⟩) 2 2, false, some (109, 1)⟩]
noncomputable def a34_0 (c : Frame) (rest : List Frame) (p q : Nat) (v0 v1 : Int) (u : Bool) : (Nat → Nat) → Option KG := fun _ => some ⟨run' (Frame.enter Try.prog 34 #[.pointer (some ⟨p, 0, none⟩)] .normal) (c :: rest), f34 p q v0 v1 u, 0, [], []⟩
def h34a : List Hint := flat [(30, [2], none), (28, [2], none), (12, [0], none)] 5
def h34b : List Hint := flat [(27, [2], none), (12, [1], none)] 5
noncomputable def a34_1 (c : Frame) (rest : List Frame) (p q : Nat) (v0 v1 : Int) (u : Bool) := nextA (segA Try.prog (chkOf true) h34a (a34_0 c rest p q v0 v1 u))
theorem k34_1 (c : Frame) (rest : List Frame) (p q : Nat) (v0 v1 : Int) (u : Bool) (o : Nat → Nat) : ((segA Try.prog (chkOf true) h34a (a34_0 c rest p q v0 v1 u) o).isSome, sumL 0 (segA Try.prog (chkOf true) h34a (a34_0 c rest p q v0 v1 u) o)) = (true, sumR 0 (segA Try.prog (chkOf true) h34a (a34_0 c rest p q v0 v1 u) o)) := by kernel_rfl
/-- the operation that a goroutine stands at -/
noncomputable def opOf (x : KG) : Option (Sem Next) := match view Try.prog x.g with
  | .op s => some s
  | _ => none
theorem v34_1 (c : Frame) (rest : List Frame) (p q : Nat) (v0 v1 : Int) (u : Bool) (o : Nat → Nat) : (a34_1 c rest p q v0 v1 u o).map (fun x => opOf x) = some (some (builtin .append #[22, 22] 22 #[false, false] #[.slice none 0 0, .slice (some ⟨o 0, 0, none⟩) 1 1])) := by kernel_rfl
noncomputable def putA (v : Value) (A : (Nat → Nat) → Option KG) : (Nat → Nat) → Option KG := fun o => (A o).map fun x => { x with g := run' (x.g.frame.finish v) x.g.callers }
noncomputable def a34_2 (c : Frame) (rest : List Frame) (p q : Nat) (v0 v1 : Int) (u : Bool) (B cap : Nat) := putA (.slice (some ⟨B, 0, none⟩) 1 cap) (a34_1 c rest p q v0 v1 u)
noncomputable def a34_3 (c : Frame) (rest : List Frame) (p q : Nat) (v0 v1 : Int) (u : Bool) (B cap : Nat) := nextA (segA Try.prog (chkOf true) h34b (a34_2 c rest p q v0 v1 u B cap))
theorem k34_3 (c : Frame) (rest : List Frame) (p q : Nat) (v0 v1 : Int) (u : Bool) (B cap : Nat) (o : Nat → Nat) : ((segA Try.prog (chkOf true) h34b (a34_2 c rest p q v0 v1 u B cap) o).isSome, sumL 0 (segA Try.prog (chkOf true) h34b (a34_2 c rest p q v0 v1 u B cap) o)) = (true, sumR 0 (segA Try.prog (chkOf true) h34b (a34_2 c rest p q v0 v1 u B cap) o)) := by kernel_rfl
theorem v34_3 (c : Frame) (rest : List Frame) (p q : Nat) (v0 v1 : Int) (u : Bool) (B cap : Nat) (o : Nat → Nat) : (a34_3 c rest p q v0 v1 u B cap o).map (fun x => opOf x) = some (some (builtin .append #[22, 22] 22 #[false, false] #[.slice (some ⟨B, 0, none⟩) 1 cap, .slice (some ⟨o 1, 0, none⟩) 1 1])) := by kernel_rfl
noncomputable def a34_4 (c : Frame) (rest : List Frame) (p q : Nat) (v0 v1 : Int) (u : Bool) (B cap B' cap' : Nat) := putA (.slice (some ⟨B', 0, none⟩) 2 cap') (a34_3 c rest p q v0 v1 u B cap)
theorem b34 (c : Frame) (rest : List Frame) (p q : Nat) (v0 v1 : Int) (u : Bool) (B cap B' cap' : Nat) (o : Nat → Nat) : ((a34_4 c rest p q v0 v1 u B cap B' cap' o).bind fun x => soloA Try.prog (fun _ => 0) (chkOf true) 22 x.g).map (fun p => (p.1.g, p.1.k, p.1.owe, p.1.oweV, deafBehind 0 p.2)) = some (run' (c.finish (.slice (some ⟨B', 0, none⟩) 2 cap')) rest, 0, [], [], 0) := by kernel_rfl
end Go.Proofs

namespace Go.Proofs
open Go Go.Conc Go.Km

theorem u22 : Try.prog.underlying 22 = some (.slice 30) := by kernel_rfl
noncomputable def i30 : TypeInfo := (Try.prog.info? 30).getD default
theorem hi30 : Try.prog.info? 30 = some i30 := by kernel_rfl
theorem hz30 : i30.zero = some (.int .u64 0) := by kernel_rfl
theorem hs30 : i30.size = 1 := by kernel_rfl
theorem hb30 : i30.bytes = 8 := by kernel_rfl
theorem F34_1 (c : Frame) (rest : List Frame) (p q : Nat) (v0 v1 : Int) (u : Bool) (o : Nat → Nat) : (a34_1 c rest p q v0 v1 u o).map (·.fs) = some (f34 p q v0 v1 u ++ [⟨⟨o 0, 0, none⟩, .int .u64 v0, true, some (30, 1)⟩]) := by kernel_rfl
theorem F34_3 (c : Frame) (rest : List Frame) (p q : Nat) (v0 v1 : Int) (u : Bool) (B cap : Nat) (o : Nat → Nat) : (a34_3 c rest p q v0 v1 u B cap o).map (·.fs) = some (f34 p q v0 v1 u ++ [⟨⟨o 0, 0, none⟩, .int .u64 v0, true, some (30, 1)⟩, ⟨⟨o 1, 0, none⟩, .int .u64 v1, true, some (30, 1)⟩]) := by kernel_rfl

theorem fsOf {A : (Nat → Nat) → Option KG} {o : Nat → Nat} {x : KG} {fs : List Fact} (hA : At A o x) (h : (A o).map (·.fs) = some fs) : x.fs = fs := by
  rw [hA.here] at h
  simpa using h
theorem opIs {A : (Nat → Nat) → Option KG} {o : Nat → Nat} {x : KG} {s : Sem Next} (hA : At A o x) (h : (A o).map (fun x => opOf x) = some (some s)) : view Try.prog x.g = .op s := by
  rw [hA.here] at h
  simp only [Option.map_some, Option.some.injEq] at h
  unfold opOf at h
  split at h
  · rename_i s' hv; rw [hv]; simp only [Option.some.injEq] at h; rw [h]
  · cases h
theorem at_put {A : (Nat → Nat) → Option KG} {o : Nat → Nat} {x : KG} (v : Value) (hA : At A o x) : At (putA v A) o { x with g := run' (x.g.frame.finish v) x.g.callers } := fun o' ho' => by
  have := hA o' ho'
  simp only [putA, this, Option.map_some]

/-- the last fact is new -/
theorem last_new {fs fs' : List Fact} {f : Fact} {w w' : World} (ht : Turn fs w fs' w') (h : fs' = fs ++ [f]) : w.heap.size ≤ f.a.block ∧ f.a.block < w'.heap.size := by
  obtain ⟨new, e, hn⟩ := ht.grow
  rw [h, List.map_append] at e
  have := List.append_cancel_left e
  have h2 := hn (f.a, f.wr) (by rw [← this]; simp)
  exact ⟨h2.1, h2.2.1⟩

section
variable {Shun : Loc → Prop} {R : Nat} {w W : World} {Q' : (Loc → Prop) → Nat → Goroutine → World → Prop} {G : List Fact} {c : Frame} {rest : List Frame} {p q : Nat} {v0 v1 : Int} {u : Bool}

/-- ████ Words ████ -/
theorem words_rb (hR : R ≤ w.heap.size) (hRS : RS Shun W (G ++ f34 p q v0 v1 u) w)
    (K : ∀ B cap (zs : List Value) w', RS Shun W ((G ++ f34 p q v0 v1 u) ++ newFacts B (some (30, (Value.int .u64 v0 :: .int .u64 v1 :: zs).length)) (.int .u64 v0 :: .int .u64 v1 :: zs) 0) w' → w.heap.size ≤ B → R ≤ w'.heap.size →
      Rb Try.prog Shun R (run' (c.finish (.slice (some ⟨B, 0, none⟩) 2 cap)) rest) w' Q') :
    Rb Try.prog Shun R (run' (Frame.enter Try.prog 34 #[.pointer (some ⟨p, 0, none⟩)] .normal) (c :: rest)) w Q' := by
  have hA0 : At (a34_0 c rest p q v0 v1 u) (fun _ => 0) ⟨run' (Frame.enter Try.prog 34 #[.pointer (some ⟨p, 0, none⟩)] .normal) (c :: rest), f34 p q v0 v1 u, 0, [], []⟩ := fun _ _ => rfl
  have hlow := hRS.clear.low
  refine rbG_seg (W := W) (G := G) (d' := 0) true hA0 rfl rfl h34a hR hRS (fun o => ok_of (k34_1 c rest p q v0 v1 u o)) fun o x1 w1 _ hA1 hk1 hr1 hof1 hRS1 ht1 => ?_
  have hA1 : At (a34_1 c rest p q v0 v1 u) o x1 := hA1
  have hf1 := fsOf hA1 (F34_1 c rest p q v0 v1 u o)
  obtain ⟨n1, n1'⟩ := last_new ht1 hf1
  simp only [if_true]
  have hfresh : ∀ b, w.heap.size ≤ b → ∀ ad : Addr, ad.block = b → ¬ Shun (.cell ad) := fun b hb ad e hs => by have := hlow ad hs; omega
  have hm1 : (⟨⟨o 0, 0, none⟩, .int .u64 v0, true, some (30, 1)⟩ : Fact) ∈ G ++ x1.fs := by rw [hf1]; simp
  refine rb_app1 hr1 (opIs hA1 (v34_1 c rest p q v0 v1 u o)) u22 hi30 hz30 hs30 hb30 rfl rfl hRS1 (hRS1.sat.cell _ hm1) rfl (hfresh _ n1) fun cap zs w2 hcap hmax hzs hh2 hRS2 => ?_
  have hA2 := at_put (.slice (some ⟨w1.heap.size, 0, none⟩) 1 cap) hA1
  have RS2 : RS Shun W (G ++ x1.fs) w2 := by have := hRS2 0; simpa using this
  have hsz2 : w2.heap.size = w1.heap.size + 1 := by rw [hh2]; simp
  have hB2 : w2.heap[w1.heap.size]? = some (.cells (#[.int .u64 v0] ++ zs) 30 (0, 0)) := by rw [hh2]; simp
  have hw1 : w.heap.size ≤ w1.heap.size := ht1.size
  refine rbG_seg (W := W) (G := G) (d' := 0) true hA2 rfl rfl h34b (by omega) RS2 (fun o => ok_of (k34_3 c rest p q v0 v1 u w1.heap.size cap o)) fun o3 x3 w3 _ hA3 _ hr3 hof3 RS3 ht3 => ?_
  have hA3 : At (a34_3 c rest p q v0 v1 u w1.heap.size cap) o3 x3 := hA3
  have hf3 := fsOf hA3 (F34_3 c rest p q v0 v1 u w1.heap.size cap o3)
  simp only [if_true]
  have hlt1 : ∀ f ∈ G ++ x1.fs, f.a.block < w1.heap.size := fun f hf => hRS1.sat.lt hf
  obtain ⟨e0, n3⟩ : o3 0 = o 0 ∧ w2.heap.size ≤ o3 1 := by
    obtain ⟨new, e, hn⟩ := ht3.grow
    have e' : x3.fs.map (fun f => (f.a, f.wr)) = x1.fs.map (fun f => (f.a, f.wr)) ++ new := e
    rw [hf3, hf1] at e'
    simp only [List.map_append, List.append_assoc] at e'
    have := List.append_cancel_left e'
    simp only [List.map_cons, List.map_nil, List.cons_append, List.nil_append, List.cons.injEq, Prod.mk.injEq, and_true, Addr.mk.injEq] at this
    obtain ⟨h1, h2⟩ := this
    refine ⟨h1, ?_⟩
    have := (hn (⟨o3 1, 0, none⟩, true) (by rw [← h2]; simp)).1
    exact this
  have hB3 : w3.heap[w1.heap.size]? = some (.cells (#[.int .u64 v0] ++ zs) 30 (0, 0)) := by
    rw [ht3.block _ (by omega) fun f hf _ e => by have := hlt1 f (List.mem_append_right _ hf); omega]
    exact hB2
  have hm3 : (⟨⟨o3 1, 0, none⟩, .int .u64 v1, true, some (30, 1)⟩ : Fact) ∈ G ++ x3.fs := by rw [hf3]; simp
  have hn3 : ∀ f ∈ G ++ x3.fs, f.a.block ≠ w1.heap.size := by
    intro f hf e
    rcases List.mem_append.1 hf with hf | hf
    · have := hlt1 f (List.mem_append_left _ hf); omega
    · rcases ht3.mem hf with ⟨g, hg, eg, _⟩ | ⟨hb, _, _⟩
      · have := hlt1 g (List.mem_append_right _ hg); rw [eg] at this; omega
      · omega
  have hW1 : W.heap.size ≤ w1.heap.size := hRS1.was.size
  -- the end
  have fin : ∀ (B' cap' : Nat) (zs' : List Value) (w4 : World), RS Shun W ((G ++ x3.fs) ++ newFacts B' (some (30, (Value.int .u64 v0 :: .int .u64 v1 :: zs').length)) (.int .u64 v0 :: .int .u64 v1 :: zs') 0) w4 → w.heap.size ≤ B' → R ≤ w4.heap.size →
      Rb Try.prog Shun R (run' (x3.g.frame.finish (.slice (some ⟨B', 0, none⟩) 2 cap')) x3.g.callers) w4 Q' := by
    intro B' cap' zs' w4 h4 hb4 hr4
    have hA4 := at_put (.slice (some ⟨B', 0, none⟩) 2 cap') hA3
    refine solo_rb rfl (At.solo hA4 (b34 c rest p q v0 v1 u w1.heap.size cap B' cap' o3)) fun d => ?_
    refine K B' cap' zs' (w4.at d) ?_ hb4 hr4
    have h5 := h4.drawn d
    rw [hf3] at h5
    have hp : ((G ++ (f34 p q v0 v1 u ++ ([⟨⟨o3 0, 0, none⟩, .int .u64 v0, true, some (30, 1)⟩, ⟨⟨o3 1, 0, none⟩, .int .u64 v1, true, some (30, 1)⟩] : List Fact))) ++ newFacts B' (some (30, (Value.int .u64 v0 :: .int .u64 v1 :: zs').length)) (.int .u64 v0 :: .int .u64 v1 :: zs') 0).Perm
        (((G ++ f34 p q v0 v1 u) ++ newFacts B' (some (30, (Value.int .u64 v0 :: .int .u64 v1 :: zs').length)) (.int .u64 v0 :: .int .u64 v1 :: zs') 0) ++ ([⟨⟨o3 0, 0, none⟩, .int .u64 v0, true, some (30, 1)⟩, ⟨⟨o3 1, 0, none⟩, .int .u64 v1, true, some (30, 1)⟩] : List Fact)) := by
      classical
      rw [List.perm_iff_count]
      intro y
      simp only [List.count_append]
      omega
    exact (h5.perm hp).init
  by_cases h2 : 2 ≤ cap
  · refine rb_app2r (u0 := .int .u64 v0) hr3 (opIs hA3 (v34_3 c rest p q v0 v1 u w1.heap.size cap o3)) u22 hi30 hz30 hs30 hb30 rfl h2 hmax (by simp [hzs]; omega) (by simp) RS3 hn3 hW1 (RS3.sat.cell _ hm3) hB3 (hfresh (o3 1) (by omega)) (hfresh w1.heap.size (by omega)) fun w4 RS4 hsz4 hB4 => ?_
    have := RS4.addRow hB4 hn3 hW1 (hfresh w1.heap.size (by omega))
    refine fin w1.heap.size cap ((#[Value.int .u64 v0] ++ zs).toList.drop 2) w4 ?_ (by omega) (by have := ht3.size; omega)
    simpa using this
  · have hc1 : cap = 1 := by omega
    subst hc1
    have hown : w3.ownsRow 0 30 1 (.slice (some ⟨w1.heap.size, 0, none⟩) 1 1) 1 [.int .u64 v0] := ⟨by simp, .inr ⟨w1.heap.size, 1, _, rfl, Nat.zero_le _, hB3, Nat.le_refl _, hmax, by simp [hzs], by simp⟩⟩
    have hc0 : w3.cell? ⟨w1.heap.size, 0, none⟩ = some (.int .u64 v0) := by
      unfold World.cell?
      rw [show ((⟨w1.heap.size, 0, none⟩ : Addr).block) = w1.heap.size from rfl, hB3]
      simp [Array.getElem?_append]
    refine rb_app2g hr3 (opIs hA3 (v34_3 c rest p q v0 v1 u w1.heap.size 1 o3)) u22 hi30 hz30 hs30 hb30 rfl rfl RS3 (RS3.sat.cell _ hm3) hown hc0 (hfresh (o3 1) (by omega)) (hfresh w1.heap.size (by omega)) fun cap' zs' w4 _ _ hh4 hRS4 => ?_
    have := hRS4 (newFacts w3.heap.size (some (30, (#[Value.int .u64 v0, .int .u64 v1] ++ zs').toList.length)) (#[Value.int .u64 v0, .int .u64 v1] ++ zs').toList 0).length
    rw [List.take_length] at this
    refine fin w3.heap.size cap' zs'.toList w4 ?_ (by have := ht3.size; omega) (by rw [hh4]; have := ht3.size; simp; omega)
    simpa using this
end
end Go.Proofs
