/- AtomsOnce: a compare and swap of the pointer in the box. No conditions beyond those written in the theorems. -/
import Derived.Test.YtebjdfhaglgjiaaKf1
import Derived.Conc.AtomicLaws2
/-! AtomsOnce: the compare-and-swap of the box's pointer -/
namespace Go.Proofs
open Go Go.Conc Go.Km

section
variable {P : Program} {w : World} {ad : Addr} {c nb : Addr}
theorem samePtr_self : samePointer (some c) (some c) = pure true := by
  simp [samePointer, sameAddr]
theorem casP_shape (ad c nb : Addr) : ∃ (U : Sem Value) (K : Value → Sem Value), Extern.Atomic.casT .ptr #[.pointer (some ad), .pointer (some c), .pointer (some nb)] = (Extern.Atomic.touchesFrozen ad >>= fun fz => if fz = true then U else Extern.Atomic.read .ptr ad >>= K) ∧
    ∀ x, K (.pointer x) = (samePointer x (some c) >>= fun eq => if eq = true then (store ad (.pointer (some nb)) .atomic >>= fun _ => pure (Value.bool eq)) else pure (Value.bool eq)) :=
  ⟨_, _, rfl, fun _ => rfl⟩
theorem run_casP (hc : w.cell? ad = some (.pointer (some c))) (hz : w.frozen? ad = false) : (Extern.Atomic.casT .ptr #[.pointer (some ad), .pointer (some c), .pointer (some nb)]).run P w = .ok (.bool true) (w.setCell ad (.pointer (some nb))) := by
  obtain ⟨U, K, e, hK⟩ := casP_shape ad c nb
  rw [e]
  simp [Extern.Atomic.touchesFrozen, Extern.Atomic.read, viewAt, World.shape?_isSome_of_cell? hc, hc, hz, hK, samePtr_self, run_store P w ad (.pointer (some nb)) .atomic rfl, Result.andThen]
theorem events_casP (hc : w.cell? ad = some (.pointer (some c))) (hz : w.frozen? ad = false) (es : Array Event) : (Extern.Atomic.casT .ptr #[.pointer (some ad), .pointer (some c), .pointer (some nb)]).events P w es = (es.push ⟨.cell ad, false, true⟩).push ⟨.cell ad, true, true⟩ := by
  obtain ⟨U, K, e, hK⟩ := casP_shape ad c nb
  rw [e]
  simp [Extern.Atomic.touchesFrozen, Extern.Atomic.read, viewAt, World.shape?_isSome_of_cell? hc, hc, hz, hK, samePtr_self, events_load, events_store P w _ ad (.pointer (some nb)) .atomic rfl, Result.evThen]
end
noncomputable def fn67 : Func := (Try.prog.funcs[67]?).getD default
theorem fn67_is : Try.prog.funcs[67]? = some fn67 := by kernel_rfl
theorem fn67_name : (fn67.name == "runtime.NumGoroutine") = false := by kernel_rfl
theorem fn67_body : fn67.body.isNone = true := by kernel_rfl
theorem fn67_next : Extern.findNext fn67 = none := by kernel_rfl
theorem fn67_find : Extern.find fn67 = some (Extern.Atomic.casT .ptr) := by kernel_rfl

def casA (i : Nat) (v : Value) (A : (Nat → Nat) → Option KG) : (Nat → Nat) → Option KG := fun o => (A o).map fun x => { x with g := run' (x.g.frame.finish (.bool true)) x.g.callers, fs := setV [(i, v)] x.fs }
theorem setV_set {l : List Fact} {i : Nat} {f : Fact} (h : l[i]? = some f) (v : Value) : setV [(i, v)] l = l.set i { f with v := v } := by
  simp only [setV, List.foldl_cons, List.foldl_nil]
  apply List.ext_getElem?
  intro j
  by_cases hj : i = j
  · subst hj
    have hlt := (List.getElem?_eq_some_iff.1 h).1
    have hfi : l[i] = f := (List.getElem?_eq_some_iff.1 h).2
    subst hfi
    simp [hlt]
  · simp [hj]
section
variable {Shun : Loc → Prop} {R : Nat} {w W : World} {Q' : (Loc → Prop) → Nat → Goroutine → World → Prop} {G : List Fact} {A : (Nat → Nat) → Option KG} {o : Nat → Nat} {x : KG}
theorem rb_casP {ad c nb : Addr} {i : Nat} {sh : Option (TypeId × Nat)} (hA : At A o x) (hrun : x.g.status = .running) (_hoff : x.g.offers = none)
    (hv : (A o).map (fun x => opAt Try.prog x) = some (some (callFunc 67 #[.pointer (some ad), .pointer (some c), .pointer (some nb)]))) (hf : (A o).map (fun x => x.fs[i]?) = some (some ⟨ad, .pointer (some c), true, sh⟩))
    (hR : R ≤ w.heap.size) (hRS : RS Shun W (G ++ x.fs) w)
    (K : ∀ x' w', At (casA i (.pointer (some nb)) A) o x' → x'.k = x.k → x'.g.status = .running → x'.g.offers = none → R ≤ w'.heap.size → RS Shun W (G ++ x'.fs) w' → Rb Try.prog Shun R x'.g w' Q') : Rb Try.prog Shun R x.g w Q' := by
  have hop := hA.op hv
  rw [hA.here] at hf
  simp only [Option.map_some, Option.some.injEq] at hf
  have hmem : (⟨ad, .pointer (some c), true, sh⟩ : Fact) ∈ x.fs := List.mem_of_getElem? hf
  have hsat := hRS.sat.right
  have hc := hsat.cell _ hmem
  have hz := hsat.wr _ hmem rfl
  have hlt := hsat.lt hmem
  have happ := hRS.clear.apart _ (List.mem_append_right G hmem)
  refine rb_op hrun hop fun n => ⟨.bool true, (w.at n).setCell ad (.pointer (some nb)), ?_, ?_, fun e he => ?_, ?_⟩
  · rw [run_callFunc_extern fn67_is fn67_name fn67_body fn67_next fn67_find, run_casP (w := w.at n) hc hz]; rfl
  · have := (Turn.store (hsat.drawn n) hf rfl (.pointer (some nb))).size
    exact this
  · rw [events_callFunc_extern fn67_is fn67_name fn67_body fn67_next fn67_find, events_casP (w := w.at n) hc hz] at he
    have hs := (Turn.store (hsat.drawn n) hf rfl (.pointer (some nb))).size
    have hB : ad.block < ((w.at n).setCell ad (.pointer (some nb))).heap.size := Nat.lt_of_lt_of_le hlt hs
    have : e = ⟨.mark (.extern 67), false, true⟩ ∨ e = ⟨.cell ad, false, true⟩ ∨ e = ⟨.cell ad, true, true⟩ := by
      rcases Array.mem_push.1 he with he | he
      · rcases Array.mem_push.1 he with he | he
        · rcases Array.mem_push.1 he with he | he
          · simp at he
          · exact .inl he
        · exact .inr (.inl he)
      · exact .inr (.inr he)
    rcases this with rfl | rfl | rfl
    · exact ⟨⟨fun x hx => by simp [MemAct.ofEvent, MemAct.touch?] at hx, by simp, by simp, trivial⟩, by simp⟩
    · refine ⟨⟨fun x hx hs => ?_, by simp, by simp, by rw [ofEvent_cell0]; exact hB⟩, by simp⟩
      rw [ofEvent_cell0] at hx
      simp only [MemAct.touch?, Option.some.injEq] at hx
      subst hx
      exact absurd hs happ
    · refine ⟨⟨fun x hx hs => ?_, by simp, by simp, by rw [ofEvent_cell0]; exact hB⟩, by simp⟩
      rw [ofEvent_cell0] at hx
      simp only [MemAct.touch?, Option.some.injEq] at hx
      subst hx
      exact absurd hs happ
  · have hT := Turn.store (hsat.drawn n) hf rfl (.pointer (some nb))
    have hRS' := (hRS.drawn n).turn hT
    rw [← setV_set hf] at hRS'
    refine K { x with g := run' (x.g.frame.finish (.bool true)) x.g.callers, fs := setV [(i, .pointer (some nb))] x.fs } _ (fun o' ho' => ?_) rfl rfl rfl (Nat.le_trans hR hT.size) hRS'
    have := hA o' ho'
    simp only [casA, this, Option.map_some]
end
end Go.Proofs
