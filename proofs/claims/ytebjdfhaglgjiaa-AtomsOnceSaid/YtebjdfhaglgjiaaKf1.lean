/- AtomsOnce: an element of the script. No conditions beyond those written in the theorems. -/
import Derived.Test.YtebjdfhaglgjiaaKf0
import Derived.Test.YtebjdfhaglgjiaaKy20
/-! AtomsOnce: small things for its cases -/
namespace Go.Proofs
open Go Go.Conc Go.Km

theorem next_eq (f n : Int) : nextV f n = IntKind.u64.wrap (f + n) := by
  unfold nextV fn1 n1
  simp only [IntKind.wrap, IntKind.signed, IntKind.bits, Bool.false_and, Bool.false_eq_true, if_false]
  omega
theorem u32s : Try.prog.underlying 32 = some (.slice (Try.prog.elem 32)) := by kernel_rfl
theorem sz62 (w : World) : (sizeOf (Try.prog.elem 32)).run Try.prog w = .ok 2 w := by kernel_rfl
section
variable {Shun : Loc → Prop} {R : Nat} {w W : World} {Q' : (Loc → Prop) → Nat → Goroutine → World → Prop} {g : Goroutine} {k : C4} {i pb po : Nat} {ps : Option Nat}
theorem rb_idx4 (hrun : g.status = .running) (hv : view Try.prog g = .op (valS (Instr.indexAt 32 (.slice k.a k.n k.cap) (.int .i64 ((i : Nat) : Int))))) (hi : i < k.n) (hp : k.a.map (fun a => a.add (i * 2)) = some ⟨pb, po, ps⟩)
    (K : ∀ d, Rb Try.prog Shun R (run' (g.frame.finish (.pointer (some ⟨pb, po, ps⟩))) g.callers) (w.at d) Q') : Rb Try.prog Shun R g w Q' := by
  obtain ⟨a, ha, hp⟩ := Option.map_eq_some_iff.1 hp
  rw [ha] at hv
  refine rb_index hrun hv u32s sz62 ⟨by omega, by omega⟩ fun d => ?_
  rw [Int.toNat_natCast, hp]
  exact K d
theorem RS.keep3 {A B r : List Fact} (h : RS Shun W ((A ++ r) ++ B) w) : RS Shun W ([] ++ (B ++ A)) w := by
  have h2 : RS Shun W (r ++ (B ++ A)) w := h.perm (by
    rw [List.append_assoc]
    refine (List.perm_append_comm (l₁ := A)).trans ?_
    rw [List.append_assoc])
  exact h2.part
end
end Go.Proofs
