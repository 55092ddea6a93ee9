/- The function nobody returns true. No conditions beyond those written in the theorems. -/
import Derived.Test.YtebjdfhaglgjiaaKmD
import Derived.Test.YtebjdfhaglgjiaaKy20
/-! nobody(): nil receivers -/
namespace Go.Proofs
open Go Go.Conc Go.Km

noncomputable def Nb0 (c : Frame) (rest : List Frame) : (Nat → Nat) → Option KG := fun _ => some ⟨run' (Frame.enter Try.prog 24 #[] .normal) (c :: rest), [], 0, [], []⟩
def hNb1 : List Hint := flat [(23, [0], none), (20, [1], none)] 250
noncomputable def Nb1 (c : Frame) (rest : List Frame) := nextA (segA Try.prog (chkOf true) hNb1 (Nb0 c rest))
theorem kNb1 (c : Frame) (rest : List Frame) (o : Nat → Nat) : ((segA Try.prog (chkOf true) hNb1 (Nb0 c rest) o).isSome, sumL 0 (segA Try.prog (chkOf true) hNb1 (Nb0 c rest) o)) = (true, sumR 0 (segA Try.prog (chkOf true) hNb1 (Nb0 c rest) o)) := by kernel_rfl
theorem cNb1 (c : Frame) (rest : List Frame) (o : Nat → Nat) : (topA (Nb1 c rest) o, (Nb1 c rest o).map fun x => (pickF [5, 6] x.fs, pickF [5, 6] (setV [(6, .int .u64 (n1 0))] x.fs), restF [5, 6] (setV [(6, .int .u64 (n1 0))] x.fs))) = (some (Frame.enter Try.prog 20 #[.pointer (some ⟨o 5, 0, none⟩)] .normal, false, true), (Nb1 c rest o).map fun x => (F0_F20 (o 5) 0 0 (some (95, 2)) (some (95, 2)), [⟨⟨o 5, 0, none⟩, .int .u64 0, true, some (95, 2)⟩, ⟨⟨o 5, 1, none⟩, .int .u64 (n1 0), true, some (95, 2)⟩], restF [5, 6] x.fs)) := by kernel_rfl
noncomputable def Nb2 (c : Frame) (rest : List Frame) := popA (.tuple #[.int .u64 (nextV 0 0), .int .i64 0]) (setV [(6, .int .u64 (n1 0))]) (Nb1 c rest)
def hNb3 : List Hint := flat [(194, [0], none), (94, [6], none)] 14
noncomputable def Nb3 (c : Frame) (rest : List Frame) := nextA (segA Try.prog (chkOf true) hNb3 (Nb2 c rest))
theorem kNb3 (c : Frame) (rest : List Frame) (o : Nat → Nat) : ((segA Try.prog (chkOf true) hNb3 (Nb2 c rest) o).isSome, sumL 0 (segA Try.prog (chkOf true) hNb3 (Nb2 c rest) o)) = (true, sumR 0 (segA Try.prog (chkOf true) hNb3 (Nb2 c rest) o)) := by kernel_rfl
theorem gNb3 (c : Frame) (rest : List Frame) (o : Nat → Nat) : (Nb3 c rest o).map (·.g) = some (run' (c.finish (.bool true)) rest) := by kernel_rfl

theorem C_F24 : CallC Try.prog 24 #[] [] (.bool true) [] := by
  intro Shun R W w Q' G c rest hR hRS K
  refine rbG_seg (G := G) (W := W) (d' := 0) true (A := Nb0 c rest) (orc := fun _ => 0) (x := ⟨run' (Frame.enter Try.prog 24 #[] .normal) (c :: rest), [], 0, [], []⟩) (fun _ _ => rfl) rfl rfl hNb1 hR hRS (fun o => ok_of (kNb1 c rest o)) fun o1 x1 w1 _ hA1 _ hr1 ho1 hRS1 ht1 => ?_
  have hA1 : At (Nb1 c rest) o1 x1 := hA1
  simp only [if_true]
  refine rb_call2 (C_F20 (o1 5) 0 0 (some (95, 2)) (some (95, 2))) hA1 hr1 ho1 [5, 6] (setV [(6, .int .u64 (n1 0))]) (cNb1 c rest o1) (Nat.le_trans hR ht1.size) hRS1 fun x2 w2 hA2 _ hr2 ho2 hR2 hRS2 => ?_
  have hA2 : At (Nb2 c rest) o1 x2 := hA2
  refine rbG_seg (G := G) (W := W) (d' := 0) true hA2 hr2 ho2 hNb3 hR2 hRS2 (fun o => ok_of (kNb3 c rest o)) fun o3 x3 w3 _ hA3 _ hr3 ho3 hRS3 ht3 => ?_
  have hA3 : At (Nb3 c rest) o3 x3 := hA3
  simp only [if_true]
  rw [hA3.gIs (gNb3 c rest o3)]
  exact K w3 (Nat.le_trans hR2 ht3.size) (by rw [List.append_nil]; exact hRS3.init)
end Go.Proofs
