/- AtomsOnce: the way in and the way out of its loop. No conditions beyond those written in the theorems. -/
import Derived.Test.YtebjdfhaglgjiaaKh1
import Derived.Test.YtebjdfhaglgjiaaKmD
import Derived.Test.YtebjdfhaglgjiaaKx24
import Derived.Test.YtebjdfhaglgjiaaKx9
/-! AtomsOnce: its entry, and its way out of the loop -/
set_option maxRecDepth 100000
namespace Go.Proofs
open Go Go.Conc Go.Km

/-! ### the entry -/
noncomputable def En0 (first : Int) (a : Option Addr) (n cap : Nat) : (Nat → Nat) → Option KG := fun _ => some ⟨run' (Frame.enter Try.prog 4 #[.int .u64 first, .slice a n cap] .normal) [], [], 0, [], []⟩
noncomputable def En1 (first : Int) (a : Option Addr) (n cap : Nat) := nextA (segA Try.prog noRel (List.replicate 80 {}) (En0 first a n cap))
theorem kEn (first : Int) (a : Option Addr) (n cap : Nat) (o : Nat → Nat) : ((segA Try.prog noRel (List.replicate 80 {}) (En0 first a n cap) o).isSome, sumL 0 (segA Try.prog noRel (List.replicate 80 {}) (En0 first a n cap) o)) = (true, sumR 0 (segA Try.prog noRel (List.replicate 80 {}) (En0 first a n cap) o)) := by kernel_rfl
theorem zEn (first : Int) (a : Option Addr) (n cap : Nat) (o : Nat → Nat) : (f4A L4 (En1 first a n cap) o, (En1 first a n cap o).map (·.fs)) = (some (true, true, fr4 td_head #[], 266, lv4 ⟨first, a, n, cap, o 0, o 1, o 2, o 3⟩ ⟨false, false, false, 0, 0, 0⟩ 0), some (FM ⟨first, a, n, cap, o 0, o 1, o 2, o 3⟩ ⟨false, false, false, 0, 0, 0⟩ 0 ++ CT ⟨false, false, false, 0, 0, 0⟩ 0)) := by kernel_rfl

/-! ### the way out -/
noncomputable def Ex0 (k : C4) (s : S4) (J : Nat → Value) : (Nat → Nat) → Option KG := fun _ => some ⟨run' (fr4 td_head (tm4 k s k.n J)) [], [], 0, [], []⟩
def hEx1 : List Hint := flat [(6, [], some (.bool false))] 97
noncomputable def Ex1 (k : C4) (s : S4) (J : Nat → Value) := nextA (segA Try.prog noRel hEx1 (Ex0 k s J))
theorem kEx1 (k : C4) (s : S4) (J : Nat → Value) (o : Nat → Nat) : ((segA Try.prog noRel hEx1 (Ex0 k s J) o).isSome, (segA Try.prog noRel hEx1 (Ex0 k s J) o).map fun p => (p.1.owe.map Prod.fst, p.1.oweV, deafBehind 0 p.2)) = (true, (segA Try.prog noRel hEx1 (Ex0 k s J) o).map fun p => (p.1.owe.map Prod.snd, [(.bool (decide (((k.n : Nat) : Int) < ((k.n : Nat) : Int))), .bool false)], 0)) := by kernel_rfl
theorem cEx1 (k : C4) (s : S4) (J : Nat → Value) (o : Nat → Nat) : (topA (Ex1 k s J) o, (Ex1 k s J o).map fun x => (pickF [] x.fs, pickF [] (id x.fs), restF [] (id x.fs))) = (some (Frame.enter Try.prog 24 #[] .normal, false, true), (Ex1 k s J o).map fun x => ([], [], restF [] x.fs)) := by kernel_rfl
noncomputable def Ex2 (k : C4) (s : S4) (J : Nat → Value) := popA (.bool true) id (Ex1 k s J)
noncomputable def Ex3 (k : C4) (s : S4) (J : Nat → Value) := nextA (segA Try.prog noRel (List.replicate 3 {}) (Ex2 k s J))
theorem kEx3 (k : C4) (s : S4) (J : Nat → Value) (o : Nat → Nat) : ((segA Try.prog noRel (List.replicate 3 {}) (Ex2 k s J) o).isSome, (segA Try.prog noRel (List.replicate 3 {}) (Ex2 k s J) o).map fun p => (p.1.owe.map Prod.fst, p.1.oweV, deafBehind 0 p.2)) = (true, (segA Try.prog noRel (List.replicate 3 {}) (Ex2 k s J) o).map fun p => (p.1.owe.map Prod.snd, [(.bool (decide (((k.n : Nat) : Int) < ((k.n : Nat) : Int))), .bool false)], 0)) := by kernel_rfl
theorem tEx3 (k : C4) (s : S4) (J : Nat → Value) (o : Nat → Nat) : topA (Ex3 k s J) o = some (Frame.enter Try.prog 9 #[] .normal, false, true) := by kernel_rfl
noncomputable def Ex4 (k : C4) (s : S4) (J : Nat → Value) := popA (.bool true) id (Ex3 k s J)
/-- the goroutine behind the last steps ahead of the return -/
noncomputable def ExG (k : C4) (s : S4) (J : Nat → Value) (o : Nat → Nat) : Option Goroutine := ((Ex4 k s J o).bind fun x => soloA Try.prog (fun _ => 0) (chkOf true) 4 x.g).map fun p => p.1.g
theorem sEx (k : C4) (s : S4) (J : Nat → Value) (o : Nat → Nat) : ((Ex4 k s J o).bind fun x => soloA Try.prog (fun _ => 0) (chkOf true) 4 x.g).map (fun p => (p.1.k, p.1.owe, p.1.oweV, deafBehind 0 p.2, p.1.g.status)) = some (0, [], [], 0, .running) := by kernel_rfl
theorem eEx (k : C4) (s : S4) (J : Nat → Value) (o : Nat → Nat) (w : World) : (ExG k s J o).map (fun g => stepG Try.prog true g w) = some (.ended (.done (.bool true)) w #[]) := by kernel_rfl

section
variable {R : Nat} {w W : World}
theorem exit_rb (k : C4) (s : S4) (J : Nat → Value) (hR : R ≤ w.heap.size) (hRS : RS S0 W ([] ++ []) w) :
    Rb Try.prog S0 R (run' (fr4 td_head (tm4 k s k.n J)) []) w (EndsWith Try.prog (.bool true) W) := by
  have hA0 : At (Ex0 k s J) (fun _ => 0) ⟨run' (fr4 td_head (tm4 k s k.n J)) [], [], 0, [], []⟩ := fun _ _ => rfl
  refine rbG_segD (G := []) (x := ⟨run' (fr4 td_head (tm4 k s k.n J)) [], [], 0, [], []⟩) hA0 rfl rfl hEx1 hR hRS (fun o => ok_of2 (kEx1 k s J o) (by simp)) fun o1 x1 w1 _ hA1 _ hr1 ho1 hRS1 ht1 => ?_
  have hA1 : At (Ex1 k s J) o1 x1 := hA1
  have hR1 := Nat.le_trans hR ht1.size
  refine rb_call2 (G := []) C_F24 hA1 hr1 ho1 [] id (cEx1 k s J o1) hR1 hRS1 fun x2 w2 hA2 _ hr2 ho2 hR2 hRS2 => ?_
  have hA2 : At (Ex2 k s J) o1 x2 := hA2
  refine rbG_segD (G := []) hA2 hr2 ho2 _ hR2 hRS2 (fun o => ok_of2 (kEx3 k s J o) (by simp)) fun o3 x3 w3 _ hA3 _ hr3 ho3 hRS3 ht3 => ?_
  have hA3 : At (Ex3 k s J) o3 x3 := hA3
  obtain ⟨c, rest, hc, hg⟩ := hA3.top hr3 ho3 (tEx3 k s J o3)
  rw [hg]
  refine works_rb (fun a h => h.elim) hRS3.was fun S' w' hlow hwas _ => ?_
  have hA4 : At (Ex4 k s J) o3 { x3 with g := run' (c.finish (.bool true)) rest, fs := id x3.fs } := hA3.pop hc (.bool true) id
  have hs := sEx k s J o3
  have he := fun w => eEx k s J o3 w
  unfold ExG at he
  rw [hA4.here] at hs he
  simp only [Option.bind_some] at hs he
  cases hk : soloA Try.prog (fun _ => 0) (chkOf true) 4 (run' (c.finish (.bool true)) rest) with
  | none => rw [hk] at hs; simp at hs
  | some p =>
    obtain ⟨y, ev⟩ := p
    rw [hk] at hs
    simp only [Option.map_some, Option.some.injEq, Prod.mk.injEq] at hs
    obtain ⟨e1, e2, e3, e4, e5⟩ := hs
    refine solo_rb (g' := y.g) (orc := fun _ => 0) rfl ⟨y, ev, hk, rfl, e1, e2, e3, e4⟩ fun d => Rb.now ⟨e5, fun d' => ?_, hwas.drawn d⟩
    have := he ((w'.at d).at d')
    rw [hk] at this
    simpa using this
end
end Go.Proofs
