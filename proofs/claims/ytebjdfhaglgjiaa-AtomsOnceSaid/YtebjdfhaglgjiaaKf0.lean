/- AtomsOnce: the frame at the head of its loop, and what is held there. No conditions beyond those written in the theorems. -/
import Derived.Test.YtebjdfhaglgjiaaKwB
import Derived.Test.YtebjdfhaglgjiaaKmD
/-! printed by genf0.py: AtomsOnce (F4): the frame at its loop's head, at a case, behind the cases; what is held there -/
namespace Go.Proofs
open Go Go.Conc Go.Km

structure C4 where
  first : Int
  a : Option Addr
  n : Nat
  cap : Nat
  bF : Nat
  bO : Nat
  bB : Nat
  bT : Nat
structure S4 where
  set : Bool
  done : Bool
  full : Bool
  kept : Int
  inn : Int
  given : Int
def ptr (b : Nat) : Value := .pointer (some ⟨b, 0, none⟩)
def S0 : Loc → Prop := fun _ => False
def tm4 (k : C4) (s : S4) (i : Nat) (J : Nat → Value) : Array Value := #[.int .u64 k.first, .slice k.a k.n k.cap, J 2, J 3, .bool false, ptr k.bF, ptr k.bO, ptr k.bB, ptr k.bT, .bool s.set, .bool s.done, .int .u64 s.kept, .bool s.full, .int .u64 s.inn, .int .u64 s.given, .int .i64 ((i : Nat) : Int), J 16, J 17, J 18, J 19, J 20, J 21, J 22, J 23, J 24, J 25, J 26, J 27, J 28, J 29, J 30, J 31, J 32, J 33, J 34, J 35, J 36, J 37, J 38, J 39, J 40, J 41, J 42, J 43, J 44, J 45, J 46, J 47, J 48, J 49, J 50, J 51, J 52, J 53, J 54, J 55, J 56, J 57, J 58, J 59, J 60, J 61, J 62, J 63, J 64, J 65, J 66, J 67, J 68, J 69, J 70, J 71, J 72, J 73, J 74, J 75, J 76, J 77, J 78, J 79, J 80, J 81, J 82, J 83, J 84, J 85, J 86, J 87, J 88, J 89, J 90, J 91, J 92, J 93, J 94, J 95, J 96, J 97, J 98, J 99, J 100, J 101, J 102, J 103, J 104, J 105, J 106, J 107, J 108, J 109, J 110, J 111, J 112, J 113, J 114, J 115, J 116, J 117, J 118, J 119, J 120, J 121, J 122, J 123, J 124, J 125, J 126, J 127, J 128, J 129, J 130, J 131, J 132, J 133, J 134, J 135, J 136, J 137, J 138, J 139, J 140, J 141, J 142, J 143, J 144, J 145, J 146, J 147, J 148, J 149, J 150, J 151, J 152, J 153, J 154, J 155, J 156, J 157, J 158, J 159, J 160, J 161, J 162, J 163, J 164, J 165, J 166, J 167, J 168, J 169, J 170, J 171, J 172, J 173, J 174, J 175, J 176, J 177, J 178, J 179, J 180, J 181, J 182, J 183, J 184, J 185, J 186, J 187, J 188, J 189, J 190, J 191, J 192, J 193, J 194, J 195, J 196, J 197, J 198, J 199, J 200, J 201, J 202, J 203, J 204, J 205, J 206, J 207, J 208, J 209, J 210, J 211, J 212, J 213, J 214, J 215, J 216, J 217, J 218, J 219, J 220, J 221, J 222, J 223, J 224, J 225, J 226, J 227, J 228, J 229, J 230, J 231, J 232, J 233, J 234, J 235, J 236, J 237, J 238, J 239, J 240, J 241, J 242, J 243, J 244, J 245, J 246, J 247, J 248, J 249, J 250, J 251, J 252, J 253, J 254, J 255, J 256, J 257, J 258, J 259, J 260, J 261, J 262, J 263, J 264, J 265]
def tm4c (k : C4) (s : S4) (i : Nat) (J : Nat → Value) (wb : Nat) (kv : Int) : Array Value := #[.int .u64 k.first, .slice k.a k.n k.cap, J 2, J 3, .bool false, ptr k.bF, ptr k.bO, ptr k.bB, ptr k.bT, .bool s.set, .bool s.done, .int .u64 s.kept, .bool s.full, .int .u64 s.inn, .int .u64 s.given, .int .i64 ((i : Nat) : Int), ptr wb, J 17, J 18, J 19, J 20, J 21, J 22, J 23, J 24, J 25, J 26, J 27, J 28, J 29, J 30, J 31, J 32, J 33, J 34, J 35, J 36, J 37, J 38, J 39, J 40, J 41, J 42, J 43, J 44, J 45, J 46, J 47, J 48, J 49, J 50, J 51, J 52, J 53, J 54, J 55, J 56, J 57, J 58, J 59, J 60, J 61, .int .i64 kv, J 63, J 64, J 65, J 66, J 67, J 68, J 69, J 70, J 71, J 72, J 73, J 74, J 75, J 76, J 77, J 78, J 79, J 80, J 81, J 82, J 83, J 84, J 85, J 86, J 87, J 88, J 89, J 90, J 91, J 92, J 93, J 94, J 95, J 96, J 97, J 98, J 99, J 100, J 101, J 102, J 103, J 104, J 105, J 106, J 107, J 108, J 109, J 110, J 111, J 112, J 113, J 114, J 115, J 116, J 117, J 118, J 119, J 120, J 121, J 122, J 123, J 124, J 125, J 126, J 127, J 128, J 129, J 130, J 131, J 132, J 133, J 134, J 135, J 136, J 137, J 138, J 139, J 140, J 141, J 142, J 143, J 144, J 145, J 146, J 147, J 148, J 149, J 150, J 151, J 152, J 153, J 154, J 155, J 156, J 157, J 158, J 159, J 160, J 161, J 162, J 163, J 164, J 165, J 166, J 167, J 168, J 169, J 170, J 171, J 172, J 173, J 174, J 175, J 176, J 177, J 178, J 179, J 180, J 181, J 182, J 183, J 184, J 185, J 186, J 187, J 188, J 189, J 190, J 191, J 192, J 193, J 194, J 195, J 196, J 197, J 198, J 199, J 200, J 201, J 202, J 203, J 204, J 205, J 206, J 207, J 208, J 209, J 210, J 211, J 212, J 213, J 214, J 215, J 216, J 217, J 218, J 219, J 220, J 221, J 222, J 223, J 224, J 225, J 226, J 227, J 228, J 229, J 230, J 231, J 232, J 233, J 234, J 235, J 236, J 237, J 238, J 239, J 240, J 241, J 242, J 243, J 244, J 245, J 246, J 247, J 248, J 249, J 250, J 251, J 252, J 253, J 254, J 255, J 256, J 257, J 258, J 259, J 260, J 261, J 262, J 263, J 264, J 265]
def fr4 (td : List Item) (t : Array Value) : Frame := { fn := 4, tmps := t, todo := td, defers := [], mode := .run, kind := .normal }
def lv4 (k : C4) (s : S4) (i : Nat) : List Value := [.int .u64 k.first, .slice k.a k.n k.cap, .bool false, ptr k.bF, ptr k.bO, ptr k.bB, ptr k.bT, .bool s.set, .bool s.done, .int .u64 s.kept, .bool s.full, .int .u64 s.inn, .int .u64 s.given, .int .i64 ((i : Nat) : Int)]
def L4 : List Nat := [0, 1, 4, 5, 6, 7, 8, 9, 10, 11, 12, 13, 14, 15]
def lv4c (k : C4) (s : S4) (i : Nat) (wb : Nat) (kv : Int) : List Value := [.int .u64 k.first, .slice k.a k.n k.cap, .bool false, ptr k.bF, ptr k.bO, ptr k.bB, ptr k.bT, .bool s.set, .bool s.done, .int .u64 s.kept, .bool s.full, .int .u64 s.inn, .int .u64 s.given, .int .i64 ((i : Nat) : Int), ptr wb, .int .i64 kv]
def L4c : List Nat := [0, 1, 4, 5, 6, 7, 8, 9, 10, 11, 12, 13, 14, 15, 16, 62]

theorem range266 (f : Nat → Value) : (List.range 266).map f = [f 0, f 1, f 2, f 3, f 4, f 5, f 6, f 7, f 8, f 9, f 10, f 11, f 12, f 13, f 14, f 15, f 16, f 17, f 18, f 19, f 20, f 21, f 22, f 23, f 24, f 25, f 26, f 27, f 28, f 29, f 30, f 31, f 32, f 33, f 34, f 35, f 36, f 37, f 38, f 39, f 40, f 41, f 42, f 43, f 44, f 45, f 46, f 47, f 48, f 49, f 50, f 51, f 52, f 53, f 54, f 55, f 56, f 57, f 58, f 59, f 60, f 61, f 62, f 63, f 64, f 65, f 66, f 67, f 68, f 69, f 70, f 71, f 72, f 73, f 74, f 75, f 76, f 77, f 78, f 79, f 80, f 81, f 82, f 83, f 84, f 85, f 86, f 87, f 88, f 89, f 90, f 91, f 92, f 93, f 94, f 95, f 96, f 97, f 98, f 99, f 100, f 101, f 102, f 103, f 104, f 105, f 106, f 107, f 108, f 109, f 110, f 111, f 112, f 113, f 114, f 115, f 116, f 117, f 118, f 119, f 120, f 121, f 122, f 123, f 124, f 125, f 126, f 127, f 128, f 129, f 130, f 131, f 132, f 133, f 134, f 135, f 136, f 137, f 138, f 139, f 140, f 141, f 142, f 143, f 144, f 145, f 146, f 147, f 148, f 149, f 150, f 151, f 152, f 153, f 154, f 155, f 156, f 157, f 158, f 159, f 160, f 161, f 162, f 163, f 164, f 165, f 166, f 167, f 168, f 169, f 170, f 171, f 172, f 173, f 174, f 175, f 176, f 177, f 178, f 179, f 180, f 181, f 182, f 183, f 184, f 185, f 186, f 187, f 188, f 189, f 190, f 191, f 192, f 193, f 194, f 195, f 196, f 197, f 198, f 199, f 200, f 201, f 202, f 203, f 204, f 205, f 206, f 207, f 208, f 209, f 210, f 211, f 212, f 213, f 214, f 215, f 216, f 217, f 218, f 219, f 220, f 221, f 222, f 223, f 224, f 225, f 226, f 227, f 228, f 229, f 230, f 231, f 232, f 233, f 234, f 235, f 236, f 237, f 238, f 239, f 240, f 241, f 242, f 243, f 244, f 245, f 246, f 247, f 248, f 249, f 250, f 251, f 252, f 253, f 254, f 255, f 256, f 257, f 258, f 259, f 260, f 261, f 262, f 263, f 264, f 265] := by kernel_rfl
theorem arr_list (t : Array Value) (n : Nat) (h : t.size = n) : t.toList = (List.range n).map fun j => t.getD j undef := by
  apply List.ext_getElem
  · simp [h]
  · intro j h1 h2
    have hj : j < t.size := by simpa using h1
    simp [Array.getD, hj]
set_option maxRecDepth 100000 in
theorem tm_of {k : C4} {s : S4} {i : Nat} {t : Array Value} (hs : t.size = 266) (hl : L4.map (fun j => t.getD j undef) = lv4 k s i) : ∃ J, t = tm4 k s i J := by
  refine ⟨fun j => t.getD j undef, ?_⟩
  have e := arr_list t 266 hs
  rw [range266] at e
  simp only [L4, lv4, List.map_cons, List.map_nil, List.cons.injEq, and_true] at hl
  obtain ⟨h0, h1, h4, h5, h6, h7, h8, h9, h10, h11, h12, h13, h14, h15⟩ := hl
  rw [h0, h1, h4, h5, h6, h7, h8, h9, h10, h11, h12, h13, h14, h15] at e
  rw [← Array.toArray_toList (xs := t), e]
  rfl
set_option maxRecDepth 100000 in
theorem tm_of_c {k : C4} {s : S4} {i wb : Nat} {kv : Int} {t : Array Value} (hs : t.size = 266) (hl : L4c.map (fun j => t.getD j undef) = lv4c k s i wb kv) : ∃ J, t = tm4c k s i J wb kv := by
  refine ⟨fun j => t.getD j undef, ?_⟩
  have e := arr_list t 266 hs
  rw [range266] at e
  simp only [L4c, lv4c, List.map_cons, List.map_nil, List.cons.injEq, and_true] at hl
  obtain ⟨h0, h1, h4, h5, h6, h7, h8, h9, h10, h11, h12, h13, h14, h15, h16, h62⟩ := hl
  rw [h0, h1, h4, h5, h6, h7, h8, h9, h10, h11, h12, h13, h14, h15, h16, h62] at e
  rw [← Array.toArray_toList (xs := t), e]
  rfl

/-- a run, for the items that are to come -/
def tdF : List Fact := [⟨⟨3, 0, none⟩, .int .i64 99, false, none⟩, ⟨⟨3, 1, none⟩, .int .u64 5, false, none⟩]
noncomputable def tdK0 : KG := ⟨run' (Frame.enter Try.prog 4 #[.int .u64 7, .slice (some ⟨3, 0, none⟩) 1 1] .normal) [], tdF, 0, [], []⟩
noncomputable def tdK1 : Option KG := (krunL Try.prog (fun i => i + 100) noRel (List.replicate 80 {}) tdK0 #[]).map (·.1)
noncomputable def tdK2 : Option KG := tdK1.bind fun x => (krunL Try.prog (fun i => i + 100) noRel (flat [(18, [1], none), (1, [11], none), (8, [0], none)] 2) x #[]).map (·.1)
noncomputable def tdK3 : Option KG := tdK2.bind fun x => (krunL Try.prog (fun i => i + 100) noRel (List.replicate 56 {}) x #[]).map (·.1)
noncomputable def tdOf (x : Option KG) : List Item := (x.map fun x => x.g.frame.todo).getD []
noncomputable def td_head : List Item := tdOf tdK1
noncomputable def td_case : List Item := tdOf tdK2
noncomputable def td_tail : List Item := tdOf tdK3

def b2i (b : Bool) : Int := cond b 1 0
/-- the cells of the flag, the once, the box, the tickets -/
def FM (k : C4) (s : S4) (bc : Nat) : List Fact := [⟨⟨k.bF, 0, none⟩, .int .u32 (b2i s.set), true, some (40, 1)⟩, ⟨⟨k.bO, 0, none⟩, .int .u32 (b2i s.done), true, some (50, 5)⟩, ⟨⟨k.bO, 1, none⟩, .int .i32 0, true, some (50, 5)⟩, ⟨⟨k.bO, 2, none⟩, .int .u32 0, true, some (50, 5)⟩, ⟨⟨k.bO, 3, none⟩, .int .u32 (b2i s.done), true, some (50, 5)⟩, ⟨⟨k.bO, 4, none⟩, .int .u64 s.kept, true, some (50, 5)⟩, ⟨⟨k.bB, 0, none⟩, .pointer (cond s.full (some ⟨bc, 0, none⟩) none), true, some (58, 1)⟩, ⟨⟨k.bT, 0, none⟩, .int .u64 k.first, true, some (95, 2)⟩, ⟨⟨k.bT, 1, none⟩, .int .u64 s.given, true, some (95, 2)⟩]
def CT (s : S4) (bc : Nat) : List Fact := cond s.full [⟨⟨bc, 0, none⟩, .int .u64 s.inn, true, some (30, 1)⟩] []
def FS (pb po : Nat) (ps : Option Nat) (kv wv : Int) : List Fact := [⟨⟨pb, po, ps⟩, .int .i64 kv, false, none⟩, ⟨⟨pb, po + 1, none⟩, .int .u64 wv, false, none⟩]
def FW (wb : Nat) (wv : Int) : List Fact := [⟨⟨wb, 0, none⟩, .int .u64 wv, true, some (30, 1)⟩]
/-- what a stage at F4 itself is, but for its temporaries -/
def f4A (L : List Nat) (A : (Nat → Nat) → Option KG) (o : Nat → Nat) := (A o).map fun x => (x.g.callers.isEmpty, x.g.dying.isNone, { x.g.frame with tmps := #[] }, x.g.frame.tmps.size, L.map fun j => x.g.frame.tmps.getD j undef)

theorem f4At {A : (Nat → Nat) → Option KG} {o : Nat → Nat} {x : KG} (hA : At A o x) (hrun : x.g.status = .running) (hoff : x.g.offers = none) {L : List Nat} {td : List Item} {l : List Value} (h : f4A L A o = some (true, true, fr4 td #[], 266, l)) :
    x.g = run' (fr4 td x.g.frame.tmps) [] ∧ x.g.frame.tmps.size = 266 ∧ L.map (fun j => x.g.frame.tmps.getD j undef) = l := by
  unfold f4A at h
  rw [hA.here] at h
  simp only [Option.map_some, Option.some.injEq, Prod.mk.injEq] at h
  obtain ⟨h1, h2, h3, h4, h5⟩ := h
  refine ⟨?_, h4, h5⟩
  obtain ⟨⟨⟨fn, tmps, todo, defers, mode, kind, roundOf⟩, cs, st, dy, off⟩, fs, k, ow, owV⟩ := x
  simp only [fr4, Frame.mk.injEq, true_and] at h1 h2 h3 hrun hoff ⊢
  obtain ⟨rfl, rfl, rfl, rfl, rfl, rfl⟩ := h3
  subst hrun hoff
  cases cs with
  | cons c r => simp at h1
  | nil => cases dy with
    | some d => simp at h2
    | none => rfl

/-- a case of the switch -/
def CaseC (s s' : S4) (kv wv : Int) : Prop :=
  ∀ (k : C4) (R : Nat) (W w : World) (Q' : (Loc → Prop) → Nat → Goroutine → World → Prop) (J : Nat → Value) (i wb bc pb po : Nat) (ps : Option Nat), R ≤ w.heap.size → i < k.n →
    k.a.map (fun a => a.add (i * 2)) = some ⟨pb, po, ps⟩ →
    RS S0 W (CT s bc ++ (FM k s bc ++ FS pb po ps kv wv ++ FW wb wv)) w →
    (∀ J' bc' w', R ≤ w'.heap.size → RS S0 W ([] ++ (FM k s' bc' ++ CT s' bc')) w' → Rb Try.prog S0 R (run' (fr4 td_tail (tm4 k s' i J')) []) w' Q') →
    Rb Try.prog S0 R (run' (fr4 td_case (tm4c k s i J wb kv)) []) w Q'
end Go.Proofs
