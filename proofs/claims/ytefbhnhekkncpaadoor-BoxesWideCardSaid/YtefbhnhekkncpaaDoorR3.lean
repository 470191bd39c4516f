/- What every row of this seat needs: the table, the witness, the shapes. -/
import Derived.Test.YtefbhnhekkncpaaDoorW3
import Derived.Test.YtefbhnhekkncpaaDoorVE
import Derived.Test.YtefbhnhekkncpaaDoorCards
import Derived.Test.YtefbhnhekkncpaaDoorTie
import Derived.ProofKit
import Derived.Test.YtefbhnhekkncpaaDoorK3
namespace Go.Proofs.Tryd
set_option linter.unusedSimpArgs false
set_option linter.unusedVariables false
open Go Go.Vs Go.RowKit Go.ChangeShapes Go.ChangeAt
open Go.Proofs.YtefbhnhekkncpaaDoor (Rows.laid_unicode_utf8_acceptRanges Rows.laid_unicode_utf8_first)
theorem table {W : World} (h : laidMetH prog [("unicode/utf8.acceptRanges", Rows.laid_unicode_utf8_acceptRanges), ("unicode/utf8.first", Rows.laid_unicode_utf8_first)] W) : ∀ n xs, prg.gl n = some xs → n < W.heap.size ∧ PRs (fun c => c < W.heap.size) W n 0 xs := by
 intro n xs hx
 cases hx
theorem kids : Kids prog (· < prog.types.size) := kids_rows (by kernel_rfl) (by kernel_rfl)
theorem full : ∀ t e, t < prog.types.size → prog.underlying t = some (.slice e) → 0 < prog.cellsOf e := slices_full_of prog (by kernel_rfl)
theorem own : ownKnob prog.godebug = none := by kernel_rfl
def rngL : List Nat := [128, 191, 160, 191, 128, 159, 144, 191, 128, 143] ++ List.replicate 22 0
def layO (l : List Nat) : Obj → Obj
 | .cells _ t frozen => .cells (l.map fun (z : Nat) => Value.int .u8 (z : Int)).toArray t frozen
 | o => o
noncomputable def FI (h : Array Obj) : Array Obj := (h.modify 0 (layO Go.Pinned.utf8FirstZ)).modify 1 (layO rngL)
noncomputable def laidWorld (os : Os) : World := { World.holding prog os ⟨#[], #[], []⟩ with heap := FI (World.holding prog os ⟨#[], #[], []⟩).heap }
open Go Go.Vs
noncomputable def tys : List TypeId := clos prog 200 [22, 3] []
theorem in3 : inT prog 3 = some .i64 := by kernel_rfl
theorem str9 : strT prog 9 = true := by kernel_rfl
theorem sl22 : slT prog 22 = some (9, 1) := by kernel_rfl
theorem ag22 : aggT prog 22 = some false := by kernel_rfl
set_option maxRecDepth 100000 in
theorem arg22 {a : AV} (h : ∃ n xs, FitT prog n 22 xs ∧ a = argA prog 22 xs) : ∃ l : List ByteArray, a = .p (.lst 1 (l.map eStr)) := by
 obtain ⟨n, xs, hf, e⟩ := h
 obtain ⟨m, rows, rfl, rfl, _, hr⟩ := Dk sl22 hf
 obtain ⟨l, rfl, hl⟩ := L3 (e := eStr) (Q := fun _ => True) (fun r hrr => by
  obtain ⟨t, rfl, _⟩ := GZ str9 (hr r hrr)
  exact ⟨t, rfl, trivial⟩)
 refine ⟨l, ?_⟩
 rw [e]
 simp only [argA, ag22]
theorem ag3 : aggT prog 3 = some false := by kernel_rfl
theorem arg3 {a : AV} (h : ∃ n xs, FitT prog n 3 xs ∧ a = argA prog 3 xs) : ∃ n : Int, a = vi .i64 n := by
 obtain ⟨n, xs, hf, e⟩ := h
 obtain ⟨z, rfl, _⟩ := Dj in3 hf
 refine ⟨z, ?_⟩
 rw [e]
 simp only [argA, ag3]
theorem wides (l : List ByteArray) (m : Int) : CP prg 3 [.p (.lst 1 (l.map eStr)), vi .i64 m] [] = some (vb true) :=
 (CH 5000 l m (law3 l m)).cp rfl []
end Go.Proofs.Tryd
