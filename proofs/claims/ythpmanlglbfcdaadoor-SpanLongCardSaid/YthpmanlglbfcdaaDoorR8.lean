/- What every row of this seat needs: the table, the witness, the shapes. -/
import Derived.Test.YthpmanlglbfcdaaDoorW8
import Derived.Test.YthpmanlglbfcdaaDoorVE
import Derived.Test.YthpmanlglbfcdaaDoorCards
import Derived.Test.YthpmanlglbfcdaaDoorTie
import Derived.ProofKit
import Derived.Test.YthpmanlglbfcdaaDoorK8
namespace Go.Proofs.Tryd
set_option linter.unusedSimpArgs false
set_option linter.unusedVariables false
open Go Go.Vs Go.RowKit Go.ChangeShapes Go.ChangeAt
open Go.Proofs.YthpmanlglbfcdaaDoor (Rows.laid_unicode_utf8_acceptRanges Rows.laid_unicode_utf8_first)
theorem table {W : World} (h : laidMetH prog [("unicode/utf8.acceptRanges", Rows.laid_unicode_utf8_acceptRanges), ("unicode/utf8.first", Rows.laid_unicode_utf8_first)] W) : ∀ n xs, prg.gl n = some xs → n < W.heap.size ∧ PRs (fun c => c < W.heap.size) W n 0 xs := by
 intro n xs hx
 cases hx
theorem kids : Kids prog (· < prog.types.size) := kids_rows (by kernel_rfl) (by kernel_rfl)
theorem full : ∀ t e, t < prog.types.size → prog.underlying t = some (.slice e) → 0 < prog.cellsOf e := slices_full_of prog (by kernel_rfl)
theorem own : ownKnob prog.godebug = none := by kernel_rfl
def rngL : List Nat := [128, 191, 160, 191, 128, 159, 144, 191, 128, 143] ++ List.replicate 22 0
def layO (l : List Nat) : Obj → Obj
 | .cells _ t frozen => .cells (l.map fun (z : Nat) => Value.int .u8 (z : Int)).toArray t frozen
 | o => o
noncomputable def laidHeap (h : Array Obj) : Array Obj := (h.modify 1 (layO Go.Pinned.utf8FirstZ)).modify 2 (layO rngL)
noncomputable def laidWorld (os : Os) : World := { World.holding prog os ⟨#[], #[], []⟩ with heap := laidHeap (World.holding prog os ⟨#[], #[], []⟩).heap }
open Go Go.Vs
theorem sh3 : shOfT prog 40 3 = some [.int .i64] := by kernel_rfl
theorem ag3 : aggT prog 3 = some false := by kernel_rfl
set_option maxRecDepth 100000 in
theorem arg3 {a : AV} (h : ∃ ks xs, shOfT prog 40 3 = some ks ∧ FitL ks xs ∧ a = argA prog 3 xs) : ∃ n : Int, a = vi .i64 n := by
 obtain ⟨ks, xs, hk, hf, e⟩ := h
 have h2 := Option.some.inj (sh3.symm.trans hk)
 rw [← h2] at hf
 match xs, hf with
 | [x], hf =>
  simp only [FitL, Fit] at hf
  obtain ⟨⟨n, rfl, _⟩, _⟩ := hf
  refine ⟨n, ?_⟩
  rw [e]
  simp only [argA, ag3]
 | [], hf => simp [FitL] at hf
 | _ :: _ :: _, hf => simp [FitL] at hf
theorem longs (m p : Int) : CP prg 8 [vi .i64 m, vi .i64 p] [] = some (vb true) := (F8_ok 1 m p (law8 1 m p)).cp rfl []
end Go.Proofs.Tryd
