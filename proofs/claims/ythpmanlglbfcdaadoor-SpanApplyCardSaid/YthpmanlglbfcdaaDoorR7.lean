/- What every row of this seat needs: the table, the witness, the shapes. -/
import Derived.Test.YthpmanlglbfcdaaDoorW7
import Derived.Test.YthpmanlglbfcdaaDoorVE
import Derived.Test.YthpmanlglbfcdaaDoorCards
import Derived.Test.YthpmanlglbfcdaaDoorTie
import Derived.ProofKit
import Derived.Test.YthpmanlglbfcdaaDoorK7
namespace Go.Proofs.Tryd
set_option linter.unusedSimpArgs false
set_option linter.unusedVariables false
open Go Go.Vs Go.RowKit Go.ChangeShapes Go.ChangeAt
open Go.Proofs.YthpmanlglbfcdaaDoor (Rows.laid_unicode_utf8_acceptRanges Rows.laid_unicode_utf8_first)
theorem table {W : World} (h : laidMetH prog [("unicode/utf8.acceptRanges", Rows.laid_unicode_utf8_acceptRanges), ("unicode/utf8.first", Rows.laid_unicode_utf8_first)] W) : ∀ n xs, prg.gl n = some xs → n < W.heap.size ∧ PRs (fun c => c < W.heap.size) W n 0 xs := by
 intro n xs hx
 cases hx
theorem kids : Kids prog (· < prog.types.size) := kids_rows (by kernel_rfl) (by kernel_rfl)
theorem full : ∀ t e, t < prog.types.size → prog.underlying t = some (.slice e) → 0 < prog.cellsOf e := slices_full_of prog (by kernel_rfl)
theorem own : ownKnob prog.godebug = none := by kernel_rfl
def rngL : List Nat := [128, 191, 160, 191, 128, 159, 144, 191, 128, 143] ++ List.replicate 22 0
def layO (l : List Nat) : Obj → Obj
 | .cells _ t frozen => .cells (l.map fun (z : Nat) => Value.int .u8 (z : Int)).toArray t frozen
 | o => o
noncomputable def laidHeap (h : Array Obj) : Array Obj := (h.modify 1 (layO Go.Pinned.utf8FirstZ)).modify 2 (layO rngL)
noncomputable def laidWorld (os : Os) : World := { World.holding prog os ⟨#[], #[], []⟩ with heap := laidHeap (World.holding prog os ⟨#[], #[], []⟩).heap }
open Go Go.Vs
theorem sh9 : shOfT prog 40 9 = some [.str] := by kernel_rfl
theorem ag9 : aggT prog 9 = some false := by kernel_rfl
set_option maxRecDepth 100000 in
theorem arg9 {a : AV} (h : ∃ ks xs, shOfT prog 40 9 = some ks ∧ FitL ks xs ∧ a = argA prog 9 xs) : ∃ s : ByteArray, a = vs s := by
 obtain ⟨ks, xs, hk, hf, e⟩ := h
 have h2 := Option.some.inj (sh9.symm.trans hk)
 rw [← h2] at hf
 match xs, hf with
 | [x], hf =>
  simp only [FitL, Fit] at hf
  obtain ⟨⟨s, rfl, _⟩, _⟩ := hf
  refine ⟨s, ?_⟩
  rw [e]
  simp only [argA, ag9]
 | [], hf => simp [FitL] at hf
 | _ :: _ :: _, hf => simp [FitL] at hf
theorem rows_of {α : Type} (e : α → List PV) (Q : α → Prop) : ∀ {rows : List (List PV)}, (∀ r ∈ rows, ∃ v, r = e v ∧ Q v) → ∃ l : List α, rows = l.map e ∧ ∀ v ∈ l, Q v
 | [], _ => ⟨[], rfl, by simp⟩
 | r :: rows, h => by
  obtain ⟨l, hl, hq⟩ := rows_of e Q (rows := rows) (fun q hq => h q (List.mem_cons_of_mem _ hq))
  obtain ⟨v, hv, hqv⟩ := h r (List.mem_cons_self ..)
  refine ⟨v :: l, by rw [hv, hl]; rfl, ?_⟩
  intro z hz
  rcases List.mem_cons.1 hz with rfl | hz
  ·exact hqv
  ·exact hq z hz
theorem edit_row {r : List PV} (h : FitL [.int .i64, .int .i64, .str] r) : ∃ e, r = eEdit e ∧ True := by
 match r, h with
 | [x0, x1, x2], h =>
  simp only [FitL, Fit] at h
  obtain ⟨⟨n0, rfl, _⟩, ⟨n1, rfl, _⟩, ⟨s, rfl, _⟩, _⟩ := h
  exact ⟨⟨n0, n1, s⟩, rfl, trivial⟩
 | [], h => simp [FitL] at h
 | [_], h => simp [FitL] at h
 | [_, _], h => simp [FitL] at h
 | _ :: _ :: _ :: _ :: _, h => simp [FitL] at h
theorem sh40 : shOfT prog 40 40 = some [.sl 3 [.int .i64, .int .i64, .str]] := by kernel_rfl
theorem ag40 : aggT prog 40 = some false := by kernel_rfl
set_option maxRecDepth 100000 in
theorem arg40 {a : AV} (h : ∃ ks xs, shOfT prog 40 40 = some ks ∧ FitL ks xs ∧ a = argA prog 40 xs) : ∃ l : List EditD, a = .p (.lst 3 (l.map eEdit)) := by
 obtain ⟨ks, xs, hk, hf, e⟩ := h
 have h2 := Option.some.inj (sh40.symm.trans hk)
 rw [← h2] at hf
 match xs, hf with
 | [x], hf =>
  simp only [FitL, Fit] at hf
  obtain ⟨⟨rows, rfl, _, hrows⟩, _⟩ := hf
  obtain ⟨l, rfl, _⟩ := rows_of eEdit (fun _ => True) (fun r hr => edit_row (hrows r hr))
  refine ⟨l, ?_⟩
  rw [e]
  simp only [argA, ag40]
 | [], hf => simp [FitL] at hf
 | _ :: _ :: _, hf => simp [FitL] at hf
theorem applied (a : ByteArray) (l : List EditD) : CP prg 7 [vs a, .p (.lst 3 (l.map eEdit))] [] = some (vb true) := (F7_ok 1 a l (law7 1 a l)).cp rfl []
end Go.Proofs.Tryd
