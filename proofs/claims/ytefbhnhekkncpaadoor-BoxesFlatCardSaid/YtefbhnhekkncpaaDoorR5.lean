/- What every row of this seat needs: the table, the witness, the shapes. -/
import Derived.Test.YtefbhnhekkncpaaDoorW5
import Derived.Test.YtefbhnhekkncpaaDoorVE
import Derived.Test.YtefbhnhekkncpaaDoorCards
import Derived.Test.YtefbhnhekkncpaaDoorTie
import Derived.ProofKit
import Derived.Test.YtefbhnhekkncpaaDoorK5
namespace Go.Proofs.Tryd
set_option linter.unusedSimpArgs false
set_option linter.unusedVariables false
open Go Go.Vs Go.RowKit Go.ChangeShapes Go.ChangeAt
open Go.Proofs.YtefbhnhekkncpaaDoor (Rows.laid_unicode_utf8_acceptRanges Rows.laid_unicode_utf8_first)
theorem table {W : World} (h : laidMetH prog [("unicode/utf8.acceptRanges", Rows.laid_unicode_utf8_acceptRanges), ("unicode/utf8.first", Rows.laid_unicode_utf8_first)] W) : ∀ n xs, prg.gl n = some xs → n < W.heap.size ∧ PRs (fun c => c < W.heap.size) W n 0 xs := by
 intro n xs hx
 cases hx
theorem kids : Kids prog (· < prog.types.size) := kids_rows (by kernel_rfl) (by kernel_rfl)
theorem full : ∀ t e, t < prog.types.size → prog.underlying t = some (.slice e) → 0 < prog.cellsOf e := slices_full_of prog (by kernel_rfl)
theorem own : ownKnob prog.godebug = none := by kernel_rfl
def rngL : List Nat := [128, 191, 160, 191, 128, 159, 144, 191, 128, 143] ++ List.replicate 22 0
def layO (l : List Nat) : Obj → Obj
 | .cells _ t frozen => .cells (l.map fun (z : Nat) => Value.int .u8 (z : Int)).toArray t frozen
 | o => o
noncomputable def FG (h : Array Obj) : Array Obj := (h.modify 0 (layO Go.Pinned.utf8FirstZ)).modify 1 (layO rngL)
noncomputable def laidWorld (os : Os) : World := { World.holding prog os ⟨#[], #[], []⟩ with heap := FG (World.holding prog os ⟨#[], #[], []⟩).heap }
open Go Go.Vs
noncomputable def tys : List TypeId := clos prog 200 [24, 3] []
theorem st28 : stT prog 28 = some [26, 9, 3, 24] := by kernel_rfl
theorem in3 : inT prog 3 = some .i64 := by kernel_rfl
theorem in26 : inT prog 26 = some .i64 := by kernel_rfl
theorem str9 : strT prog 9 = true := by kernel_rfl
theorem sl24 : slT prog 24 = some (28, 4) := by kernel_rfl
theorem EF : ∀ (N n : Nat) (xs : List PV), n < N → FitT prog n 28 xs → ∃ b, xs = cBx b ∧ Bd b
 | 0, _, _, h, _ => by omega
 | N + 1, n, xs, h, hx => by
  obtain ⟨m, rfl, a, b, rfl, h1, c, d, rfl, h2, e, f, rfl, h3, g, i, rfl, h4, rfl⟩ := Di st28 hx
  obtain ⟨k, rfl, _⟩ := Mz in26 h1
  obtain ⟨t, rfl, ht⟩ := GX str9 h2
  obtain ⟨z, rfl, _⟩ := Mz in3 h3
  obtain ⟨m', rows, rfl, rfl, _, hr⟩ := I4 sl24 h4
  obtain ⟨l, rfl, hl⟩ := PH (e := cBx) (Q := Bd) (fun r hrr => EF N m' r (by omega) (hr r hrr))
  refine ⟨.mk k t z l, ?_, .mk (Nat.le_trans ht (by decide)) hl⟩
  show _ = [PV.val (.int .i64 k), PV.val (.string t), PV.val (.int .i64 z), PV.lst 4 (Zb l)]
  rw [Zv]
  rfl
theorem ag24 : aggT prog 24 = some false := by kernel_rfl
set_option maxRecDepth 100000 in
theorem arg24 {a : AV} (h : ∃ n xs, FitT prog n 24 xs ∧ a = argA prog 24 xs) : ∃ l : List BoxD, a = .p (.lst 4 (Zb l)) ∧ ∀ x ∈ l, Bd x := by
 obtain ⟨n, xs, hf, e⟩ := h
 obtain ⟨m, rows, rfl, rfl, _, hr⟩ := I4 sl24 hf
 obtain ⟨l, rfl, hl⟩ := PH (e := cBx) (Q := Bd) (fun r hrr => EF (m + 1) m r (by omega) (hr r hrr))
 refine ⟨l, ?_, hl⟩
 rw [e, Zv]
 simp only [argA, ag24]
theorem ag3 : aggT prog 3 = some false := by kernel_rfl
theorem arg3 {a : AV} (h : ∃ n xs, FitT prog n 3 xs ∧ a = argA prog 3 xs) : ∃ n : Int, a = vi .i64 n := by
 obtain ⟨n, xs, hf, e⟩ := h
 obtain ⟨z, rfl, _⟩ := Mz in3 hf
 refine ⟨z, ?_⟩
 rw [e]
 simp only [argA, ag3]
theorem flats_ (l : List BoxD) (m : Int) (hb : ∀ x ∈ l, Bd x) : CP prg 5 [.p (.lst 4 (Zb l)), vi .i64 m] [] = some (vb true) :=
 (CH 5000 l m (law5 l hb m)).cp rfl []
end Go.Proofs.Tryd
