/- What every row of this seat needs. -/
import Derived.Test.YtefbhnhekkncpaaW4
import Derived.Test.YtefbhnhekkncpaaVE
import Derived.Test.YtefbhnhekkncpaaRows
import Derived.ProofKit
import Derived.Test.YtefbhnhekkncpaaK4
namespace Go.Proofs.Try
set_option linter.unusedSimpArgs false
set_option linter.unusedVariables false
open Go Go.Vs Go.RowKit Go.ChangeShapes Go.ChangeAt
theorem table {W : World} (h : laidMetH prog [] W) : ∀ n xs, prg.gl n = some xs → n < W.heap.size ∧ PRs (fun c => c < W.heap.size) W n 0 xs := by
 intro n xs hx
 cases hx
theorem kids : Kids prog (· < prog.types.size) := kids_rows (by kernel_rfl) (by kernel_rfl)
theorem full : ∀ t e, t < prog.types.size → prog.underlying t = some (.slice e) → 0 < prog.cellsOf e := slices_full_of prog (by kernel_rfl)
theorem own : ownKnob prog.godebug = none := by kernel_rfl
noncomputable def laidWorld (os : Os) : World := World.holding prog os ⟨#[], #[], []⟩
open Go Go.Vs
noncomputable def tys : List TypeId := clos prog 200 [23, 3] []
theorem st25 : stT prog 25 = some [22, 9, 3, 23] := by kernel_rfl
theorem in3 : inT prog 3 = some .i64 := by kernel_rfl
theorem in22 : inT prog 22 = some .i64 := by kernel_rfl
theorem str9 : strT prog 9 = true := by kernel_rfl
theorem sl23 : slT prog 23 = some (25, 4) := by kernel_rfl
theorem Fq : ∀ (N n : Nat) (xs : List PV), n < N → FitT prog n 25 xs → ∃ b, xs = cBx b ∧ Bd b
 | 0, _, _, h, _ => by omega
 | N + 1, n, xs, h, hx => by
  obtain ⟨m, rfl, a, b, rfl, h1, c, d, rfl, h2, e, f, rfl, h3, g, i, rfl, h4, rfl⟩ := Eb st25 hx
  obtain ⟨k, rfl, _⟩ := N4 in22 h1
  obtain ⟨t, rfl, ht⟩ := HP str9 h2
  obtain ⟨z, rfl, _⟩ := N4 in3 h3
  obtain ⟨m', rows, rfl, rfl, _, hr⟩ := Ic sl23 h4
  obtain ⟨l, rfl, hl⟩ := Pm (e := cBx) (Q := Bd) (fun r hrr => Fq N m' r (by omega) (hr r hrr))
  refine ⟨.mk k t z l, ?_, .mk (Nat.le_trans ht (by decide)) hl⟩
  show _ = [PV.val (.int .i64 k), PV.val (.string t), PV.val (.int .i64 z), PV.lst 4 (Zb l)]
  rw [Zr]
  rfl
theorem ag23 : aggT prog 23 = some false := by kernel_rfl
set_option maxRecDepth 100000 in
theorem arg23 {a : AV} (h : ∃ n xs, FitT prog n 23 xs ∧ a = argA prog 23 xs) : ∃ l : List BoxD, a = .p (.lst 4 (Zb l)) ∧ ∀ x ∈ l, Bd x := by
 obtain ⟨n, xs, hf, e⟩ := h
 obtain ⟨m, rows, rfl, rfl, _, hr⟩ := Ic sl23 hf
 obtain ⟨l, rfl, hl⟩ := Pm (e := cBx) (Q := Bd) (fun r hrr => Fq (m + 1) m r (by omega) (hr r hrr))
 refine ⟨l, ?_, hl⟩
 rw [e, Zr]
 simp only [argA, ag23]
theorem ag3 : aggT prog 3 = some false := by kernel_rfl
theorem arg3 {a : AV} (h : ∃ n xs, FitT prog n 3 xs ∧ a = argA prog 3 xs) : ∃ n : Int, a = vi .i64 n := by
 obtain ⟨n, xs, hf, e⟩ := h
 obtain ⟨z, rfl, _⟩ := N4 in3 hf
 refine ⟨z, ?_⟩
 rw [e]
 simp only [argA, ag3]
theorem rowss (l : List BoxD) (m w : Int) (hb : ∀ x ∈ l, Bd x) : CP prg 4 [.p (.lst 4 (Zb l)), vi .i64 m, vi .i64 w] [] = some (vb true) :=
 (Bf 5000 l m w (law4 l hb m w)).cp rfl []
end Go.Proofs.Try
