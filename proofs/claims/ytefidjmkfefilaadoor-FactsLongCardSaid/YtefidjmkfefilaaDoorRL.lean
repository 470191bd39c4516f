/- What every row of this seat needs: the table, the witness, the shapes. -/
import Derived.Test.YtefidjmkfefilaaDoorFT4
import Derived.Test.YtefidjmkfefilaaDoorVE
import Derived.Test.YtefidjmkfefilaaDoorCards
import Derived.Test.YtefidjmkfefilaaDoorTie
import Derived.ProofKit
namespace Go.Proofs.Tryd
set_option linter.unusedSimpArgs false
set_option linter.unusedVariables false
open Go Go.Vs Go.RowKit Go.ChangeShapes Go.ChangeAt
open Go.Proofs.YtefidjmkfefilaaDoor (Rows.laid_math_bits_deBruijn64tab)

theorem prg_ok : PrgOk prog prg := ⟨fns_ok, fun _ _ _ _ _ h => by cases h⟩

theorem PRs_tab {S : Nat → Prop} {w : World} {b : Nat} {k : IntKind} : ∀ {off : Nat} (zs : List Int), (∀ i z, zs[i]? = some z → w.cell? ⟨b, off + i, none⟩ = some (.int k z)) → PRs S w b off (zs.map fun z => .val (.int k z))
  | _, [], _ => by simp [PRs]
  | off, z :: zs, h => by
    simp only [List.map_cons, PRs]
    refine ⟨⟨.int k z, by simpa using h 0 z rfl, rfl, by simp [PR]⟩, PRs_tab zs (fun i u hi => ?_)⟩
    have := h (i + 1) u (by simpa using hi)
    rwa [show off + (i + 1) = off + 1 + i from by omega] at this

theorem gTab : prog.globalNamed "math/bits.deBruijn64tab" = some 0 := by kernel_rfl
theorem gTabType : (prog.globals[0]?).map (·.type) = some 141 := by kernel_rfl

theorem table {W : World} (h : laidMetH prog [("math/bits.deBruijn64tab", Rows.laid_math_bits_deBruijn64tab)] W) : ∀ n xs, prg.gl n = some xs → n < W.heap.size ∧ PRs (fun c => c < W.heap.size) W n 0 xs := by
  intro n xs hx
  have ht : Lib.TabIs prog W "math/bits.deBruijn64tab" .u8 tab64 := Lib.tabIs_of_head (rest := []) gTab gTabType underlying141 underlying5 (by kernel_rfl) (by kernel_rfl) h
  have hc : ∀ i z, tab64[i]? = some z → W.cell? ⟨0, 0 + i, none⟩ = some (.int .u8 z) := by
    intro i z hi
    have hl : i < tab64.length := (List.getElem?_eq_some_iff.1 hi).1
    have := ht.cell gTab i hl
    rw [Nat.zero_add, this]
    simp [List.getD, hi]
  cases n with
  | zero =>
    have e : xs = tab64.map fun n => .val (.int .u8 n) := by
      have : some (tab64.map fun n => PV.val (.int .u8 n)) = some xs := hx
      exact (Option.some.inj this).symm
    subst e
    refine ⟨?_, PRs_tab tab64 hc⟩
    have h0 := hc 0 0 rfl
    unfold World.cell? at h0
    split at h0
    · rename_i hh; exact heap_lt hh
    · cases h0
  | succ n => exact absurd hx (by simp [prg, gl08])

theorem kids : Kids prog (· < prog.types.size) := kids_rows (by kernel_rfl) (by kernel_rfl)
theorem full : ∀ t e, t < prog.types.size → prog.underlying t = some (.slice e) → 0 < prog.cellsOf e := slices_full_of prog (by kernel_rfl)
theorem own : ownKnob prog.godebug = none := by kernel_rfl

/-- A world for the witnesses: the table holds what the program's text lays. -/
noncomputable def laidWorld (os : Os) : World :=
  { World.holding prog os ⟨#[], #[], []⟩ with heap := (World.holding prog os ⟨#[], #[], []⟩).heap.modify 0 fun
      | .cells _ t frozen => .cells (tab64.map fun z => Value.int .u8 z).toArray t frozen
      | o => o }

end Go.Proofs.Tryd
