/- 'rosettalaw16.BoxesRows': rows, and nests of nothing, say nothing themselves: their kids side by side are laid the same, whatever the boxes, the cut and the width. -/
import Derived.Test.YtefbhnhekkncpaaR4
namespace Go.Proofs.Ytefbhnhekkncpaa.boxesRows
set_option linter.unusedSimpArgs false
set_option linter.unusedVariables false
open Go Go.Vs Go.RowKit Go.ChangeShapes Go.ChangeAt
theorem spec (H : Type) (ds : List (DataW H)) (h : ds.length = Try.f4.params.toList.length) : Rows.boxesRowsSpec.fn H ds = { results := [.lit (.bool true)], args := ds } := by
  rw [Try.params4] at h
  match ds, h with
  | [_, _, _], _ => rfl
theorem run (av : List AV) (h : YA Try.prog Try.f4.params.toList av) : CP Try.prg 4 av [] = some (vb true) := by
  rw [Try.params4] at h
  match av, h with
  | [a, b, c], h =>
    obtain ⟨x, e, hx⟩ := Try.arg23 h.1
    obtain ⟨m, e2⟩ := Try.arg3 h.2.1
    obtain ⟨w, e3⟩ := Try.arg3 h.2.2.1
    rw [e, e2, e3]
    exact Try.rowss x m w hx
  | [], h => simp [YA] at h
  | [_], h => simp [YA] at h
  | [_, _], h => simp [YA] at h
  | _ :: _ :: _ :: _ :: _, h => simp [YA] at h
noncomputable def args0 : Array Value := #[.slice none 0 0, .int .i64 0, .int .i64 0]
set_option maxRecDepth 100000 in
theorem lifted (os : Os) (started : os.Started) (H : Type) (enc : TypeId × Value → H) (F : Stop.Interp) :
    ReturnsInHanded {} Try.checked os 4 .any ((OpenSpec.ofChange Rows.boxesRowsSpec).preRow enc Try.prog Try.f4 Rows.boxesRowsRow.domain false Rows.boxesRowsRow.laid) (((OpenSpec.ofChange Rows.boxesRowsSpec).at F).post enc Try.prog Try.f4 false true false false) := by
  have hx : DataW.whole enc Try.prog ((Try.laidWorld os).forCall (fun _ _ => 0) ⟨#[], args0, []⟩).memory Try.f4.params.toList Rows.boxesRowsSpec.vars false args0.toList 8 = some ([.nil, .lit (.int .i64 0), .lit (.int .i64 0)], [], []) := by kernel_rfl
  refine returnsInHanded_of_row (C := Try.checked) (s := OpenSpec.ofChange Rows.boxesRowsSpec) Try.own started (by kernel_rfl) Try.func4
    (witness_row_at (enc := enc) (C := Try.checked) false (Try.laidWorld os) args0 rfl (by kernel_rfl) (by kernel_rfl) (by kernel_rfl)
      (OpenSpec.preRow_of_cond 8 hx (by kernel_rfl) (fun k hk => by cases hk) (by kernel_rfl) (laidMet_of_run' 8 (by kernel_rfl) (by kernel_rfl)))) ?_
  intro W base args ds gs before hval hW _ _ hwt hL _ _
  exact On Try.prg_ok (L := Try.tys) (by kernel_rfl) (by kernel_rfl) (by kernel_rfl) Try.underlying4 rfl spec Try.kids Try.full (of_decide_eq_true (by kernel_rfl)) (fun W h => Try.table h) run W base args ds gs before hval hW hwt hL
theorem said : Rows.BoxesRowsSaid :=
  OpenClaim.holds_of_cond 4 Try.f4 rfl rfl rfl rfl rfl rfl rfl ⟨rfl, rfl, rfl, rfl, rfl⟩ rfl rfl rfl rfl rfl (by kernel_rfl) Try.func4 (by kernel_rfl)
    (of_decide_eq_true (by kernel_rfl)) (by unfold Func.isWrapper; first | (rw [if_pos (by decide +kernel)]; kernel_rfl) | (rw [if_neg (by decide +kernel)]; exact ⟨rfl, rfl⟩))
    (fun os started H enc _ F => by rw [OpenClaim.pre_eq_preRow]; exact lifted os started H enc F)
end Go.Proofs.Ytefbhnhekkncpaa.boxesRows
