/- 'rosettalaw19.ResolveVisible': what is visible means something, and what is not nothing; all spaces are told: whatever the scope graph (of at most 60 scopes, declarations, uses), the scope, the space and the text. -/
import Derived.Test.YthlndaofdgpjfaaR6
namespace Go.Proofs.Ythlndaofdgpjfaa.resolveVisible
set_option linter.unusedSimpArgs false
set_option linter.unusedVariables false
open Go Go.Vs Go.RowKit Go.ChangeShapes Go.ChangeAt
theorem spec (H : Type) (ds : List (DataW H)) (h : ds.length = Try.f6.params.toList.length) : Rows.resolveVisibleSpec.fn H ds = { results := [.lit (.bool true)], args := ds } := by
  rw [Try.params6] at h
  match ds, h with
  | [_, _], _ => rfl
theorem run (av : List AV) (h : ArgsFitT Try.prog Try.f6.params.toList av) : CP Try.prg 6 av [] = some (vb true) := by
  rw [Try.params6] at h
  match av, h with
  | [a, b], h =>
    obtain ⟨x, e⟩ := Try.arg25 h.1
    obtain ⟨m, p, q, e2⟩ := Try.arg46 h.2.1
    rw [e, e2]
    exact Try.named x m p q
  | [], h => simp [ArgsFitT] at h
  | [_], h => simp [ArgsFitT] at h
  | _ :: _ :: _ :: _, h => simp [ArgsFitT] at h
noncomputable def args0 : Array Value := #[.agg #[.slice none 0 0, .slice none 0 0, .slice none 0 0], .agg #[.int .i64 0, .string .empty, .string .empty]]
set_option maxRecDepth 100000 in
theorem lifted (os : Os) (started : os.Started) (H : Type) (enc : TypeId × Value → H) (F : Stop.Interp) :
    ReturnsInHanded {} Try.checked os 6 .any ((OpenSpec.ofChange Rows.resolveVisibleSpec).preRow enc Try.prog Try.f6 Rows.resolveVisibleRow.domain false Rows.resolveVisibleRow.laid) (((OpenSpec.ofChange Rows.resolveVisibleSpec).at F).post enc Try.prog Try.f6 false true false false) := by
  have hx : DataW.whole enc Try.prog ((Try.laidWorld os).forCall (fun _ _ => 0) ⟨#[], args0, []⟩).memory Try.f6.params.toList Rows.resolveVisibleSpec.vars false args0.toList 8 = some ([.agg [.nil, .nil, .nil], .agg [.lit (.int .i64 0), .lit (.string []), .lit (.string [])]], [], []) := by kernel_rfl
  refine returnsInHanded_of_row (C := Try.checked) (s := OpenSpec.ofChange Rows.resolveVisibleSpec) Try.own started (by kernel_rfl) Try.func6
    (witness_row_at (enc := enc) (C := Try.checked) false (Try.laidWorld os) args0 rfl (by kernel_rfl) (by kernel_rfl) (by kernel_rfl)
      (OpenSpec.preRow_of_cond 8 hx (by kernel_rfl) (fun k hk => by cases hk) (by kernel_rfl) (laidMet_of_run' 8 (by kernel_rfl) (by kernel_rfl)))) ?_
  intro W base args ds gs before hval hW _ _ hwt hL _ _
  exact contractT_of Try.prg_ok (L := Try.tys) (by kernel_rfl) (by kernel_rfl) (by kernel_rfl) Try.underlying4 rfl spec Try.kids Try.full (of_decide_eq_true (by kernel_rfl)) (fun W h => Try.table h) run W base args ds gs before hval hW hwt hL
theorem said : Rows.ResolveVisibleSaid :=
  OpenClaim.holds_of_cond 6 Try.f6 rfl rfl rfl rfl rfl rfl rfl ⟨rfl, rfl, rfl, rfl, rfl⟩ rfl rfl rfl rfl rfl (by kernel_rfl) Try.func6 (by kernel_rfl)
    (of_decide_eq_true (by kernel_rfl)) (by unfold Func.isWrapper; first | (rw [if_pos (by decide +kernel)]; kernel_rfl) | (rw [if_neg (by decide +kernel)]; exact ⟨rfl, rfl⟩))
    (fun os started H enc _ F => by rw [OpenClaim.pre_eq_preRow]; exact lifted os started H enc F)
end Go.Proofs.Ythlndaofdgpjfaa.resolveVisible
