/- 'rosettalaw06.KernelKeeps': a tree of the trimmed grammar is one of the grammar, by the productions that were kept, whatever the grammar and the tree (of at most 2000 trees) -/
import Derived.Test.YtpoclajcldnjeaaK7
namespace Go.Proofs.Ytpoclajcldnjeaa.kernelKeeps
set_option linter.unusedSimpArgs false
set_option linter.unusedVariables false
open Go Go.Vs Go.RowKit Go.ChangeShapes Go.ChangeAt
theorem spec (H : Type) (ds : List (DataW H)) (h : ds.length = Try.f7.params.toList.length) : Rows.kernelKeepsSpec.fn H ds = { results := [.lit (.bool true)], args := ds } := by
  rw [Try.params7] at h
  match ds, h with
  | [_, _], _ => rfl
theorem run (av : List AV) (h : ArgsFitT Try.prog Try.f7.params.toList av) : CP Try.prg 7 av [] = some (vb true) := by
  rw [Try.params7] at h
  match av, h with
  | [a, b], h =>
    obtain ⟨g, e, hg⟩ := Try.arg27 (argT_sh Try.sh27 h.1)
    obtain ⟨t, e2, ht⟩ := Try.arg51 h.2.1
    rw [e, e2]
    exact Try.keeps g t hg ht
  | [], h => simp [ArgsFitT] at h
  | [_], h => simp [ArgsFitT] at h
  | _ :: _ :: _ :: _, h => simp [ArgsFitT] at h
noncomputable def args0 : Array Value := #[.agg #[.slice none 0 0, .slice none 0 0, .int .i64 0, .slice none 0 0, .slice none 0 0], .agg #[.int .i64 0, .int .u8 0, .slice none 0 0]]
set_option maxRecDepth 100000 in
theorem lifted (os : Os) (started : os.Started) (H : Type) (enc : TypeId × Value → H) (F : Stop.Interp) :
    ReturnsInHanded {} Try.checked os 7 .any ((OpenSpec.ofChange Rows.kernelKeepsSpec).preRow enc Try.prog Try.f7 Rows.kernelKeepsRow.domain false Rows.kernelKeepsRow.laid) (((OpenSpec.ofChange Rows.kernelKeepsSpec).at F).post enc Try.prog Try.f7 false true false false) := by
  have hx : DataW.whole enc Try.prog ((Try.laidWorld os).forCall (fun _ _ => 0) ⟨#[], args0, []⟩).memory Try.f7.params.toList Rows.kernelKeepsSpec.vars false args0.toList 8 = some ([.agg [.nil, .nil, .lit (.int .i64 0), .nil, .nil], .agg [.lit (.int .i64 0), .lit (.int .u8 0), .nil]], [], []) := by kernel_rfl
  refine returnsInHanded_of_row (C := Try.checked) (s := OpenSpec.ofChange Rows.kernelKeepsSpec) Try.own started (by kernel_rfl) Try.func7
    (witness_row_at (enc := enc) (C := Try.checked) false (Try.laidWorld os) args0 rfl (by kernel_rfl) (by kernel_rfl) (by kernel_rfl)
      (OpenSpec.preRow_of_cond 8 hx (by kernel_rfl) (fun k hk => by cases hk) (by kernel_rfl) (laidMet_of_run' 8 (by kernel_rfl) (by kernel_rfl)))) ?_
  intro W base args ds gs before hval hW _ _ _ hL _ _
  exact contractT_of Try.prg_ok (L := Try.tys) (by kernel_rfl) (by kernel_rfl) (by kernel_rfl) Try.underlying4 rfl spec Try.kids Try.full (of_decide_eq_true (by kernel_rfl)) (fun W h => Try.table h) run W base args ds gs before hval hW hL
theorem said : Rows.KernelKeepsSaid :=
  OpenClaim.holds_of_cond 7 Try.f7 rfl rfl rfl rfl rfl rfl rfl ⟨rfl, rfl, rfl, rfl, rfl⟩ rfl rfl rfl rfl rfl (by kernel_rfl) Try.func7 (by kernel_rfl)
    (of_decide_eq_true (by kernel_rfl)) (by unfold Func.isWrapper; first | (rw [if_pos (by decide +kernel)]; kernel_rfl) | (rw [if_neg (by decide +kernel)]; exact ⟨rfl, rfl⟩))
    (fun os started H enc _ F => by rw [OpenClaim.pre_eq_preRow]; exact lifted os started H enc F)
end Go.Proofs.Ytpoclajcldnjeaa.kernelKeeps
