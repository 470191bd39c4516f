/- 'rosettalaw12.FiltersAsk': whether a text is rejected by a sort, and whether a byte stands at a place that may not follow it, is what the document says, whatever the grammar (of at most 12 sorts, 25 productions), the sort, the text (of at most 200 bytes) and the place. -/
import Derived.Test.YtekoieoheaddgaaR4
namespace Go.Proofs.Ytekoieoheaddgaa.filtersAsk
set_option linter.unusedSimpArgs false
set_option linter.unusedVariables false
open Go Go.Vs Go.RowKit Go.ChangeShapes Go.ChangeAt
theorem spec (H : Type) (ds : List (DataW H)) (h : ds.length = Try.f4.params.toList.length) : Rows.filtersAskSpec.fn H ds = { results := [.lit (.bool true)], args := ds } := by
  rw [Try.params4] at h
  match ds, h with
  | [_, _, _], _ => rfl
theorem run (av : List AV) (h : ArgsFit Try.prog 40 Try.f4.params.toList av) : CP Try.prg 4 av [] = some (vb true) := by
  rw [Try.params4] at h
  match av, h with
  | [a, b, c], h =>
    obtain ⟨g, e, hg⟩ := Try.arg27 h.1
    obtain ⟨n, e2, _⟩ := Try.arg3 h.2.1
    obtain ⟨w, m, e3⟩ := Try.arg48 h.2.2.1
    rw [e, e2, e3]
    exact Try.asks g n w m hg
  | [], h => simp [ArgsFit] at h
  | [_], h => simp [ArgsFit] at h
  | [_, _], h => simp [ArgsFit] at h
  | _ :: _ :: _ :: _ :: _, h => simp [ArgsFit] at h
noncomputable def args0 : Array Value := #[.agg #[.slice none 0 0, .slice none 0 0, .int .i64 0, .slice none 0 0, .slice none 0 0], .int .i64 0, .agg #[.string ByteArray.empty, .int .i64 0]]
set_option maxRecDepth 100000 in
theorem lifted (os : Os) (started : os.Started) (H : Type) (enc : TypeId × Value → H) (F : Stop.Interp) :
    ReturnsInHanded {} Try.checked os 4 .any ((OpenSpec.ofChange Rows.filtersAskSpec).preRow enc Try.prog Try.f4 Rows.filtersAskRow.domain false Rows.filtersAskRow.laid) (((OpenSpec.ofChange Rows.filtersAskSpec).at F).post enc Try.prog Try.f4 false true false false) := by
  have hx : DataW.whole enc Try.prog ((Try.laidWorld os).forCall (fun _ _ => 0) ⟨#[], args0, []⟩).memory Try.f4.params.toList Rows.filtersAskSpec.vars false args0.toList 8 = some ([.agg [.nil, .nil, .lit (.int .i64 0), .nil, .nil], .lit (.int .i64 0), .agg [.lit (.string []), .lit (.int .i64 0)]], [], []) := by kernel_rfl
  refine returnsInHanded_of_row (C := Try.checked) (s := OpenSpec.ofChange Rows.filtersAskSpec) Try.own started (by kernel_rfl) Try.func4
    (witness_row_at (enc := enc) (C := Try.checked) false (Try.laidWorld os) args0 rfl (by kernel_rfl) (by kernel_rfl) (by kernel_rfl)
      (OpenSpec.preRow_of_cond 8 hx (by kernel_rfl) (fun k hk => by cases hk) (by kernel_rfl) (laidMet_of_run' 8 (by kernel_rfl) (by kernel_rfl)))) ?_
  intro W base args ds gs before hval hW _ _ _ hL _ _
  exact contract_of Try.prg_ok (m := 40) (by kernel_rfl) (by kernel_rfl) Try.underlying4 rfl spec Try.kids Try.full (of_decide_eq_true (by kernel_rfl)) (fun W h => Try.table h) run W base args ds gs before hval hW hL
theorem said : Rows.FiltersAskSaid :=
  OpenClaim.holds_of_cond 4 Try.f4 rfl rfl rfl rfl rfl rfl rfl ⟨rfl, rfl, rfl, rfl, rfl⟩ rfl rfl rfl rfl rfl (by kernel_rfl) Try.func4 (by kernel_rfl)
    (of_decide_eq_true (by kernel_rfl)) (by unfold Func.isWrapper; first | (rw [if_pos (by decide +kernel)]; kernel_rfl) | (rw [if_neg (by decide +kernel)]; exact ⟨rfl, rfl⟩))
    (fun os started H enc _ F => by rw [OpenClaim.pre_eq_preRow]; exact lifted os started H enc F)
end Go.Proofs.Ytekoieoheaddgaa.filtersAsk
