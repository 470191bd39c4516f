/- 'rosettalaw14.TreeBounds': it is told which bounds of depth and text hold, and what is told one past them: the tied card. -/
import Derived.Test.YtcdebkkjbminoaaDoorR8
namespace Go.Proofs.YtcdebkkjbminoaaDoor.treeBounds
set_option linter.unusedSimpArgs false
set_option linter.unusedVariables false
open Go Go.Vs Go.RowKit Go.ChangeShapes Go.ChangeAt
theorem spec (H : Type) (ds : List (DataW H)) (h : ds.length = Tryd.f8.params.toList.length) : Rows.treeBoundsSpec.fn H ds = { results := [.lit (.bool true)], args := ds } := by
  rw [Tryd.params8] at h
  match ds, h with
  | [], _ => rfl
theorem run (e : (TypeId × Value) × (TypeId × Value)) (av : List AV) (h : ArgsFitT Tryd.prog Tryd.f8.params.toList av) : CP (Tryd.prgZ (some e)) 8 av [] = some (vb true) := by
  rw [Tryd.params8] at h
  match av, h with
  | [], h =>
    exact Tryd.boundsC
  | _ :: _, h => simp [ArgsFitT] at h
noncomputable def args0 : Array Value := #[]
set_option maxRecDepth 100000 in
theorem lifted (os : Os) (started : os.Started) (H : Type) (enc : TypeId × Value → H) (F : Stop.Interp) :
    ReturnsInHanded {} Tryd.checked os 8 .any ((OpenSpec.ofChange Rows.treeBoundsSpec).preRow enc Tryd.prog Tryd.f8 Rows.treeBoundsRow.domain false Rows.treeBoundsRow.laid) (((OpenSpec.ofChange Rows.treeBoundsSpec).at F).post enc Tryd.prog Tryd.f8 false true false false) := by
  have hx : DataW.whole enc Tryd.prog ((Tryd.laidWorld os).forCall (fun _ _ => 0) ⟨#[], args0, []⟩).memory Tryd.f8.params.toList Rows.treeBoundsSpec.vars false args0.toList 8 = some ([], [], []) := by kernel_rfl
  refine returnsInHanded_of_row (C := Tryd.checked) (s := OpenSpec.ofChange Rows.treeBoundsSpec) Tryd.own started (by kernel_rfl) Tryd.func8
    (witness_row_at (enc := enc) (C := Tryd.checked) false (Tryd.laidWorld os) args0 rfl (by kernel_rfl) (by kernel_rfl) (by kernel_rfl)
      (OpenSpec.preRow_of_cond 8 hx (by kernel_rfl) (fun k hk => by cases hk) (by kernel_rfl) (Tryd.laid_met os _))) ?_
  intro W base args ds gs before hval hW _ _ hwt hL _ _
  obtain ⟨e, hgl⟩ := Tryd.tableE hL
  exact contractT_at (Tryd.prgZ_ok (some e)) (L := Tryd.tys) (by kernel_rfl) (by kernel_rfl) (by kernel_rfl) Tryd.underlying4 rfl spec Tryd.kids Tryd.full (of_decide_eq_true (by kernel_rfl)) (run e) W base args ds gs before hval hW hwt hgl
theorem said : Rows.TreeBoundsSaid :=
  OpenClaim.holds_of_cond 8 Tryd.f8 rfl rfl rfl rfl rfl rfl rfl ⟨rfl, rfl, rfl, rfl, rfl⟩ rfl rfl rfl rfl rfl (by kernel_rfl) Tryd.func8 (by kernel_rfl)
    (of_decide_eq_true (by kernel_rfl)) (by unfold Func.isWrapper; first | (rw [if_pos (by decide +kernel)]; kernel_rfl) | (rw [if_neg (by decide +kernel)]; exact ⟨rfl, rfl⟩))
    (fun os started H enc _ F => by rw [OpenClaim.pre_eq_preRow]; exact lifted os started H enc F)
theorem plain (f : FuncId) (fn : Func) (hf : Tryd.pinned.checked.prog.funcNamed "rosetta/rosettalaw14.TreeBounds" = some f) (hfn : Tryd.pinned.checked.prog.funcs[f]? = some fn) :
    true = Tryd.pinned.checked.prog.looks [] ∧ ∀ (j : Nat) t, fn.params[j]? = some t → Tryd.pinned.checked.prog.wantsStandIn t = false := by
  obtain rfl : f = 8 := Option.some.inj ((show Tryd.prog.funcNamed "rosetta/rosettalaw14.TreeBounds" = some 8 by kernel_rfl).symm.trans hf) |>.symm
  obtain rfl : fn = Tryd.f8 := (Option.some.inj (Tryd.func8.symm.trans hfn)).symm
  refine ⟨by kernel_rfl, fun j t ht => ?_⟩
  have hall : (Tryd.f8.params.toList.all fun t => !Tryd.prog.wantsStandIn t) = true := by kernel_rfl
  have hm : t ∈ Tryd.f8.params.toList := by simpa using Array.mem_of_getElem? ht
  have := List.all_eq_true.1 hall t hm
  show Tryd.prog.wantsStandIn t = false
  simpa using this
theorem card : Rows.TreeBoundsCardSaid :=
  Claim7.holds_tied_plain_at .later [] _ _ _ _ said (fun _ h => by cases h) (by kernel_rfl) (fun _ h => by cases h) treeBounds_row_tie rfl ⟨rfl, rfl⟩ (by kernel_rfl) rfl plain (by kernel_rfl)
end Go.Proofs.YtcdebkkjbminoaaDoor.treeBounds
