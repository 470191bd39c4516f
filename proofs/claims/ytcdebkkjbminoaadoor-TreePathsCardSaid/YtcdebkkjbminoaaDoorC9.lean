/- 'rosettalaw14.TreePaths': it is told where paths lead, where trees stand, what is put there, and which tree has a byte, whatever the two trees (of at most 2000 trees), the path and the place; they stay, and the answer lies apart: the tied card. -/
import Derived.Test.YtcdebkkjbminoaaDoorR9
namespace Go.Proofs.YtcdebkkjbminoaaDoor.treePaths
set_option linter.unusedSimpArgs false
set_option linter.unusedVariables false
open Go Go.Vs Go.RowKit Go.ChangeShapes Go.ChangeAt
theorem spec (H : Type) (ds : List (DataW H)) (h : ds.length = Tryd.f9.params.toList.length) : Rows.treePathsSpec.fn H ds = { results := [.lit (.bool true)], args := ds } := by
  rw [Tryd.params9] at h
  match ds, h with
  | [_, _, _], _ => rfl
theorem run (av : List AV) (h : ArgsFitT Tryd.prog Tryd.f9.params.toList av) : CP Tryd.prgT 9 av [] = some (vb true) := by
  rw [Tryd.params9] at h
  match av, h with
  | [a, b, c], h =>
    obtain ⟨x, e, hx⟩ := Tryd.arg25 h.1
    obtain ⟨y, e2, hy⟩ := Tryd.arg25 h.2.1
    obtain ⟨p, k, e3⟩ := Tryd.arg61 h.2.2.1
    rw [e, e2, e3]
    exact Tryd.pathsT x y p k
  | [], h => simp [ArgsFitT] at h
  | [_], h => simp [ArgsFitT] at h
  | [_, _], h => simp [ArgsFitT] at h
  | _ :: _ :: _ :: _ :: _, h => simp [ArgsFitT] at h
noncomputable def args0 : Array Value := #[.agg #[.int .i64 0, .int .u8 0, .slice none 0 0], .agg #[.int .i64 0, .int .u8 0, .slice none 0 0], .agg #[.slice none 0 0, .int .i64 0]]
set_option maxRecDepth 100000 in
theorem lifted (os : Os) (started : os.Started) (H : Type) (enc : TypeId × Value → H) (F : Stop.Interp) :
    ReturnsInHanded {} Tryd.checked os 9 .any ((OpenSpec.ofChange Rows.treePathsSpec).preRow enc Tryd.prog Tryd.f9 Rows.treePathsRow.domain false Rows.treePathsRow.laid) (((OpenSpec.ofChange Rows.treePathsSpec).at F).post enc Tryd.prog Tryd.f9 false true false false) := by
  have hx : DataW.whole enc Tryd.prog ((Tryd.laidWorld os).forCall (fun _ _ => 0) ⟨#[], args0, []⟩).memory Tryd.f9.params.toList Rows.treePathsSpec.vars false args0.toList 8 = some ([.agg [.lit (.int .i64 0), .lit (.int .u8 0), .nil], .agg [.lit (.int .i64 0), .lit (.int .u8 0), .nil], .agg [.nil, .lit (.int .i64 0)]], [], []) := by kernel_rfl
  refine returnsInHanded_of_row (C := Tryd.checked) (s := OpenSpec.ofChange Rows.treePathsSpec) Tryd.own started (by kernel_rfl) Tryd.func9
    (witness_row_at (enc := enc) (C := Tryd.checked) false (Tryd.laidWorld os) args0 rfl (by kernel_rfl) (by kernel_rfl) (by kernel_rfl)
      (OpenSpec.preRow_of_cond 8 hx (by kernel_rfl) (fun k hk => by cases hk) (by kernel_rfl) (Tryd.laid_met os _))) ?_
  intro W base args ds gs before hval hW _ _ hwt hL _ _
  exact contractT_of Tryd.prgT_ok (L := Tryd.tys) (by kernel_rfl) (by kernel_rfl) (by kernel_rfl) Tryd.underlying4 rfl spec Tryd.kids Tryd.full (of_decide_eq_true (by kernel_rfl)) (fun W h => Tryd.table h) run W base args ds gs before hval hW hwt hL
theorem said : Rows.TreePathsSaid :=
  OpenClaim.holds_of_cond 9 Tryd.f9 rfl rfl rfl rfl rfl rfl rfl ⟨rfl, rfl, rfl, rfl, rfl⟩ rfl rfl rfl rfl rfl (by kernel_rfl) Tryd.func9 (by kernel_rfl)
    (of_decide_eq_true (by kernel_rfl)) (by unfold Func.isWrapper; first | (rw [if_pos (by decide +kernel)]; kernel_rfl) | (rw [if_neg (by decide +kernel)]; exact ⟨rfl, rfl⟩))
    (fun os started H enc _ F => by rw [OpenClaim.pre_eq_preRow]; exact lifted os started H enc F)
theorem plain (f : FuncId) (fn : Func) (hf : Tryd.pinned.checked.prog.funcNamed "rosetta/rosettalaw14.TreePaths" = some f) (hfn : Tryd.pinned.checked.prog.funcs[f]? = some fn) :
    true = Tryd.pinned.checked.prog.looks [] ∧ ∀ (j : Nat) t, fn.params[j]? = some t → Tryd.pinned.checked.prog.wantsStandIn t = false := by
  obtain rfl : f = 9 := Option.some.inj ((show Tryd.prog.funcNamed "rosetta/rosettalaw14.TreePaths" = some 9 by kernel_rfl).symm.trans hf) |>.symm
  obtain rfl : fn = Tryd.f9 := (Option.some.inj (Tryd.func9.symm.trans hfn)).symm
  refine ⟨by kernel_rfl, fun j t ht => ?_⟩
  have hall : (Tryd.f9.params.toList.all fun t => !Tryd.prog.wantsStandIn t) = true := by kernel_rfl
  have hm : t ∈ Tryd.f9.params.toList := by simpa using Array.mem_of_getElem? ht
  have := List.all_eq_true.1 hall t hm
  show Tryd.prog.wantsStandIn t = false
  simpa using this
theorem card : Rows.TreePathsCardSaid :=
  Claim7.holds_tied_plain_at .later [] _ _ _ _ said (fun _ h => by cases h) (by kernel_rfl) (fun _ h => by cases h) treePaths_row_tie rfl ⟨rfl, rfl⟩ (by kernel_rfl) rfl plain (by kernel_rfl)
end Go.Proofs.YtcdebkkjbminoaaDoor.treePaths
