/- 'rosettalaw16.BoxesWide': texts with a break between each two, alone in no group, stand each on a line of its own, in a group on one line if that is no wider than the width, else likewise, whatever the texts (at most 200, of at most 100 bytes, without line ends and blanks) and the width: the tied card. -/
import Derived.Test.YtefbhnhekkncpaaDoorR3
namespace Go.Proofs.YtefbhnhekkncpaaDoor.boxesWide
set_option linter.unusedSimpArgs false
set_option linter.unusedVariables false
open Go Go.Vs Go.RowKit Go.ChangeShapes Go.ChangeAt
theorem spec (H : Type) (ds : List (DataW H)) (h : ds.length = Tryd.f3.params.toList.length) : Rows.boxesWideSpec.fn H ds = { results := [.lit (.bool true)], args := ds } := by
  rw [Tryd.params3] at h
  match ds, h with
  | [_, _], _ => rfl
theorem run (av : List AV) (h : YU Tryd.prog Tryd.f3.params.toList av) : CP Tryd.prg 3 av [] = some (vb true) := by
  rw [Tryd.params3] at h
  match av, h with
  | [a, b], h =>
    obtain ⟨l, e⟩ := Tryd.arg22 h.1
    obtain ⟨n, e2⟩ := Tryd.arg3 h.2.1
    rw [e, e2]
    exact Tryd.wides l n
  | [], h => simp [YU] at h
  | [_], h => simp [YU] at h
  | _ :: _ :: _ :: _, h => simp [YU] at h
noncomputable def args0 : Array Value := #[.slice none 0 0, .int .i64 0]
set_option maxRecDepth 100000 in
theorem lifted (os : Os) (started : os.Started) (H : Type) (enc : TypeId × Value → H) (F : Stop.Interp) :
    ReturnsInHanded {} Tryd.checked os 3 .any ((OpenSpec.ofChange Rows.boxesWideSpec).preRow enc Tryd.prog Tryd.f3 Rows.boxesWideRow.domain false Rows.boxesWideRow.laid) (((OpenSpec.ofChange Rows.boxesWideSpec).at F).post enc Tryd.prog Tryd.f3 false true false false) := by
  have hx : DataW.whole enc Tryd.prog ((Tryd.laidWorld os).forCall (fun _ _ => 0) ⟨#[], args0, []⟩).memory Tryd.f3.params.toList Rows.boxesWideSpec.vars false args0.toList 8 = some ([.nil, .lit (.int .i64 0)], [], []) := by kernel_rfl
  refine returnsInHanded_of_row (C := Tryd.checked) (s := OpenSpec.ofChange Rows.boxesWideSpec) Tryd.own started (by kernel_rfl) Tryd.func3
    (witness_row_at (enc := enc) (C := Tryd.checked) false (Tryd.laidWorld os) args0 rfl (by kernel_rfl) (by kernel_rfl) (by kernel_rfl)
      (OpenSpec.preRow_of_cond 8 hx (by kernel_rfl) (fun k hk => by cases hk) (by kernel_rfl) (laidMet_of_run' 8 (by kernel_rfl) (by kernel_rfl)))) ?_
  intro W base args ds gs before hval hW _ _ hwt hL _ _
  exact OM Tryd.prg_ok (L := Tryd.tys) (by kernel_rfl) (by kernel_rfl) (by kernel_rfl) Tryd.underlying4 rfl spec Tryd.kids Tryd.full (of_decide_eq_true (by kernel_rfl)) (fun W h => Tryd.table h) run W base args ds gs before hval hW hwt hL
theorem said : Rows.BoxesWideSaid :=
  OpenClaim.holds_of_cond 3 Tryd.f3 rfl rfl rfl rfl rfl rfl rfl ⟨rfl, rfl, rfl, rfl, rfl⟩ rfl rfl rfl rfl rfl (by kernel_rfl) Tryd.func3 (by kernel_rfl)
    (of_decide_eq_true (by kernel_rfl)) (by unfold Func.isWrapper; first | (rw [if_pos (by decide +kernel)]; kernel_rfl) | (rw [if_neg (by decide +kernel)]; exact ⟨rfl, rfl⟩))
    (fun os started H enc _ F => by rw [OpenClaim.pre_eq_preRow]; exact lifted os started H enc F)
theorem plain (f : FuncId) (fn : Func) (hf : Tryd.pinned.checked.prog.funcNamed "rosetta/rosettalaw16.BoxesWide" = some f) (hfn : Tryd.pinned.checked.prog.funcs[f]? = some fn) :
    false = Tryd.pinned.checked.prog.looks [] ∧ ∀ (j : Nat) t, fn.params[j]? = some t → Tryd.pinned.checked.prog.wantsStandIn t = false := by
  obtain rfl : f = 3 := Option.some.inj ((show Tryd.prog.funcNamed "rosetta/rosettalaw16.BoxesWide" = some 3 by kernel_rfl).symm.trans hf) |>.symm
  obtain rfl : fn = Tryd.f3 := (Option.some.inj (Tryd.func3.symm.trans hfn)).symm
  refine ⟨by kernel_rfl, fun j t ht => ?_⟩
  have hall : (Tryd.f3.params.toList.all fun t => !Tryd.prog.wantsStandIn t) = true := by kernel_rfl
  have hm : t ∈ Tryd.f3.params.toList := by simpa using Array.mem_of_getElem? ht
  have := List.all_eq_true.1 hall t hm
  show Tryd.prog.wantsStandIn t = false
  simpa using this
theorem card : Rows.BoxesWideCardSaid :=
  Claim7.holds_tied_plain_at .later [] _ _ _ _ said (fun _ h => by cases h) (by kernel_rfl) (fun _ h => by cases h) boxesWide_row_tie rfl ⟨rfl, rfl⟩ (by kernel_rfl) rfl plain (by kernel_rfl)
end Go.Proofs.YtefbhnhekkncpaaDoor.boxesWide
