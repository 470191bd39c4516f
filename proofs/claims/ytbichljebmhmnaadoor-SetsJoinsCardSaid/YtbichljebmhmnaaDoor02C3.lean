/- 'rosettalaw02.SetsJoins': what sets are together, and what is in them, whatever the sets: the tied card. -/
import Derived.Test.YtbichljebmhmnaaDoor02A
import Derived.Test.YtbichljebmhmnaaDoor02MB
namespace Go.Proofs.YtbichljebmhmnaaDoor.setsJoins
set_option linter.unusedSimpArgs false
set_option linter.unusedVariables false
open Go Go.Vs Go.RowKit Go.ChangeShapes Go.ChangeAt

theorem spec (H : Type) (ds : List (DataW H)) (h : ds.length = Tryd.f5.params.toList.length) : Rows.setsJoinsSpec.fn H ds = { results := [.lit (.bool true)], args := ds } := by
  rw [Tryd.params5] at h
  match ds, h with
  | [_, _, _], _ => rfl

theorem setRows_of : ∀ {rows : List (List PV)}, (∀ r ∈ rows, FitL [.int .u64, .int .u64, .int .u64, .int .u64] r) → ∃ l : List Tryd.V4, rows = l.map Tryd.setRow
  | [], _ => ⟨[], rfl⟩
  | r :: rows, h => by
    obtain ⟨l, hl⟩ := setRows_of (rows := rows) (fun q hq => h q (List.mem_cons_of_mem _ hq))
    obtain ⟨v, hv⟩ := Tryd.setOf (h r (List.mem_cons_self ..))
    exact ⟨v :: l, by rw [List.map_cons, hl, hv]; rfl⟩

theorem run (av : List AV) (h : ArgsFit Tryd.prog 40 Tryd.f5.params.toList av) : CP Tryd.prg 5 av [] = some (vb true) := by
  rw [Tryd.params5] at h
  match av, h with
  | [a, b, c], h =>
    obtain ⟨v, e⟩ := Tryd.arg29 h.1
    obtain ⟨v2, e2⟩ := Tryd.arg29 h.2.1
    obtain ⟨x, hx, e3⟩ := Tryd.arg1 (k := .sl 4 [.int .u64, .int .u64, .int .u64, .int .u64]) (by kernel_rfl) (by kernel_rfl) h.2.2.1
    simp only [Fit] at hx
    obtain ⟨rows, q, _, hr⟩ := hx
    obtain ⟨l, hl⟩ := setRows_of hr
    rw [e, e2, e3, q, hl]
    exact Tryd.joins v v2 l Tryd.run8' []
  | [], h => simp [ArgsFit] at h
  | [_], h => simp [ArgsFit] at h
  | [_, _], h => simp [ArgsFit] at h
  | _ :: _ :: _ :: _ :: _, h => simp [ArgsFit] at h

noncomputable def zero4 : Value := .agg #[.int .u64 0, .int .u64 0, .int .u64 0, .int .u64 0]
def dat0 {H : Type} : DataW H := .agg [.lit (.int .u64 0), .lit (.int .u64 0), .lit (.int .u64 0), .lit (.int .u64 0)]
noncomputable def args0 : Array Value := #[zero4, zero4, .slice none 0 0]

set_option maxRecDepth 100000 in
theorem lifted (os : Os) (started : os.Started) (H : Type) (enc : TypeId × Value → H) (F : Stop.Interp) :
    ReturnsInHanded {} Tryd.checked os 5 .any ((OpenSpec.ofChange Rows.setsJoinsSpec).preRow enc Tryd.prog Tryd.f5 Rows.setsJoinsRow.domain false Rows.setsJoinsRow.laid) (((OpenSpec.ofChange Rows.setsJoinsSpec).at F).post enc Tryd.prog Tryd.f5 false true false false) := by
  have hx : DataW.whole enc Tryd.prog ((Tryd.laidWorld os).forCall (fun _ _ => 0) ⟨#[], args0, []⟩).memory Tryd.f5.params.toList Rows.setsJoinsSpec.vars false args0.toList 8 = some ([dat0, dat0, .nil], [], []) := by kernel_rfl
  refine returnsInHanded_of_row (C := Tryd.checked) (s := OpenSpec.ofChange Rows.setsJoinsSpec) Tryd.own started (by kernel_rfl) Tryd.func5
    (witness_row_at (enc := enc) (C := Tryd.checked) false (Tryd.laidWorld os) args0 rfl (by kernel_rfl) (by kernel_rfl) (by kernel_rfl)
      (OpenSpec.preRow_of_cond 8 hx (by kernel_rfl) (fun k hk => by cases hk) (by kernel_rfl) (laidMet_of_run' 8 (by kernel_rfl) (by kernel_rfl)))) ?_
  intro W base args ds gs before hval hW _ _ _ hL _ _
  exact contract_of Tryd.prg_ok (m := 40) (by kernel_rfl) (by kernel_rfl) Tryd.underlying4 rfl spec Tryd.kids Tryd.full (of_decide_eq_true (by kernel_rfl)) (fun W h => Tryd.table h) run W base args ds gs before hval hW hL

theorem said : Rows.SetsJoinsSaid :=
  OpenClaim.holds_of_cond 5 Tryd.f5 rfl rfl rfl rfl rfl rfl rfl ⟨rfl, rfl, rfl, rfl, rfl⟩ rfl rfl rfl rfl rfl (by kernel_rfl) Tryd.func5 (by kernel_rfl)
    (of_decide_eq_true (by kernel_rfl)) (by unfold Func.isWrapper; first | (rw [if_pos (by decide +kernel)]; kernel_rfl) | (rw [if_neg (by decide +kernel)]; exact ⟨rfl, rfl⟩))
    (fun os started H enc _ F => by rw [OpenClaim.pre_eq_preRow]; exact lifted os started H enc F)

theorem plain (f : FuncId) (fn : Func) (hf : Tryd.pinned.checked.prog.funcNamed "rosetta/rosettalaw02.SetsJoins" = some f) (hfn : Tryd.pinned.checked.prog.funcs[f]? = some fn) :
    false = Tryd.pinned.checked.prog.looks [] ∧ ∀ (j : Nat) t, fn.params[j]? = some t → Tryd.pinned.checked.prog.wantsStandIn t = false := by
  obtain rfl : f = 5 := Option.some.inj ((show Tryd.prog.funcNamed "rosetta/rosettalaw02.SetsJoins" = some 5 by kernel_rfl).symm.trans hf) |>.symm
  obtain rfl : fn = Tryd.f5 := (Option.some.inj (Tryd.func5.symm.trans hfn)).symm
  refine ⟨by kernel_rfl, fun j t ht => ?_⟩
  have hall : (Tryd.f5.params.toList.all fun t => !Tryd.prog.wantsStandIn t) = true := by kernel_rfl
  have hm : t ∈ Tryd.f5.params.toList := by simpa using Array.mem_of_getElem? ht
  have := List.all_eq_true.1 hall t hm
  show Tryd.prog.wantsStandIn t = false
  simpa using this

theorem card : Rows.SetsJoinsCardSaid :=
  Claim7.holds_tied_plain_at .later [] _ _ _ _ said (fun _ h => by cases h) (by kernel_rfl) (fun _ h => by cases h) setsJoins_row_tie rfl ⟨rfl, rfl⟩ (by kernel_rfl) rfl plain (by kernel_rfl)
end Go.Proofs.YtbichljebmhmnaaDoor.setsJoins
