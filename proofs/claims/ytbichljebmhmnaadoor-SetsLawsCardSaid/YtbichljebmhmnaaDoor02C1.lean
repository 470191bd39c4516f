/- 'rosettalaw02.SetsLaws': sets go together as sets do, whatever the three sets: the tied card. -/
import Derived.Test.YtbichljebmhmnaaDoor02R
namespace Go.Proofs.YtbichljebmhmnaaDoor.setsLaws
set_option linter.unusedSimpArgs false
set_option linter.unusedVariables false
open Go Go.Vs Go.RowKit Go.ChangeShapes Go.ChangeAt

theorem spec (H : Type) (ds : List (DataW H)) (h : ds.length = Tryd.f4.params.toList.length) : Rows.setsLawsSpec.fn H ds = { results := [.lit (.bool true)], args := ds } := by
  rw [Tryd.params4] at h
  match ds, h with
  | [_, _, _], _ => rfl

theorem setOf {xs : List PV} (h : FitL [.int .u64, .int .u64, .int .u64, .int .u64] xs) : ∃ v : Tryd.V4, argA Tryd.prog 29 xs = Tryd.setI (Tryd.ofV v) := by
  match xs, h with
  | [x, y, z, u], h =>
    simp only [FitL, Fit] at h
    obtain ⟨⟨a, rfl, ha⟩, ⟨b, rfl, hb⟩, ⟨c, rfl, hc⟩, ⟨d, rfl, hd⟩, _⟩ := h
    have key : ∀ n : Int, IntKind.u64.min ≤ n ∧ n ≤ IntKind.u64.max → ((BitVec.ofInt 64 n).toNat : Int) = n := by
      intro n hn
      have h1 : IntKind.u64.min = 0 := rfl
      have h2 : IntKind.u64.max = 18446744073709551615 := rfl
      rw [h1, h2] at hn
      rw [BitVec.toNat_ofInt]
      omega
    refine ⟨⟨.ofInt 64 a, .ofInt 64 b, .ofInt 64 c, .ofInt 64 d⟩, ?_⟩
    have ag : aggT Tryd.prog 29 = some true := by kernel_rfl
    simp only [argA, ag, Tryd.setI, Tryd.wds, Tryd.ofV, key a ha, key b hb, key c hc, key d hd]
    rfl
  | [], h => simp [FitL] at h
  | [_], h => simp [FitL] at h
  | [_, _], h => simp [FitL] at h
  | [_, _, _], h => simp [FitL] at h
  | _ :: _ :: _ :: _ :: _ :: _, h => simp [FitL] at h

theorem sh29 : shOfT Tryd.prog 40 29 = some [.int .u64, .int .u64, .int .u64, .int .u64] := by kernel_rfl

theorem arg29 {a : AV} (h : ∃ ks xs, shOfT Tryd.prog 40 29 = some ks ∧ FitL ks xs ∧ a = argA Tryd.prog 29 xs) : ∃ v : Tryd.V4, a = Tryd.setI (Tryd.ofV v) := by
  obtain ⟨ks, xs, hk, hf, e⟩ := h
  have h2 := Option.some.inj (sh29.symm.trans hk)
  rw [← h2] at hf
  obtain ⟨v, e2⟩ := setOf hf
  exact ⟨v, e.trans e2⟩

theorem run (av : List AV) (h : ArgsFit Tryd.prog 40 Tryd.f4.params.toList av) : CP Tryd.prg 4 av [] = some (vb true) := by
  rw [Tryd.params4] at h
  match av, h with
  | [a, b, c], h =>
    obtain ⟨v, e⟩ := arg29 h.1
    obtain ⟨v2, e2⟩ := arg29 h.2.1
    obtain ⟨v3, e3⟩ := arg29 h.2.2.1
    rw [e, e2, e3]
    exact Tryd.laws v v2 v3 (Tryd.run8' _) []
  | [], h => simp [ArgsFit] at h
  | [_], h => simp [ArgsFit] at h
  | [_, _], h => simp [ArgsFit] at h
  | _ :: _ :: _ :: _ :: _, h => simp [ArgsFit] at h

noncomputable def zero4 : Value := .agg #[.int .u64 0, .int .u64 0, .int .u64 0, .int .u64 0]
def dat0 {H : Type} : DataW H := .agg [.lit (.int .u64 0), .lit (.int .u64 0), .lit (.int .u64 0), .lit (.int .u64 0)]
noncomputable def args0 : Array Value := #[zero4, zero4, zero4]

set_option maxRecDepth 100000 in
theorem lifted (os : Os) (started : os.Started) (H : Type) (enc : TypeId × Value → H) (F : Stop.Interp) :
    ReturnsInHanded {} Tryd.checked os 4 .any ((OpenSpec.ofChange Rows.setsLawsSpec).preRow enc Tryd.prog Tryd.f4 Rows.setsLawsRow.domain false Rows.setsLawsRow.laid) (((OpenSpec.ofChange Rows.setsLawsSpec).at F).post enc Tryd.prog Tryd.f4 false true false false) := by
  have hx : DataW.whole enc Tryd.prog ((Tryd.laidWorld os).forCall (fun _ _ => 0) ⟨#[], args0, []⟩).memory Tryd.f4.params.toList Rows.setsLawsSpec.vars false args0.toList 8 = some ([dat0, dat0, dat0], [], []) := by kernel_rfl
  refine returnsInHanded_of_row (C := Tryd.checked) (s := OpenSpec.ofChange Rows.setsLawsSpec) Tryd.own started (by kernel_rfl) Tryd.func4
    (witness_row_at (enc := enc) (C := Tryd.checked) false (Tryd.laidWorld os) args0 rfl (by kernel_rfl) (by kernel_rfl) (by kernel_rfl)
      (OpenSpec.preRow_of_cond 8 hx (by kernel_rfl) (fun k hk => by cases hk) (by kernel_rfl) (laidMet_of_run' 8 (by kernel_rfl) (by kernel_rfl)))) ?_
  intro W base args ds gs before hval hW _ _ _ hL _ _
  exact contract_of Tryd.prg_ok (m := 40) (by kernel_rfl) (by kernel_rfl) Tryd.underlying4 rfl spec Tryd.kids Tryd.full (of_decide_eq_true (by kernel_rfl)) (fun W h => Tryd.table h) run W base args ds gs before hval hW hL

theorem said : Rows.SetsLawsSaid :=
  OpenClaim.holds_of_cond 4 Tryd.f4 rfl rfl rfl rfl rfl rfl rfl ⟨rfl, rfl, rfl, rfl, rfl⟩ rfl rfl rfl rfl rfl (by kernel_rfl) Tryd.func4 (by kernel_rfl)
    (of_decide_eq_true (by kernel_rfl)) (by unfold Func.isWrapper; first | (rw [if_pos (by decide +kernel)]; kernel_rfl) | (rw [if_neg (by decide +kernel)]; exact ⟨rfl, rfl⟩))
    (fun os started H enc _ F => by rw [OpenClaim.pre_eq_preRow]; exact lifted os started H enc F)

theorem plain (f : FuncId) (fn : Func) (hf : Tryd.pinned.checked.prog.funcNamed "rosetta/rosettalaw02.SetsLaws" = some f) (hfn : Tryd.pinned.checked.prog.funcs[f]? = some fn) :
    false = Tryd.pinned.checked.prog.looks [] ∧ ∀ (j : Nat) t, fn.params[j]? = some t → Tryd.pinned.checked.prog.wantsStandIn t = false := by
  obtain rfl : f = 4 := Option.some.inj ((show Tryd.prog.funcNamed "rosetta/rosettalaw02.SetsLaws" = some 4 by kernel_rfl).symm.trans hf) |>.symm
  obtain rfl : fn = Tryd.f4 := (Option.some.inj (Tryd.func4.symm.trans hfn)).symm
  refine ⟨by kernel_rfl, fun j t ht => ?_⟩
  have hall : (Tryd.f4.params.toList.all fun t => !Tryd.prog.wantsStandIn t) = true := by kernel_rfl
  have hm : t ∈ Tryd.f4.params.toList := by simpa using Array.mem_of_getElem? ht
  have := List.all_eq_true.1 hall t hm
  show Tryd.prog.wantsStandIn t = false
  simpa using this

theorem card : Rows.SetsLawsCardSaid :=
  Claim7.holds_tied_plain_at .later [] _ _ _ _ said (fun _ h => by cases h) (by kernel_rfl) (fun _ h => by cases h) setsLaws_row_tie rfl ⟨rfl, rfl⟩ (by kernel_rfl) rfl plain (by kernel_rfl)
end Go.Proofs.YtbichljebmhmnaaDoor.setsLaws
