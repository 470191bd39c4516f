/- FactsLong: the law is true of any number. -/
import Derived.Test.YtefidjmkfefilaaDoorLH4
namespace Go.Proofs.Tryd
set_option linter.unusedSimpArgs false
set_option linter.unusedVariables false
open Go Go.Vs
theorem top11 (h : List AB) : CP prgT 11 [] h = some (vb true) := top_cp rfl rfl rfl (works.cp rfl []) h
theorem top13 {n : Nat} (h1 : 1 ≤ n) (h2 : n ≤ 30) (hs : selF (rowss [aN n]) (bN n) = some (fN n)) (hz : purZs (fN n) [aN n] = some [.agg ((eGram (gN n)).map .p)]) : CS prgT 13 [aN n] (bN n) = some (v13 n, fN n) :=
  top_cs rfl hs hz rfl ((F13_ok (gN n) (shortN h1 h2).1).cp rfl [])
theorem top14 {n : Nat} {t : ByteArray} {e : Int} (h : F14 (gN n) 0 = some (.k0 t e)) (ha : purAs (fN n) [aN n, vi .i64 0] = some [.agg ((eGram (gN n)).map .p), vi .i64 0]) : CP prgT 14 [aN n, vi .i64 0] (fN n) = some (v14 t e) :=
  top_own rfl rfl ha rfl rfl rfl ((F14_ok (gN n) 0 h).cp rfl [])
theorem longA {n : Nat} (h1 : 1 ≤ n) (h2 : n ≤ 21) (hf : selF (rowss [aN n]) (bN n) = some (fN n) ∧ purZs (fN n) [aN n] = some [.agg ((eGram (gN n)).map .p)] ∧ purAs (fN n) [aN n, vi .i64 0] = some [.agg ((eGram (gN n)).map .p), vi .i64 0])
    (hr : ∀ t, callD prgT 60 (hA n t) 4 [vi .i64 n] = some (pA n t, vb true)) : CP prgT 4 [vi .i64 n] [] = some (vb true) := by
  obtain ⟨t, q1, q2⟩ := (shortN h1 (by omega)).2.1 h2
  refine CP_D (hr t) ⟨top13 h1 (by omega) hf.1 hf.2.1, top14 q1 hf.2.2, ?_, top11 _⟩ rfl []
  rw [q2]; simp
theorem longB {n : Nat} (h1 : 21 < n) (h2 : n ≤ 30) (hf : selF (rowss [aN n]) (bN n) = some (fN n) ∧ purZs (fN n) [aN n] = some [.agg ((eGram (gN n)).map .p)] ∧ purAs (fN n) [aN n, vi .i64 0] = some [.agg ((eGram (gN n)).map .p), vi .i64 0])
    (hr : callD prgT 60 (hB n) 4 [vi .i64 n] = some (pB n, vb true)) : CP prgT 4 [vi .i64 n] [] = some (vb true) :=
  CP_D hr ⟨top13 (by omega) h2 hf.1 hf.2.1, top14 ((shortN (by omega) h2).2.2 h1) hf.2.2, top11 _⟩ rfl []
theorem long (a : Int) : CP prgT 4 [vi .i64 a] [] = some (vb true) := by
  by_cases c1 : a < 1
  · exact CP_D (n := 20) (H := [(12, .d true), (17, .v (vb true))]) (ps := [vb (decide (a < 1)) = vb true, CP prgT 11 [] [] = some (vb true)]) (by kernel_rfl) ⟨by rw [decide_eq_true c1], top11 _⟩ rfl []
  by_cases c2 : a > 30
  · exact CP_D (n := 20) (H := [(12, .d false), (15, .d true), (17, .v (vb true))]) (ps := [vb (decide (a < 1)) = vb false, vb (decide (a > 30)) = vb true, CP prgT 11 [] [] = some (vb true)]) (by kernel_rfl) ⟨by rw [decide_eq_false c1], by rw [decide_eq_true c2], top11 _⟩ rfl []
  obtain ⟨n, rfl⟩ : ∃ n : Nat, a = (n : Int) := ⟨a.toNat, by omega⟩
  have h1 : 1 ≤ n := by omega
  have h2 : n ≤ 30 := by omega
  clear c1 c2
  match n, h1, h2 with
  | 1, h1, h2 => exact longA (by decide) (by decide) frz_1 run_1
  | 2, h1, h2 => exact longA (by decide) (by decide) frz_2 run_2
  | 3, h1, h2 => exact longA (by decide) (by decide) frz_3 run_3
  | 4, h1, h2 => exact longA (by decide) (by decide) frz_4 run_4
  | 5, h1, h2 => exact longA (by decide) (by decide) frz_5 run_5
  | 6, h1, h2 => exact longA (by decide) (by decide) frz_6 run_6
  | 7, h1, h2 => exact longA (by decide) (by decide) frz_7 run_7
  | 8, h1, h2 => exact longA (by decide) (by decide) frz_8 run_8
  | 9, h1, h2 => exact longA (by decide) (by decide) frz_9 run_9
  | 10, h1, h2 => exact longA (by decide) (by decide) frz_10 run_10
  | 11, h1, h2 => exact longA (by decide) (by decide) frz_11 run_11
  | 12, h1, h2 => exact longA (by decide) (by decide) frz_12 run_12
  | 13, h1, h2 => exact longA (by decide) (by decide) frz_13 run_13
  | 14, h1, h2 => exact longA (by decide) (by decide) frz_14 run_14
  | 15, h1, h2 => exact longA (by decide) (by decide) frz_15 run_15
  | 16, h1, h2 => exact longA (by decide) (by decide) frz_16 run_16
  | 17, h1, h2 => exact longA (by decide) (by decide) frz_17 run_17
  | 18, h1, h2 => exact longA (by decide) (by decide) frz_18 run_18
  | 19, h1, h2 => exact longA (by decide) (by decide) frz_19 run_19
  | 20, h1, h2 => exact longA (by decide) (by decide) frz_20 run_20
  | 21, h1, h2 => exact longA (by decide) (by decide) frz_21 run_21
  | 22, h1, h2 => exact longB (by decide) (by decide) frz_22 run_22
  | 23, h1, h2 => exact longB (by decide) (by decide) frz_23 run_23
  | 24, h1, h2 => exact longB (by decide) (by decide) frz_24 run_24
  | 25, h1, h2 => exact longB (by decide) (by decide) frz_25 run_25
  | 26, h1, h2 => exact longB (by decide) (by decide) frz_26 run_26
  | 27, h1, h2 => exact longB (by decide) (by decide) frz_27 run_27
  | 28, h1, h2 => exact longB (by decide) (by decide) frz_28 run_28
  | 29, h1, h2 => exact longB (by decide) (by decide) frz_29 run_29
  | 30, h1, h2 => exact longB (by decide) (by decide) frz_30 run_30
  | n + 31, _, h2 => omega
end Go.Proofs.Tryd
namespace Go.Proofs.Tryd
set_option linter.unusedSimpArgs false
set_option linter.unusedVariables false
open Go Go.Vs
theorem i64_ok {n : Int} (h : IntKind.i64.min ≤ n ∧ n ≤ IntKind.i64.max) : i64ok n := h
theorem sh3 : shOfT prog 40 3 = some [.int .i64] := by kernel_rfl
theorem ag3 : aggT prog 3 = some false := by kernel_rfl
set_option maxRecDepth 100000 in
theorem arg3 {a : AV} (h : ∃ ks xs, shOfT prog 40 3 = some ks ∧ FitL ks xs ∧ a = argA prog 3 xs) : ∃ n : Int, a = vi .i64 n ∧ i64ok n := by
  obtain ⟨ks, xs, hk, hf, e⟩ := h
  have h2 := Option.some.inj (sh3.symm.trans hk)
  rw [← h2] at hf
  match xs, hf with
  | [x], hf =>
    simp only [FitL, Fit] at hf
    obtain ⟨⟨n, rfl, hn⟩, _⟩ := hf
    refine ⟨n, ?_, i64_ok hn⟩
    rw [e]
    simp only [argA, ag3]
  | [], hf => simp [FitL] at hf
  | _ :: _ :: _, hf => simp [FitL] at hf
end Go.Proofs.Tryd
namespace Go.Proofs.YtefidjmkfefilaaDoor.factsLong
set_option linter.unusedSimpArgs false
set_option linter.unusedVariables false
open Go Go.Vs Go.RowKit Go.ChangeShapes Go.ChangeAt

theorem spec (H : Type) (ds : List (DataW H)) (h : ds.length = Tryd.f4.params.toList.length) : Rows.factsLongSpec.fn H ds = { results := [.lit (.bool true)], args := ds } := by
  rw [Tryd.params4] at h
  match ds, h with
  | [_], _ => rfl

theorem run (av : List AV) (h : ArgsFit Tryd.prog 40 Tryd.f4.params.toList av) : CP Tryd.prgT 4 av [] = some (vb true) := by
  rw [Tryd.params4] at h
  match av, h with
  | [a], h =>
    obtain ⟨n, e, _⟩ := Tryd.arg3 h.1
    rw [e]
    exact Tryd.long n
  | [], h => simp [ArgsFit] at h
  | _ :: _ :: _, h => simp [ArgsFit] at h

noncomputable def args0 : Array Value := #[.int .i64 0]

set_option maxRecDepth 100000 in
theorem lifted (os : Os) (started : os.Started) (H : Type) (enc : TypeId × Value → H) (F : Stop.Interp) :
    ReturnsInHanded {} Tryd.checked os 4 .any ((OpenSpec.ofChange Rows.factsLongSpec).preRow enc Tryd.prog Tryd.f4 Rows.factsLongRow.domain false Rows.factsLongRow.laid) (((OpenSpec.ofChange Rows.factsLongSpec).at F).post enc Tryd.prog Tryd.f4 false true false false) := by
  have hx : DataW.whole enc Tryd.prog ((Tryd.laidWorld os).forCall (fun _ _ => 0) ⟨#[], args0, []⟩).memory Tryd.f4.params.toList Rows.factsLongSpec.vars false args0.toList 8 = some ([.lit (.int .i64 0)], [], []) := by kernel_rfl
  refine returnsInHanded_of_row (C := Tryd.checked) (s := OpenSpec.ofChange Rows.factsLongSpec) Tryd.own started (by kernel_rfl) Tryd.func4
    (witness_row_at (enc := enc) (C := Tryd.checked) false (Tryd.laidWorld os) args0 rfl (by kernel_rfl) (by kernel_rfl) (by kernel_rfl)
      (OpenSpec.preRow_of_cond 8 hx (by kernel_rfl) (fun k hk => by cases hk) (by kernel_rfl) (laidMet_of_run' 8 (by kernel_rfl) (by kernel_rfl)))) ?_
  intro W base args ds gs before hval hW _ _ _ hL _ _
  exact contract_of Tryd.prgT_ok (m := 40) (by kernel_rfl) (by kernel_rfl) Tryd.underlying4 rfl spec Tryd.kids Tryd.full (of_decide_eq_true (by kernel_rfl)) (fun W h => Tryd.table h) run W base args ds gs before hval hW hL

theorem said : Rows.FactsLongSaid :=
  OpenClaim.holds_of_cond 4 Tryd.f4 rfl rfl rfl rfl rfl rfl rfl ⟨rfl, rfl, rfl, rfl, rfl⟩ rfl rfl rfl rfl rfl (by kernel_rfl) Tryd.func4 (by kernel_rfl)
    (of_decide_eq_true (by kernel_rfl)) (by unfold Func.isWrapper; first | (rw [if_pos (by decide +kernel)]; kernel_rfl) | (rw [if_neg (by decide +kernel)]; exact ⟨rfl, rfl⟩))
    (fun os started H enc _ F => by rw [OpenClaim.pre_eq_preRow]; exact lifted os started H enc F)

theorem plain (f : FuncId) (fn : Func) (hf : Tryd.pinned.checked.prog.funcNamed "rosetta/rosettalaw08.FactsLong" = some f) (hfn : Tryd.pinned.checked.prog.funcs[f]? = some fn) :
    false = Tryd.pinned.checked.prog.looks [] ∧ ∀ (j : Nat) t, fn.params[j]? = some t → Tryd.pinned.checked.prog.wantsStandIn t = false := by
  obtain rfl : f = 4 := Option.some.inj ((show Tryd.prog.funcNamed "rosetta/rosettalaw08.FactsLong" = some 4 by kernel_rfl).symm.trans hf) |>.symm
  obtain rfl : fn = Tryd.f4 := (Option.some.inj (Tryd.func4.symm.trans hfn)).symm
  refine ⟨by kernel_rfl, fun j t ht => ?_⟩
  have hall : (Tryd.f4.params.toList.all fun t => !Tryd.prog.wantsStandIn t) = true := by kernel_rfl
  have hm : t ∈ Tryd.f4.params.toList := by simpa using Array.mem_of_getElem? ht
  have := List.all_eq_true.1 hall t hm
  show Tryd.prog.wantsStandIn t = false
  simpa using this

theorem card : Rows.FactsLongCardSaid :=
  Claim7.holds_tied_plain_at .later [] _ _ _ _ said (fun _ h => by cases h) (by kernel_rfl) (fun _ h => by cases h) factsLong_row_tie rfl ⟨rfl, rfl⟩ (by kernel_rfl) rfl plain (by kernel_rfl)
end Go.Proofs.YtefidjmkfefilaaDoor.factsLong
