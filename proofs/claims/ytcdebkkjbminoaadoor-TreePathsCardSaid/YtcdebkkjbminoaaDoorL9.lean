/- TreePaths: copies, the document's answers. Plain data alone. -/
import Derived.Test.YtcdebkkjbminoaaDoorH95
import Derived.Test.YtcdebkkjbminoaaDoorK9
import Derived.Test.YtcdebkkjbminoaaDoorVE
import Derived.Test.YtcdebkkjbminoaaDoorW94
open Option renaming bind_some → bsm
open List renaming getElem?_eq_getElem → geg, mem_of_getElem? → mog, take_length → tkl
namespace Go.Proofs.Tryd
set_option linter.unusedSimpArgs false
set_option linter.unusedVariables false
open Go Go.Vs
theorem loop_ok {E : Type} {step : Int → Option (E ⊕ Int)} {n : Nat} {fin : E} (hs : ∀ i : Nat, i < n → step (i : Int) = some (.inr ((i + 1 : Nat) : Int))) (hend : step (n : Int) = some (.inl fin)) : ∀ (k i : Nat), i + k = n → runL step (i : Int) = some fin
 | 0, i, hi => by
  obtain rfl : i = n := by omega
  exact runL_done hend
 | k + 1, i, hi => (runL_next (hs i (by omega))).trans (loop_ok hs hend k (i + 1) (by omega))
theorem kid_at (t : TreeD) {i : Nat} (h : i < t.kids.length) : ∃ x, t.kids[i]? = some x ∧ tc x < tc t ∧ x ∈ t.kids := by
 refine ⟨t.kids[i], geg h, ?_, List.getElem_mem h⟩
 exact tkid (geg h)
theorem q17 : ∀ (Nf : Nat) (t : TreeD), tc t < Nf → tc t ≤ 4000 → F17 Nf t = some (.k0 t.prod t.byte t.kids)
 | 0, _, h, _ => by omega
 | Nf + 1, t, h, h4 => by
  show F17_b (F17 Nf) t = _
  have htc := tc_eq t
  have hl := tcs_len t.kids
  have key : ∀ (k i g : Nat), i + k = t.kids.length → ∃ g', runL (fun s => L17_0 (F17 Nf) t s.1 s.2.1 s.2.2.1 s.2.2.2) (g, i, (i : Int), t.kids.take i) = some (.k0 g' t.kids.length t.kids) := by
   intro k
   induction k with
   | zero =>
    intro i g hi
    obtain rfl : i = t.kids.length := by omega
    rw [tkl]
    exact ⟨g, runL_done (by simp only [L17_0, decide_eq_false (show ¬ ((t.kids.length : Int) < (t.kids.length : Int)) by omega), cond_false])⟩
   | succ k ih =>
    intro i g hi
    obtain ⟨x, hx, hk, _⟩ := kid_at t (show i < t.kids.length by omega)
    have hlen : (t.kids.take i).length = i := by rw [List.length_take]; omega
    obtain ⟨g', hg⟩ := ih (i + 1) (g + 1) (by omega)
    refine ⟨g', (runL_next (s' := (g + 1, i + 1, ((i + 1 : Nat) : Int), t.kids.take (i + 1))) ?_).trans hg⟩
    simp only [L17_0, decide_eq_true (show (i : Int) < (t.kids.length : Int) by omega), cond_true, getI_nat, hx, bsm, q17 Nf x (by omega) (by omega), hlen]
    rw [show apOk i 1 i 40 = true from decide_eq_true ⟨Nat.le_refl _, by unfold limit47; omega, by unfold limit47; omega⟩, cond_true, decide_eq_false (by omega), cond_false, w_S (by omega), t_eta, take_S hx]
    rw [List.take_of_length_le (by rw [hlen]; exact Nat.le_refl _)]
  obtain ⟨g', hg⟩ := key t.kids.length 0 0 (by omega)
  rw [List.take_zero] at hg
  unfold F17_b
  rw [show ((0 : Nat), (0 : Nat), (0 : Int), ([] : List TreeX)) = (0, 0, ((0 : Nat) : Int), []) from rfl, hg, bsm]
  simp only
  rw [show apOk t.kids.length 1 t.kids.length 40 = true from decide_eq_true ⟨Nat.le_refl _, by unfold limit47; omega, by unfold limit47; omega⟩, cond_true, decide_true, cond_true, show slOk (t.kids.length : Int) (t.kids.length + 1) (t.kids.length + 1) = true from decide_eq_true ⟨by omega, by omega, Nat.le_refl _⟩, cond_true, decide_eq_true (by simp), cond_true]
theorem q22 : ∀ (Nf : Nat) (t : TreeD), tc t < Nf → tc t ≤ 4000 → F22 Nf t t = some true
 | 0, _, h, _ => by omega
 | Nf + 1, t, h, h4 => by
  show F22_b (F22 Nf) t t = _
  have htc := tc_eq t
  have hl := tcs_len t.kids
  unfold F22_b
  rw [show (t.prod != t.prod) = false from by simp, cond_false, show (t.byte != t.byte) = false from by simp, cond_false, show ((t.kids.length : Int) != (t.kids.length : Int)) = false from by simp, cond_false, w_S (by omega), decide_eq_true (by omega), cond_true, decide_eq_true (by omega), cond_true]
  have := loop_ok (step := fun s => L22_0 (F22 Nf) t t s) (fin := .k1) (n := t.kids.length) (fun i hi => by
   obtain ⟨x, hx, hk, _⟩ := kid_at t hi
   simp only [L22_0, decide_eq_true (show (i : Int) < (t.kids.length : Int) by omega), cond_true, getI_nat, hx, bsm, q22 Nf x (by omega) (by omega)]
   rw [w_S (by omega)]) (by simp only [L22_0, decide_eq_false (show ¬ ((t.kids.length : Int) < (t.kids.length : Int)) by omega), cond_false]) t.kids.length 0 (by omega)
  rw [show (0 : Int) = ((0 : Nat) : Int) from rfl, this]
  rfl
theorem q45 : ∀ (Nf : Nat) (t : TreeD) (left : Nat), tc t ≤ left → tc t < Nf → left ≤ 20000 → F45_2 Nf t left = some false
 | 0, t, left, _, h, _ => by omega
 | Nf + 1, t, left, h1, h, h2 => by
  show F45_2_b (F45_2 Nf) t left = _
  have hp := tc_pos t
  have htc := tc_eq t
  have hl := tcs_len t.kids
  unfold F45_2_b
  rw [decide_eq_false (by omega), cond_false]
  have := loop_ok (step := fun s => L45_0_2 (F45_2 Nf) left t s) (fin := .k1) (n := t.kids.length) (fun i hi => by
   obtain ⟨x, hx, hk, _⟩ := kid_at t hi
   have hw : IntKind.wrap .i64 ((left : Int) - 1) = ((left - 1 : Nat) : Int) := by rw [w_id (by omega)]; omega
   simp only [L45_0_2, decide_eq_true (show (i : Int) < (t.kids.length : Int) by omega), cond_true, getI_nat, hx, bsm, hw, q45 Nf x (left - 1) (by omega) (by omega) (by omega), cond_false]
   rw [w_S (by omega)]) (by simp only [L45_0_2, decide_eq_false (show ¬ ((t.kids.length : Int) < (t.kids.length : Int)) by omega), cond_false]) t.kids.length 0 (by omega)
  rw [show (0 : Int) = ((0 : Nat) : Int) from rfl, this]
  rfl
theorem q46 : ∀ (Nf : Nat) (t : TreeD), tc t < Nf → tc t ≤ 4000 → F46 Nf t = some (!badT t)
 | 0, _, h, _ => by omega
 | Nf + 1, t, h, h4 => by
  show F46_b (F46 Nf) t = _
  have htc := tc_eq t
  have hl := tcs_len t.kids
  have hL : ∃ e, runL (fun s => L46_0 (F46 Nf) t s) 0 = some e ∧ (match e with | .k0 => some false | .k1 => some true : Option Bool) = some (!badTs t.kids) := by
   rcases loop_find0 (step := fun s => L46_0 (F46 Nf) t s) (l := t.kids) (fun x => !badT x) (fun _ _ => E_L46_0.k0) (fin := .k1) (fun i x hx => by
    have hk := tkid hx
    have hi := (List.getElem?_eq_some_iff.1 hx).1
    simp only [L46_0, decide_eq_true (show (i : Int) < (t.kids.length : Int) by omega), cond_true, getI_nat, hx, bsm, q46 Nf x (by omega) (by omega)]
    rw [w_S (by omega)]
    cases badT x <;> rfl) (by simp only [L46_0, decide_eq_false (show ¬ ((t.kids.length : Int) < (t.kids.length : Int)) by omega), cond_false]) with ⟨h1, h2⟩ | ⟨j, x, h1, h2, _, h3⟩
   ·refine ⟨.k1, h2, ?_⟩
    rw [badTs_any, show t.kids.any badT = false from by rw [List.any_eq_false]; intro x hx; simpa using h1 x hx]
    rfl
   ·refine ⟨.k0, h3, ?_⟩
    rw [badTs_any, show t.kids.any badT = true from by rw [List.any_eq_true]; exact ⟨x, mog h1, by simpa using h2⟩]
    rfl
  obtain ⟨e, he1, he2⟩ := hL
  have hb : (e = .k0 ∧ badTs t.kids = true) ∨ (e = .k1 ∧ badTs t.kids = false) := by
   cases e with
   | k0 => refine .inl ⟨rfl, ?_⟩; cases h5 : badTs t.kids with
    | true => rfl
    | false => rw [h5] at he2; simp at he2
   | k1 => refine .inr ⟨rfl, ?_⟩; cases h5 : badTs t.kids with
    | false => rfl
    | true => rw [h5] at he2; simp at he2
  unfold F46_b
  rw [badT_eq]
  unfold bad1
  rcases hb with ⟨rfl, hb⟩ | ⟨rfl, hb⟩ <;> simp only [he1, bsm, hb] <;> cases decide (t.prod < -1) <;> cases decide (t.prod > 2147483647) <;> cases t.prod == -1 <;> cases decide ((t.kids.length : Int) > 0) <;> cases decide (t.prod ≥ 0) <;> cases t.byte != 0 <;> rfl
theorem q18 {Nf : Nat} {t : TreeD} (h : tc t < Nf) (h2 : tc t ≤ 4000) : F18 Nf t = some (bif badT t then 240 else 0) := by
 unfold F18
 rw [show (16384 : Int) = ((16384 : Nat) : Int) from rfl, q45 Nf t 16384 (by omega) h (by omega), bsm, cond_false, q46 Nf t h h2, bsm]
 cases badT t <;> rfl
theorem l17 {Nf : Nat} {t : TreeD} (h : tc t ≤ Nf) (h4 : tc t ≤ 4000) : ∃ g, runL (fun s => L17_0 (F17 Nf) t s.1 s.2.1 s.2.2.1 s.2.2.2) (0, 0, 0, []) = some (.k0 g t.kids.length t.kids) := by
  have htc := tc_eq t
  have hl := tcs_len t.kids
  have key : ∀ (k i g : Nat), i + k = t.kids.length → ∃ g', runL (fun s => L17_0 (F17 Nf) t s.1 s.2.1 s.2.2.1 s.2.2.2) (g, i, (i : Int), t.kids.take i) = some (.k0 g' t.kids.length t.kids) := by
   intro k
   induction k with
   | zero =>
    intro i g hi
    obtain rfl : i = t.kids.length := by omega
    rw [tkl]
    exact ⟨g, runL_done (by simp only [L17_0, decide_eq_false (show ¬ ((t.kids.length : Int) < (t.kids.length : Int)) by omega), cond_false])⟩
   | succ k ih =>
    intro i g hi
    obtain ⟨x, hx, hk, _⟩ := kid_at t (show i < t.kids.length by omega)
    have hlen : (t.kids.take i).length = i := by rw [List.length_take]; omega
    obtain ⟨g', hg⟩ := ih (i + 1) (g + 1) (by omega)
    refine ⟨g', (runL_next (s' := (g + 1, i + 1, ((i + 1 : Nat) : Int), t.kids.take (i + 1))) ?_).trans hg⟩
    simp only [L17_0, decide_eq_true (show (i : Int) < (t.kids.length : Int) by omega), cond_true, getI_nat, hx, bsm, q17 Nf x (by omega) (by omega), hlen]
    rw [show apOk i 1 i 40 = true from decide_eq_true ⟨Nat.le_refl _, by unfold limit47; omega, by unfold limit47; omega⟩, cond_true, decide_eq_false (by omega), cond_false, w_S (by omega), t_eta, take_S hx]
    rw [List.take_of_length_le (by rw [hlen]; exact Nat.le_refl _)]
  obtain ⟨g', hg⟩ := key t.kids.length 0 0 (by omega)
  rw [List.take_zero] at hg
  exact ⟨g', hg⟩
theorem l26 {E : Type} (fin : Int → Int → Int → E) {rF : T_F26} {t : TreeD} (h4 : tc t ≤ 4000) (step : Int × Int × Int × Int → Option (E ⊕ (Int × Int × Int × Int)))
  (hs : ∀ s, step s = (bif (decide (s.2.2.2 < (t.kids.length : Int))) then ((getI t.kids s.2.2.2).bind fun x2 => ((rF x2).bind fun r3 => match r3 with | .k0 x3_0 x3_1 x3_2 => (some (.inr ((IntKind.wrap .i64 (s.1 + x3_0)), (IntKind.wrap .i64 (s.2.1 + x3_1)), (if s.2.2.1 < x3_2 then x3_2 else s.2.2.1), (IntKind.wrap .i64 (s.2.2.2 + 1))))))) else (some (.inl (fin s.1 s.2.1 s.2.2.1)))))
  (hr : ∀ x ∈ t.kids, rF x = some (.k0 (tc x : Int) (byt x : Int) (dep x : Int))) (b0 : Nat) (hb : b0 ≤ 1) : ∀ (k i : Nat), i + k = t.kids.length →
  runL step (((1 + tcs (t.kids.take i) : Nat) : Int), ((b0 + byts (t.kids.take i) : Nat) : Int), ((deps (t.kids.take i) : Nat) : Int), (i : Int)) = some (fin ((1 + tcs t.kids : Nat) : Int) ((b0 + byts t.kids : Nat) : Int) ((deps t.kids : Nat) : Int))
 | 0, i, hi => by
  obtain rfl : i = t.kids.length := by omega
  rw [tkl]
  refine runL_done ?_
  rw [hs]
  simp only [decide_eq_false (show ¬ ((t.kids.length : Int) < (t.kids.length : Int)) by omega), cond_false]
 | k + 1, i, hi => by
  have hx : t.kids[i]? = some t.kids[i] := geg (by omega)
  generalize t.kids[i] = x at hx
  have htc := tc_eq t
  have h1 := tcs_take hx
  have h2 := byts_take hx
  have h3 := deps_take hx
  have h5 := tcs_take_le t.kids (i + 1)
  have h6 := byts_le (t.kids.take (i + 1))
  have hl := tcs_len t.kids
  refine (runL_next (s' := (((1 + tcs (t.kids.take (i + 1)) : Nat) : Int), ((b0 + byts (t.kids.take (i + 1)) : Nat) : Int), ((deps (t.kids.take (i + 1)) : Nat) : Int), ((i + 1 : Nat) : Int))) ?_).trans (l26 fin h4 step hs hr b0 hb k (i + 1) (by omega))
  rw [hs]
  simp only [decide_eq_true (show (i : Int) < (t.kids.length : Int) by omega), cond_true, getI_nat, hx, bsm, hr x (mog hx)]
  rw [w_id (by omega), w_id (by omega), w_S (by omega)]
  refine congrArg some (congrArg Sum.inr ?_)
  simp only [Prod.mk.injEq]
  refine ⟨by omega, by omega, ?_, trivial⟩
  split <;> omega
theorem q26 : ∀ (Nf : Nat) (t : TreeD), tc t < Nf → tc t ≤ 4000 → F26 Nf t = some (.k0 (tc t : Int) (byt t : Int) (dep t : Int))
 | 0, _, h, _ => by omega
 | Nf + 1, t, h, h4 => by
  show F26_b (F26 Nf) t = _
  have htc := tc_eq t
  have hbt := byt_eq t
  have hdp := dep_eq t
  have hr : ∀ x ∈ t.kids, F26 Nf x = some (.k0 (tc x : Int) (byt x : Int) (dep x : Int)) := fun x hx => by
   have := tcs_mem hx
   exact q26 Nf x (by omega) (by omega)
  have hd := (byts_le t.kids).2
  unfold F26_b
  by_cases hp : t.prod < 0
  ·rw [decide_eq_true hp, cond_true]
   have := l26 (fun a b c => E_L26_0.k0 a b c) h4 (fun s => L26_0 (F26 Nf) t s.1 s.2.1 s.2.2.1 s.2.2.2) (fun s => rfl) hr 1 (by omega) t.kids.length 0 (by omega)
   rw [List.take_zero, show tcs [] = 0 from rfl, show byts [] = 0 from rfl, show deps [] = 0 from rfl] at this
   rw [show ((1 : Int), (1 : Int), (0 : Int), (0 : Int)) = (((1 + 0 : Nat) : Int), ((1 + 0 : Nat) : Int), ((0 : Nat) : Int), ((0 : Nat) : Int)) from rfl, this, bsm]
   simp only
   rw [w_S (by omega), htc, hbt, hdp, if_pos hp]
  ·rw [decide_eq_false hp, cond_false]
   have := l26 (fun a b c => E_L26_0_2.k0 a b c) h4 (fun s => L26_0_2 (F26 Nf) t s.1 s.2.1 s.2.2.1 s.2.2.2) (fun s => rfl) hr 0 (by omega) t.kids.length 0 (by omega)
   rw [List.take_zero, show tcs [] = 0 from rfl, show byts [] = 0 from rfl, show deps [] = 0 from rfl] at this
   rw [show ((1 : Int), (0 : Int), (0 : Int), (0 : Int)) = (((1 + 0 : Nat) : Int), ((0 + 0 : Nat) : Int), ((0 : Nat) : Int), ((0 : Nat) : Int)) from rfl, this, bsm]
   simp only
   rw [w_S (by omega), htc, hbt, hdp, if_neg hp]
open Classical in
theorem q14 : ∀ (Nf : Nat) (t : TreeD), tc t < Nf → tc t ≤ 20000 → F14 Nf t t = some true
 | 0, t, h, _ => by omega
 | Nf + 1, t, h, h2 => by
  show F14_b (F14 Nf) t t = _
  have htc := tc_eq t
  have hl := tcs_len t.kids
  unfold F14_b
  rw [show (t.prod != t.prod) = false from by simp, cond_false, show (t.byte != t.byte) = false from by simp, cond_false, show ((t.kids.length : Int) != (t.kids.length : Int)) = false from by simp, cond_false]
  have key : ∀ (k i : Nat), i + k = t.kids.length → runL (fun s => L14_0 (F14 Nf) t t s) (i : Int) = some .k1 := by
   intro k
   induction k with
   | zero =>
    intro i hi
    refine runL_done ?_
    simp only [L14_0, decide_eq_false (show ¬ ((i : Int) < (t.kids.length : Int)) by omega), cond_false]
   | succ k ih =>
    intro i hi
    have hx : t.kids[i]? = some t.kids[i] := geg (by omega)
    generalize t.kids[i] = x at hx
    have hk := tkid hx
    refine (runL_next (s' := ((i + 1 : Nat) : Int)) ?_).trans (ih (i + 1) (by omega))
    simp only [L14_0, decide_eq_true (show (i : Int) < (t.kids.length : Int) by omega), cond_true, getI_nat, hx, bsm, q14 Nf x (by omega) (by omega)]
    rw [w_S (by omega)]
  rw [show (0 : Int) = ((0 : Nat) : Int) from rfl, key t.kids.length 0 (by omega)]
  rfl
theorem putT_cons {t k x : TreeD} {q : Int} {p : List Int} (hk : t.kids[q.toNat]? = some k) : putT t x (q :: p) = .mk t.prod t.byte (t.kids.set q.toNat (putT k x p)) := by
 rw [putT, hk]
theorem tcs_set {y k : TreeD} : ∀ {l : List TreeD} {i : Nat}, l[i]? = some k → tcs (l.set i y) + tc k = tcs l + tc y
 | [], i, h => by simp at h
 | a :: l, 0, h => by
  simp only [List.getElem?_cons_zero, Option.some.injEq] at h
  subst h
  simp only [List.set_cons_zero, tcs]
  omega
 | a :: l, i + 1, h => by
  simp only [List.getElem?_cons_succ] at h
  have := tcs_set (y := y) h
  simp only [List.set_cons_succ, tcs]
  omega
theorem put_tc {x : TreeD} : ∀ {p : List Int} {t : TreeD}, tc (putT t x p) ≤ tc t + tc x
 | [], t => by simp only [putT]; omega
 | q :: p, t => by
  cases hk : t.kids[q.toNat]? with
  | none => rw [putT, hk]; simp
  | some k =>
   rw [putT_cons hk, tc_eq, tc_eq t]
   have h1 := tcs_set (y := putT k x p) hk
   have h2 := put_tc (x := x) (p := p) (t := k)
   show 1 + tcs (t.kids.set q.toNat (putT k x p)) ≤ _
   omega
theorem l35 {Nf : Nat} {p : List Int} {l : List TreeD} {j n : Nat} (hj : p[j]? = some (n : Int)) (hl : tcs l ≤ 4000) (hn : 4000 < Nf) (hle : n ≤ l.length) (f : Nat) (hf : f ≤ 100000) : ∀ (k i : Nat), i + k = n →
  runL (fun s => L35_0_3 Nf p (j : Int) l s.1 s.2) (((f + byts (l.take i) : Nat) : Int), (i : Int)) = some (.k0 ((f + byts (l.take n) : Nat) : Int))
 | 0, i, hi => by
  obtain rfl : i = n := by omega
  refine runL_done ?_
  simp only [L35_0_3, getI_nat, hj, bsm, decide_eq_false (show ¬ ((i : Int) < (i : Int)) by omega), cond_false]
 | k + 1, i, hi => by
  have hx : l[i]? = some l[i] := geg (by omega)
  generalize l[i] = x at hx
  have h2 := byts_take hx
  have hm := tcs_mem (mog hx)
  have h5 := (byts_le (l.take (i + 1))).1
  have h6 := tcs_take_le l (i + 1)
  have hlen := tcs_len l
  refine (runL_next (s' := (((f + byts (l.take (i + 1)) : Nat) : Int), ((i + 1 : Nat) : Int))) ?_).trans (l35 hj hl hn hle f hf k (i + 1) (by omega))
  simp only [L35_0_3, getI_nat, hj, bsm, decide_eq_true (show (i : Int) < (n : Int) by omega), cond_true, hx, q26 Nf x (by omega) (by omega)]
  rw [w_id (by omega), w_S (by omega), h2]
  congr 4
  omega
theorem l35_1 {Nf : Nat} (hn : 4000 < Nf) (path : List Int) (hp : path.length ≤ 100000) : ∀ (k j : Nat) (u : TreeD) (f : Nat), j + k = path.length → f + tc u ≤ 4000 →
  (∀ w g, fol u (path.drop j) = some (w, g) → runL (fun s => L35_1 Nf path s.1 s.2.1 s.2.2.1 s.2.2.2.1 s.2.2.2.2) ((f : Int), (j : Int), u.prod, u.byte, u.kids) = some (.k1 ((f + g : Nat) : Int) w.prod w.byte w.kids) ∧ f + g + tc w ≤ 4000) ∧
  (fol u (path.drop j) = none → ∃ a b c, runL (fun s => L35_1 Nf path s.1 s.2.1 s.2.2.1 s.2.2.2.1 s.2.2.2.2) ((f : Int), (j : Int), u.prod, u.byte, u.kids) = some (.k0 a b c))
 | 0, j, u, f, hj, hf => by
  obtain rfl : j = path.length := by omega
  rw [List.drop_length]
  refine ⟨fun w g h => ?_, fun h => by simp [fol] at h⟩
  simp only [fol, Option.some.injEq, Prod.mk.injEq] at h
  obtain ⟨rfl, rfl⟩ := h
  refine ⟨runL_done ?_, by omega⟩
  simp only [L35_1, decide_eq_false (show ¬ ((path.length : Int) < (path.length : Int)) by omega), cond_false]
  rfl
 | k + 1, j, u, f, hj, hf => by
  have hx : path[j]? = some path[j] := geg (by omega)
  have hdr : path.drop j = path[j] :: path.drop (j + 1) := List.drop_eq_getElem_cons (by omega)
  generalize path[j] = x at hx hdr
  rw [hdr]
  have htc := tc_eq u
  have hlen := tcs_len u.kids
  by_cases hx0 : 0 ≤ x ∧ x < u.kids.length
  ·obtain ⟨i, rfl⟩ : ∃ i : Nat, x = (i : Int) := ⟨x.toNat, by omega⟩
   have hk : u.kids[i]? = some u.kids[i] := geg (by omega)
   generalize u.kids[i] = y at hk
   have h1 := tcs_take hk
   have h2 := tcs_take_le u.kids (i + 1)
   have h3 := (byts_le (u.kids.take i)).1
   have hstep : L35_1 Nf path (f : Int) (j : Int) u.prod u.byte u.kids = some (.inr (((f + byts (u.kids.take i) : Nat) : Int), ((j + 1 : Nat) : Int), y.prod, y.byte, y.kids)) := by
    have hq := l35 (Nf := Nf) (l := u.kids) hx (by omega) hn (by omega) f (by omega) i 0 (by omega)
    rw [List.take_zero, show byts [] = 0 from rfl, Nat.add_zero] at hq
    simp only [L35_1, decide_eq_true (show (j : Int) < (path.length : Int) by omega), cond_true, getI_nat, hx, bsm, decide_eq_false (show ¬ ((i : Int) < 0) by omega), cond_false, decide_eq_false (show ¬ ((i : Int) ≥ (u.kids.length : Int)) by omega)]
    rw [show ((f : Int), (0 : Int)) = ((f : Int), ((0 : Nat) : Int)) from rfl, hq, bsm]
    simp only [getI_nat, hk, bsm]
    rw [w_S (by omega)]
   have ih := l35_1 hn path hp k (j + 1) y (f + byts (u.kids.take i)) (by omega) (by omega)
   have hfol : fol u ((i : Int) :: path.drop (j + 1)) = (fol y (path.drop (j + 1))).map fun r => (r.1, byts (u.kids.take i) + r.2) := by
    rw [fol, if_pos hx0, Int.toNat_natCast, hk, bsm]
   rw [hfol]
   refine ⟨fun w g h => ?_, fun h => ?_⟩
   ·obtain ⟨⟨w', g'⟩, h5, h6⟩ := Option.map_eq_some_iff.1 h
    simp only [Prod.mk.injEq] at h6
    obtain ⟨rfl, rfl⟩ := h6
    obtain ⟨e1, e2⟩ := ih.1 w' g' h5
    refine ⟨(runL_next hstep).trans ?_, by omega⟩
    rw [e1, Nat.add_assoc]
   ·simp only [Option.map_eq_none_iff] at h
    obtain ⟨a, b, c, e⟩ := ih.2 h
    exact ⟨a, b, c, (runL_next hstep).trans e⟩
  ·have hfol : fol u (x :: path.drop (j + 1)) = none := by rw [fol, if_neg hx0]
   rw [hfol]
   refine ⟨fun w g h => (by cases h), fun _ => ⟨u.prod, u.byte, u.kids, runL_done ?_⟩⟩
   simp only [L35_1, decide_eq_true (show (j : Int) < (path.length : Int) by omega), cond_true, getI_nat, hx, bsm]
   by_cases h0 : x < 0
   ·rw [decide_eq_true h0, cond_true]
   ·rw [decide_eq_false h0, cond_false, decide_eq_true (by omega), cond_true]
theorem q35 {Nf : Nat} (hn : 4000 < Nf) {t : TreeD} (ht : tc t ≤ 4000) {p : List Int} (hp : p.length ≤ 100000) :
  (badT t = true → F35 Nf t p = some (.k0 0 0 [] 0 0 240)) ∧ (badT t = false → (∀ w g, fol t p = some (w, g) → F35 Nf t p = some (.k0 w.prod w.byte w.kids (g : Int) ((g + byt w : Nat) : Int) 0)) ∧ (fol t p = none → F35 Nf t p = some (.k0 0 0 [] 0 0 5))) := by
 refine ⟨fun hb => ?_, fun hb => ?_⟩
 ·unfold F35
  rw [q18 (by omega) ht, hb]
  rfl
 ·have h := l35_1 hn p hp p.length 0 t 0 (by omega) (by omega)
  rw [List.drop_zero] at h
  have e : F35 Nf t p = (runL (fun s => L35_1 Nf p s.1 s.2.1 s.2.2.1 s.2.2.2.1 s.2.2.2.2) (((0 : Nat) : Int), ((0 : Nat) : Int), t.prod, t.byte, t.kids)).bind fun r3 => match r3 with | .k0 x3_0 x3_1 x3_2 => (some (.k0 0 0 ([]) 0 0 5)) | .k1 x3_0 x3_1 x3_2 x3_3 => ((F26 Nf (TreeD.mk x3_1 x3_2 x3_3)).bind fun r4 => match r4 with | .k0 x4_0 x4_1 x4_2 => (some (.k0 x3_1 x3_2 x3_3 x3_0 (IntKind.wrap .i64 (x3_0 + x4_1)) 0))) := by
   unfold F35
   rw [q18 (by omega) ht, hb]
   rfl
  refine ⟨fun w g hw => ?_, fun hw => ?_⟩
  ·obtain ⟨e1, e2⟩ := h.1 w g hw
   have hle := (byt_le _ w (Nat.le_refl _)).1
   rw [e, e1, bsm]
   simp only [t_eta]
   rw [q26 Nf w (by omega) (by omega), bsm]
   simp only
   rw [w_id (by omega), Nat.zero_add]
   congr 2
  ·obtain ⟨a, b, c, e1⟩ := h.2 hw
   rw [e, e1, bsm]
theorem q59 {x : TreeD} : ∀ (p : List Int) {Nf : Nat} {t : TreeD}, (fol t p).isSome = true → tc t ≤ 4000 → p.length < Nf → p.length ≤ 100000 → F59 Nf t x p = some (.k0 (putT t x p).prod (putT t x p).byte (putT t x p).kids)
 | _, 0, _, _, _, h, _ => by omega
 | [], Nf + 1, t, _, _, _, _ => rfl
 | i :: p, Nf + 1, t, hf, ht, hn, hp => by
  show F59_b (F59 Nf) t x (i :: p) = _
  have htc := tc_eq t
  have hlen := tcs_len t.kids
  rw [fol] at hf
  simp only [List.length_cons] at hn hp
  by_cases hx0 : 0 ≤ i ∧ i < t.kids.length
  ·rw [if_pos hx0] at hf
   have hk : t.kids[i.toNat]? = some t.kids[i.toNat] := geg (by omega)
   generalize t.kids[i.toNat] = k at hk
   rw [hk, bsm, Option.isSome_map] at hf
   have hkt := tkid hk
   have ih := q59 (x := x) p (Nf := Nf) hf (by omega) (by omega) (by omega)
   rw [putT_cons hk]
   unfold F59_b
   rw [show (((i :: p).length : Int) == 0) = false from by simpa using by omega, cond_false, show nilOk t.kids.length 40 = true from decide_eq_true ⟨by unfold limit47; omega, by unfold limit47; omega⟩, cond_true]
   rw [show getI (i :: p) 0 = some i from rfl, bsm, show ixN t.kids.length i = some i.toNat from if_pos hx0, bsm, hk, bsm]
   rw [show sl_ok 1 ((i :: p).length : Int) (i :: p).length = true from decide_eq_true ⟨by omega, by simp only [List.length_cons]; omega, by omega⟩, cond_true, show (i :: p).drop (Int.toNat 1) = p from rfl, ih, bsm]
   simp only [t_eta, List.length_set, decide_eq_true (Nat.le_refl _), cond_true]
   show some (R_F59.k0 t.prod t.byte ((t.kids.set i.toNat (putT k x p)).take t.kids.length)) = some (R_F59.k0 t.prod t.byte (t.kids.set i.toNat (putT k x p)))
   rw [show (t.kids.set i.toNat (putT k x p)).take t.kids.length = t.kids.set i.toNat (putT k x p) from by rw [← List.length_set (i := i.toNat) (a := putT k x p), tkl]]
  ·rw [if_neg hx0] at hf
   cases hf
theorem q36 {Nf : Nat} (hn : 5000 ≤ Nf) {t x : TreeD} (ht : tc t ≤ 2000) (hx : tc x ≤ 2000) {p : List Int} (hp : p.length ≤ 2000) :
  (badT t = true → F36 Nf t x p = some (.k0 0 0 [] 240)) ∧ (badT t = false → badT x = true → F36 Nf t x p = some (.k0 0 0 [] 240)) ∧
  (badT t = false → badT x = false → fol t p = none → F36 Nf t x p = some (.k0 0 0 [] 5)) ∧
  (badT t = false → badT x = false → (fol t p).isSome = true → F36 Nf t x p = some (.k0 (putT t x p).prod (putT t x p).byte (putT t x p).kids 0)) := by
 have e1 := q18 (Nf := Nf) (t := t) (by omega) (by omega)
 have e2 := q18 (Nf := Nf) (t := x) (by omega) (by omega)
 have h35 := q35 (Nf := Nf) (by omega) (t := t) (by omega) (p := p) (by omega)
 refine ⟨fun hb => ?_, fun hb hb2 => ?_, fun hb hb2 hf => ?_, fun hb hb2 hf => ?_⟩
 ·unfold F36
  rw [e1, hb]
  rfl
 ·unfold F36
  rw [e1, e2, hb, hb2]
  rfl
 ·unfold F36
  rw [e1, e2, hb, hb2, (h35.2 hb).2 hf]
  rfl
 ·obtain ⟨⟨w, g⟩, hw⟩ := Option.isSome_iff_exists.1 hf
  have h59 := q59 (x := x) p (Nf := Nf) hf (by omega) (by omega) (by omega)
  have htc := put_tc (x := x) (p := p) (t := t)
  have h45 := q45 Nf (putT t x p) 16384 (by omega) (by omega) (by omega)
  unfold F36
  rw [e1, e2, hb, hb2, (h35.2 hb).1 w g hw]
  simp only [cond_false, bsm, show ((0 : Int) == 0) = true from rfl, cond_true, show ((0 : Int) != 0) = false from rfl, h59, t_eta]
  rw [show (16384 : Int) = ((16384 : Nat) : Int) from rfl, h45]
  rfl
theorem ap8 {len k n : Nat} (h : len ≤ n) (hb : len + k ≤ 100000) : apOk len k n 8 = true := decide_eq_true ⟨h, by unfold limit47; omega, by unfold limit47; omega⟩
theorem l347 {Nf : Nat} {l : List TreeD} (hl : tcs l ≤ 4000) (hn : 4000 < Nf) (A : Nat) (hA : A < byts l) : ∀ (m i : Nat), i + m = l.length → byts (l.take i) ≤ A →
  ∃ j k, l[j]? = some k ∧ byts (l.take j) ≤ A ∧ A < byts (l.take j) + byt k ∧
   runL (fun s => L37_0_3 Nf l s.1 s.2) (((A - byts (l.take i) : Nat) : Int), (i : Int)) = some (.k0 ((A - byts (l.take j) : Nat) : Int) (j : Int)) ∧
   ∀ (gen len : Nat) (row : List Int), len ≤ row.length → len ≤ 5000 → runL (fun s => L34_0_3 Nf gen len l (l.length : Int) row s.1 s.2) (((A - byts (l.take i) : Nat) : Int), (i : Int)) =
    some (bif decide (k.prod < 0) then .k0 ((A - byts (l.take j) : Nat) : Int) k.prod k.byte k.kids else bif decide (len + 1 ≤ row.length) then .k1 ((A - byts (l.take j) : Nat) : Int) gen k.prod k.byte k.kids (splice row len [(j : Int)]) (j : Int) else .k1 ((A - byts (l.take j) : Nat) : Int) (gen + 1) k.prod k.byte k.kids (row.take len ++ [(j : Int)]) (j : Int))
 | 0, i, hi, hle => by
  obtain rfl : i = l.length := by omega
  rw [tkl] at hle
  omega
 | m + 1, i, hi, hle => by
  have hx : l[i]? = some l[i] := geg (by omega)
  generalize l[i] = x at hx
  have h2 := byts_take hx
  have hm := tcs_mem (mog hx)
  have h5 := (byts_le l).1
  have hll := tcs_len l
  have e47 := q47 Nf x (by omega) (by omega)
  have e26 := q26 Nf x (by omega) (by omega)
  by_cases hb : byt x ≤ A - byts (l.take i)
  ·obtain ⟨j, k, c1, c2, c3, c4, c5⟩ := l347 hl hn A hA m (i + 1) (by omega) (by omega)
   have hw : IntKind.wrap .i64 (((A - byts (l.take i) : Nat) : Int) - (byt x : Int)) = ((A - byts (l.take (i + 1)) : Nat) : Int) := by
    rw [w_id (by omega), h2, ← Nat.sub_sub, Int.ofNat_sub hb]
   refine ⟨j, k, c1, c2, c3, ?_, fun gen len row h6 h7 => ?_⟩
   ·refine (runL_next ?_).trans c4
    simp only [L37_0_3, decide_eq_true (show (i : Int) < (l.length : Int) by omega), cond_true, getI_nat, hx, bsm, e26, decide_eq_false (show ¬ ((A - byts (l.take i) : Nat) : Int) < (byt x : Int) by omega), cond_false, hw]
    rw [w_S (by omega)]
   ·refine (runL_next ?_).trans (c5 gen len row h6 h7)
    simp only [L34_0_3, decide_eq_true (show (i : Int) < (l.length : Int) by omega), cond_true, getI_nat, hx, bsm, e47, decide_eq_true (show ((A - byts (l.take i) : Nat) : Int) ≥ (byt x : Int) by omega), hw]
    rw [w_S (by omega)]
  ·refine ⟨i, x, hx, hle, by omega, runL_done ?_, fun gen len row h6 h7 => runL_done ?_⟩
   ·simp only [L37_0_3, decide_eq_true (show (i : Int) < (l.length : Int) by omega), cond_true, getI_nat, hx, bsm, e26, decide_eq_true (show ((A - byts (l.take i) : Nat) : Int) < (byt x : Int) by omega)]
   ·simp only [L34_0_3, decide_eq_true (show (i : Int) < (l.length : Int) by omega), cond_true, getI_nat, hx, bsm, e47, decide_eq_false (show ¬ ((A - byts (l.take i) : Nat) : Int) ≥ (byt x : Int) by omega), cond_false, ap8 h6 (show len + 1 ≤ 100000 by omega)]
    cases decide (x.prod < 0) <;> cases decide (len + 1 ≤ row.length) <;> rfl
theorem l3417 {Nf : Nat} (hn : 4000 < Nf) : ∀ (N : Nat) (u : TreeD) (A gen len : Nat) (row : List Int), tc u ≤ N → tc u + len ≤ 4000 → len ≤ row.length → 0 ≤ u.prod → A < byt u →
  ∃ x0 gen' len' p' b' ks' row' x7 x8 x9, runL (fun s => L34_1 Nf s.1 s.2.1 s.2.2.1 s.2.2.2.1 s.2.2.2.2.1 s.2.2.2.2.2.1 s.2.2.2.2.2.2) ((A : Int), gen, len, u.prod, u.byte, u.kids, row) = some (.k0 x0 gen' len' p' b' ks' row' x7 x8 x9) ∧
   runL (fun s => L37_1 Nf s.1 s.2.1 s.2.2.1 s.2.2.2.1 s.2.2.2.2.1 s.2.2.2.2.2.1 s.2.2.2.2.2.2) ((A : Int), gen, len, u.prod, u.byte, u.kids, row) = some (.k0 gen' len' p' b' ks' row') ∧ len' ≤ row'.length ∧ len' ≤ 4000
 | 0, u, A, gen, len, row, h, _, _, _, _ => by have := tc_pos u; omega
 | N + 1, u, A, gen, len, row, h, hll, hlen, hp, hA => by
  have htc := tc_eq u
  have hby := byt_eq u
  rw [if_neg (by omega), Nat.zero_add] at hby
  obtain ⟨j, k, c1, c2, c3, c4, c5⟩ := l347 (Nf := Nf) (l := u.kids) (by omega) hn A (by omega) u.kids.length 0 (by omega) (Nat.zero_le _)
  have hk := tkid c1
  have c5 := c5 gen len row hlen (by omega)
  simp only [List.take_zero, byts, Nat.sub_zero] at c4 c5
  by_cases hkp : k.prod < 0
  ·rw [decide_eq_true hkp, cond_true] at c5
   refine ⟨((A - byts (u.kids.take j) : Nat) : Int), gen, len, u.prod, u.byte, u.kids, row, k.prod, k.byte, k.kids, runL_done ?_, runL_done ?_, hlen, by omega⟩
   ·simp only [L34_1]
    rw [show ((0 : Int)) = ((0 : Nat) : Int) from rfl, c5]
    rfl
   ·simp only [L37_1]
    rw [show ((A : Int), (0 : Int)) = ((A : Int), ((0 : Nat) : Int)) from rfl, c4, bsm]
    simp only [getI_nat, c1, bsm, decide_eq_true hkp, cond_true]
  ·rw [decide_eq_false hkp, cond_false] at c5
   have key : ∃ gen' row', len + 1 ≤ row'.length ∧ L34_1 Nf (A : Int) gen len u.prod u.byte u.kids row = some (.inr (((A - byts (u.kids.take j) : Nat) : Int), gen', len + 1, k.prod, k.byte, k.kids, row')) ∧
     L37_1 Nf (A : Int) gen len u.prod u.byte u.kids row = some (.inr (((A - byts (u.kids.take j) : Nat) : Int), gen', len + 1, k.prod, k.byte, k.kids, row')) := by
    by_cases hr : len + 1 ≤ row.length
    ·rw [decide_eq_true hr, cond_true] at c5
     refine ⟨gen, splice row len [(j : Int)], by rw [(splice_app (l := row) (y := [(j : Int)]) (n := len) hr).2]; exact hr, ?_, ?_⟩
     ·simp only [L34_1]
      rw [show ((0 : Int)) = ((0 : Nat) : Int) from rfl, c5]
      rfl
     ·simp only [L37_1]
      rw [show ((A : Int), (0 : Int)) = ((A : Int), ((0 : Nat) : Int)) from rfl, c4, bsm]
      simp only [getI_nat, c1, bsm, decide_eq_false hkp, cond_false, ap8 hlen (show len + 1 ≤ 100000 by omega), cond_true, decide_eq_true hr]
    ·rw [decide_eq_false hr, cond_false] at c5
     refine ⟨gen + 1, row.take len ++ [(j : Int)], by simp; omega, ?_, ?_⟩
     ·simp only [L34_1]
      rw [show ((0 : Int)) = ((0 : Nat) : Int) from rfl, c5]
      rfl
     ·simp only [L37_1]
      rw [show ((A : Int), (0 : Int)) = ((A : Int), ((0 : Nat) : Int)) from rfl, c4, bsm]
      simp only [getI_nat, c1, bsm, decide_eq_false hkp, cond_false, ap8 hlen (show len + 1 ≤ 100000 by omega), cond_true, decide_eq_false hr]
   obtain ⟨gen', row', d1, d2, d3⟩ := key
   obtain ⟨x0, g3, l3, p3, b3, k3, r3, x7, x8, x9, e1, e2, e3, e4⟩ := l3417 hn N k (A - byts (u.kids.take j)) gen' (len + 1) row' (by omega) (by omega) d1 (by omega) (by omega)
   exact ⟨x0, g3, l3, p3, b3, k3, r3, x7, x8, x9, (runL_next d2).trans e1, (runL_next d3).trans e2, e3, e4⟩
theorem q347 {Nf : Nat} (hn : 4000 < Nf) {t : TreeD} (ht : tc t ≤ 2000) (n : Int) : ∃ l e, F34 Nf t n = some (.k0 l e) ∧ F37 Nf t n = some (.k0 l e) ∧ (e = 0 ∨ e = 5 ∨ e = 240) ∧ l.length ≤ 4000 := by
 unfold F34 F37
 rw [q23 ht, q18 (by omega) (by omega), q47 Nf t (by omega) (by omega), q26 Nf t (by omega) (by omega)]
 cases hb : badT t with
 | true => exact ⟨[], 240, rfl, rfl, .inr (.inr rfl), by simp⟩
 | false =>
  simp only [cond_false, bsm, show ((0 : Int) != 0) = false from rfl]
  by_cases h1 : n < 0
  ·exact ⟨[], 5, by rw [decide_eq_true h1]; rfl, by rw [decide_eq_true h1]; rfl, .inr (.inl rfl), by simp⟩
  by_cases h2 : n ≥ (byt t : Int)
  ·exact ⟨[], 5, by rw [decide_eq_false h1, decide_eq_true h2]; rfl, by rw [decide_eq_false h1, decide_eq_true h2]; rfl, .inr (.inl rfl), by simp⟩
  by_cases h3 : t.prod < 0
  ·exact ⟨[], 5, by rw [decide_eq_false h1, decide_eq_false h2, decide_eq_true h3]; rfl, by rw [decide_eq_false h1, decide_eq_false h2, decide_eq_true h3]; rfl, .inr (.inl rfl), by simp⟩
  obtain ⟨x0, g3, l3, p3, b3, k3, r3, x7, x8, x9, e1, e2, e3, e4⟩ := l3417 hn (tc t) t n.toNat 0 0 [] (Nat.le_refl _) (by omega) (Nat.le_refl _) (by omega) (by omega)
  rw [show ((n.toNat : Nat) : Int) = n by omega] at e1 e2
  rw [decide_eq_false h1, decide_eq_false h2, decide_eq_false h3]
  simp only [cond_false, e1, e2, bsm, decide_eq_true e3, cond_true]
  exact ⟨_, _, rfl, rfl, .inl rfl, by rw [List.length_take]; omega⟩
section
variable {E : Er} {t x : TreeD} {p : List Int} {k : Int}
theorem at_all (ht : tc t ≤ 2000) (hp : p.length ≤ 2000) : ∃ w a b e, tc w ≤ 4000 ∧ (e = 0 ∨ e = 5 ∨ e = 240) ∧ PR2 (prgP E) 31 [.agg ((cT t).map .p), ls 1 eI64 p] (.tup [.agg ((cT w).map .p), i6 e]) ∧
  PR1 (prg E) 32 [.agg ((cT t).map .p), ls 1 eI64 p] (.tup [i6 a, i6 b, i6 e]) ∧ PR1 (prg E) 35 [.agg ((cT t).map .p), ls 1 eI64 p] (.tup [.agg ((cT w).map .p), i6 a, i6 b, i6 e]) := by
 have h35 := q35 (Nf := 5000) (by omega) (t := t) (by omega) (p := p) (by omega)
 have hz : tc (.mk 0 0 []) ≤ 4000 := by simp [tc, tcs]
 cases hb : badT t with
 | true =>
  have h56 : F56 5000 t p = some (.k0 0 0 [] 0 240) := by
   unfold F56
   rw [q23 ht, hb]
   rfl
  have h32 : F32 5000 t p = some (.k0 0 0 240) := by
   unfold F32
   rw [h56]
   rfl
  exact ⟨.mk 0 0 [], 0, 0, 240, hz, .inr (.inr rfl), at_ok (f := 0) hz (@F56_ok (erL E) 5000 t p _ h56), @F32_ok (erL E) 5000 t p _ h32, @F35_ok (erL E) 5000 t p _ (h35.1 hb)⟩
 | false =>
  have q := q56' (Nf := 5000) (by omega) (t := t) (by omega) hb (p := p) (by omega)
  cases hf : fol t p with
  | none =>
   have h32 : F32 5000 t p = some (.k0 0 0 5) := by
    unfold F32
    rw [q.2 hf]
    rfl
   exact ⟨.mk 0 0 [], 0, 0, 5, hz, .inr (.inl rfl), at_ok (f := 0) hz (@F56_ok (erL E) 5000 t p _ (q.2 hf)), @F32_ok (erL E) 5000 t p _ h32, @F35_ok (erL E) 5000 t p _ ((h35.2 hb).2 hf)⟩
  | some r =>
   obtain ⟨w, g⟩ := r
   obtain ⟨e1, e2⟩ := q.1 w g hf
   exact ⟨w, (g : Int), ((g + byt w : Nat) : Int), 0, by omega, .inl rfl, at_ok (w := w) (f := (g : Int)) (by omega) (@F56_ok (erL E) 5000 t p _ e1), @F32_ok (erL E) 5000 t p _ (q32' (by omega) (by omega) hb (by omega) hf), @F35_ok (erL E) 5000 t p _ ((h35.2 hb).1 w g hf)⟩
theorem put_all (ht : tc t ≤ 2000) (hx : tc x ≤ 2000) (hp : p.length ≤ 2000) : ∃ q e, tc q ≤ 4000 ∧ (e = 0 ∨ e = 5 ∨ e = 240) ∧ PR2 (prgP E) 33 [.agg ((cT t).map .p), .agg ((cT x).map .p), ls 1 eI64 p] (.tup [.agg ((cT q).map .p), i6 e]) ∧
  PR1 (prg E) 36 [.agg ((cT t).map .p), .agg ((cT x).map .p), ls 1 eI64 p] (.tup [.agg ((cT q).map .p), i6 e]) := by
 have h36 := q36 (Nf := 5000) (by omega) ht hx hp
 have hz : tc (.mk 0 0 []) ≤ 4000 := by simp [tc, tcs]
 have b1 := q23 ht
 have b2 := q23 hx
 cases hb : badT t with
 | true =>
  rw [hb] at b1
  exact ⟨.mk 0 0 [], 240, hz, .inr (.inr rfl), put_none1 b1, @F36_ok (erL E) 5000 t x p _ (h36.1 hb)⟩
 | false =>
  rw [hb] at b1
  cases hb2 : badT x with
  | true =>
   rw [hb2] at b2
   exact ⟨.mk 0 0 [], 240, hz, .inr (.inr rfl), put_none2 b1 b2, @F36_ok (erL E) 5000 t x p _ (h36.2.1 hb hb2)⟩
  | false =>
   rw [hb2] at b2
   have q := q56' (Nf := 5000) (by omega) (t := t) (by omega) hb (p := p) (by omega)
   cases hf : fol t p with
   | none => exact ⟨.mk 0 0 [], 5, hz, .inr (.inl rfl), put_none5 b1 b2 (@F56_ok (erL E) 5000 t p _ (q.2 hf)), @F36_ok (erL E) 5000 t x p _ (h36.2.2.1 hb hb2 hf)⟩
   | some r =>
    obtain ⟨w, g⟩ := r
    have htc := put_tc (x := x) (p := p) (t := t)
    have hd := (byt_le _ (putT t x p) (Nat.le_refl _)).2
    have hf' : (fol t p).isSome = true := by rw [hf]; rfl
    exact ⟨putT t x p, 0, by omega, .inl rfl, put_okG (w := w) (f := (g : Int)) (by omega) (by omega) (by omega) (by omega) (by omega) b1 b2 (@F56_ok (erL E) 5000 t p _ (q.1 w g hf).1) hf', @F36_ok (erL E) 5000 t x p _ (h36.2.2.2 hb hb2 hf')⟩
theorem own_all (ht : tc t ≤ 2000) : ∃ g, CB (prg E) ir17V [.agg ((cT t).map .p)] [] = some (.agg (cpC t g), cpH t g) := by
 have htc := tc_eq t
 have hl := tcs_len t.kids
 obtain ⟨g, l1⟩ := l17 (Nf := 5000) (t := t) (by omega) (by omega)
 exact ⟨g, @F17_own (erL E) 5000 t g l1 (decide_eq_true ⟨Nat.le_refl _, by unfold limit47; omega, by unfold limit47; omega⟩) (decide_eq_true ⟨by omega, by omega, Nat.le_refl _⟩)⟩
theorem paths : PR1 (prgY E) 9 (args9 t x p k) (vb true) := by
 have hw : PR1 (prg E) 11 [] (vb true) := works
 have h16 : PR1 (prg E) 16 [.p (.lst 3 [cT t, cT x])] (vb (decide (tc t ≤ 2000 ∧ tc x ≤ 2000))) := by
  have := @F16_ok (erL E) 5000 [t, x] _ (q16 (by omega) t x)
  rw [tr_map] at this
  exact this
 by_cases hs : tc t ≤ 2000 ∧ tc x ≤ 2000
 ·rw [decide_eq_true hs] at h16
  obtain ⟨ht, hx⟩ := hs
  by_cases hp : p.length ≤ 2000
  ·obtain ⟨g, c1⟩ := own_all (E := E) ht
   obtain ⟨g2, c2⟩ := own_all (E := E) hx
   obtain ⟨w, a, b, e, hw4, he, a31, a32, a35⟩ := at_all (E := E) ht hp
   obtain ⟨q, e2, hq4, he2, a33, a36⟩ := put_all (E := E) ht hx hp
   obtain ⟨l, e3, f34, f37, he3, hl⟩ := q347 (Nf := 5000) (by omega) ht k
   have n15 : ∀ z : Int, (z = 0 ∨ z = 5 ∨ z = 240) → PR1 (prg E) 15 [i6 z] (i6 z) := fun z hz => @F15_ok (erL E) z z (by rcases hz with rfl | rfl | rfl <;> rfl)
   have s14 : ∀ w : TreeD, tc w ≤ 4000 → PR1 (prg E) 14 [.agg ((cT w).map .p), .agg ((cT w).map .p)] (vb true) := fun w h => @F14_ok (erL E) 5000 w w true (q14 5000 w (by omega) (by omega))
   have k22 : ∀ w : TreeD, tc w ≤ 2000 → PR1 (prg E) 22 [.agg ((cX w).map .p), .agg ((cT w).map .p)] (vb true) := fun w h => @F22_ok (erL E) 5000 w w true (q22 5000 w (by omega) (by omega))
   have h1 := tc_eq t
   have h2 := tcs_len t.kids
   have h3 := tc_eq x
   have h4 := tcs_len x.kids
   have a34 : PR2 (prg E) 34 [.agg ((cT t).map .p), i6 k] (.tup [ls 1 eI64 l, i6 e3]) := @F34_ok (erL E) 5000 t k _ f34
   exact run9 h16 hp c1 c2 a31 a32 a33 a34 a35 a36 (@F37_ok (erL E) 5000 t k _ f37).pr1 (k22 t ht) (k22 x hx) (s14 w hw4) (s14 q hq4) (n15 e he) (n15 e2 he2) (n15 e3 he3) hw (by omega) (by omega) (by omega)
  ·exact run9X h16 (by omega) hw
 ·rw [decide_eq_false hs] at h16
  exact run9W h16 hw
end
end Go.Proofs.Tryd
