/- Trees: how many, which may be. Plain data alone. -/
import Derived.Test.YtcdebkkjbminoaaDoorH93
import Derived.Test.YtcdebkkjbminoaaDoorVE
import Derived.Test.YtcdebkkjbminoaaDoorH94
open Option renaming bind_some → bsm
open List renaming getElem?_eq_some_iff → gei, getElem?_eq_getElem → geg
namespace Go.Proofs.Tryd
set_option linter.unusedSimpArgs false
set_option linter.unusedVariables false
open Go Go.Vs
mutual
def tc : TreeD → Nat
 | .mk _ _ l => 1 + tcs l
def tcs : List TreeD → Nat
 | [] => 0
 | t :: l => tc t + tcs l
end
def bad1 (t : TreeD) : Bool := decide (t.prod < -1) || (decide (t.prod > 2147483647) || ((t.prod == -1 && decide ((t.kids.length : Int) > 0)) || (decide (t.prod ≥ 0) && t.byte != 0)))
mutual
def badT : TreeD → Bool
 | .mk p b l => bad1 (.mk p b l) || badTs l
def badTs : List TreeD → Bool
 | [] => false
 | t :: l => badT t || badTs l
end
inductive Ty : TreeD → Prop
 | mk {p b : Int} {l : List TreeD} (h1 : -9223372036854775808 ≤ p ∧ p ≤ 9223372036854775807) (h2 : 0 ≤ b ∧ b ≤ 255) (h3 : ∀ x ∈ l, Ty x) : Ty (.mk p b l)
theorem tc_eq : ∀ t : TreeD, tc t = 1 + tcs t.kids
 | .mk _ _ _ => by simp only [tc, TreeD.kids]
theorem badT_eq : ∀ t : TreeD, badT t = (bad1 t || badTs t.kids)
 | .mk _ _ _ => by simp only [badT, TreeD.kids]
theorem tcs_mem {b : TreeD} : ∀ {l : List TreeD}, b ∈ l → tc b ≤ tcs l
 | [], h => by simp at h
 | u :: l, h => by
  simp only [tcs]
  rcases List.mem_cons.1 h with rfl | h
  ·omega
  ·have := tcs_mem h; omega
theorem tcs_app : ∀ (a b : List TreeD), tcs (a ++ b) = tcs a + tcs b
 | [], b => by simp [tcs]
 | t :: a, b => by simp only [List.cons_append, tcs, tcs_app a b]; omega
theorem tc_pos (b : TreeD) : 1 ≤ tc b := by rw [tc_eq]; omega
theorem tcs_len : ∀ (l : List TreeD), l.length ≤ tcs l
 | [] => by simp
 | t :: a => by have := tcs_len a; have := tc_pos t; simp only [List.length_cons, tcs]; omega
theorem tkid {b x : TreeD} {i : Nat} (h : b.kids[i]? = some x) : tc x < tc b := by
 have := tcs_mem (List.mem_of_getElem? h)
 have := tc_eq b
 omega
theorem take_S {α : Type} {l : List α} {i : Nat} {x : α} (h : l[i]? = some x) : l.take (i + 1) = l.take i ++ [x] := by
 rw [List.take_add_one, h]; rfl
theorem tcs_take {l : List TreeD} {i : Nat} {x : TreeD} (h : l[i]? = some x) : tcs (l.take (i + 1)) = tcs (l.take i) + tc x := by
 rw [take_S h, tcs_app]; simp [tcs]
theorem tcs_take_le (l : List TreeD) (i : Nat) : tcs (l.take i) ≤ tcs l := by
 have := tcs_app (l.take i) (l.drop i)
 rw [List.take_append_drop] at this
 omega
theorem badTs_any : ∀ l : List TreeD, badTs l = l.any badT
 | [] => rfl
 | t :: l => by simp only [badTs, List.any_cons, badTs_any l]
theorem q28 : ∀ (Nf left : Nat) (t : TreeD), left < Nf → left ≤ 4000 → F28_2 Nf t left = some ((min (tc t) (left + 1) : Nat) : Int)
 | 0, left, t, h, _ => by omega
 | Nf + 1, left, t, h, h2 => by
  show F28_2_b (F28_2 Nf) t left = _
  unfold F28_2_b
  have key : ∀ (k i : Nat), i + k = t.kids.length → runL (fun s => L28_0_2 (F28_2 Nf) left t s.1 s.2) (((min (1 + tcs (t.kids.take i)) (left + 1) : Nat) : Int), (i : Int)) = some (.k0 ((min (tc t) (left + 1) : Nat) : Int)) := by
   intro k
   induction k with
   | zero =>
    intro i hi
    obtain rfl : i = t.kids.length := by omega
    rw [List.take_length, ← tc_eq]
    refine runL_done ?_
    simp only [L28_0_2, decide_eq_false (show ¬ ((t.kids.length : Int) < (t.kids.length : Int)) by omega), cond_false]
   | succ k ih =>
    intro i hi
    have hx : t.kids[i]? = some t.kids[i] := geg (by omega)
    generalize t.kids[i] = x at hx
    have hlt : decide ((i : Int) < (t.kids.length : Int)) = true := decide_eq_true (by omega)
    have hl := tcs_take hx
    have hle := tcs_take_le t.kids i
    have htc := tc_eq t
    by_cases hn : 1 + tcs (t.kids.take i) ≤ left
    ·have hm : min (1 + tcs (t.kids.take i)) (left + 1) = 1 + tcs (t.kids.take i) := by omega
     have hw : IntKind.wrap .i64 ((left : Int) - ((1 + tcs (t.kids.take i) : Nat) : Int)) = ((left - (1 + tcs (t.kids.take i)) : Nat) : Int) := by
      rw [w_id (by omega)]; omega
     have hr := q28 Nf (left - (1 + tcs (t.kids.take i))) x (by omega) (by omega)
     rw [hm]
     refine (runL_next (s' := (((min (1 + tcs (t.kids.take (i + 1))) (left + 1) : Nat) : Int), ((i + 1 : Nat) : Int))) ?_).trans (ih (i + 1) (by omega))
     simp only [L28_0_2, hlt, cond_true, decide_eq_true (show ((1 + tcs (t.kids.take i) : Nat) : Int) ≤ (left : Int) by omega), getI_nat, hx, bsm, hw, hr]
     rw [w_id (by omega), w_S (by have := tcs_len (t.kids.take i); rw [List.length_take] at this; omega)]
     congr 4
     omega
    ·have hm : min (1 + tcs (t.kids.take i)) (left + 1) = left + 1 := by omega
     have hm2 : min (tc t) (left + 1) = left + 1 := by omega
     rw [hm, hm2]
     refine runL_done ?_
     simp only [L28_0_2, hlt, cond_true, decide_eq_false (show ¬ ((left + 1 : Nat) : Int) ≤ (left : Int) by omega), cond_false]
  have := key t.kids.length 0 (by omega)
  rw [List.take_zero, show min (1 + tcs []) (left + 1) = 1 from by simp [tcs]] at this
  rw [show ((1 : Int), (0 : Int)) = (((1 : Nat) : Int), ((0 : Nat) : Int)) from rfl, this]
  rfl
theorem q16g {Nf : Nat} (hf : 2000 < Nf) (l : List TreeD) (hl : l.length ≤ 4000) : F16 Nf l = some (allF (fun _ x => decide (tc x ≤ 2000)) 0 l) := by
 unfold F16
 have key := loop_list (l := l) (fun _ x => decide (tc x ≤ 2000)) (bad := .k0) (fin := .k1) (step := fun s => L16_0 Nf l s) (fun i x hx => ?_) ?_
 ·rw [key]
  cases allF (fun _ x => decide (tc x ≤ 2000)) 0 l <;> rfl
 ·have hi : i < l.length := (gei.1 hx).1
  have hr := q28 Nf 2000 x hf (by omega)
  have hr : F28_2 Nf x 2000 = some ((min (tc x) (2000 + 1) : Nat) : Int) := hr
  simp only [L16_0, decide_eq_true (show (i : Int) < (l.length : Int) by omega), cond_true, getI_nat, hx, bsm, hr]
  by_cases h : tc x ≤ 2000
  ·rw [decide_eq_false (show ¬ ((min (tc x) (2000 + 1) : Nat) : Int) > 2000 by omega), decide_eq_true h, w_S (by omega)]
   rfl
  ·rw [decide_eq_true (show ((min (tc x) (2000 + 1) : Nat) : Int) > 2000 by omega), decide_eq_false h]
   rfl
 ·simp only [L16_0, decide_eq_false (show ¬ ((l.length : Int) < (l.length : Int)) by omega), cond_false]
theorem q16 {Nf : Nat} (hf : 2000 < Nf) (a b : TreeD) : F16 Nf [a, b] = some (decide (tc a ≤ 2000 ∧ tc b ≤ 2000)) := by
 rw [q16g hf [a, b] (by simp)]
 simp only [allF, Bool.and_true]
 by_cases h1 : tc a ≤ 2000 <;> by_cases h2 : tc b ≤ 2000 <;> simp [h1, h2]
theorem q54 (t : TreeD) (b : Bool) : F54 t b = some (b || bad1 t) := by
 unfold F54 bad1
 cases decide (t.prod < -1) <;> cases decide (t.prod > 2147483647) <;> cases t.prod == -1 <;> cases decide ((t.kids.length : Int) > 0) <;> cases decide (t.prod ≥ 0) <;> cases t.byte != 0 <;> cases b <;> rfl
theorem fold_or : ∀ (l : List TreeD) (b : Bool), l.foldl (fun b x => b || badT x) b = (b || badTs l)
 | [], b => by simp [badTs]
 | t :: l, b => by rw [List.foldl_cons, fold_or l, badTs, Bool.or_assoc]
theorem q72 : ∀ (Nf left : Nat) (t bx : TreeD) (b : Bool), tc t ≤ left → left < Nf → left ≤ 20000 → F72 Nf t left bx b = some (b || badT t)
 | 0, left, t, bx, b, _, h, _ => by omega
 | Nf + 1, left, t, bx, b, h1, h, h2 => by
  show F72_b (F72 Nf) t left bx b = _
  have hp := tc_pos t
  unfold F72_b
  rw [show ((left : Int) == 0) = false from by simpa using by omega, cond_false, q54, bsm]
  have key := loop_foldl (step := fun s => L72_0 (F72 Nf) left t (t.kids.length : Int) bx s.1 s.2) (l := t.kids) (emb := fun i b => ((i : Int), b)) (f := fun b x => b || badT x) (fin := fun b => .k0 b) (Inv := fun _ => True) (fun i x a hx _ => ?_) (fun a _ => ?_) t.kids.length 0 (b || bad1 t) (by omega) trivial
  ·rw [List.drop_zero, fold_or] at key
   rw [show ((0 : Int), b || bad1 t) = (((0 : Nat) : Int), b || bad1 t) from rfl, key, bsm, badT_eq, Bool.or_assoc]
  ·refine ⟨?_, trivial⟩
   have hi : i < t.kids.length := (gei.1 hx).1
   have hl := tcs_len t.kids
   have hk := tkid hx
   have htc := tc_eq t
   have hw : IntKind.wrap .i64 ((left : Int) - 1) = ((left - 1 : Nat) : Int) := by rw [w_id (by omega)]; omega
   simp only [L72_0, decide_eq_true (show (i : Int) < (t.kids.length : Int) by omega), cond_true, getI_nat, hx, bsm, hw, q72 Nf (left - 1) x bx a (by omega) (by omega) (by omega)]
   rw [w_S (by omega)]
  ·simp only [L72_0, decide_eq_false (show ¬ ((t.kids.length : Int) < (t.kids.length : Int)) by omega), cond_false]
theorem q23' {t : TreeD} (h : tc t ≤ 16000) : F23 t = some (bif badT t then 240 else 0) := by
 unfold F23
 have := q72 16386 16384 t t false (by omega) (by omega) (by omega)
 rw [show ((16384 : Nat) : Int) = 16384 from rfl] at this
 rw [this]
 cases badT t <;> rfl
theorem q23 {t : TreeD} (h : tc t ≤ 2000) : F23 t = some (bif badT t then 240 else 0) := q23' (by omega)
theorem splice_app {α : Type} {l y : List α} {n : Nat} (h : n + y.length ≤ l.length) : (splice l n y).take (n + y.length) = l.take n ++ y ∧ (splice l n y).length = l.length := by
 unfold splice
 refine ⟨?_, by simp; omega⟩
 have : (l.take n ++ y).length = n + y.length := by simp; omega
 rw [← this, List.take_left]
section
variable {row : List Int} {len : Nat} {o : List UInt8}
end
open Classical in
mutual
def byt : TreeD → Nat
 | .mk p _ l => (if p < 0 then 1 else 0) + byts l
def byts : List TreeD → Nat
 | [] => 0
 | t :: l => byt t + byts l
end
mutual
def dep : TreeD → Nat
 | .mk _ _ l => deps l + 1
def deps : List TreeD → Nat
 | [] => 0
 | t :: l => max (dep t) (deps l)
end
theorem byt_eq : ∀ t : TreeD, byt t = (if t.prod < 0 then 1 else 0) + byts t.kids
 | .mk _ _ _ => by rw [byt]; rfl
theorem dep_eq : ∀ t : TreeD, dep t = deps t.kids + 1
 | .mk _ _ _ => by rw [dep]; rfl
theorem byts_app : ∀ (a b : List TreeD), byts (a ++ b) = byts a + byts b
 | [], b => by simp [byts]
 | t :: a, b => by simp only [List.cons_append, byts, byts_app a b]; omega
theorem deps_app : ∀ (a b : List TreeD), deps (a ++ b) = max (deps a) (deps b)
 | [], b => by simp [deps]
 | t :: a, b => by simp only [List.cons_append, deps, deps_app a b]; omega
theorem byts_take {l : List TreeD} {i : Nat} {x : TreeD} (h : l[i]? = some x) : byts (l.take (i + 1)) = byts (l.take i) + byt x := by
 rw [take_S h, byts_app]; simp [byts]
theorem deps_take {l : List TreeD} {i : Nat} {x : TreeD} (h : l[i]? = some x) : deps (l.take (i + 1)) = max (deps (l.take i)) (dep x) := by
 rw [take_S h, deps_app]; simp [deps]
theorem byt_le : ∀ (N : Nat) (t : TreeD), tc t ≤ N → byt t ≤ tc t ∧ dep t ≤ tc t
 | 0, t, h => by have := tc_pos t; omega
 | N + 1, t, h => by
  have key : ∀ l : List TreeD, tcs l ≤ N → byts l ≤ tcs l ∧ deps l ≤ tcs l := by
   intro l
   induction l with
   | nil => intro _; simp [byts, deps]
   | cons x l ih =>
    intro hl
    simp only [tcs] at hl
    have h1 := byt_le N x (by omega)
    have h2 := ih (by omega)
    simp only [byts, deps, tcs]
    omega
  have h3 := tc_eq t
  have h1 := key t.kids (by omega)
  rw [byt_eq, dep_eq]
  split <;> omega
theorem byts_le : ∀ (l : List TreeD), byts l ≤ tcs l ∧ deps l ≤ tcs l
 | [] => by simp [byts, deps]
 | x :: l => by
  have h1 := byt_le _ x (Nat.le_refl _)
  have h2 := byts_le l
  simp only [byts, deps, tcs]
  omega
theorem l47 {E : Type} (fin : Int → Int → Int → E) {rF : T_F47} {t : TreeD} (h4 : tc t ≤ 4000) (step : Int × Int × Int × Int → Option (E ⊕ (Int × Int × Int × Int)))
  (hs : ∀ s, step s = (bif (decide (s.2.2.2 < (t.kids.length : Int))) then ((getI t.kids s.2.2.2).bind fun x2 => ((rF x2).bind fun r3 => match r3 with | .k0 x3_0 x3_1 x3_2 => (some (.inr ((IntKind.wrap .i64 (s.1 + x3_0)), (IntKind.wrap .i64 (s.2.1 + x3_1)), (if s.2.2.1 < x3_2 then x3_2 else s.2.2.1), (IntKind.wrap .i64 (s.2.2.2 + 1))))))) else (some (.inl (fin s.1 s.2.1 s.2.2.1)))))
  (hr : ∀ x ∈ t.kids, rF x = some (.k0 (tc x : Int) (byt x : Int) (dep x : Int))) (b0 : Nat) (hb : b0 ≤ 1) : ∀ (k i : Nat), i + k = t.kids.length →
  runL step (((1 + tcs (t.kids.take i) : Nat) : Int), ((b0 + byts (t.kids.take i) : Nat) : Int), ((deps (t.kids.take i) : Nat) : Int), (i : Int)) = some (fin ((1 + tcs t.kids : Nat) : Int) ((b0 + byts t.kids : Nat) : Int) ((deps t.kids : Nat) : Int))
 | 0, i, hi => by
  obtain rfl : i = t.kids.length := by omega
  rw [List.take_length]
  refine runL_done ?_
  rw [hs]
  simp only [decide_eq_false (show ¬ ((t.kids.length : Int) < (t.kids.length : Int)) by omega), cond_false]
 | k + 1, i, hi => by
  have hx : t.kids[i]? = some t.kids[i] := geg (by omega)
  generalize t.kids[i] = x at hx
  have htc := tc_eq t
  have h1 := tcs_take hx
  have h2 := byts_take hx
  have h3 := deps_take hx
  have h5 := tcs_take_le t.kids (i + 1)
  have h6 := byts_le (t.kids.take (i + 1))
  have hl := tcs_len t.kids
  refine (runL_next (s' := (((1 + tcs (t.kids.take (i + 1)) : Nat) : Int), ((b0 + byts (t.kids.take (i + 1)) : Nat) : Int), ((deps (t.kids.take (i + 1)) : Nat) : Int), ((i + 1 : Nat) : Int))) ?_).trans (l47 fin h4 step hs hr b0 hb k (i + 1) (by omega))
  rw [hs]
  simp only [decide_eq_true (show (i : Int) < (t.kids.length : Int) by omega), cond_true, getI_nat, hx, bsm, hr x (List.mem_of_getElem? hx)]
  rw [w_id (by omega), w_id (by omega), w_S (by omega)]
  refine congrArg some (congrArg Sum.inr ?_)
  simp only [Prod.mk.injEq]
  refine ⟨by omega, by omega, ?_, trivial⟩
  split <;> omega
theorem q47 : ∀ (Nf : Nat) (t : TreeD), tc t < Nf → tc t ≤ 4000 → F47 Nf t = some (.k0 (tc t : Int) (byt t : Int) (dep t : Int))
 | 0, _, h, _ => by omega
 | Nf + 1, t, h, h4 => by
  show F47_b (F47 Nf) t = _
  have htc := tc_eq t
  have hbt := byt_eq t
  have hdp := dep_eq t
  have hr : ∀ x ∈ t.kids, F47 Nf x = some (.k0 (tc x : Int) (byt x : Int) (dep x : Int)) := fun x hx => by
   have := tcs_mem hx
   exact q47 Nf x (by omega) (by omega)
  have hd := (byts_le t.kids).2
  unfold F47_b
  by_cases hp : t.prod < 0
  ·rw [decide_eq_true hp, cond_true]
   have := l47 (fun a b c => E_L47_0.k0 a b c) h4 (fun s => L47_0 (F47 Nf) t (t.kids.length : Int) s.1 s.2.1 s.2.2.1 s.2.2.2) (fun s => rfl) hr 1 (by omega) t.kids.length 0 (by omega)
   rw [List.take_zero, show tcs [] = 0 from rfl, show byts [] = 0 from rfl, show deps [] = 0 from rfl] at this
   rw [show ((1 : Int), (1 : Int), (0 : Int), (0 : Int)) = (((1 + 0 : Nat) : Int), ((1 + 0 : Nat) : Int), ((0 : Nat) : Int), ((0 : Nat) : Int)) from rfl, this, bsm]
   simp only
   rw [w_S (by omega), htc, hbt, hdp, if_pos hp]
  ·rw [decide_eq_false hp, cond_false]
   have := l47 (fun a b c => E_L47_0_2.k0 a b c) h4 (fun s => L47_0_2 (F47 Nf) t (t.kids.length : Int) s.1 s.2.1 s.2.2.1 s.2.2.2) (fun s => rfl) hr 0 (by omega) t.kids.length 0 (by omega)
   rw [List.take_zero, show tcs [] = 0 from rfl, show byts [] = 0 from rfl, show deps [] = 0 from rfl] at this
   rw [show ((1 : Int), (0 : Int), (0 : Int), (0 : Int)) = (((1 + 0 : Nat) : Int), ((0 + 0 : Nat) : Int), ((0 : Nat) : Int), ((0 : Nat) : Int)) from rfl, this, bsm]
   simp only
   rw [w_S (by omega), htc, hbt, hdp, if_neg hp]
theorem t_eta : ∀ t : TreeD, TreeD.mk t.prod t.byte t.kids = t
 | .mk _ _ _ => rfl
theorem set_same {α : Type} {l : List α} {i : Nat} {x : α} (h : l[i]? = some x) : l.set i x = l := by
 apply List.ext_getElem?
 intro j
 rw [List.getElem?_set]
 split
 ·rename_i e
  subst e
  have := (gei.1 h).1
  rw [if_pos this, h]
 ·rfl
theorem clN {n : Nat} (h : n ≤ 100000) : clOk n 40 = true := decide_eq_true ⟨by unfold limit47; omega, by unfold limit47; omega⟩
def fol : TreeD → List Int → Option (TreeD × Nat)
 | t, [] => some (t, 0)
 | t, i :: p => if 0 ≤ i ∧ i < t.kids.length then (t.kids[i.toNat]?).bind fun k => (fol k p).map fun r => (r.1, byts (t.kids.take i.toNat) + r.2) else none
theorem l56 {Nf : Nat} {l : List TreeD} (hl : tcs l ≤ 4000) (hn : 4000 < Nf) (f : Nat) (hf : f ≤ 100000) : ∀ (k i : Nat), i + k = l.length →
  runL (fun s => L56_0_3 Nf l (l.length : Int) s.1 s.2) (((f + byts (l.take i) : Nat) : Int), (i : Int)) = some (.k0 ((f + byts l : Nat) : Int))
 | 0, i, hi => by
  obtain rfl : i = l.length := by omega
  rw [List.take_length]
  refine runL_done ?_
  simp only [L56_0_3, decide_eq_false (show ¬ ((l.length : Int) < (l.length : Int)) by omega), cond_false]
 | k + 1, i, hi => by
  have hx : l[i]? = some l[i] := geg (by omega)
  generalize l[i] = x at hx
  have h2 := byts_take hx
  have hm := tcs_mem (List.mem_of_getElem? hx)
  have h5 := (byts_le (l.take (i + 1))).1
  have h6 := tcs_take_le l (i + 1)
  have hle := tcs_len l
  refine (runL_next (s' := (((f + byts (l.take (i + 1)) : Nat) : Int), ((i + 1 : Nat) : Int))) ?_).trans (l56 hl hn f hf k (i + 1) (by omega))
  simp only [L56_0_3, decide_eq_true (show (i : Int) < (l.length : Int) by omega), cond_true, getI_nat, hx, bsm, q47 Nf x (by omega) (by omega)]
  rw [w_id (by omega), w_S (by omega), h2]
  congr 4
  omega
theorem l56_1 {Nf : Nat} (hn : 4000 < Nf) (path : List Int) (hp : path.length ≤ 100000) : ∀ (k j : Nat) (u : TreeD) (f : Nat), j + k = path.length → f + tc u ≤ 4000 →
  (∀ w g, fol u (path.drop j) = some (w, g) → runL (fun s => L56_1 Nf path (path.length : Int) s.1 s.2.1 s.2.2.1 s.2.2.2.1 s.2.2.2.2) ((f : Int), (j : Int), u.prod, u.byte, u.kids) = some (.k1 ((f + g : Nat) : Int) w.prod w.byte w.kids) ∧ f + g + tc w ≤ 4000) ∧
  (fol u (path.drop j) = none → ∃ a b c, runL (fun s => L56_1 Nf path (path.length : Int) s.1 s.2.1 s.2.2.1 s.2.2.2.1 s.2.2.2.2) ((f : Int), (j : Int), u.prod, u.byte, u.kids) = some (.k0 a b c))
 | 0, j, u, f, hj, hf => by
  obtain rfl : j = path.length := by omega
  rw [List.drop_length]
  refine ⟨fun w g h => ?_, fun h => by simp [fol] at h⟩
  simp only [fol, Option.some.injEq, Prod.mk.injEq] at h
  obtain ⟨rfl, rfl⟩ := h
  refine ⟨runL_done ?_, by omega⟩
  simp only [L56_1, decide_eq_false (show ¬ ((path.length : Int) < (path.length : Int)) by omega), cond_false]
  rfl
 | k + 1, j, u, f, hj, hf => by
  have hx : path[j]? = some path[j] := geg (by omega)
  have hdr : path.drop j = path[j] :: path.drop (j + 1) := List.drop_eq_getElem_cons (by omega)
  generalize path[j] = x at hx hdr
  rw [hdr]
  have htc := tc_eq u
  have hlen := tcs_len u.kids
  by_cases hx0 : 0 ≤ x ∧ x < u.kids.length
  ·obtain ⟨i, rfl⟩ : ∃ i : Nat, x = (i : Int) := ⟨x.toNat, by omega⟩
   have hk : u.kids[i]? = some u.kids[i] := geg (by omega)
   generalize u.kids[i] = y at hk
   have h1 := tcs_take hk
   have h2 := tcs_take_le u.kids (i + 1)
   have h3 := (byts_le (u.kids.take i)).1
   have hstep : L56_1 Nf path (path.length : Int) (f : Int) (j : Int) u.prod u.byte u.kids = some (.inr (((f + byts (u.kids.take i) : Nat) : Int), ((j + 1 : Nat) : Int), y.prod, y.byte, y.kids)) := by
    have hl : ((u.kids.take (Int.toNat (i : Int))).drop (Int.toNat 0)) = u.kids.take i := by simp
    have hq := l56 (Nf := Nf) (l := u.kids.take i) (by omega) hn f (by omega) (u.kids.take i).length 0 (by omega)
    rw [List.take_zero, show byts [] = 0 from rfl, Nat.add_zero] at hq
    simp only [L56_1, decide_eq_true (show (j : Int) < (path.length : Int) by omega), cond_true, getI_nat, hx, bsm, decide_eq_false (show ¬ ((i : Int) < 0) by omega), cond_false, decide_eq_false (show ¬ ((i : Int) ≥ (u.kids.length : Int)) by omega)]
    rw [show sl_ok 0 (i : Int) u.kids.length = true from decide_eq_true ⟨by omega, by omega, by omega⟩, cond_true, hl, show ((f : Int), (0 : Int)) = ((f : Int), ((0 : Nat) : Int)) from rfl, hq, bsm]
    simp only [getI_nat, hk, bsm]
    rw [w_S (by omega)]
   have ih := l56_1 hn path hp k (j + 1) y (f + byts (u.kids.take i)) (by omega) (by omega)
   have hfol : fol u ((i : Int) :: path.drop (j + 1)) = (fol y (path.drop (j + 1))).map fun r => (r.1, byts (u.kids.take i) + r.2) := by
    rw [fol, if_pos hx0, Int.toNat_natCast, hk, bsm]
   rw [hfol]
   refine ⟨fun w g h => ?_, fun h => ?_⟩
   ·obtain ⟨⟨w', g'⟩, h5, h6⟩ := Option.map_eq_some_iff.1 h
    simp only [Prod.mk.injEq] at h6
    obtain ⟨rfl, rfl⟩ := h6
    obtain ⟨e1, e2⟩ := ih.1 w' g' h5
    refine ⟨(runL_next hstep).trans ?_, by omega⟩
    rw [e1, Nat.add_assoc]
   ·simp only [Option.map_eq_none_iff] at h
    obtain ⟨a, b, c, e⟩ := ih.2 h
    exact ⟨a, b, c, (runL_next hstep).trans e⟩
  ·have hfol : fol u (x :: path.drop (j + 1)) = none := by rw [fol, if_neg hx0]
   rw [hfol]
   refine ⟨fun w g h => (by cases h), fun _ => ⟨u.prod, u.byte, u.kids, runL_done ?_⟩⟩
   simp only [L56_1, decide_eq_true (show (j : Int) < (path.length : Int) by omega), cond_true, getI_nat, hx, bsm]
   by_cases h0 : x < 0
   ·rw [decide_eq_true h0, cond_true]
   ·rw [decide_eq_false h0, cond_false, decide_eq_true (by omega), cond_true]
theorem q56' {Nf : Nat} (hn : 4000 < Nf) {t : TreeD} (ht : tc t ≤ 4000) (hb : badT t = false) {p : List Int} (hp : p.length ≤ 100000) :
  (∀ w g, fol t p = some (w, g) → F56 Nf t p = some (.k0 w.prod w.byte w.kids (g : Int) 0) ∧ g + tc w ≤ 4000) ∧ (fol t p = none → F56 Nf t p = some (.k0 0 0 [] 0 5)) := by
 have h := l56_1 hn p hp p.length 0 t 0 (by omega) (by omega)
 rw [List.drop_zero] at h
 have e : F56 Nf t p = (runL (fun s => L56_1 Nf p (p.length : Int) s.1 s.2.1 s.2.2.1 s.2.2.2.1 s.2.2.2.2) (((0 : Nat) : Int), ((0 : Nat) : Int), t.prod, t.byte, t.kids)).bind fun r3 => match r3 with | .k0 x3_0 x3_1 x3_2 => (some (.k0 0 0 ([]) 0 5)) | .k1 x3_0 x3_1 x3_2 x3_3 => (some (.k0 x3_1 x3_2 x3_3 x3_0 0)) := by
  unfold F56
  rw [q23' (show tc t ≤ 16000 by omega), hb]
  simp only [cond_false, bsm, show ((0 : Int) != 0) = false from rfl]
  rfl
 refine ⟨fun w g hw => ?_, fun hw => ?_⟩
 ·obtain ⟨e1, e2⟩ := h.1 w g hw
  rw [e, e1, bsm]
  exact ⟨by simp, by omega⟩
 ·obtain ⟨a, b, c, e1⟩ := h.2 hw
  rw [e, e1, bsm]
theorem q32' {Nf : Nat} (hn : 4000 < Nf) {t : TreeD} (ht : tc t ≤ 4000) (hb : badT t = false) {p : List Int} (hp : p.length ≤ 100000) {w : TreeD} {g : Nat} (h : fol t p = some (w, g)) : F32 Nf t p = some (.k0 (g : Int) ((g + byt w : Nat) : Int) 0) := by
 obtain ⟨e1, e2⟩ := (q56' hn ht hb hp).1 w g h
 unfold F32
 rw [e1, bsm]
 have hle := (byt_le _ w (Nat.le_refl _)).1
 simp only [show ((0 : Int) != 0) = false from rfl, cond_false, t_eta]
 rw [q47 Nf w (by omega) (by omega), bsm]
 simp only
 rw [w_id (by omega)]
 congr 2
mutual
def RepT (h : List AB) : TreeD → Nat → Nat → List AV → Prop
 | .mk p b ks, lo, hi, xs => ∃ blk g rows, xs = [i6 p, vi .u8 b, .sl blk g 3 0 ks.length] ∧ lo ≤ blk ∧ h[blk]? = some (.row 25 3 g rows) ∧ RepK h ks (blk + 1) hi rows
def RepK (h : List AB) : List TreeD → Nat → Nat → List (List AV) → Prop
 | [], lo, hi, rows => rows = [] ∧ lo ≤ hi
 | k :: ks, lo, hi, rows => ∃ r rs mid, rows = r :: rs ∧ RepT h k lo mid r ∧ RepK h ks mid hi rs
end
mutual
theorem repT_lt {h : List AB} : ∀ (t : TreeD) {lo hi : Nat} {xs : List AV}, RepT h t lo hi xs → lo < hi
 | .mk p b ks, lo, hi, xs, ⟨blk, g, rows, _, h1, _, h2⟩ => by have := repK_le ks h2; omega
theorem repK_le {h : List AB} : ∀ (ks : List TreeD) {lo hi : Nat} {rows : List (List AV)}, RepK h ks lo hi rows → lo ≤ hi
 | [], lo, hi, rows, ⟨_, h⟩ => h
 | k :: ks, lo, hi, rows, ⟨r, rs, mid, _, h1, h2⟩ => by have := repT_lt k h1; have := repK_le ks h2; omega
end
mutual
theorem repT_frame {h h' : List AB} : ∀ (t : TreeD) {lo hi : Nat} {xs : List AV}, (∀ b, lo ≤ b → b < hi → h'[b]? = h[b]?) → RepT h t lo hi xs → RepT h' t lo hi xs
 | .mk p b ks, lo, hi, xs, hf, ⟨blk, g, rows, e, h1, hb, h2⟩ => by
  have hle := repK_le ks h2
  exact ⟨blk, g, rows, e, h1, (hf blk h1 (by omega)).trans hb, repK_frame ks (fun c h3 h4 => hf c (by omega) h4) h2⟩
theorem repK_frame {h h' : List AB} : ∀ (ks : List TreeD) {lo hi : Nat} {rows : List (List AV)}, (∀ b, lo ≤ b → b < hi → h'[b]? = h[b]?) → RepK h ks lo hi rows → RepK h' ks lo hi rows
 | [], lo, hi, rows, _, h => h
 | k :: ks, lo, hi, rows, hf, ⟨r, rs, mid, e, h1, h2⟩ => by
  have l1 := repT_lt k h1
  have l2 := repK_le ks h2
  exact ⟨r, rs, mid, e, repT_frame k (fun c h3 h4 => hf c h3 (by omega)) h1, repK_frame ks (fun c h3 h4 => hf c (by omega) h4) h2⟩
end
mutual
theorem repT_wide {h : List AB} : ∀ (t : TreeD) {lo hi lo' hi' : Nat} {xs : List AV}, RepT h t lo hi xs → lo' ≤ lo → hi ≤ hi' → RepT h t lo' hi' xs
 | .mk p b ks, lo, hi, lo', hi', xs, ⟨blk, g, rows, e, h1, hb, h2⟩, a1, a2 => ⟨blk, g, rows, e, by omega, hb, repK_wide ks h2 (Nat.le_refl _) a2⟩
theorem repK_wide {h : List AB} : ∀ (ks : List TreeD) {lo hi lo' hi' : Nat} {rows : List (List AV)}, RepK h ks lo hi rows → lo' ≤ lo → hi ≤ hi' → RepK h ks lo' hi' rows
 | [], lo, hi, lo', hi', rows, ⟨e, h⟩, a1, a2 => ⟨e, by omega⟩
 | k :: ks, lo, hi, lo', hi', rows, ⟨r, rs, mid, e, h1, h2⟩, a1, a2 => ⟨r, rs, mid, e, repT_wide k h1 a1 (Nat.le_refl _), repK_wide ks h2 (Nat.le_refl _) a2⟩
end
theorem ren_get {h nb : List AB} {b : Nat} {x : AB} (hb : nb[b]? = some x) : (h ++ nb.map (AB.ren (· + h.length)))[b + h.length]? = some (x.ren (· + h.length)) := by
 rw [List.getElem?_append_right (by omega), show b + h.length - h.length = b by omega, List.getElem?_map, hb]
 rfl
mutual
theorem repT_ren {h nb : List AB} : ∀ (t : TreeD) {lo hi : Nat} {xs : List AV}, RepT nb t lo hi xs → RepT (h ++ nb.map (AB.ren (· + h.length))) t (lo + h.length) (hi + h.length) (rens (· + h.length) xs)
 | .mk p b ks, lo, hi, xs, ⟨blk, g, rows, e, h1, hb, h2⟩ => by
  subst e
  refine ⟨blk + h.length, g, rows.map (rens (· + h.length)), rfl, by omega, ren_get hb, ?_⟩
  have := repK_ren (h := h) ks h2
  rwa [show blk + 1 + h.length = blk + h.length + 1 by omega] at this
theorem repK_ren {h nb : List AB} : ∀ (ks : List TreeD) {lo hi : Nat} {rows : List (List AV)}, RepK nb ks lo hi rows → RepK (h ++ nb.map (AB.ren (· + h.length))) ks (lo + h.length) (hi + h.length) (rows.map (rens (· + h.length)))
 | [], lo, hi, rows, ⟨e, h1⟩ => by subst e; exact ⟨rfl, by omega⟩
 | k :: ks, lo, hi, rows, ⟨r, rs, mid, e, h1, h2⟩ => by
  subst e
  exact ⟨_, _, mid + h.length, rfl, repT_ren k h1, repK_ren ks h2⟩
end
theorem repK_len {h : List AB} : ∀ (ks : List TreeD) {lo hi : Nat} {rows : List (List AV)}, RepK h ks lo hi rows → rows.length = ks.length
 | [], lo, hi, rows, ⟨e, h⟩ => by rw [e]; rfl
 | k :: ks, lo, hi, rows, ⟨r, rs, mid, e, h1, h2⟩ => by rw [e, List.length_cons, List.length_cons, repK_len ks h2]
theorem repK_snoc {h : List AB} {k : TreeD} {r : List AV} {hi : Nat} : ∀ (ks : List TreeD) {lo mid : Nat} {rows : List (List AV)}, RepK h ks lo mid rows → RepT h k mid hi r → RepK h (ks ++ [k]) lo hi (rows ++ [r])
 | [], lo, mid, rows, ⟨e, h1⟩, h2 => by
  subst e
  have := repT_lt k h2
  exact ⟨r, [], hi, rfl, repT_wide k h2 h1 (Nat.le_refl _), rfl, Nat.le_refl _⟩
 | a :: ks, lo, mid, rows, ⟨q, rs, m, e, h1, h2⟩, h3 => by
  subst e
  exact ⟨q, rs ++ [r], m, rfl, h1, repK_snoc ks h2 h3⟩
def putT (t x : TreeD) : List Int → TreeD
 | [] => x
 | i :: q => match t.kids[i.toNat]? with
  | some k => .mk t.prod t.byte (t.kids.set i.toNat (putT k x q))
  | none => t
def tgt (h : List AB) : AV → List Int → Option AV
 | P, [] => some P
 | P, i :: q => match (ptrAdd 2 P).bind (loadA h 1) with
  | some [.sl blk g 3 0 n] => if 0 ≤ i ∧ i < n then tgt h (.rp blk g 3 i.toNat 0) q else none
  | _ => none
end Go.Proofs.Tryd
