/- Trees: how many, which may be. Plain data alone. -/
import Derived.Test.YtcdebkkjbminoaaDoorH73
import Derived.Test.YtcdebkkjbminoaaDoorVE
import Derived.Test.YtcdebkkjbminoaaDoorH74
open Prod renaming mk.injEq → piq
open Option renaming map_eq_some_iff → mei, bind_some → bsm
open List renaming getElem?_eq_some_iff → gei, getElem?_eq_getElem → geg, mem_of_getElem? → mog, take_length → tkl
namespace Go.Proofs.Tryd
set_option linter.unusedSimpArgs false
set_option linter.unusedVariables false
open Go Go.Vs
mutual
def tc : TreeD → Nat
 | .mk _ _ l => 1 + tcs l
def tcs : List TreeD → Nat
 | [] => 0
 | t :: l => tc t + tcs l
end
def bad1 (t : TreeD) : Bool := decide (t.prod < -1) || (decide (t.prod > 2147483647) || ((t.prod == -1 && decide ((t.kids.length : Int) > 0)) || (decide (t.prod ≥ 0) && t.byte != 0)))
mutual
def badT : TreeD → Bool
 | .mk p b l => bad1 (.mk p b l) || R7 l
def R7 : List TreeD → Bool
 | [] => false
 | t :: l => badT t || R7 l
end
inductive Ty : TreeD → Prop
 | mk {p b : Int} {l : List TreeD} (h1 : -9223372036854775808 ≤ p ∧ p ≤ 9223372036854775807) (h2 : 0 ≤ b ∧ b ≤ 255) (h3 : ∀ x ∈ l, Ty x) : Ty (.mk p b l)
theorem WI : ∀ t : TreeD, tc t = 1 + tcs t.kids
 | .mk _ _ _ => by simp only [tc, TreeD.kids]
theorem Ph : ∀ t : TreeD, badT t = (bad1 t || R7 t.kids)
 | .mk _ _ _ => by simp only [badT, TreeD.kids]
theorem S8 {b : TreeD} : ∀ {l : List TreeD}, b ∈ l → tc b ≤ tcs l
 | [], h => by simp at h
 | u :: l, h => by
  simp only [tcs]
  rcases List.mem_cons.1 h with rfl | h
  ·omega
  ·have := S8 h; omega
theorem Pj : ∀ (a b : List TreeD), tcs (a ++ b) = tcs a + tcs b
 | [], b => by simp [tcs]
 | t :: a, b => by simp only [List.cons_append, tcs, Pj a b]; omega
theorem OK (b : TreeD) : 1 ≤ tc b := by rw [WI]; omega
theorem YK : ∀ (l : List TreeD), l.length ≤ tcs l
 | [] => by simp
 | t :: a => by have := YK a; have := OK t; simp only [List.length_cons, tcs]; omega
theorem tkid {b x : TreeD} {i : Nat} (h : b.kids[i]? = some x) : tc x < tc b := by
 have := S8 (mog h)
 have := WI b
 omega
theorem OL {α : Type} {l : List α} {i : Nat} {x : α} (h : l[i]? = some x) : l.take (i + 1) = l.take i ++ [x] := by
 rw [List.take_add_one, h]; rfl
theorem Ul {l : List TreeD} {i : Nat} {x : TreeD} (h : l[i]? = some x) : tcs (l.take (i + 1)) = tcs (l.take i) + tc x := by
 rw [OL h, Pj]; simp [tcs]
theorem Y8 (l : List TreeD) (i : Nat) : tcs (l.take i) ≤ tcs l := by
 have := Pj (l.take i) (l.drop i)
 rw [List.take_append_drop] at this
 omega
theorem R8 : ∀ l : List TreeD, R7 l = l.any badT
 | [] => rfl
 | t :: l => by simp only [R7, List.any_cons, R8 l]
theorem q28 : ∀ (Nf left : Nat) (t : TreeD), left < Nf → left ≤ 4000 → Q4 Nf t left = some ((min (tc t) (left + 1) : Nat) : Int)
 | 0, left, t, h, _ => by omega
 | Nf + 1, left, t, h, h2 => by
  show U0 (Q4 Nf) t left = _
  unfold U0
  have key : ∀ (k i : Nat), i + k = t.kids.length → runL (fun s => XO (Q4 Nf) left t s.1 s.2) (((min (1 + tcs (t.kids.take i)) (left + 1) : Nat) : Int), (i : Int)) = some (.k0 ((min (tc t) (left + 1) : Nat) : Int)) := by
   intro k
   induction k with
   | zero =>
    intro i hi
    obtain rfl : i = t.kids.length := by omega
    rw [tkl, ← WI]
    refine ZU ?_
    simp only [XO, decide_eq_false (show ¬ ((t.kids.length : Int) < (t.kids.length : Int)) by omega), cond_false]
   | succ k ih =>
    intro i hi
    have hx : t.kids[i]? = some t.kids[i] := geg (by omega)
    generalize t.kids[i] = x at hx
    have hlt : decide ((i : Int) < (t.kids.length : Int)) = true := decide_eq_true (by omega)
    have hl := Ul hx
    have hle := Y8 t.kids i
    have htc := WI t
    by_cases hn : 1 + tcs (t.kids.take i) ≤ left
    ·have hm : min (1 + tcs (t.kids.take i)) (left + 1) = 1 + tcs (t.kids.take i) := by omega
     have hw : IntKind.wrap .i64 ((left : Int) - ((1 + tcs (t.kids.take i) : Nat) : Int)) = ((left - (1 + tcs (t.kids.take i)) : Nat) : Int) := by
      rw [w_id (by omega)]; omega
     have hr := q28 Nf (left - (1 + tcs (t.kids.take i))) x (by omega) (by omega)
     rw [hm]
     refine (Z5 (s' := (((min (1 + tcs (t.kids.take (i + 1))) (left + 1) : Nat) : Int), ((i + 1 : Nat) : Int))) ?_).trans (ih (i + 1) (by omega))
     simp only [XO, hlt, cond_true, decide_eq_true (show ((1 + tcs (t.kids.take i) : Nat) : Int) ≤ (left : Int) by omega), Yj, hx, bsm, hw, hr]
     rw [w_id (by omega), w_S (by have := YK (t.kids.take i); rw [List.length_take] at this; omega)]
     congr 4
     omega
    ·have hm : min (1 + tcs (t.kids.take i)) (left + 1) = left + 1 := by omega
     have hm2 : min (tc t) (left + 1) = left + 1 := by omega
     rw [hm, hm2]
     refine ZU ?_
     simp only [XO, hlt, cond_true, decide_eq_false (show ¬ ((left + 1 : Nat) : Int) ≤ (left : Int) by omega), cond_false]
  have := key t.kids.length 0 (by omega)
  rw [List.take_zero, show min (1 + tcs []) (left + 1) = 1 from by simp [tcs]] at this
  rw [show ((1 : Int), (0 : Int)) = (((1 : Nat) : Int), ((0 : Nat) : Int)) from rfl, this]
  rfl
theorem q54 (t : TreeD) (b : Bool) : F54 t b = some (b || bad1 t) := by
 unfold F54 bad1
 cases decide (t.prod < -1) <;> cases decide (t.prod > 2147483647) <;> cases t.prod == -1 <;> cases decide ((t.kids.length : Int) > 0) <;> cases decide (t.prod ≥ 0) <;> cases t.byte != 0 <;> cases b <;> rfl
theorem L6 : ∀ (l : List TreeD) (b : Bool), l.foldl (fun b x => b || badT x) b = (b || R7 l)
 | [], b => by simp [R7]
 | t :: l, b => by rw [List.foldl_cons, L6 l, R7, Bool.or_assoc]
theorem q72 : ∀ (Nf left : Nat) (t bx : TreeD) (b : Bool), tc t ≤ left → left < Nf → left ≤ 20000 → F72 Nf t left bx b = some (b || badT t)
 | 0, left, t, bx, b, _, h, _ => by omega
 | Nf + 1, left, t, bx, b, h1, h, h2 => by
  show LD (F72 Nf) t left bx b = _
  have hp := OK t
  unfold LD
  rw [show ((left : Int) == 0) = false from by simpa using by omega, cond_false, q54, bsm]
  have key := TW (step := fun s => RR (F72 Nf) left t (t.kids.length : Int) bx s.1 s.2) (l := t.kids) (emb := fun i b => ((i : Int), b)) (f := fun b x => b || badT x) (fin := fun b => .k0 b) (Inv := fun _ => True) (fun i x a hx _ => ?_) (fun a _ => ?_) t.kids.length 0 (b || bad1 t) (by omega) trivial
  ·rw [List.drop_zero, L6] at key
   rw [show ((0 : Int), b || bad1 t) = (((0 : Nat) : Int), b || bad1 t) from rfl, key, bsm, Ph, Bool.or_assoc]
  ·refine ⟨?_, trivial⟩
   have hi : i < t.kids.length := (gei.1 hx).1
   have hl := YK t.kids
   have hk := tkid hx
   have htc := WI t
   have hw : IntKind.wrap .i64 ((left : Int) - 1) = ((left - 1 : Nat) : Int) := by rw [w_id (by omega)]; omega
   simp only [RR, decide_eq_true (show (i : Int) < (t.kids.length : Int) by omega), cond_true, Yj, hx, bsm, hw, q72 Nf (left - 1) x bx a (by omega) (by omega) (by omega)]
   rw [w_S (by omega)]
  ·simp only [RR, decide_eq_false (show ¬ ((t.kids.length : Int) < (t.kids.length : Int)) by omega), cond_false]
theorem q23 {t : TreeD} (h : tc t ≤ 2000) : F23 t = some (bif badT t then 240 else 0) := by
 unfold F23
 have := q72 16386 16384 t t false (by omega) (by omega) (by omega)
 rw [show ((16384 : Nat) : Int) = 16384 from rfl] at this
 rw [this]
 cases badT t <;> rfl
section
variable {row : List Int} {len : Nat} {o : List UInt8}
end
theorem JG : ∀ {a b : TreeD}, a.prod = b.prod → a.byte = b.byte → a.kids = b.kids → a = b
 | .mk _ _ _, .mk _ _ _, h1, h2, h3 => by
  simp only [TreeD.prod, TreeD.byte, TreeD.kids] at h1 h2 h3
  subst h1 h2 h3
  rfl
open Classical in
theorem q24 : ∀ (Nf : Nat) (a b : TreeD), tc a < Nf → tc a ≤ 2000 → F24 Nf a b = some (decide (a = b))
 | 0, a, b, h, _ => by omega
 | Nf + 1, a, b, h, h2 => by
  show LL (F24 Nf) a b = _
  unfold LL
  by_cases hp : a.prod = b.prod
  ·rw [show (a.prod == b.prod) = true by simpa using hp, cond_true]
   by_cases hq : a.byte = b.byte
   ·rw [show (a.byte == b.byte) = true by simpa using hq, cond_true]
    unfold F55
    have htc := WI a
    have hlen := YK a.kids
    by_cases hl : a.kids.length = b.kids.length
    ·rw [show ((a.kids.length : Int) != (b.kids.length : Int)) = false by simp [hl], cond_false]
     have key := M8 (l := a.kids) (fun i x => decide (b.kids[i]? = some x)) (bad := .k0) (fin := .k1) (step := fun s => RV (F24 Nf) b a (a.kids.length : Int) s) (fun i x hx => ?_) (by simp only [RV, decide_eq_false (show ¬ ((a.kids.length : Int) < (a.kids.length : Int)) by omega), cond_false])
     ·rw [key, bsm]
      by_cases hk : allF (fun i x => decide (b.kids[i]? = some x)) 0 a.kids = true
      ·rw [hk]
       have hk := (SO _ _).1 hk
       have : a = b := JG hp hq (List.ext_getElem? fun i => by
        by_cases hi : i < a.kids.length
        ·have hx : a.kids[i]? = some a.kids[i] := geg hi
         have := of_decide_eq_true (hk i _ hx)
         rw [Nat.zero_add] at this
         rw [hx, this]
        ·rw [List.getElem?_eq_none (by omega), List.getElem?_eq_none (by omega)])
       rw [decide_eq_true this]
       rfl
      ·have hk' : allF (fun i x => decide (b.kids[i]? = some x)) 0 a.kids = false := by simpa using hk
       rw [hk']
       have : ¬ a = b := fun e => hk ((SO _ _).2 (fun i x hx => by rw [Nat.zero_add, ← e]; exact decide_eq_true hx))
       rw [decide_eq_false this]
       rfl
     ·have hi : i < a.kids.length := (gei.1 hx).1
      have hy : b.kids[i]? = some b.kids[i] := geg (by omega)
      generalize b.kids[i] = y at hy
      have hk := tkid hx
      have hlx := YK a.kids
      simp only [RV, decide_eq_true (show (i : Int) < (a.kids.length : Int) by omega), cond_true, Yj, hx, hy, bsm, q24 Nf x y (by omega) (by omega)]
      by_cases hxy : x = y
      ·subst hxy
       rw [w_S (by omega)]
       simp
      ·have : ¬ (some y = some x) := fun e => hxy (by cases e; rfl)
       rw [decide_eq_false hxy, decide_eq_false this]
       rfl
    ·rw [show ((a.kids.length : Int) != (b.kids.length : Int)) = true by simpa using fun e => hl (by omega), cond_true]
     rw [decide_eq_false (fun e => hl (by rw [e]))]
     rfl
   ·rw [show (a.byte == b.byte) = false by simpa using hq, cond_false, decide_eq_false (fun e => hq (by rw [e]))]
  ·rw [show (a.prod == b.prod) = false by simpa using hp, cond_false, decide_eq_false (fun e => hp (by rw [e]))]
theorem JH {t : TreeD} (h : badT t = false) : (t.prod = -1 ∧ t.kids = []) ∨ (0 ≤ t.prod ∧ t.prod ≤ 2147483647 ∧ t.byte = 0) := by
 rw [Ph, Bool.or_eq_false_iff] at h
 have h := h.1
 unfold bad1 at h
 simp only [Bool.or_eq_false_iff, decide_eq_false_iff_not, Bool.and_eq_false_iff] at h
 obtain ⟨h1, h2, h3, h4⟩ := h
 by_cases c : t.prod = -1
 ·refine .inl ⟨c, ?_⟩
  rcases h3 with h3 | h3
  ·simp [c] at h3
  ·exact List.eq_nil_of_length_eq_zero (by omega)
 ·refine .inr ⟨by omega, by omega, ?_⟩
  rcases h4 with h4 | h4
  ·omega
  ·simpa using h4
theorem JI {t x : TreeD} (h : badT t = false) (hx : x ∈ t.kids) : badT x = false := by
 rw [Ph, Bool.or_eq_false_iff, R8] at h
 have := h.2
 rw [List.any_eq_false] at this
 simpa using this x hx
mutual
def byt : TreeD → Nat
 | .mk p _ l => (if p < 0 then 1 else 0) + byts l
def byts : List TreeD → Nat
 | [] => 0
 | t :: l => byt t + byts l
end
mutual
def dep : TreeD → Nat
 | .mk _ _ l => deps l + 1
def deps : List TreeD → Nat
 | [] => 0
 | t :: l => max (dep t) (deps l)
end
theorem OM : ∀ t : TreeD, byt t = (if t.prod < 0 then 1 else 0) + byts t.kids
 | .mk _ _ _ => by rw [byt]; rfl
theorem Ii : ∀ t : TreeD, dep t = deps t.kids + 1
 | .mk _ _ _ => by rw [dep]; rfl
theorem ON : ∀ (a b : List TreeD), byts (a ++ b) = byts a + byts b
 | [], b => by simp [byts]
 | t :: a, b => by simp only [List.cons_append, byts, ON a b]; omega
theorem OO : ∀ (a b : List TreeD), deps (a ++ b) = max (deps a) (deps b)
 | [], b => by simp [deps]
 | t :: a, b => by simp only [List.cons_append, deps, OO a b]; omega
theorem Tf {l : List TreeD} {i : Nat} {x : TreeD} (h : l[i]? = some x) : byts (l.take (i + 1)) = byts (l.take i) + byt x := by
 rw [OL h, ON]; simp [byts]
theorem L7 {l : List TreeD} {i : Nat} {x : TreeD} (h : l[i]? = some x) : deps (l.take (i + 1)) = max (deps (l.take i)) (dep x) := by
 rw [OL h, OO]; simp [deps]
theorem L8 : ∀ (N : Nat) (t : TreeD), tc t ≤ N → byt t ≤ tc t ∧ dep t ≤ tc t
 | 0, t, h => by have := OK t; omega
 | N + 1, t, h => by
  have key : ∀ l : List TreeD, tcs l ≤ N → byts l ≤ tcs l ∧ deps l ≤ tcs l := by
   intro l
   induction l with
   | nil => intro _; simp [byts, deps]
   | cons x l ih =>
    intro hl
    simp only [tcs] at hl
    have h1 := L8 N x (by omega)
    have h2 := ih (by omega)
    simp only [byts, deps, tcs]
    omega
  have h3 := WI t
  have h1 := key t.kids (by omega)
  rw [OM, Ii]
  split <;> omega
theorem Tg : ∀ (l : List TreeD), byts l ≤ tcs l ∧ deps l ≤ tcs l
 | [] => by simp [byts, deps]
 | x :: l => by
  have h1 := L8 _ x (Nat.le_refl _)
  have h2 := Tg l
  simp only [byts, deps, tcs]
  omega
theorem l47 {E : Type} (fin : Int → Int → Int → E) {rF : U1} {t : TreeD} (h4 : tc t ≤ 4000) (step : Int × Int × Int × Int → Option (E ⊕ (Int × Int × Int × Int)))
  (hs : ∀ s, step s = (bif (decide (s.2.2.2 < (t.kids.length : Int))) then ((getI t.kids s.2.2.2).bind fun x2 => ((rF x2).bind fun r3 => match r3 with | .k0 x3_0 x3_1 x3_2 => (some (.inr ((IntKind.wrap .i64 (s.1 + x3_0)), (IntKind.wrap .i64 (s.2.1 + x3_1)), (if s.2.2.1 < x3_2 then x3_2 else s.2.2.1), (IntKind.wrap .i64 (s.2.2.2 + 1))))))) else (some (.inl (fin s.1 s.2.1 s.2.2.1)))))
  (hr : ∀ x ∈ t.kids, rF x = some (.k0 (tc x : Int) (byt x : Int) (dep x : Int))) (b0 : Nat) (hb : b0 ≤ 1) : ∀ (k i : Nat), i + k = t.kids.length →
  runL step (((1 + tcs (t.kids.take i) : Nat) : Int), ((b0 + byts (t.kids.take i) : Nat) : Int), ((deps (t.kids.take i) : Nat) : Int), (i : Int)) = some (fin ((1 + tcs t.kids : Nat) : Int) ((b0 + byts t.kids : Nat) : Int) ((deps t.kids : Nat) : Int))
 | 0, i, hi => by
  obtain rfl : i = t.kids.length := by omega
  rw [tkl]
  refine ZU ?_
  rw [hs]
  simp only [decide_eq_false (show ¬ ((t.kids.length : Int) < (t.kids.length : Int)) by omega), cond_false]
 | k + 1, i, hi => by
  have hx : t.kids[i]? = some t.kids[i] := geg (by omega)
  generalize t.kids[i] = x at hx
  have htc := WI t
  have h1 := Ul hx
  have h2 := Tf hx
  have h3 := L7 hx
  have h5 := Y8 t.kids (i + 1)
  have h6 := Tg (t.kids.take (i + 1))
  have hl := YK t.kids
  refine (Z5 (s' := (((1 + tcs (t.kids.take (i + 1)) : Nat) : Int), ((b0 + byts (t.kids.take (i + 1)) : Nat) : Int), ((deps (t.kids.take (i + 1)) : Nat) : Int), ((i + 1 : Nat) : Int))) ?_).trans (l47 fin h4 step hs hr b0 hb k (i + 1) (by omega))
  rw [hs]
  simp only [decide_eq_true (show (i : Int) < (t.kids.length : Int) by omega), cond_true, Yj, hx, bsm, hr x (mog hx)]
  rw [w_id (by omega), w_id (by omega), w_S (by omega)]
  refine congrArg some (congrArg Sum.inr ?_)
  simp only [piq]
  refine ⟨by omega, by omega, ?_, trivial⟩
  split <;> omega
theorem q47 : ∀ (Nf : Nat) (t : TreeD), tc t < Nf → tc t ≤ 4000 → F47 Nf t = some (.k0 (tc t : Int) (byt t : Int) (dep t : Int))
 | 0, _, h, _ => by omega
 | Nf + 1, t, h, h4 => by
  show LP (F47 Nf) t = _
  have htc := WI t
  have hbt := OM t
  have hdp := Ii t
  have hr : ∀ x ∈ t.kids, F47 Nf x = some (.k0 (tc x : Int) (byt x : Int) (dep x : Int)) := fun x hx => by
   have := S8 hx
   exact q47 Nf x (by omega) (by omega)
  have hd := (Tg t.kids).2
  unfold LP
  by_cases hp : t.prod < 0
  ·rw [decide_eq_true hp, cond_true]
   have := l47 (fun a b c => E_L47_0.k0 a b c) h4 (fun s => NL (F47 Nf) t (t.kids.length : Int) s.1 s.2.1 s.2.2.1 s.2.2.2) (fun s => rfl) hr 1 (by omega) t.kids.length 0 (by omega)
   rw [List.take_zero, show tcs [] = 0 from rfl, show byts [] = 0 from rfl, show deps [] = 0 from rfl] at this
   rw [show ((1 : Int), (1 : Int), (0 : Int), (0 : Int)) = (((1 + 0 : Nat) : Int), ((1 + 0 : Nat) : Int), ((0 : Nat) : Int), ((0 : Nat) : Int)) from rfl, this, bsm]
   simp only
   rw [w_S (by omega), htc, hbt, hdp, if_pos hp]
  ·rw [decide_eq_false hp, cond_false]
   have := l47 (fun a b c => E_L47_0_2.k0 a b c) h4 (fun s => VU (F47 Nf) t (t.kids.length : Int) s.1 s.2.1 s.2.2.1 s.2.2.2) (fun s => rfl) hr 0 (by omega) t.kids.length 0 (by omega)
   rw [List.take_zero, show tcs [] = 0 from rfl, show byts [] = 0 from rfl, show deps [] = 0 from rfl] at this
   rw [show ((1 : Int), (0 : Int), (0 : Int), (0 : Int)) = (((1 + 0 : Nat) : Int), ((0 + 0 : Nat) : Int), ((0 : Nat) : Int), ((0 : Nat) : Int)) from rfl, this, bsm]
   simp only
   rw [w_S (by omega), htc, hbt, hdp, if_neg hp]
theorem q19 {Nf : Nat} {t : TreeD} (h : tc t < Nf) (h2 : tc t ≤ 2000) : F19 Nf t = some (bif badT t then .k0 0 0 0 else .k0 (tc t : Int) (byt t : Int) (dep t : Int)) := by
 unfold F19
 rw [q23 h2]
 cases badT t with
 | true => rfl
 | false =>
  simp only [cond_false, bsm, show ((0 : Int) != 0) = false from rfl]
  rw [q47 Nf t h (by omega)]
  rfl
theorem L9 : ∀ t : TreeD, TreeD.mk t.prod t.byte t.kids = t
 | .mk _ _ _ => rfl
theorem P9 {α : Type} {l : List α} {i : Nat} {x : α} (h : l[i]? = some x) : l.set i x = l := by
 apply List.ext_getElem?
 intro j
 rw [List.getElem?_set]
 split
 ·rename_i e
  subst e
  have := (gei.1 h).1
  rw [if_pos this, h]
 ·rfl
theorem clN {n : Nat} (h : n ≤ 100000) : clOk n 40 = true := decide_eq_true ⟨by unfold Zi; omega, by unfold Zi; omega⟩
theorem q57 : ∀ (Nf : Nat) (t : TreeD), tc t < Nf → tc t ≤ 4000 → F57 Nf t = some (.k0 t.prod t.byte t.kids)
 | 0, _, h, _ => by omega
 | Nf + 1, t, h, h4 => by
  show L2 (F57 Nf) t = _
  have htc := WI t
  have hl := YK t.kids
  have key : ∀ (k i : Nat), i + k = t.kids.length → runL (fun s => R2 (F57 Nf) ((t.kids.length : Nat) : Int) t.kids.length s.1 s.2) ((i : Int), t.kids) = some (.k0 t.kids) := by
   intro k
   induction k with
   | zero =>
    intro i hi
    refine ZU ?_
    simp only [R2, decide_eq_false (show ¬ ((i : Int) < (t.kids.length : Int)) by omega), cond_false]
   | succ k ih =>
    intro i hi
    have hx : t.kids[i]? = some t.kids[i] := geg (by omega)
    generalize t.kids[i] = x at hx
    have hk := tkid hx
    refine (Z5 (s' := (((i + 1 : Nat) : Int), t.kids)) ?_).trans (ih (i + 1) (by omega))
    simp only [R2, decide_eq_true (show (i : Int) < (t.kids.length : Int) by omega), cond_true, M7, if_pos (show i < t.kids.length by omega), bsm, hx, q57 Nf x (by omega) (by omega), L9, P9 hx]
    rw [w_S (by omega)]
  unfold L2
  rw [clN (by omega), cond_true, show ((0 : Int), t.kids) = (((0 : Nat) : Int), t.kids) from rfl, key t.kids.length 0 (by omega), bsm]
  simp only [decide_eq_true (Nat.le_refl _), cond_true, tkl]
def fol : TreeD → List Int → Option (TreeD × Nat)
 | t, [] => some (t, 0)
 | t, i :: p => if 0 ≤ i ∧ i < t.kids.length then (t.kids[i.toNat]?).bind fun k => (fol k p).map fun r => (r.1, byts (t.kids.take i.toNat) + r.2) else none
theorem l56 {Nf : Nat} {l : List TreeD} (hl : tcs l ≤ 4000) (hn : 4000 < Nf) (f : Nat) (hf : f ≤ 100000) : ∀ (k i : Nat), i + k = l.length →
  runL (fun s => Wh Nf l (l.length : Int) s.1 s.2) (((f + byts (l.take i) : Nat) : Int), (i : Int)) = some (.k0 ((f + byts l : Nat) : Int))
 | 0, i, hi => by
  obtain rfl : i = l.length := by omega
  rw [tkl]
  refine ZU ?_
  simp only [Wh, decide_eq_false (show ¬ ((l.length : Int) < (l.length : Int)) by omega), cond_false]
 | k + 1, i, hi => by
  have hx : l[i]? = some l[i] := geg (by omega)
  generalize l[i] = x at hx
  have h2 := Tf hx
  have hm := S8 (mog hx)
  have h5 := (Tg (l.take (i + 1))).1
  have h6 := Y8 l (i + 1)
  have hle := YK l
  refine (Z5 (s' := (((f + byts (l.take (i + 1)) : Nat) : Int), ((i + 1 : Nat) : Int))) ?_).trans (l56 hl hn f hf k (i + 1) (by omega))
  simp only [Wh, decide_eq_true (show (i : Int) < (l.length : Int) by omega), cond_true, Yj, hx, bsm, q47 Nf x (by omega) (by omega)]
  rw [w_id (by omega), w_S (by omega), h2]
  congr 4
  omega
theorem EO {Nf : Nat} (hn : 4000 < Nf) (path : List Int) (hp : path.length ≤ 100000) : ∀ (k j : Nat) (u : TreeD) (f : Nat), j + k = path.length → f + tc u ≤ 4000 →
  (∀ w g, fol u (path.drop j) = some (w, g) → runL (fun s => Ua Nf path (path.length : Int) s.1 s.2.1 s.2.2.1 s.2.2.2.1 s.2.2.2.2) ((f : Int), (j : Int), u.prod, u.byte, u.kids) = some (.k1 ((f + g : Nat) : Int) w.prod w.byte w.kids) ∧ f + g + tc w ≤ 4000) ∧
  (fol u (path.drop j) = none → ∃ a b c, runL (fun s => Ua Nf path (path.length : Int) s.1 s.2.1 s.2.2.1 s.2.2.2.1 s.2.2.2.2) ((f : Int), (j : Int), u.prod, u.byte, u.kids) = some (.k0 a b c))
 | 0, j, u, f, hj, hf => by
  obtain rfl : j = path.length := by omega
  rw [List.drop_length]
  refine ⟨fun w g h => ?_, fun h => by simp [fol] at h⟩
  simp only [fol, Option.some.injEq, piq] at h
  obtain ⟨rfl, rfl⟩ := h
  refine ⟨ZU ?_, by omega⟩
  simp only [Ua, decide_eq_false (show ¬ ((path.length : Int) < (path.length : Int)) by omega), cond_false]
  rfl
 | k + 1, j, u, f, hj, hf => by
  have hx : path[j]? = some path[j] := geg (by omega)
  have hdr : path.drop j = path[j] :: path.drop (j + 1) := List.drop_eq_getElem_cons (by omega)
  generalize path[j] = x at hx hdr
  rw [hdr]
  have htc := WI u
  have hlen := YK u.kids
  by_cases hx0 : 0 ≤ x ∧ x < u.kids.length
  ·obtain ⟨i, rfl⟩ : ∃ i : Nat, x = (i : Int) := ⟨x.toNat, by omega⟩
   have hk : u.kids[i]? = some u.kids[i] := geg (by omega)
   generalize u.kids[i] = y at hk
   have h1 := Ul hk
   have h2 := Y8 u.kids (i + 1)
   have h3 := (Tg (u.kids.take i)).1
   have hstep : Ua Nf path (path.length : Int) (f : Int) (j : Int) u.prod u.byte u.kids = some (.inr (((f + byts (u.kids.take i) : Nat) : Int), ((j + 1 : Nat) : Int), y.prod, y.byte, y.kids)) := by
    have hl : ((u.kids.take (Int.toNat (i : Int))).drop (Int.toNat 0)) = u.kids.take i := by simp
    have hq := l56 (Nf := Nf) (l := u.kids.take i) (by omega) hn f (by omega) (u.kids.take i).length 0 (by omega)
    rw [List.take_zero, show byts [] = 0 from rfl, Nat.add_zero] at hq
    simp only [Ua, decide_eq_true (show (j : Int) < (path.length : Int) by omega), cond_true, Yj, hx, bsm, decide_eq_false (show ¬ ((i : Int) < 0) by omega), cond_false, decide_eq_false (show ¬ ((i : Int) ≥ (u.kids.length : Int)) by omega)]
    rw [show YJ 0 (i : Int) u.kids.length = true from decide_eq_true ⟨by omega, by omega, by omega⟩, cond_true, hl, show ((f : Int), (0 : Int)) = ((f : Int), ((0 : Nat) : Int)) from rfl, hq, bsm]
    simp only [Yj, hk, bsm]
    rw [w_S (by omega)]
   have ih := EO hn path hp k (j + 1) y (f + byts (u.kids.take i)) (by omega) (by omega)
   have hfol : fol u ((i : Int) :: path.drop (j + 1)) = (fol y (path.drop (j + 1))).map fun r => (r.1, byts (u.kids.take i) + r.2) := by
    rw [fol, if_pos hx0, Int.toNat_natCast, hk, bsm]
   rw [hfol]
   refine ⟨fun w g h => ?_, fun h => ?_⟩
   ·obtain ⟨⟨w', g'⟩, h5, h6⟩ := mei.1 h
    simp only [piq] at h6
    obtain ⟨rfl, rfl⟩ := h6
    obtain ⟨e1, e2⟩ := ih.1 w' g' h5
    refine ⟨(Z5 hstep).trans ?_, by omega⟩
    rw [e1, Nat.add_assoc]
   ·simp only [Option.map_eq_none_iff] at h
    obtain ⟨a, b, c, e⟩ := ih.2 h
    exact ⟨a, b, c, (Z5 hstep).trans e⟩
  ·have hfol : fol u (x :: path.drop (j + 1)) = none := by rw [fol, if_neg hx0]
   rw [hfol]
   refine ⟨fun w g h => (by cases h), fun _ => ⟨u.prod, u.byte, u.kids, ZU ?_⟩⟩
   simp only [Ua, decide_eq_true (show (j : Int) < (path.length : Int) by omega), cond_true, Yj, hx, bsm]
   by_cases h0 : x < 0
   ·rw [decide_eq_true h0, cond_true]
   ·rw [decide_eq_false h0, cond_false, decide_eq_true (by omega), cond_true]
theorem q56 {Nf : Nat} (hn : 4000 < Nf) {t : TreeD} (ht : tc t ≤ 2000) (hb : badT t = false) {p : List Int} (hp : p.length ≤ 100000) :
  (∀ w g, fol t p = some (w, g) → F56 Nf t p = some (.k0 w.prod w.byte w.kids (g : Int) 0) ∧ g + tc w ≤ 4000) ∧ (fol t p = none → F56 Nf t p = some (.k0 0 0 [] 0 5)) := by
 have h := EO hn p hp p.length 0 t 0 (by omega) (by omega)
 rw [List.drop_zero] at h
 have e : F56 Nf t p = (runL (fun s => Ua Nf p (p.length : Int) s.1 s.2.1 s.2.2.1 s.2.2.2.1 s.2.2.2.2) (((0 : Nat) : Int), ((0 : Nat) : Int), t.prod, t.byte, t.kids)).bind fun r3 => match r3 with | .k0 x3_0 x3_1 x3_2 => (some (.k0 0 0 ([]) 0 5)) | .k1 x3_0 x3_1 x3_2 x3_3 => (some (.k0 x3_1 x3_2 x3_3 x3_0 0)) := by
  unfold F56
  rw [q23 ht, hb]
  simp only [cond_false, bsm, show ((0 : Int) != 0) = false from rfl]
  rfl
 refine ⟨fun w g hw => ?_, fun hw => ?_⟩
 ·obtain ⟨e1, e2⟩ := h.1 w g hw
  rw [e, e1, bsm]
  exact ⟨by simp, by omega⟩
 ·obtain ⟨a, b, c, e1⟩ := h.2 hw
  rw [e, e1, bsm]
theorem q31 {Nf : Nat} (hn : 4000 < Nf) {t : TreeD} (ht : tc t ≤ 2000) (hb : badT t = false) {p : List Int} (hp : p.length ≤ 100000) {w : TreeD} {g : Nat} (h : fol t p = some (w, g)) : F31 Nf t p = some (.k0 w.prod w.byte w.kids 0) := by
 obtain ⟨e1, e2⟩ := (q56 hn ht hb hp).1 w g h
 unfold F31
 rw [e1, bsm]
 simp only [L9]
 rw [q57 Nf w (by omega) (by omega), bsm]
theorem q32 {Nf : Nat} (hn : 4000 < Nf) {t : TreeD} (ht : tc t ≤ 2000) (hb : badT t = false) {p : List Int} (hp : p.length ≤ 100000) {w : TreeD} {g : Nat} (h : fol t p = some (w, g)) : F32 Nf t p = some (.k0 (g : Int) ((g + byt w : Nat) : Int) 0) := by
 obtain ⟨e1, e2⟩ := (q56 hn ht hb hp).1 w g h
 unfold F32
 rw [e1, bsm]
 have hle := (L8 _ w (Nat.le_refl _)).1
 simp only [show ((0 : Int) != 0) = false from rfl, cond_false, L9]
 rw [q47 Nf w (by omega) (by omega), bsm]
 simp only
 rw [w_id (by omega)]
 congr 2
mutual
def pth : TreeD → List Int → List (List Int)
 | .mk _ _ l, p => p :: pths l p 0
def pths : List TreeD → List Int → Nat → List (List Int)
 | [], _, _ => []
 | t :: l, p, i => pth t (p ++ [(i : Int)]) ++ pths l p (i + 1)
end
theorem Th : ∀ (t : TreeD) (p : List Int), pth t p = p :: pths t.kids p 0
 | .mk _ _ _, _ => by rw [pth]; rfl
theorem S9 : ∀ (a b : List TreeD) (p : List Int) (k : Nat), pths (a ++ b) p k = pths a p k ++ pths b p (k + a.length)
 | [], b, p, k => by simp [pths]
 | t :: a, b, p, k => by
  simp only [List.cons_append, pths, S9 a b, List.append_assoc, List.length_cons]
  rw [show k + 1 + a.length = k + (a.length + 1) by omega]
theorem Ka {l : List TreeD} {i : Nat} {x : TreeD} (h : l[i]? = some x) (p : List Int) : pths (l.take (i + 1)) p 0 = pths (l.take i) p 0 ++ pth x (p ++ [(i : Int)]) := by
 have hi := (gei.1 h).1
 rw [OL h, S9]
 simp only [pths, List.append_nil]
 rw [show 0 + (l.take i).length = i by rw [List.length_take]; omega]
theorem Pk : ∀ (N : Nat) (t : TreeD) (p : List Int), tc t ≤ N → (pth t p).length = tc t
 | 0, t, p, h => by have := OK t; omega
 | N + 1, t, p, h => by
  have key : ∀ (l : List TreeD) (k : Nat), tcs l ≤ N → (pths l p k).length = tcs l := by
   intro l
   induction l with
   | nil => intro k _; simp [pths, tcs]
   | cons x l ih =>
    intro k hl
    simp only [tcs] at hl
    simp only [pths, tcs, List.length_append, Pk N x _ (by omega), ih (k + 1) (by omega)]
  have htc := WI t
  rw [Th, List.length_cons, key _ _ (by omega)]
  omega
theorem ap24 {len n : Nat} (h : len ≤ n) (hb : len ≤ 100000) : apOk len 1 n 24 = true := decide_eq_true ⟨h, by unfold Zi; omega, by unfold Zi; omega⟩
theorem ap8 {len k n : Nat} (h : len ≤ n) (hb : len + k ≤ 100000) : apOk len k n 8 = true := decide_eq_true ⟨h, by unfold Zi; omega, by unfold Zi; omega⟩
theorem D9 {row : List (List Int)} {len : Nat} (p : List Int) (h : len ≤ row.length) : (splice row len [p]).take (len + 1) = row.take len ++ [p] ∧ (splice row len [p]).length ≥ row.length ∧ (row.take len ++ [p]).take (len + 1) = row.take len ++ [p] ∧ (row.take len ++ [p]).length = len + 1 := by
 have hs : (row.take len ++ [p]).length = len + 1 := by simp; omega
 refine ⟨?_, by simp [splice]; omega, by rw [← hs, tkl], hs⟩
 have : splice row len [p] = (row.take len ++ [p]) ++ row.drop (len + 1) := by simp [splice]
 rw [this, ← hs, List.take_left]
theorem l30 {E : Type} (fin : Nat → Nat → List (List Int) → E) (t : TreeD) (p : List Int) (step : Nat × Nat × Int × List (List Int) → Option (E ⊕ (Nat × Nat × Int × List (List Int)))) (N : Nat) (htc : tc t ≤ 1000)
  (hend : ∀ g len row, step (g, len, (t.kids.length : Int), row) = some (.inl (fin g len row)))
  (hs : ∀ (i : Nat) (x : TreeD) g len (row : List (List Int)), t.kids[i]? = some x → len ≤ row.length → len + tc x ≤ N → ∃ g' row', step (g, len, (i : Int), row) = some (.inr (g', len + tc x, ((i + 1 : Nat) : Int), row')) ∧ row'.take (len + tc x) = row.take len ++ pth x (p ++ [(i : Int)]) ∧ len + tc x ≤ row'.length) :
  ∀ (k i g len : Nat) (row : List (List Int)), i + k = t.kids.length → len ≤ row.length → len + tcs (t.kids.drop i) ≤ N →
  ∃ g' row', runL step (g, len, (i : Int), row) = some (fin g' (len + tcs (t.kids.drop i)) row') ∧ row'.take (len + tcs (t.kids.drop i)) = row.take len ++ pths (t.kids.drop i) p i ∧ len + tcs (t.kids.drop i) ≤ row'.length
 | 0, i, g, len, row, hi, hlen, hN => by
  obtain rfl : i = t.kids.length := by omega
  rw [List.drop_length]
  exact ⟨g, row, ZU (hend _ _ _), by simp [pths, tcs], hlen⟩
 | k + 1, i, g, len, row, hi, hlen, hN => by
  have hx : t.kids[i]? = some t.kids[i] := geg (by omega)
  have hdr : t.kids.drop i = t.kids[i] :: t.kids.drop (i + 1) := List.drop_eq_getElem_cons (by omega)
  generalize t.kids[i] = x at hx hdr
  rw [hdr] at hN ⊢
  simp only [tcs] at hN ⊢
  obtain ⟨g1, row1, e1, e2, e3⟩ := hs i x g len row hx hlen (by omega)
  obtain ⟨g2, row2, f1, f2, f3⟩ := l30 fin t p step N htc hend hs k (i + 1) g1 (len + tc x) row1 (by omega) e3 (by omega)
  refine ⟨g2, row2, (Z5 e1).trans ?_, ?_, by omega⟩
  ·rw [f1, Nat.add_assoc]
  ·rw [← Nat.add_assoc, f2, e2]
   simp only [pths, List.append_assoc]
theorem q30 : ∀ (Nf : Nat) (t T : TreeD) (p : List Int) (g len : Nat) (row : List (List Int)), tc t < Nf → tc t ≤ 1000 → len + tc t ≤ 10000 → p.length + tc t ≤ 10000 → len ≤ row.length →
  ∃ g' row', SZ Nf t p g len T row = some (.k0 g' (len + tc t) row') ∧ row'.take (len + tc t) = row.take len ++ pth t p ∧ len + tc t ≤ row'.length
 | 0, _, _, _, _, _, _, h, _, _, _, _ => by omega
 | Nf + 1, t, T, p, g, len, row, h, h1, h2, h3, h4 => by
  have htc := WI t
  obtain ⟨s1, s2, s3, s4⟩ := D9 p h4
  have key := l30 (fun a b c => E_L30_0_10.k0 a b c) t p (fun s => YR (SZ Nf) p t T s.1 s.2.1 s.2.2.1 s.2.2.2) 10000 h1
   (fun g len row => by simp only [YR, decide_eq_false (show ¬ ((t.kids.length : Int) < (t.kids.length : Int)) by omega), cond_false])
   (fun i x g len row hx hlen hN => by
    have hk := tkid hx
    have hi := (gei.1 hx).1
    have hl := YK t.kids
    obtain ⟨g', row', e1, e2, e3⟩ := q30 Nf x T (p ++ [(i : Int)]) g len row (by omega) (by omega) (by omega) (by simp; omega) hlen
    refine ⟨g', row', ?_, e2, e3⟩
    simp only [YR, decide_eq_true (show (i : Int) < (t.kids.length : Int) by omega), cond_true, Yj, hx, bsm]
    rw [ap8 (Nat.zero_le _) (by omega), cond_true]
    by_cases hp : p.length = 0
    ·obtain rfl : p = [] := List.eq_nil_of_length_eq_zero hp
     rw [show decide (0 + ([] : List Int).length ≤ ([] : List Int).length) = true from rfl, cond_true, show splice ([] : List Int) 0 [] = [] from rfl, show apOk (0 + ([] : List Int).length) 1 ([] : List Int).length 8 = true from ap8 (by simp) (by simp), cond_true]
     show (SZ Nf x ([] ++ [(i : Int)]) g len T row).bind _ = _
     rw [e1, bsm]
     simp only
     rw [w_S (by omega)]
    ·rw [show decide (0 + p.length ≤ ([] : List Int).length) = false from decide_eq_false (show ¬ (0 + p.length ≤ 0) by omega), cond_false, show apOk (0 + p.length) 1 (([] : List Int).take 0 ++ p).length 8 = true from ap8 (by simp) (by omega), cond_true]
     rw [show ((([] : List Int).take 0 ++ p).take (0 + p.length)) = p by simp]
     rw [e1, bsm]
     simp only
     rw [w_S (by omega)])
  show ∃ g' row', U7 (SZ Nf) t p g len T row = _ ∧ _
  unfold U7
  rw [ap24 h4 (by omega), cond_true]
  by_cases hc : len + 1 ≤ row.length
  ·rw [decide_eq_true hc, cond_true]
   obtain ⟨g', row', e1, e2, e3⟩ := key t.kids.length 0 g (len + 1) (splice row len [p]) (by omega) (by omega) (by rw [List.drop_zero]; omega)
   rw [List.drop_zero] at e1 e2 e3
   refine ⟨g', row', ?_, ?_, by omega⟩
   ·rw [show ((g : Nat), len + 1, (0 : Int), splice row len [p]) = (g, len + 1, ((0 : Nat) : Int), splice row len [p]) from rfl, e1, bsm]
    simp only
    congr 2
    omega
   ·rw [show len + tc t = len + 1 + tcs t.kids by omega, e2, s1, Th, List.append_assoc]; rfl
  ·rw [decide_eq_false hc, cond_false]
   obtain ⟨g', row', e1, e2, e3⟩ := key t.kids.length 0 (g + 1) (len + 1) (row.take len ++ [p]) (by omega) (by omega) (by rw [List.drop_zero]; omega)
   rw [List.drop_zero] at e1 e2 e3
   refine ⟨g', row', ?_, ?_, by omega⟩
   ·rw [show ((g + 1 : Nat), len + 1, (0 : Int), row.take len ++ [p]) = (g + 1, len + 1, ((0 : Nat) : Int), row.take len ++ [p]) from rfl, e1, bsm]
    simp only
    congr 2
    omega
   ·rw [show len + tc t = len + 1 + tcs t.kids by omega, e2, s3, Th, List.append_assoc]; rfl
theorem Ca {Nf : Nat} {t T : TreeD} (h : tc t < Nf) (h1 : tc t ≤ 1000) : ∃ g' row', LV Nf t 0 0 T [] = some (.k0 g' (tc t) row') ∧ row'.take (tc t) = pth t [] ∧ tc t ≤ row'.length := by
 have htc := WI t
 have key := l30 (fun a b c => E_L30_0_12.k0 a b c) t [] (fun s => YS Nf t T s.1 s.2.1 s.2.2.1 s.2.2.2) 10000 h1
  (fun g len row => by simp only [YS, decide_eq_false (show ¬ ((t.kids.length : Int) < (t.kids.length : Int)) by omega), cond_false])
  (fun i x g len row hx hlen hN => by
   have hk := tkid hx
   have hi := (gei.1 hx).1
   have hl := YK t.kids
   obtain ⟨g', row', e1, e2, e3⟩ := q30 Nf x T [(i : Int)] g len row (by omega) (by omega) (by omega) (by simp; omega) hlen
   refine ⟨g', row', ?_, e2, e3⟩
   simp only [YS, decide_eq_true (show (i : Int) < (t.kids.length : Int) by omega), cond_true, Yj, hx, bsm]
   rw [show apOk 0 0 ([] : List Int).length 8 = true from ap8 (by simp) (by simp), cond_true, show decide (0 + 0 ≤ ([] : List Int).length) = true from rfl, cond_true, show apOk (0 + 0) 1 ([] : List Int).length 8 = true from ap8 (by simp) (by simp), cond_true, e1, bsm]
   simp only
   rw [w_S (by omega)])
 unfold LV
 rw [ap24 (by simp) (by omega), cond_true, show decide (0 + 1 ≤ ([] : List (List Int)).length) = false from rfl, cond_false]
 obtain ⟨g', row', e1, e2, e3⟩ := key t.kids.length 0 (0 + 1) (0 + 1) (([] : List (List Int)).take 0 ++ [[]]) (by omega) (by simp) (by rw [List.drop_zero]; omega)
 rw [List.drop_zero] at e1 e2 e3
 refine ⟨g', row', ?_, ?_, by omega⟩
 ·rw [show (((0 : Nat) + 1 : Nat), 0 + 1, (0 : Int), ([] : List (List Int)).take 0 ++ [[]]) = (0 + 1, 0 + 1, ((0 : Nat) : Int), ([] : List (List Int)).take 0 ++ [[]]) from rfl, e1, bsm]
  simp only
  congr 2
  omega
 ·rw [show tc t = 0 + 1 + tcs t.kids by omega, e2, Th]; rfl
theorem OP : ∀ {p : List Int} {t u k : TreeD} {f i : Nat}, fol t p = some (u, f) → u.kids[i]? = some k → fol t (p ++ [(i : Int)]) = some (k, f + byts (u.kids.take i))
 | [], t, u, k, f, i, h, hk => by
  simp only [fol, Option.some.injEq, piq] at h
  obtain ⟨rfl, rfl⟩ := h
  have hi := (gei.1 hk).1
  rw [List.nil_append, fol, if_pos ⟨by omega, by omega⟩, Int.toNat_natCast, hk]
  simp [fol]
 | q :: p, t, u, k, f, i, h, hk => by
  rw [List.cons_append, fol]
  rw [fol] at h
  split at h
  ·rename_i hq
   rw [if_pos hq]
   obtain ⟨y, hy, h⟩ := Option.bind_eq_some_iff.1 h
   obtain ⟨⟨w, g⟩, hw, he⟩ := mei.1 h
   simp only [piq] at he
   obtain ⟨rfl, rfl⟩ := he
   rw [hy, bsm, OP hw hk]
   simp [Nat.add_assoc]
  ·cases h
theorem Ra : ∀ {p : List Int} {t u : TreeD} {f : Nat}, fol t p = some (u, f) → badT t = false → badT u = false
 | [], t, u, f, h, hb => by
  simp only [fol, Option.some.injEq, piq] at h
  obtain ⟨rfl, rfl⟩ := h
  exact hb
 | q :: p, t, u, f, h, hb => by
  rw [fol] at h
  split at h
  ·obtain ⟨y, hy, h⟩ := Option.bind_eq_some_iff.1 h
   obtain ⟨⟨w, g⟩, hw, he⟩ := mei.1 h
   simp only [piq] at he
   obtain ⟨rfl, rfl⟩ := he
   exact Ra hw (JI hb (mog hy))
  ·cases h
theorem Ij : ∀ {p : List Int} {t u : TreeD} {f : Nat}, fol t p = some (u, f) → tc u ≤ tc t
 | [], t, u, f, h => by
  simp only [fol, Option.some.injEq, piq] at h
  rw [h.1]; exact Nat.le_refl _
 | q :: p, t, u, f, h => by
  rw [fol] at h
  split at h
  ·obtain ⟨y, hy, h⟩ := Option.bind_eq_some_iff.1 h
   obtain ⟨⟨w, g⟩, hw, he⟩ := mei.1 h
   simp only [piq] at he
   obtain ⟨rfl, rfl⟩ := he
   have := Ij hw
   have := tkid hy
   omega
  ·cases h
def own1 (t : TreeD) : Nat := if t.prod < 0 then 1 else 0
theorem Kb {t : TreeD} (h : badT t = false) : byt t = own1 t + byts t.kids ∧ (t.prod < 0 → byt t = 1 ∧ t.kids = []) := by
 refine ⟨OM t, fun hp => ?_⟩
 rcases JH h with ⟨_, h2⟩ | ⟨h1, _⟩
 ·rw [OM, if_pos hp, h2]; exact ⟨rfl, rfl⟩
 ·omega
theorem y7 {Nf : Nat} (hn : 4000 < Nf) {T x : TreeD} (ht : tc T ≤ 2000) (hb : badT T = false) {p : List Int} (hp : p.length ≤ 100000) {f n len : Nat} {rows : List (List Int)} (h : fol T p = some (x, f)) (hr : rows[n]? = some p) (hlen : n < len) :
  R3 Nf (n : Int) x T rows len (n : Int) (f : Int) = some (.k2 ((f + own1 x : Nat) : Int) x.prod x.byte x.kids) := by
 have hb2 := Ra h hb
 have hx := ((q56 hn ht hb hp).1 x f h).2
 have h1 := Kb hb2
 have htx := Ij h
 unfold R3
 rw [show ((n : Int) != (n : Int)) = false from by simp, cond_false, decide_eq_false (by omega), cond_false, M7, if_pos hlen, bsm, hr, bsm, q31 hn ht hb hp h, bsm]
 simp only
 rw [q32 hn ht hb hp h, bsm]
 simp only [F15, bsm, show ((0 : Int) != 0) = false from rfl, cond_false, L9]
 rw [q24 Nf x x (by omega) (by omega), bsm, @decide_eq_true _ (Classical.propDecidable _) rfl, cond_true, show ((f : Int) != (f : Int)) = false from by simp, cond_false]
 by_cases hneg : x.prod < 0
 ·rw [decide_eq_true hneg, cond_true, w_S (by omega), (h1.2 hneg).1, show (((f + 1 : Nat) : Int) != ((f + 1 : Nat) : Int)) = false from by simp, cond_false]
  unfold own1
  rw [if_pos hneg]
 ·rw [decide_eq_false hneg, cond_false]
  unfold own1
  rw [if_neg hneg]
  rfl
theorem G8 {u x : TreeD} {i : Nat} (h : u.kids[i]? = some x) (p : List Int) {j : Nat} (hj : j < tc x) : (pth u p)[1 + tcs (u.kids.take i) + j]? = (pth x (p ++ [(i : Int)]))[j]? := by
 have hi := (gei.1 h).1
 have hk : u.kids = u.kids.take (i + 1) ++ u.kids.drop (i + 1) := (List.take_append_drop _ _).symm
 have e : pths u.kids p 0 = pths (u.kids.take i) p 0 ++ (pth x (p ++ [(i : Int)]) ++ pths (u.kids.drop (i + 1)) p (0 + (u.kids.take (i + 1)).length)) := by
  conv => lhs; rw [hk, S9, Ka h]
  simp
 have hl : (pths (u.kids.take i) p 0).length = tcs (u.kids.take i) := by
  have := Pk _ (.mk 0 0 (u.kids.take i)) p (Nat.le_refl _)
  rw [Th] at this
  have e2 : tc (.mk 0 0 (u.kids.take i)) = 1 + tcs (u.kids.take i) := WI _
  rw [e2, List.length_cons] at this
  show (pths (TreeD.kids (.mk 0 0 (u.kids.take i))) p 0).length = _
  omega
 rw [Th, show 1 + tcs (u.kids.take i) + j = (tcs (u.kids.take i) + j) + 1 by omega, List.getElem?_cons_succ, e, List.getElem?_append_right (by omega), hl, Nat.add_sub_cancel_left, List.getElem?_append_left (by rw [Pk _ x _ (Nat.le_refl _)]; exact hj)]
theorem q52 {T : TreeD} (ht : tc T ≤ 2000) (hb : badT T = false) {rows : List (List Int)} {len : Nat} (hlen : len ≤ 2000) (a8 a9 : TreeD) (a10 a11 a12 : Int) (a13 : TreeD) (a14 : Int) (a15 : TreeD) (a16 a17 : Int) (a18 a19 : TreeD) (a20 a21 a22 : Int) (a23 : TreeD) (a24 a25 a26 a27 a28 a29 : Int) (a30 a31 : TreeD) (a32 a33 a34 a35 : Nat) (a36 : TreeD) (g : Nat) :
  ∀ (Nf : Nat) (u : TreeD) (p : List Int) (n f : Nat), 4000 + tc u < Nf → fol T p = some (u, f) → p.length + tc u ≤ 100000 → n + tc u ≤ len → (∀ j, j < tc u → rows[n + j]? = (pth u p)[j]?) →
  Pg Nf u T g rows len (n : Int) (f : Int) a8 a9 a10 a11 a12 a13 a14 a15 a16 a17 a18 a19 a20 a21 a22 a23 a24 a25 a26 a27 a28 a29 a30 a31 a32 a33 a34 a35 a36 (n : Int) = some (.k1 ((n + tc u : Nat) : Int) ((f + byt u : Nat) : Int) ((n + tc u : Nat) : Int))
 | 0, _, _, _, _, h, _, _, _, _ => by omega
 | Nf + 1, u, p, n, f, h, hf, hp, hn, hr => by
  have htc := WI u
  have hbu := Ra hf hb
  obtain ⟨hbt, hleaf⟩ := Kb hbu
  have hfb := ((q56 (Nf := 5000) (by omega) ht hb (p := p) (by omega)).1 u f hf).2
  have hr0 := hr 0 (by omega)
  rw [Nat.add_zero, Th, List.getElem?_cons_zero] at hr0
  have hy := y7 (Nf := Nf) (by omega) ht hb (p := p) (by omega) hf hr0 (show n < len by omega)
  have hown : own1 u ≤ 1 := by unfold own1; split <;> omega
  have key : ∀ (k i : Nat), i + k = u.kids.length → runL (fun s => Wi (Pg Nf) u (u.kids.length : Int) T g rows len a8 a9 a10 a11 a12 a13 a14 a15 a16 a17 a18 a19 a20 a21 a22 a23 a24 a25 a26 a27 a28 a29 a30 a31 a32 a33 a34 a35 a36 s.1 s.2.1 s.2.2.1 s.2.2.2) ((i : Int), ((n + (1 + tcs (u.kids.take i)) : Nat) : Int), ((f + own1 u + byts (u.kids.take i) : Nat) : Int), ((n + (1 + tcs (u.kids.take i)) : Nat) : Int)) = some (.k1 ((n + tc u : Nat) : Int) ((f + byt u : Nat) : Int) ((n + tc u : Nat) : Int)) := by
   intro k
   induction k with
   | zero =>
    intro i hi
    obtain rfl : i = u.kids.length := by omega
    rw [tkl]
    refine ZU ?_
    simp only [Wi, decide_eq_false (show ¬ ((u.kids.length : Int) < (u.kids.length : Int)) by omega), cond_false]
    rw [htc, hbt, Nat.add_assoc f]
   | succ k ih =>
    intro i hi
    have hx : u.kids[i]? = some u.kids[i] := geg (by omega)
    generalize u.kids[i] = x at hx
    have hk := tkid hx
    have h1 := Ul hx
    have h2 := Tf hx
    have h3 := Y8 u.kids (i + 1)
    have hl := YK u.kids
    have hpos : own1 u = 0 := by
     unfold own1
     rw [if_neg]
     intro hneg
     rw [(hleaf hneg).2] at hx
     simp at hx
    refine (Z5 (s' := (((i + 1 : Nat) : Int), ((n + (1 + tcs (u.kids.take (i + 1))) : Nat) : Int), ((f + own1 u + byts (u.kids.take (i + 1)) : Nat) : Int), ((n + (1 + tcs (u.kids.take (i + 1))) : Nat) : Int))) ?_).trans (ih (i + 1) (by omega))
    have hrec := q52 ht hb hlen a8 a9 a10 a11 a12 a13 a14 a15 a16 a17 a18 a19 a20 a21 a22 a23 a24 a25 a26 a27 a28 a29 a30 a31 a32 a33 a34 a35 a36 g Nf x (p ++ [(i : Int)]) (n + (1 + tcs (u.kids.take i))) (f + byts (u.kids.take i)) (by omega) (OP hf hx) (by simp; omega) (by omega) (fun j hj => by
     rw [← G8 hx p hj, ← hr (1 + tcs (u.kids.take i) + j) (by omega), Nat.add_assoc])
    simp only [Wi, decide_eq_true (show (i : Int) < (u.kids.length : Int) by omega), cond_true, Yj, hx, bsm]
    rw [hpos, Nat.add_zero, hrec, bsm]
    simp only
    rw [w_S (by omega), h1, h2]
    simp only [Nat.add_assoc]
  show Te Nf (Pg Nf) u T g rows len (n : Int) (f : Int) a8 a9 a10 a11 a12 a13 a14 a15 a16 a17 a18 a19 a20 a21 a22 a23 a24 a25 a26 a27 a28 a29 a30 a31 a32 a33 a34 a35 a36 (n : Int) = _
  unfold Te
  rw [w_S (by omega), w_id (by omega), show (((n + 1 : Nat) : Int) - 1) = (n : Int) by omega, hy, bsm]
  simp only
  have := key u.kids.length 0 (by omega)
  rw [List.take_zero, show tcs [] = 0 from rfl, show byts [] = 0 from rfl] at this
  rw [show ((0 : Int), ((n + 1 : Nat) : Int), ((f + own1 u : Nat) : Int), ((n + 1 : Nat) : Int)) = (((0 : Nat) : Int), ((n + (1 + 0) : Nat) : Int), ((f + own1 u + 0 : Nat) : Int), ((n + (1 + 0) : Nat) : Int)) from rfl, this, bsm]
theorem treeWalk [ErC] {t : TreeD} (hty : Ty t) : F7 5000 t = some true := by
 unfold F7
 have hq := q28 5000 200 t (by omega) (by omega)
 rw [show (200 : Int) = ((200 : Nat) : Int) from rfl, hq, bsm]
 by_cases h2 : tc t ≤ 200
 ·rw [decide_eq_false (show ¬ (((min (tc t) (200 + 1) : Nat) : Int) > ((200 : Nat) : Int)) by omega), cond_false, q23 (by omega), bsm]
  simp only [F15, bsm]
  cases hb : badT t with
  | true =>
   simp only [cond_true, show ((240 : Int) != 0) = true from rfl]
   rfl
  | false =>
   simp only [cond_false, show ((0 : Int) != 0) = false from rfl]
   obtain ⟨g, row, e1, e2, e3⟩ := Ca (Nf := 5000) (t := t) (T := t) (by omega) (by omega)
   have h19 := q19 (Nf := 5000) (t := t) (by omega) (by omega)
   rw [hb, cond_false] at h19
   have hrow : ∀ j, j < tc t → row[0 + j]? = (pth t [])[j]? := fun j hj => by
    rw [← e2, List.getElem?_take, if_pos hj, Nat.zero_add]
   have h52 := q52 (T := t) (rows := row) (len := tc t) (by omega) hb (by omega)
   unfold F21
   rw [bsm]
   simp only [L9]
   rw [h19, bsm]
   simp only
   rw [e1, bsm]
   simp only
   have h51 : ∀ a6 a7 a8 a9 a10 a11 : Int, L4 5000 t t g row (tc t) a6 a7 a8 a9 a10 a11 = some (.k2 ((tc t : Nat) : Int) ((byt t : Nat) : Int) ((tc t : Nat) : Int)) := by
    intro a6 a7 a8 a9 a10 a11
    unfold L4
    rw [q23 (by omega), hb]
    simp only [cond_false, bsm, show ((0 : Int) != 0) = false from rfl]
    have := h52 t t a6 a7 a8 t a9 t a10 a11 t t a6 a7 a8 t a6 a7 a8 a6 a7 a8 t t 0 0 g (tc t) t g 5000 t [] 0 0 (by omega) rfl (by simp; omega) (by omega) hrow
    rw [Nat.zero_add, Nat.zero_add] at this
    rw [show (0 : Int) = ((0 : Nat) : Int) from rfl, this, bsm]
   rw [h51, bsm]
   simp only [beq_self_eq_true, cond_true]
   rfl
 ·rw [decide_eq_true (show (((min (tc t) (200 + 1) : Nat) : Int) > ((200 : Nat) : Int)) by omega), cond_true]
  rfl
end Go.Proofs.Tryd
