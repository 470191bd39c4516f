/- Trees: how many, which may be. Plain data alone. -/
import Derived.Test.YtcdebkkjbminoaaDoorH43
import Derived.Test.YtcdebkkjbminoaaDoorVE
import Derived.Test.YtcdebkkjbminoaaDoorH44
open Option renaming bind_some → bsm
open List renaming getElem?_eq_some_iff → gei, getElem?_eq_getElem → geg, mem_of_getElem? → mog, length_append → lap, getElem?_eq_none → gen, take_length → tkl, length_cons → lcn
namespace Go.Proofs.Tryd
set_option linter.unusedSimpArgs false
set_option linter.unusedVariables false
open Go Go.Vs
mutual
def tc : TreeD → Nat
 | .mk _ _ l => 1 + tcs l
def tcs : List TreeD → Nat
 | [] => 0
 | t :: l => tc t + tcs l
end
def bad1 (t : TreeD) : Bool := decide (t.prod < -1) || (decide (t.prod > 2147483647) || ((t.prod == -1 && decide ((t.kids.length : Int) > 0)) || (decide (t.prod ≥ 0) && t.byte != 0)))
mutual
def badT : TreeD → Bool
 | .mk p b l => bad1 (.mk p b l) || badTs l
def badTs : List TreeD → Bool
 | [] => false
 | t :: l => badT t || badTs l
end
inductive Ty : TreeD → Prop
 | mk {p b : Int} {l : List TreeD} (h1 : -9223372036854775808 ≤ p ∧ p ≤ 9223372036854775807) (h2 : 0 ≤ b ∧ b ≤ 255) (h3 : ∀ x ∈ l, Ty x) : Ty (.mk p b l)
theorem Ty.pr {t : TreeD} (h : Ty t) : -9223372036854775808 ≤ t.prod ∧ t.prod ≤ 9223372036854775807 := by cases h with | mk h1 h2 h3 => exact h1
theorem Ty.by {t : TreeD} (h : Ty t) : 0 ≤ t.byte ∧ t.byte ≤ 255 := by cases h with | mk h1 h2 h3 => exact h2
theorem Ty.kid {t x : TreeD} (h : Ty t) (hx : x ∈ t.kids) : Ty x := by cases h with | mk h1 h2 h3 => exact h3 x hx
theorem tc_eq : ∀ t : TreeD, tc t = 1 + tcs t.kids
 | .mk _ _ _ => by simp only [tc, TreeD.kids]
theorem badT_eq : ∀ t : TreeD, badT t = (bad1 t || badTs t.kids)
 | .mk _ _ _ => by simp only [badT, TreeD.kids]
theorem tcs_mem {b : TreeD} : ∀ {l : List TreeD}, b ∈ l → tc b ≤ tcs l
 | [], h => by simp at h
 | u :: l, h => by
  simp only [tcs]
  rcases List.mem_cons.1 h with rfl | h
  ·omega
  ·have := tcs_mem h; omega
theorem tcs_app : ∀ (a b : List TreeD), tcs (a ++ b) = tcs a + tcs b
 | [], b => by simp [tcs]
 | t :: a, b => by simp only [List.cons_append, tcs, tcs_app a b]; omega
theorem tc_pos (b : TreeD) : 1 ≤ tc b := by rw [tc_eq]; omega
theorem tcs_len : ∀ (l : List TreeD), l.length ≤ tcs l
 | [] => by simp
 | t :: a => by have := tcs_len a; have := tc_pos t; simp only [lcn, tcs]; omega
theorem tkid {b x : TreeD} {i : Nat} (h : b.kids[i]? = some x) : tc x < tc b := by
 have := tcs_mem (mog h)
 have := tc_eq b
 omega
theorem take_S {α : Type} {l : List α} {i : Nat} {x : α} (h : l[i]? = some x) : l.take (i + 1) = l.take i ++ [x] := by
 rw [List.take_add_one, h]; rfl
theorem tcs_take {l : List TreeD} {i : Nat} {x : TreeD} (h : l[i]? = some x) : tcs (l.take (i + 1)) = tcs (l.take i) + tc x := by
 rw [take_S h, tcs_app]; simp [tcs]
theorem tcs_take_le (l : List TreeD) (i : Nat) : tcs (l.take i) ≤ tcs l := by
 have := tcs_app (l.take i) (l.drop i)
 rw [List.take_append_drop] at this
 omega
theorem badTs_any : ∀ l : List TreeD, badTs l = l.any badT
 | [] => rfl
 | t :: l => by simp only [badTs, List.any_cons, badTs_any l]
theorem q28 : ∀ (Nf left : Nat) (t : TreeD), left < Nf → left ≤ 4000 → F28_2 Nf t left = some ((min (tc t) (left + 1) : Nat) : Int)
 | 0, left, t, h, _ => by omega
 | Nf + 1, left, t, h, h2 => by
  show F28_2_b (F28_2 Nf) t left = _
  unfold F28_2_b
  have key : ∀ (k i : Nat), i + k = t.kids.length → runL (fun s => L28_0_2 (F28_2 Nf) left t s.1 s.2) (((min (1 + tcs (t.kids.take i)) (left + 1) : Nat) : Int), (i : Int)) = some (.k0 ((min (tc t) (left + 1) : Nat) : Int)) := by
   intro k
   induction k with
   | zero =>
    intro i hi
    obtain rfl : i = t.kids.length := by omega
    rw [tkl, ← tc_eq]
    refine runL_done ?_
    simp only [L28_0_2, decide_eq_false (show ¬ ((t.kids.length : Int) < (t.kids.length : Int)) by omega), cond_false]
   | succ k ih =>
    intro i hi
    have hx : t.kids[i]? = some t.kids[i] := geg (by omega)
    generalize t.kids[i] = x at hx
    have hlt : decide ((i : Int) < (t.kids.length : Int)) = true := decide_eq_true (by omega)
    have hl := tcs_take hx
    have hle := tcs_take_le t.kids i
    have htc := tc_eq t
    by_cases hn : 1 + tcs (t.kids.take i) ≤ left
    ·have hm : min (1 + tcs (t.kids.take i)) (left + 1) = 1 + tcs (t.kids.take i) := by omega
     have hw : IntKind.wrap .i64 ((left : Int) - ((1 + tcs (t.kids.take i) : Nat) : Int)) = ((left - (1 + tcs (t.kids.take i)) : Nat) : Int) := by
      rw [w_id (by omega)]; omega
     have hr := q28 Nf (left - (1 + tcs (t.kids.take i))) x (by omega) (by omega)
     rw [hm]
     refine (runL_next (s' := (((min (1 + tcs (t.kids.take (i + 1))) (left + 1) : Nat) : Int), ((i + 1 : Nat) : Int))) ?_).trans (ih (i + 1) (by omega))
     simp only [L28_0_2, hlt, cond_true, decide_eq_true (show ((1 + tcs (t.kids.take i) : Nat) : Int) ≤ (left : Int) by omega), getI_nat, hx, bsm, hw, hr]
     rw [w_id (by omega), w_S (by have := tcs_len (t.kids.take i); rw [List.length_take] at this; omega)]
     congr 4
     omega
    ·have hm : min (1 + tcs (t.kids.take i)) (left + 1) = left + 1 := by omega
     have hm2 : min (tc t) (left + 1) = left + 1 := by omega
     rw [hm, hm2]
     refine runL_done ?_
     simp only [L28_0_2, hlt, cond_true, decide_eq_false (show ¬ ((left + 1 : Nat) : Int) ≤ (left : Int) by omega), cond_false]
  have := key t.kids.length 0 (by omega)
  rw [List.take_zero, show min (1 + tcs []) (left + 1) = 1 from by simp [tcs]] at this
  rw [show ((1 : Int), (0 : Int)) = (((1 : Nat) : Int), ((0 : Nat) : Int)) from rfl, this]
  rfl
theorem q16g {Nf : Nat} (hf : 2000 < Nf) (l : List TreeD) (hl : l.length ≤ 4000) : F16 Nf l = some (allF (fun _ x => decide (tc x ≤ 2000)) 0 l) := by
 unfold F16
 have key := loop_list (l := l) (fun _ x => decide (tc x ≤ 2000)) (bad := .k0) (fin := .k1) (step := fun s => L16_0 Nf l s) (fun i x hx => ?_) ?_
 ·rw [key]
  cases allF (fun _ x => decide (tc x ≤ 2000)) 0 l <;> rfl
 ·have hi : i < l.length := (gei.1 hx).1
  have hr := q28 Nf 2000 x hf (by omega)
  have hr : F28_2 Nf x 2000 = some ((min (tc x) (2000 + 1) : Nat) : Int) := hr
  simp only [L16_0, decide_eq_true (show (i : Int) < (l.length : Int) by omega), cond_true, getI_nat, hx, bsm, hr]
  by_cases h : tc x ≤ 2000
  ·rw [decide_eq_false (show ¬ ((min (tc x) (2000 + 1) : Nat) : Int) > 2000 by omega), decide_eq_true h, w_S (by omega)]
   rfl
  ·rw [decide_eq_true (show ((min (tc x) (2000 + 1) : Nat) : Int) > 2000 by omega), decide_eq_false h]
   rfl
 ·simp only [L16_0, decide_eq_false (show ¬ ((l.length : Int) < (l.length : Int)) by omega), cond_false]
theorem q16 {Nf : Nat} (hf : 2000 < Nf) (a b : TreeD) : F16 Nf [a, b] = some (decide (tc a ≤ 2000 ∧ tc b ≤ 2000)) := by
 rw [q16g hf [a, b] (by simp)]
 simp only [allF, Bool.and_true]
 by_cases h1 : tc a ≤ 2000 <;> by_cases h2 : tc b ≤ 2000 <;> simp [h1, h2]
theorem q54 (t : TreeD) (b : Bool) : F54 t b = some (b || bad1 t) := by
 unfold F54 bad1
 cases decide (t.prod < -1) <;> cases decide (t.prod > 2147483647) <;> cases t.prod == -1 <;> cases decide ((t.kids.length : Int) > 0) <;> cases decide (t.prod ≥ 0) <;> cases t.byte != 0 <;> cases b <;> rfl
theorem fold_or : ∀ (l : List TreeD) (b : Bool), l.foldl (fun b x => b || badT x) b = (b || badTs l)
 | [], b => by simp [badTs]
 | t :: l, b => by rw [List.foldl_cons, fold_or l, badTs, Bool.or_assoc]
theorem q72 : ∀ (Nf left : Nat) (t bx : TreeD) (b : Bool), tc t ≤ left → left < Nf → left ≤ 20000 → F72 Nf t left bx b = some (b || badT t)
 | 0, left, t, bx, b, _, h, _ => by omega
 | Nf + 1, left, t, bx, b, h1, h, h2 => by
  show F72_b (F72 Nf) t left bx b = _
  have hp := tc_pos t
  unfold F72_b
  rw [show ((left : Int) == 0) = false from by simpa using by omega, cond_false, q54, bsm]
  have key := loop_foldl (step := fun s => L72_0 (F72 Nf) left t (t.kids.length : Int) bx s.1 s.2) (l := t.kids) (emb := fun i b => ((i : Int), b)) (f := fun b x => b || badT x) (fin := fun b => .k0 b) (Inv := fun _ => True) (fun i x a hx _ => ?_) (fun a _ => ?_) t.kids.length 0 (b || bad1 t) (by omega) trivial
  ·rw [List.drop_zero, fold_or] at key
   rw [show ((0 : Int), b || bad1 t) = (((0 : Nat) : Int), b || bad1 t) from rfl, key, bsm, badT_eq, Bool.or_assoc]
  ·refine ⟨?_, trivial⟩
   have hi : i < t.kids.length := (gei.1 hx).1
   have hl := tcs_len t.kids
   have hk := tkid hx
   have htc := tc_eq t
   have hw : IntKind.wrap .i64 ((left : Int) - 1) = ((left - 1 : Nat) : Int) := by rw [w_id (by omega)]; omega
   simp only [L72_0, decide_eq_true (show (i : Int) < (t.kids.length : Int) by omega), cond_true, getI_nat, hx, bsm, hw, q72 Nf (left - 1) x bx a (by omega) (by omega) (by omega)]
   rw [w_S (by omega)]
  ·simp only [L72_0, decide_eq_false (show ¬ ((t.kids.length : Int) < (t.kids.length : Int)) by omega), cond_false]
theorem q23 {t : TreeD} (h : tc t ≤ 2000) : F23 t = some (bif badT t then 240 else 0) := by
 unfold F23
 have := q72 16386 16384 t t false (by omega) (by omega) (by omega)
 rw [show ((16384 : Nat) : Int) = 16384 from rfl] at this
 rw [this]
 cases badT t <;> rfl
theorem len_d (a : ByteArray) : a.data.toList.length = a.size := by rw [Array.length_toList]; rfl
theorem splice_app {α : Type} {l y : List α} {n : Nat} (h : n + y.length ≤ l.length) : (splice l n y).take (n + y.length) = l.take n ++ y ∧ (splice l n y).length = l.length := by
 unfold splice
 refine ⟨?_, by simp; omega⟩
 have : (l.take n ++ y).length = n + y.length := by simp; omega
 rw [← this, List.take_left]
abbrev ints (l : List UInt8) : List Int := l.map fun b => ((b.toNat : Nat) : Int)
theorem bstr_ints (l : List UInt8) : bstr (ints l) = ⟨l.toArray⟩ := by
 unfold bstr
 congr 2
 rw [List.map_map]
 conv => rhs; rw [← List.map_id l]
 refine List.map_congr_left (fun x _ => ?_)
 simp
structure Buf (row : List Int) (len : Nat) (o : List UInt8) : Prop where
 le : len ≤ row.length
 is : row.take len = ints o
theorem Buf.len {row : List Int} {len : Nat} {o : List UInt8} (h : Buf row len o) : len = o.length := by
 have := congrArg List.length h.is
 rw [List.length_take, List.length_map] at this
 have := h.le
 omega
theorem sb_ints (s : ByteArray) : sbytes s = ints s.data.toList := rfl
theorem sb_len (s : ByteArray) : (sbytes s).length = s.size := by rw [sb_ints, List.length_map, len_d]
theorem apN {len k n : Nat} (h : len ≤ n) (hb : len + k ≤ 5000000) : apOk len k n 1 = true := decide_eq_true ⟨h, by unfold limit47; omega, by unfold limit47; omega⟩
theorem putN {row : List Int} {len : Nat} {o : List UInt8} (s : List UInt8) (h : Buf row len o) :
  (len + s.length ≤ row.length → Buf (splice row len (ints s)) (len + s.length) (o ++ s)) ∧ Buf (row.take len ++ ints s) (len + s.length) (o ++ s) := by
 have hs : (ints s).length = s.length := List.length_map _
 have ha : ints (o ++ s) = row.take len ++ ints s := by rw [h.is]; simp [ints]
 have hp : (row.take len).length = len := by rw [List.length_take]; have := h.le; omega
 refine ⟨fun hl => ?_, ⟨?_, ?_⟩⟩
 ·obtain ⟨h1, h2⟩ := splice_app (l := row) (y := ints s) (n := len) (by omega)
  rw [hs] at h1
  exact ⟨by rw [h2]; exact hl, by rw [h1, ha]⟩
 ·rw [lap, hp, hs]; exact Nat.le_refl _
 ·rw [ha]; exact List.take_of_length_le (by rw [lap, hp, hs]; exact Nat.le_refl _)
abbrev hexL : List UInt8 := [48, 49, 50, 51, 52, 53, 54, 55, 56, 57, 97, 98, 99, 100, 101, 102]
def hexd (n : Nat) : UInt8 := hexL[n]?.getD 0
mutual
def tbt : TreeD → List UInt8
 | .mk p b l => bif decide (p < 0) then [120, hexd (b.toNat / 16), hexd (b.toNat % 16)] else itoaL p ++ 40 :: ((tbr l).drop 1 ++ [41])
def tbr : List TreeD → List UInt8
 | [] => []
 | t :: l => 32 :: (tbt t ++ tbr l)
end
theorem tbt_eq : ∀ t : TreeD, tbt t = bif decide (t.prod < 0) then [120, hexd (t.byte.toNat / 16), hexd (t.byte.toNat % 16)] else itoaL t.prod ++ 40 :: ((tbr t.kids).drop 1 ++ [41])
 | .mk _ _ _ => by rw [tbt]; rfl
theorem tbr_app : ∀ a b : List TreeD, tbr (a ++ b) = tbr a ++ tbr b
 | [], b => by simp [tbr]
 | t :: a, b => by simp [tbr, tbr_app a b]
theorem dd_len : ∀ k u : Nat, (dd k u).length ≤ k
 | 0, _ => by simp [dd]
 | k + 1, u => by
  have := dd_len k (u / 10)
  rw [dd]
  split
  ·simp
  ·rw [lap]; simp; omega
theorem itoa_len (n : Int) : (itoaL n).length ≤ 21 := by
 unfold itoaL
 cases n with
 | ofNat u => exact Nat.le_trans (dd_len 20 u) (by omega)
 | negSucc u => rw [lcn]; have := dd_len 20 (u + 1); omega
theorem tb_len : ∀ (N : Nat) (t : TreeD), tc t ≤ N → (tbt t).length + 1 ≤ 24 * tc t
 | 0, t, h => by have := tc_pos t; omega
 | N + 1, t, h => by
  have key : ∀ l : List TreeD, tcs l ≤ N → (tbr l).length ≤ 24 * tcs l := by
   intro l
   induction l with
   | nil => intro _; simp [tbr]
   | cons x l ih =>
    intro hl
    simp only [tcs] at hl
    have h1 := tb_len N x (by omega)
    have h2 := ih (by omega)
    simp only [tbr, tcs, lcn, lap]
    omega
  have h1 := key t.kids (by have := tc_eq t; omega)
  have h2 := itoa_len t.prod
  have h3 := tc_eq t
  rw [tbt_eq]
  cases decide (t.prod < 0) with
  | true => simp; omega
  | false =>
   simp only [cond_false, lap, lcn, List.length_drop, List.length_nil]
   omega
theorem tbr_len : ∀ l : List TreeD, (tbr l).length ≤ 24 * tcs l
 | [] => by simp [tbr]
 | x :: l => by
  have h1 := tb_len (tc x) x (Nat.le_refl _)
  have h2 := tbr_len l
  simp only [tbr, tcs, lcn, lap]
  omega
abbrev tbk (l : List TreeD) : List UInt8 := (tbr l).drop 1
theorem tbk_take {l : List TreeD} {i : Nat} {x : TreeD} (h : l[i]? = some x) : tbk (l.take (i + 1)) = bif decide ((i : Int) > 0) then tbk (l.take i) ++ 32 :: tbt x else tbk (l.take i) ++ tbt x := by
 unfold tbk
 rw [take_S h, tbr_app]
 cases i with
 | zero => simp [tbr]
 | succ i =>
  rw [decide_eq_true (by omega), cond_true]
  cases l with
  | nil => simp at h
  | cons y l => simp [tbr]
section
variable {row : List Int} {len : Nat} {o : List UInt8}
theorem q825 (v : Bool) : F82_5 v = some true := by unfold F82_5; cases v <;> rfl
theorem q826 (v : Bool) : F82_6 v = some true := by unfold F82_6; cases v <;> rfl
theorem q827 (v : Bool) : F82_7 v = some true := by unfold F82_7; cases v <;> rfl
theorem q68 (g : Nat) (v : Bool) (a b : UInt8) (h : Buf row len o) (hb : len ≤ 4000000) : ∃ g' row' v', F68_3 g row v len (a.toNat : Int) (b.toNat : Int) = some (.k0 g' row' v') ∧ Buf row' (len + 3) (o ++ [120, a, b]) := by
 obtain ⟨p1, p2⟩ := putN [120, a, b] h
 unfold F68_3
 rw [q825]
 simp only [bsm, apN h.le (show len + 3 ≤ 5000000 by omega), cond_true]
 by_cases hr : len + 3 ≤ row.length
 ·rw [decide_eq_true hr]; exact ⟨_, _, _, rfl, p1 hr⟩
 ·rw [decide_eq_false hr]; exact ⟨_, _, _, rfl, p2⟩
theorem q69 (s : ByteArray) (g : Nat) (v : Bool) (h : Buf row len o) (hb : len + s.size ≤ 5000000) : ∃ n g' row' v', F69_3 s g row v len = some (.k0 n g' row' v') ∧ Buf row' (len + s.size) (o ++ s.data.toList) := by
 obtain ⟨p1, p2⟩ := putN s.data.toList h
 rw [len_d, ← sb_ints] at p1 p2
 unfold F69_3
 rw [q826]
 simp only [bsm, sb_len, apN h.le hb, cond_true]
 by_cases hr : len + s.size ≤ row.length
 ·rw [decide_eq_true hr]; exact ⟨_, _, _, _, rfl, p1 hr⟩
 ·rw [decide_eq_false hr]; exact ⟨_, _, _, _, rfl, p2⟩
theorem q70 (g : Nat) (v : Bool) (h : Buf row len o) (hb : len ≤ 4000000) : ∃ g' row' v', F70 g row v len = some (.k0 g' row' v') ∧ Buf row' (len + 1) (o ++ [41]) := by
 obtain ⟨p1, p2⟩ := putN [41] h
 unfold F70
 rw [q826]
 simp only [bsm, apN h.le (show len + 1 ≤ 5000000 by omega), cond_true]
 by_cases hr : len + 1 ≤ row.length
 ·rw [decide_eq_true hr]; exact ⟨_, _, _, rfl, p1 hr⟩
 ·rw [decide_eq_false hr]; exact ⟨_, _, _, rfl, p2⟩
theorem q702 (g : Nat) (v : Bool) (h : Buf row len o) (hb : len ≤ 4000000) : ∃ g' row' v', F70_2 g row v len = some (.k0 g' row' v') ∧ Buf row' (len + 1) (o ++ [32]) := by
 obtain ⟨p1, p2⟩ := putN [32] h
 unfold F70_2
 rw [q827]
 simp only [bsm, apN h.le (show len + 1 ≤ 5000000 by omega), cond_true]
 by_cases hr : len + 1 ≤ row.length
 ·rw [decide_eq_true hr]; exact ⟨_, _, _, rfl, p1 hr⟩
 ·rw [decide_eq_false hr]; exact ⟨_, _, _, rfl, p2⟩
end
theorem hex_get {n : Nat} (h : n < 16) {i : Int} (hi : i = (n : Int)) : getI hexL i = some (hexd n) := by
 subst hi
 rw [getI_nat]
 have : n < hexL.length := h
 unfold hexd
 rw [geg this]
 rfl
theorem hi_nib {b : Int} (h : 0 ≤ b ∧ b ≤ 255) : Int.fdiv b (2 ^ (min (Int.toNat 4) (IntKind.bits .u8))) = ((b.toNat / 16 : Nat) : Int) := by
 rw [show (2 : Int) ^ (min (Int.toNat 4) (IntKind.bits .u8)) = 16 from rfl, Int.fdiv_eq_ediv_of_nonneg _ (by omega)]
 omega
theorem lo_nib {b : Int} (h : 0 ≤ b ∧ b ≤ 255) : IntKind.wrap .u8 ((BitVec.ofInt (IntKind.bits .u8) b &&& BitVec.ofInt (IntKind.bits .u8) 15).toNat : Int) = ((b.toNat % 16 : Nat) : Int) := by
 obtain ⟨n, rfl⟩ : ∃ n : Nat, b = (n : Int) := ⟨b.toNat, by omega⟩
 have hn : n ≤ 255 := by omega
 have : ∀ n : _root_.Fin 256, IntKind.wrap .u8 ((BitVec.ofInt (IntKind.bits .u8) ((n.val : Nat) : Int) &&& BitVec.ofInt (IntKind.bits .u8) 15).toNat : Int) = ((((n.val : Nat) : Int).toNat % 16 : Nat) : Int) := by decide +kernel
 exact this ⟨n, by omega⟩
theorem q48 : ∀ (Nf : Nat) (t bx : TreeD) (g : Nat) (row : List Int) (v : Bool) (len : Nat) (o : List UInt8), tc t < Nf → Ty t → Buf row len o → len + 24 * tc t ≤ 1000000 →
  ∃ g' row' v' len', F48_3 Nf t bx g row v len = some (.k0 g' row' v' len') ∧ Buf row' len' (o ++ tbt t)
 | 0, t, _, _, _, _, _, _, h, _, _, _ => by omega
 | Nf + 1, t, bx, g, row, v, len, o, h, ht, hB, hb => by
  show ∃ g' row' v' len', F48_3_b (F48_3 Nf) t bx g row v len = some (.k0 g' row' v' len') ∧ Buf row' len' (o ++ tbt t)
  unfold F48_3_b
  rw [tbt_eq]
  have hp := tc_pos t
  cases hneg : decide (t.prod < 0) with
  | true =>
   have hby := ht.by
   have e1 := hex_get (n := t.byte.toNat / 16) (by omega) (hi_nib hby)
   have e2 := hex_get (n := t.byte.toNat % 16) (by omega) (lo_nib hby)
   simp only [cond_true]
   rw [e1]
   simp only [bsm]
   rw [e2]
   obtain ⟨g', row', v', h1, h2⟩ := q68 g v (hexd (t.byte.toNat / 16)) (hexd (t.byte.toNat % 16)) hB (by omega)
   simp only [bsm, h1]
   exact ⟨_, _, _, _, rfl, h2⟩
  | false =>
   simp only [cond_false]
   have hpr := ht.pr
   have hI : I42 t.prod = some (itoaB t.prod) := by
    unfold I42 F42
    rw [decide_eq_true hpr]
    rfl
   have hil := itoa_len t.prod
   have hsz : (itoaB t.prod).size = (itoaL t.prod).length := by rw [← len_d]
   have hsz2 : (itoaB t.prod ++ (⟨([40] : List UInt8).toArray⟩ : ByteArray)).size = (itoaL t.prod).length + 1 := by rw [ByteArray.size_append, hsz]; rfl
   have hd2 : (itoaB t.prod ++ (⟨([40] : List UInt8).toArray⟩ : ByteArray)).data.toList = itoaL t.prod ++ [40] := by rw [ByteArray.data_append, Array.toList_append]
   rw [hI]
   simp only [bsm]
   rw [decide_eq_true (by rw [hsz]; show (itoaL t.prod).length + 1 ≤ 9223372036854775807; omega), cond_true]
   obtain ⟨n1, g1, row1, v1, e1, B1⟩ := q69 (itoaB t.prod ++ (⟨([40] : List UInt8).toArray⟩ : ByteArray)) g v hB (by rw [hsz2]; omega)
   rw [e1]
   simp only [bsm]
   rw [hd2] at B1
   rw [sb_len]
   have htc := tc_eq t
   have key : ∀ (k i : Nat) (g : Nat) (row : List Int) (v : Bool) (len1 : Nat), i + k = t.kids.length → Buf row len1 (o ++ (itoaL t.prod ++ [40]) ++ tbk (t.kids.take i)) →
     ∃ g' row' v' len', runL (fun s => L48_0_3 (F48_3 Nf) t (t.kids.length : Int) bx s.1 s.2.1 s.2.2.1 s.2.2.2.1 s.2.2.2.2) ((i : Int), g, row, v, len1) = some (.k0 g' row' v' len') ∧ Buf row' len' (o ++ (itoaL t.prod ++ [40]) ++ tbk t.kids) := by
    intro k
    induction k with
    | zero =>
     intro i g row v len1 hi hB
     obtain rfl : i = t.kids.length := by omega
     rw [tkl] at hB
     refine ⟨g, row, v, len1, runL_done ?_, hB⟩
     simp only [L48_0_3, decide_eq_false (show ¬ ((t.kids.length : Int) < (t.kids.length : Int)) by omega), cond_false]
    | succ k ih =>
     intro i g row v len1 hi hB
     have hx : t.kids[i]? = some t.kids[i] := geg (by omega)
     generalize t.kids[i] = x at hx
     have hxm := mog hx
     have hl := hB.len
     have htk := tcs_take hx
     have hle := tcs_take_le t.kids (i + 1)
     have hbl := tbr_len (t.kids.take i)
     have hlen1 : len1 + 24 * tc x + 1 ≤ 1000000 := by
      rw [hl]
      simp only [lap, List.length_drop, lcn, List.length_nil]
      have := hB.len
      have hol : len = o.length := by have := (by assumption : Buf _ len o).len; exact this
      omega
     have hn := tbk_take hx
     have hlt : decide ((i : Int) < (t.kids.length : Int)) = true := decide_eq_true (by omega)
     have hws : IntKind.wrap .i64 ((i : Int) + 1) = ((i + 1 : Nat) : Int) := w_S (by have := tcs_len (t.kids.take i); rw [List.length_take] at this; omega)
     cases hi0 : decide ((i : Int) > 0) with
     | true =>
      rw [hi0, cond_true] at hn
      obtain ⟨g2, row2, v2, e2, B2⟩ := q702 g v hB (by omega)
      obtain ⟨g3, row3, v3, len3, e3, B3⟩ := q48 Nf x bx g2 row2 v2 (len1 + 1) _ (by omega) (ht.kid hxm) B2 (by omega)
      rw [List.append_assoc, List.append_assoc, show tbk (t.kids.take i) ++ ([32] ++ tbt x) = tbk (t.kids.take (i + 1)) by rw [hn]; rfl] at B3
      obtain ⟨g4, row4, v4, len4, e4, B4⟩ := ih (i + 1) g3 row3 v3 len3 (by omega) B3
      refine ⟨g4, row4, v4, len4, (runL_next (s' := (((i + 1 : Nat) : Int), g3, row3, v3, len3)) ?_).trans e4, B4⟩
      simp only [L48_0_3, hlt, cond_true, getI_nat, hx, bsm, hi0, e2, e3, hws]
     | false =>
      rw [hi0, cond_false] at hn
      obtain ⟨g3, row3, v3, len3, e3, B3⟩ := q48 Nf x bx g row v len1 _ (by omega) (ht.kid hxm) hB (by omega)
      rw [List.append_assoc, ← hn] at B3
      obtain ⟨g4, row4, v4, len4, e4, B4⟩ := ih (i + 1) g3 row3 v3 len3 (by omega) B3
      refine ⟨g4, row4, v4, len4, (runL_next (s' := (((i + 1 : Nat) : Int), g3, row3, v3, len3)) ?_).trans e4, B4⟩
      simp only [L48_0_3, hlt, cond_true, cond_false, getI_nat, hx, bsm, hi0, e3, hws]
   obtain ⟨g2, row2, v2, len2, e2, B2⟩ := key t.kids.length 0 g1 row1 v1 (len + (itoaB t.prod ++ (⟨([40] : List UInt8).toArray⟩ : ByteArray)).size) (by omega) (by rw [List.take_zero]; show Buf _ _ (_ ++ []); rw [List.append_nil]; exact B1)
   rw [show ((0 : Int), g1, row1, v1, len + (itoaB t.prod ++ (⟨([40] : List UInt8).toArray⟩ : ByteArray)).size) = (((0 : Nat) : Int), g1, row1, v1, len + (itoaB t.prod ++ (⟨([40] : List UInt8).toArray⟩ : ByteArray)).size) from rfl, e2]
   simp only [bsm]
   have hl2 := B2.len
   have hol := hB.len
   have hkl := tbr_len t.kids
   simp only [lap, List.length_drop, lcn, List.length_nil] at hl2
   obtain ⟨g3, row3, v3, e3, B3⟩ := q70 g2 v2 B2 (by omega)
   rw [e3]
   simp only [bsm]
   refine ⟨_, _, _, _, rfl, ?_⟩
   simpa using B3
theorem tb_pos (t : TreeD) : 1 ≤ (tbt t).length := by
 rw [tbt_eq]
 cases decide (t.prod < 0) <;> simp <;> omega
theorem q20 {Nf : Nat} {t : TreeD} (h : tc t < Nf) (h2 : tc t ≤ 2000) (ht : Ty t) : F20 Nf t = some (bif badT t then .k0 b0 240 else .k0 ⟨(tbt t).toArray⟩ 0) := by
 unfold F20
 rw [q23 h2, bsm]
 cases hb : badT t with
 | true => rfl
 | false =>
  obtain ⟨g', row', v', len', e1, B1⟩ := q48 Nf t t 0 [] false 0 [] h ht ⟨Nat.le_refl _, rfl⟩ (by omega)
  have hl := B1.len
  rw [List.nil_append] at hl B1
  have hp := tb_pos t
  have hm := tb_len (tc t) t (Nat.le_refl _)
  rw [show ((bif false then (240 : Int) else 0) != 0) = false from rfl, cond_false, cond_false, e1]
  simp only [bsm, F49]
  rw [decide_eq_false (show ¬ ((len' : Nat) : Int) > 1048576 by omega), cond_false]
  unfold F50
  rw [decide_eq_true (show 0 < len' by omega), cond_true, show usOk len' row'.length = true from decide_eq_true ⟨B1.le, by omega⟩, cond_true, B1.is, bstr_ints]
  rfl
theorem tree_ext : ∀ {a b : TreeD}, a.prod = b.prod → a.byte = b.byte → a.kids = b.kids → a = b
 | .mk _ _ _, .mk _ _ _, h1, h2, h3 => by
  simp only [TreeD.prod, TreeD.byte, TreeD.kids] at h1 h2 h3
  subst h1 h2 h3
  rfl
open Classical in
theorem q24 : ∀ (Nf : Nat) (a b : TreeD), tc a < Nf → tc a ≤ 2000 → F24 Nf a b = some (decide (a = b))
 | 0, a, b, h, _ => by omega
 | Nf + 1, a, b, h, h2 => by
  show F24_b (F24 Nf) a b = _
  unfold F24_b
  by_cases hp : a.prod = b.prod
  ·rw [show (a.prod == b.prod) = true by simpa using hp, cond_true]
   by_cases hq : a.byte = b.byte
   ·rw [show (a.byte == b.byte) = true by simpa using hq, cond_true]
    unfold F55
    have htc := tc_eq a
    have hlen := tcs_len a.kids
    by_cases hl : a.kids.length = b.kids.length
    ·rw [show ((a.kids.length : Int) != (b.kids.length : Int)) = false by simp [hl], cond_false]
     have key := loop_list (l := a.kids) (fun i x => decide (b.kids[i]? = some x)) (bad := .k0) (fin := .k1) (step := fun s => L55_0 (F24 Nf) b a (a.kids.length : Int) s) (fun i x hx => ?_) (by simp only [L55_0, decide_eq_false (show ¬ ((a.kids.length : Int) < (a.kids.length : Int)) by omega), cond_false])
     ·rw [key, bsm]
      by_cases hk : allF (fun i x => decide (b.kids[i]? = some x)) 0 a.kids = true
      ·rw [hk]
       have hk := (allF_iff _ _).1 hk
       have : a = b := tree_ext hp hq (List.ext_getElem? fun i => by
        by_cases hi : i < a.kids.length
        ·have hx : a.kids[i]? = some a.kids[i] := geg hi
         have := of_decide_eq_true (hk i _ hx)
         rw [Nat.zero_add] at this
         rw [hx, this]
        ·rw [gen (by omega), gen (by omega)])
       rw [decide_eq_true this]
       rfl
      ·have hk' : allF (fun i x => decide (b.kids[i]? = some x)) 0 a.kids = false := by simpa using hk
       rw [hk']
       have : ¬ a = b := fun e => hk ((allF_iff _ _).2 (fun i x hx => by rw [Nat.zero_add, ← e]; exact decide_eq_true hx))
       rw [decide_eq_false this]
       rfl
     ·have hi : i < a.kids.length := (gei.1 hx).1
      have hy : b.kids[i]? = some b.kids[i] := geg (by omega)
      generalize b.kids[i] = y at hy
      have hk := tkid hx
      have hlx := tcs_len a.kids
      simp only [L55_0, decide_eq_true (show (i : Int) < (a.kids.length : Int) by omega), cond_true, getI_nat, hx, hy, bsm, q24 Nf x y (by omega) (by omega)]
      by_cases hxy : x = y
      ·subst hxy
       rw [w_S (by omega)]
       simp
      ·have : ¬ (some y = some x) := fun e => hxy (by cases e; rfl)
       rw [decide_eq_false hxy, decide_eq_false this]
       rfl
    ·rw [show ((a.kids.length : Int) != (b.kids.length : Int)) = true by simpa using fun e => hl (by omega), cond_true]
     rw [decide_eq_false (fun e => hl (by rw [e]))]
     rfl
   ·rw [show (a.byte == b.byte) = false by simpa using hq, cond_false, decide_eq_false (fun e => hq (by rw [e]))]
  ·rw [show (a.prod == b.prod) = false by simpa using hp, cond_false, decide_eq_false (fun e => hp (by rw [e]))]
theorem good_top {t : TreeD} (h : badT t = false) : (t.prod = -1 ∧ t.kids = []) ∨ (0 ≤ t.prod ∧ t.prod ≤ 2147483647 ∧ t.byte = 0) := by
 rw [badT_eq, Bool.or_eq_false_iff] at h
 have h := h.1
 unfold bad1 at h
 simp only [Bool.or_eq_false_iff, decide_eq_false_iff_not, Bool.and_eq_false_iff] at h
 obtain ⟨h1, h2, h3, h4⟩ := h
 by_cases c : t.prod = -1
 ·refine .inl ⟨c, ?_⟩
  rcases h3 with h3 | h3
  ·simp [c] at h3
  ·exact List.eq_nil_of_length_eq_zero (by omega)
 ·refine .inr ⟨by omega, by omega, ?_⟩
  rcases h4 with h4 | h4
  ·omega
  ·simpa using h4
theorem good_kid {t x : TreeD} (h : badT t = false) (hx : x ∈ t.kids) : badT x = false := by
 rw [badT_eq, Bool.or_eq_false_iff, badTs_any] at h
 have := h.2
 rw [List.any_eq_false] at this
 simpa using this x hx
mutual
def byt : TreeD → Nat
 | .mk p _ l => (if p < 0 then 1 else 0) + byts l
def byts : List TreeD → Nat
 | [] => 0
 | t :: l => byt t + byts l
end
mutual
def dep : TreeD → Nat
 | .mk _ _ l => deps l + 1
def deps : List TreeD → Nat
 | [] => 0
 | t :: l => max (dep t) (deps l)
end
theorem byt_eq : ∀ t : TreeD, byt t = (if t.prod < 0 then 1 else 0) + byts t.kids
 | .mk _ _ _ => by rw [byt]; rfl
theorem dep_eq : ∀ t : TreeD, dep t = deps t.kids + 1
 | .mk _ _ _ => by rw [dep]; rfl
theorem byts_app : ∀ (a b : List TreeD), byts (a ++ b) = byts a + byts b
 | [], b => by simp [byts]
 | t :: a, b => by simp only [List.cons_append, byts, byts_app a b]; omega
theorem deps_app : ∀ (a b : List TreeD), deps (a ++ b) = max (deps a) (deps b)
 | [], b => by simp [deps]
 | t :: a, b => by simp only [List.cons_append, deps, deps_app a b]; omega
theorem byts_take {l : List TreeD} {i : Nat} {x : TreeD} (h : l[i]? = some x) : byts (l.take (i + 1)) = byts (l.take i) + byt x := by
 rw [take_S h, byts_app]; simp [byts]
theorem deps_take {l : List TreeD} {i : Nat} {x : TreeD} (h : l[i]? = some x) : deps (l.take (i + 1)) = max (deps (l.take i)) (dep x) := by
 rw [take_S h, deps_app]; simp [deps]
theorem byt_le : ∀ (N : Nat) (t : TreeD), tc t ≤ N → byt t ≤ tc t ∧ dep t ≤ tc t
 | 0, t, h => by have := tc_pos t; omega
 | N + 1, t, h => by
  have key : ∀ l : List TreeD, tcs l ≤ N → byts l ≤ tcs l ∧ deps l ≤ tcs l := by
   intro l
   induction l with
   | nil => intro _; simp [byts, deps]
   | cons x l ih =>
    intro hl
    simp only [tcs] at hl
    have h1 := byt_le N x (by omega)
    have h2 := ih (by omega)
    simp only [byts, deps, tcs]
    omega
  have h3 := tc_eq t
  have h1 := key t.kids (by omega)
  rw [byt_eq, dep_eq]
  split <;> omega
theorem byts_le : ∀ (l : List TreeD), byts l ≤ tcs l ∧ deps l ≤ tcs l
 | [] => by simp [byts, deps]
 | x :: l => by
  have h1 := byt_le _ x (Nat.le_refl _)
  have h2 := byts_le l
  simp only [byts, deps, tcs]
  omega
theorem l47 {E : Type} (fin : Int → Int → Int → E) {rF : T_F47} {t : TreeD} (h4 : tc t ≤ 4000) (step : Int × Int × Int × Int → Option (E ⊕ (Int × Int × Int × Int)))
  (hs : ∀ s, step s = (bif (decide (s.2.2.2 < (t.kids.length : Int))) then ((getI t.kids s.2.2.2).bind fun x2 => ((rF x2).bind fun r3 => match r3 with | .k0 x3_0 x3_1 x3_2 => (some (.inr ((IntKind.wrap .i64 (s.1 + x3_0)), (IntKind.wrap .i64 (s.2.1 + x3_1)), (if s.2.2.1 < x3_2 then x3_2 else s.2.2.1), (IntKind.wrap .i64 (s.2.2.2 + 1))))))) else (some (.inl (fin s.1 s.2.1 s.2.2.1)))))
  (hr : ∀ x ∈ t.kids, rF x = some (.k0 (tc x : Int) (byt x : Int) (dep x : Int))) (b0 : Nat) (hb : b0 ≤ 1) : ∀ (k i : Nat), i + k = t.kids.length →
  runL step (((1 + tcs (t.kids.take i) : Nat) : Int), ((b0 + byts (t.kids.take i) : Nat) : Int), ((deps (t.kids.take i) : Nat) : Int), (i : Int)) = some (fin ((1 + tcs t.kids : Nat) : Int) ((b0 + byts t.kids : Nat) : Int) ((deps t.kids : Nat) : Int))
 | 0, i, hi => by
  obtain rfl : i = t.kids.length := by omega
  rw [tkl]
  refine runL_done ?_
  rw [hs]
  simp only [decide_eq_false (show ¬ ((t.kids.length : Int) < (t.kids.length : Int)) by omega), cond_false]
 | k + 1, i, hi => by
  have hx : t.kids[i]? = some t.kids[i] := geg (by omega)
  generalize t.kids[i] = x at hx
  have htc := tc_eq t
  have h1 := tcs_take hx
  have h2 := byts_take hx
  have h3 := deps_take hx
  have h5 := tcs_take_le t.kids (i + 1)
  have h6 := byts_le (t.kids.take (i + 1))
  have hl := tcs_len t.kids
  refine (runL_next (s' := (((1 + tcs (t.kids.take (i + 1)) : Nat) : Int), ((b0 + byts (t.kids.take (i + 1)) : Nat) : Int), ((deps (t.kids.take (i + 1)) : Nat) : Int), ((i + 1 : Nat) : Int))) ?_).trans (l47 fin h4 step hs hr b0 hb k (i + 1) (by omega))
  rw [hs]
  simp only [decide_eq_true (show (i : Int) < (t.kids.length : Int) by omega), cond_true, getI_nat, hx, bsm, hr x (mog hx)]
  rw [w_id (by omega), w_id (by omega), w_S (by omega)]
  refine congrArg some (congrArg Sum.inr ?_)
  simp only [Prod.mk.injEq]
  refine ⟨by omega, by omega, ?_, trivial⟩
  split <;> omega
theorem q47 : ∀ (Nf : Nat) (t : TreeD), tc t < Nf → tc t ≤ 4000 → F47 Nf t = some (.k0 (tc t : Int) (byt t : Int) (dep t : Int))
 | 0, _, h, _ => by omega
 | Nf + 1, t, h, h4 => by
  show F47_b (F47 Nf) t = _
  have htc := tc_eq t
  have hbt := byt_eq t
  have hdp := dep_eq t
  have hr : ∀ x ∈ t.kids, F47 Nf x = some (.k0 (tc x : Int) (byt x : Int) (dep x : Int)) := fun x hx => by
   have := tcs_mem hx
   exact q47 Nf x (by omega) (by omega)
  have hd := (byts_le t.kids).2
  unfold F47_b
  by_cases hp : t.prod < 0
  ·rw [decide_eq_true hp, cond_true]
   have := l47 (fun a b c => E_L47_0.k0 a b c) h4 (fun s => L47_0 (F47 Nf) t (t.kids.length : Int) s.1 s.2.1 s.2.2.1 s.2.2.2) (fun s => rfl) hr 1 (by omega) t.kids.length 0 (by omega)
   rw [List.take_zero, show tcs [] = 0 from rfl, show byts [] = 0 from rfl, show deps [] = 0 from rfl] at this
   rw [show ((1 : Int), (1 : Int), (0 : Int), (0 : Int)) = (((1 + 0 : Nat) : Int), ((1 + 0 : Nat) : Int), ((0 : Nat) : Int), ((0 : Nat) : Int)) from rfl, this, bsm]
   simp only
   rw [w_S (by omega), htc, hbt, hdp, if_pos hp]
  ·rw [decide_eq_false hp, cond_false]
   have := l47 (fun a b c => E_L47_0_2.k0 a b c) h4 (fun s => L47_0_2 (F47 Nf) t (t.kids.length : Int) s.1 s.2.1 s.2.2.1 s.2.2.2) (fun s => rfl) hr 0 (by omega) t.kids.length 0 (by omega)
   rw [List.take_zero, show tcs [] = 0 from rfl, show byts [] = 0 from rfl, show deps [] = 0 from rfl] at this
   rw [show ((1 : Int), (0 : Int), (0 : Int), (0 : Int)) = (((1 + 0 : Nat) : Int), ((0 + 0 : Nat) : Int), ((0 : Nat) : Int), ((0 : Nat) : Int)) from rfl, this, bsm]
   simp only
   rw [w_S (by omega), htc, hbt, hdp, if_neg hp]
theorem q19 {Nf : Nat} {t : TreeD} (h : tc t < Nf) (h2 : tc t ≤ 2000) : F19 Nf t = some (bif badT t then .k0 0 0 0 else .k0 (tc t : Int) (byt t : Int) (dep t : Int)) := by
 unfold F19
 rw [q23 h2]
 cases badT t with
 | true => rfl
 | false =>
  simp only [cond_false, bsm, show ((0 : Int) != 0) = false from rfl]
  rw [q47 Nf t h (by omega)]
  rfl
theorem t_eta : ∀ t : TreeD, TreeD.mk t.prod t.byte t.kids = t
 | .mk _ _ _ => rfl
theorem loop_ok {E : Type} {step : Int → Option (E ⊕ Int)} {n : Nat} {fin : E} (hs : ∀ i : Nat, i < n → step (i : Int) = some (.inr ((i + 1 : Nat) : Int))) (hend : step (n : Int) = some (.inl fin)) : ∀ (k i : Nat), i + k = n → runL step (i : Int) = some fin
 | 0, i, hi => by
  obtain rfl : i = n := by omega
  exact runL_done hend
 | k + 1, i, hi => (runL_next (hs i (by omega))).trans (loop_ok hs hend k (i + 1) (by omega))
theorem kid_at (t : TreeD) {i : Nat} (h : i < t.kids.length) : ∃ x, t.kids[i]? = some x ∧ tc x < tc t ∧ x ∈ t.kids := by
 refine ⟨t.kids[i], geg h, ?_, List.getElem_mem h⟩
 exact tkid (geg h)
theorem q17 : ∀ (Nf : Nat) (t : TreeD), tc t < Nf → tc t ≤ 4000 → F17 Nf t = some (.k0 t.prod t.byte t.kids)
 | 0, _, h, _ => by omega
 | Nf + 1, t, h, h4 => by
  show F17_b (F17 Nf) t = _
  have htc := tc_eq t
  have hl := tcs_len t.kids
  have key : ∀ (k i g : Nat), i + k = t.kids.length → ∃ g', runL (fun s => L17_0 (F17 Nf) t s.1 s.2.1 s.2.2.1 s.2.2.2) (g, i, (i : Int), t.kids.take i) = some (.k0 g' t.kids.length t.kids) := by
   intro k
   induction k with
   | zero =>
    intro i g hi
    obtain rfl : i = t.kids.length := by omega
    rw [tkl]
    exact ⟨g, runL_done (by simp only [L17_0, decide_eq_false (show ¬ ((t.kids.length : Int) < (t.kids.length : Int)) by omega), cond_false])⟩
   | succ k ih =>
    intro i g hi
    obtain ⟨x, hx, hk, _⟩ := kid_at t (show i < t.kids.length by omega)
    have hlen : (t.kids.take i).length = i := by rw [List.length_take]; omega
    obtain ⟨g', hg⟩ := ih (i + 1) (g + 1) (by omega)
    refine ⟨g', (runL_next (s' := (g + 1, i + 1, ((i + 1 : Nat) : Int), t.kids.take (i + 1))) ?_).trans hg⟩
    simp only [L17_0, decide_eq_true (show (i : Int) < (t.kids.length : Int) by omega), cond_true, getI_nat, hx, bsm, q17 Nf x (by omega) (by omega), hlen]
    rw [show apOk i 1 i 40 = true from decide_eq_true ⟨Nat.le_refl _, by unfold limit47; omega, by unfold limit47; omega⟩, cond_true, decide_eq_false (by omega), cond_false, w_S (by omega), t_eta, take_S hx]
    rw [List.take_of_length_le (by rw [hlen]; exact Nat.le_refl _)]
  obtain ⟨g', hg⟩ := key t.kids.length 0 0 (by omega)
  rw [List.take_zero] at hg
  unfold F17_b
  rw [show ((0 : Nat), (0 : Nat), (0 : Int), ([] : List TreeX)) = (0, 0, ((0 : Nat) : Int), []) from rfl, hg, bsm]
  simp only
  rw [show apOk t.kids.length 1 t.kids.length 40 = true from decide_eq_true ⟨Nat.le_refl _, by unfold limit47; omega, by unfold limit47; omega⟩, cond_true, decide_true, cond_true, show slOk (t.kids.length : Int) (t.kids.length + 1) (t.kids.length + 1) = true from decide_eq_true ⟨by omega, by omega, Nat.le_refl _⟩, cond_true, decide_eq_true (by simp), cond_true]
theorem q22 : ∀ (Nf : Nat) (t : TreeD), tc t < Nf → tc t ≤ 4000 → F22 Nf t t = some true
 | 0, _, h, _ => by omega
 | Nf + 1, t, h, h4 => by
  show F22_b (F22 Nf) t t = _
  have htc := tc_eq t
  have hl := tcs_len t.kids
  unfold F22_b
  rw [show (t.prod != t.prod) = false from by simp, cond_false, show (t.byte != t.byte) = false from by simp, cond_false, show ((t.kids.length : Int) != (t.kids.length : Int)) = false from by simp, cond_false, w_S (by omega), decide_eq_true (by omega), cond_true, decide_eq_true (by omega), cond_true]
  have := loop_ok (step := fun s => L22_0 (F22 Nf) t t s) (fin := .k1) (n := t.kids.length) (fun i hi => by
   obtain ⟨x, hx, hk, _⟩ := kid_at t hi
   simp only [L22_0, decide_eq_true (show (i : Int) < (t.kids.length : Int) by omega), cond_true, getI_nat, hx, bsm, q22 Nf x (by omega) (by omega)]
   rw [w_S (by omega)]) (by simp only [L22_0, decide_eq_false (show ¬ ((t.kids.length : Int) < (t.kids.length : Int)) by omega), cond_false]) t.kids.length 0 (by omega)
  rw [show (0 : Int) = ((0 : Nat) : Int) from rfl, this]
  rfl
theorem q45 : ∀ (Nf : Nat) (t : TreeD) (left : Nat), tc t ≤ left → tc t < Nf → left ≤ 20000 → F45_2 Nf t left = some false
 | 0, t, left, _, h, _ => by omega
 | Nf + 1, t, left, h1, h, h2 => by
  show F45_2_b (F45_2 Nf) t left = _
  have hp := tc_pos t
  have htc := tc_eq t
  have hl := tcs_len t.kids
  unfold F45_2_b
  rw [decide_eq_false (by omega), cond_false]
  have := loop_ok (step := fun s => L45_0_2 (F45_2 Nf) left t s) (fin := .k1) (n := t.kids.length) (fun i hi => by
   obtain ⟨x, hx, hk, _⟩ := kid_at t hi
   have hw : IntKind.wrap .i64 ((left : Int) - 1) = ((left - 1 : Nat) : Int) := by rw [w_id (by omega)]; omega
   simp only [L45_0_2, decide_eq_true (show (i : Int) < (t.kids.length : Int) by omega), cond_true, getI_nat, hx, bsm, hw, q45 Nf x (left - 1) (by omega) (by omega) (by omega), cond_false]
   rw [w_S (by omega)]) (by simp only [L45_0_2, decide_eq_false (show ¬ ((t.kids.length : Int) < (t.kids.length : Int)) by omega), cond_false]) t.kids.length 0 (by omega)
  rw [show (0 : Int) = ((0 : Nat) : Int) from rfl, this]
  rfl
theorem q46 : ∀ (Nf : Nat) (t : TreeD), tc t < Nf → tc t ≤ 4000 → F46 Nf t = some (!badT t)
 | 0, _, h, _ => by omega
 | Nf + 1, t, h, h4 => by
  show F46_b (F46 Nf) t = _
  have htc := tc_eq t
  have hl := tcs_len t.kids
  have hL : ∃ e, runL (fun s => L46_0 (F46 Nf) t s) 0 = some e ∧ (match e with | .k0 => some false | .k1 => some true : Option Bool) = some (!badTs t.kids) := by
   rcases loop_find0 (step := fun s => L46_0 (F46 Nf) t s) (l := t.kids) (fun x => !badT x) (fun _ _ => E_L46_0.k0) (fin := .k1) (fun i x hx => by
    have hk := tkid hx
    have hi := (gei.1 hx).1
    simp only [L46_0, decide_eq_true (show (i : Int) < (t.kids.length : Int) by omega), cond_true, getI_nat, hx, bsm, q46 Nf x (by omega) (by omega)]
    rw [w_S (by omega)]
    cases badT x <;> rfl) (by simp only [L46_0, decide_eq_false (show ¬ ((t.kids.length : Int) < (t.kids.length : Int)) by omega), cond_false]) with ⟨h1, h2⟩ | ⟨j, x, h1, h2, _, h3⟩
   ·refine ⟨.k1, h2, ?_⟩
    rw [badTs_any, show t.kids.any badT = false from by rw [List.any_eq_false]; intro x hx; simpa using h1 x hx]
    rfl
   ·refine ⟨.k0, h3, ?_⟩
    rw [badTs_any, show t.kids.any badT = true from by rw [List.any_eq_true]; exact ⟨x, mog h1, by simpa using h2⟩]
    rfl
  obtain ⟨e, he1, he2⟩ := hL
  have hb : (e = .k0 ∧ badTs t.kids = true) ∨ (e = .k1 ∧ badTs t.kids = false) := by
   cases e with
   | k0 => refine .inl ⟨rfl, ?_⟩; cases h5 : badTs t.kids with
    | true => rfl
    | false => rw [h5] at he2; simp at he2
   | k1 => refine .inr ⟨rfl, ?_⟩; cases h5 : badTs t.kids with
    | false => rfl
    | true => rw [h5] at he2; simp at he2
  unfold F46_b
  rw [badT_eq]
  unfold bad1
  rcases hb with ⟨rfl, hb⟩ | ⟨rfl, hb⟩ <;> simp only [he1, bsm, hb] <;> cases decide (t.prod < -1) <;> cases decide (t.prod > 2147483647) <;> cases t.prod == -1 <;> cases decide ((t.kids.length : Int) > 0) <;> cases decide (t.prod ≥ 0) <;> cases t.byte != 0 <;> rfl
theorem q18 {Nf : Nat} {t : TreeD} (h : tc t < Nf) (h2 : tc t ≤ 4000) : F18 Nf t = some (bif badT t then 240 else 0) := by
 unfold F18
 rw [show (16384 : Int) = ((16384 : Nat) : Int) from rfl, q45 Nf t 16384 (by omega) h (by omega), bsm, cond_false, q46 Nf t h h2, bsm]
 cases badT t <;> rfl
theorem q24s : ∀ (Nf : Nat) (t : TreeD), tc t < Nf → tc t ≤ 4000 → F24_2 Nf t = some true
 | 0, _, h, _ => by omega
 | Nf + 1, t, h, h4 => by
  show F24_2_b (F24_2 Nf) t = _
  have htc := tc_eq t
  have hl := tcs_len t.kids
  have := loop_ok (step := fun s => L55_0_2 (F24_2 Nf) t (t.kids.length : Int) s) (fin := .k1) (n := t.kids.length) (fun i hi => by
   obtain ⟨x, hx, hk, _⟩ := kid_at t hi
   simp only [L55_0_2, decide_eq_true (show (i : Int) < (t.kids.length : Int) by omega), cond_true, getI_nat, hx, bsm, q24s Nf x (by omega) (by omega)]
   rw [w_S (by omega)]) (by simp only [L55_0_2, decide_eq_false (show ¬ ((t.kids.length : Int) < (t.kids.length : Int)) by omega), cond_false]) t.kids.length 0 (by omega)
  unfold F24_2_b F55_2
  rw [beq_self_eq_true, cond_true, beq_self_eq_true, cond_true, show ((t.kids.length : Int) != (t.kids.length : Int)) = false from by simp, cond_false, show (0 : Int) = ((0 : Nat) : Int) from rfl, this]
  rfl
theorem l26 {E : Type} (fin : Int → Int → Int → E) {rF : T_F26} {t : TreeD} (h4 : tc t ≤ 4000) (step : Int × Int × Int × Int → Option (E ⊕ (Int × Int × Int × Int)))
  (hs : ∀ s, step s = (bif (decide (s.2.2.2 < (t.kids.length : Int))) then ((getI t.kids s.2.2.2).bind fun x2 => ((rF x2).bind fun r3 => match r3 with | .k0 x3_0 x3_1 x3_2 => (some (.inr ((IntKind.wrap .i64 (s.1 + x3_0)), (IntKind.wrap .i64 (s.2.1 + x3_1)), (if s.2.2.1 < x3_2 then x3_2 else s.2.2.1), (IntKind.wrap .i64 (s.2.2.2 + 1))))))) else (some (.inl (fin s.1 s.2.1 s.2.2.1)))))
  (hr : ∀ x ∈ t.kids, rF x = some (.k0 (tc x : Int) (byt x : Int) (dep x : Int))) (b0 : Nat) (hb : b0 ≤ 1) : ∀ (k i : Nat), i + k = t.kids.length →
  runL step (((1 + tcs (t.kids.take i) : Nat) : Int), ((b0 + byts (t.kids.take i) : Nat) : Int), ((deps (t.kids.take i) : Nat) : Int), (i : Int)) = some (fin ((1 + tcs t.kids : Nat) : Int) ((b0 + byts t.kids : Nat) : Int) ((deps t.kids : Nat) : Int))
 | 0, i, hi => by
  obtain rfl : i = t.kids.length := by omega
  rw [tkl]
  refine runL_done ?_
  rw [hs]
  simp only [decide_eq_false (show ¬ ((t.kids.length : Int) < (t.kids.length : Int)) by omega), cond_false]
 | k + 1, i, hi => by
  have hx : t.kids[i]? = some t.kids[i] := geg (by omega)
  generalize t.kids[i] = x at hx
  have htc := tc_eq t
  have h1 := tcs_take hx
  have h2 := byts_take hx
  have h3 := deps_take hx
  have h5 := tcs_take_le t.kids (i + 1)
  have h6 := byts_le (t.kids.take (i + 1))
  have hl := tcs_len t.kids
  refine (runL_next (s' := (((1 + tcs (t.kids.take (i + 1)) : Nat) : Int), ((b0 + byts (t.kids.take (i + 1)) : Nat) : Int), ((deps (t.kids.take (i + 1)) : Nat) : Int), ((i + 1 : Nat) : Int))) ?_).trans (l26 fin h4 step hs hr b0 hb k (i + 1) (by omega))
  rw [hs]
  simp only [decide_eq_true (show (i : Int) < (t.kids.length : Int) by omega), cond_true, getI_nat, hx, bsm, hr x (mog hx)]
  rw [w_id (by omega), w_id (by omega), w_S (by omega)]
  refine congrArg some (congrArg Sum.inr ?_)
  simp only [Prod.mk.injEq]
  refine ⟨by omega, by omega, ?_, trivial⟩
  split <;> omega
theorem q26 : ∀ (Nf : Nat) (t : TreeD), tc t < Nf → tc t ≤ 4000 → F26 Nf t = some (.k0 (tc t : Int) (byt t : Int) (dep t : Int))
 | 0, _, h, _ => by omega
 | Nf + 1, t, h, h4 => by
  show F26_b (F26 Nf) t = _
  have htc := tc_eq t
  have hbt := byt_eq t
  have hdp := dep_eq t
  have hr : ∀ x ∈ t.kids, F26 Nf x = some (.k0 (tc x : Int) (byt x : Int) (dep x : Int)) := fun x hx => by
   have := tcs_mem hx
   exact q26 Nf x (by omega) (by omega)
  have hd := (byts_le t.kids).2
  unfold F26_b
  by_cases hp : t.prod < 0
  ·rw [decide_eq_true hp, cond_true]
   have := l26 (fun a b c => E_L26_0.k0 a b c) h4 (fun s => L26_0 (F26 Nf) t s.1 s.2.1 s.2.2.1 s.2.2.2) (fun s => rfl) hr 1 (by omega) t.kids.length 0 (by omega)
   rw [List.take_zero, show tcs [] = 0 from rfl, show byts [] = 0 from rfl, show deps [] = 0 from rfl] at this
   rw [show ((1 : Int), (1 : Int), (0 : Int), (0 : Int)) = (((1 + 0 : Nat) : Int), ((1 + 0 : Nat) : Int), ((0 : Nat) : Int), ((0 : Nat) : Int)) from rfl, this, bsm]
   simp only
   rw [w_S (by omega), htc, hbt, hdp, if_pos hp]
  ·rw [decide_eq_false hp, cond_false]
   have := l26 (fun a b c => E_L26_0_2.k0 a b c) h4 (fun s => L26_0_2 (F26 Nf) t s.1 s.2.1 s.2.2.1 s.2.2.2) (fun s => rfl) hr 0 (by omega) t.kids.length 0 (by omega)
   rw [List.take_zero, show tcs [] = 0 from rfl, show byts [] = 0 from rfl, show deps [] = 0 from rfl] at this
   rw [show ((1 : Int), (0 : Int), (0 : Int), (0 : Int)) = (((1 + 0 : Nat) : Int), ((0 + 0 : Nat) : Int), ((0 : Nat) : Int), ((0 : Nat) : Int)) from rfl, this, bsm]
   simp only
   rw [w_S (by omega), htc, hbt, hdp, if_neg hp]
open Classical in
theorem q14 : ∀ (Nf : Nat) (a b : TreeD), tc a < Nf → tc a ≤ 4000 → F14 Nf a b = some (decide (a = b))
 | 0, a, b, h, _ => by omega
 | Nf + 1, a, b, h, h2 => by
  show F14_b (F14 Nf) a b = _
  unfold F14_b
  by_cases hp : a.prod = b.prod
  ·rw [show (a.prod != b.prod) = false by simpa using hp, cond_false]
   by_cases hq : a.byte = b.byte
   ·rw [show (a.byte != b.byte) = false by simpa using hq, cond_false]
    have htc := tc_eq a
    have hlen := tcs_len a.kids
    by_cases hl : a.kids.length = b.kids.length
    ·rw [show ((a.kids.length : Int) != (b.kids.length : Int)) = false by simp [hl], cond_false]
     have key := loop_list (l := a.kids) (fun i x => decide (b.kids[i]? = some x)) (bad := .k0) (fin := .k1) (step := fun s => L14_0 (F14 Nf) a b s) (fun i x hx => ?_) (by simp only [L14_0, decide_eq_false (show ¬ ((a.kids.length : Int) < (a.kids.length : Int)) by omega), cond_false])
     ·rw [key, bsm]
      by_cases hk : allF (fun i x => decide (b.kids[i]? = some x)) 0 a.kids = true
      ·rw [hk]
       have hk := (allF_iff _ _).1 hk
       have : a = b := tree_ext hp hq (List.ext_getElem? fun i => by
        by_cases hi : i < a.kids.length
        ·have hx : a.kids[i]? = some a.kids[i] := geg hi
         have := of_decide_eq_true (hk i _ hx)
         rw [Nat.zero_add] at this
         rw [hx, this]
        ·rw [gen (by omega), gen (by omega)])
       rw [decide_eq_true this]
       rfl
      ·have hk' : allF (fun i x => decide (b.kids[i]? = some x)) 0 a.kids = false := by simpa using hk
       rw [hk']
       have : ¬ a = b := fun e => hk ((allF_iff _ _).2 (fun i x hx => by rw [Nat.zero_add, ← e]; exact decide_eq_true hx))
       rw [decide_eq_false this]
       rfl
     ·have hi : i < a.kids.length := (gei.1 hx).1
      have hy : b.kids[i]? = some b.kids[i] := geg (by omega)
      generalize b.kids[i] = y at hy
      have hk := tkid hx
      have hlx := tcs_len a.kids
      simp only [L14_0, decide_eq_true (show (i : Int) < (a.kids.length : Int) by omega), cond_true, getI_nat, hx, hy, bsm, q14 Nf x y (by omega) (by omega)]
      by_cases hxy : x = y
      ·subst hxy
       rw [w_S (by omega)]
       simp
      ·have : ¬ (some y = some x) := fun e => hxy (by cases e; rfl)
       rw [decide_eq_false hxy, decide_eq_false this]
       rfl
    ·rw [show ((a.kids.length : Int) != (b.kids.length : Int)) = true by simpa using fun e => hl (by omega), cond_true]
     rw [decide_eq_false (fun e => hl (by rw [e]))]
   ·rw [show (a.byte != b.byte) = true by simpa using hq, cond_true, decide_eq_false (fun e => hq (by rw [e]))]
  ·rw [show (a.prod != b.prod) = true by simpa using hp, cond_true, decide_eq_false (fun e => hp (by rw [e]))]
mutual
def pre : TreeD → List TreeD
 | .mk p b l => .mk p b l :: pres l
def pres : List TreeD → List TreeD
 | [] => []
 | t :: l => pre t ++ pres l
end
theorem pre_eq : ∀ t : TreeD, pre t = t :: pres t.kids
 | .mk _ _ _ => by rw [pre]; rfl
theorem pre_len : ∀ (N : Nat) (t : TreeD), tc t ≤ N → (pre t).length = tc t
 | 0, t, h => by have := tc_pos t; omega
 | N + 1, t, h => by
  have key : ∀ l : List TreeD, tcs l ≤ N → (pres l).length = tcs l := by
   intro l
   induction l with
   | nil => intro _; simp [pres, tcs]
   | cons x l ih =>
    intro hl
    simp only [tcs] at hl
    simp only [pres, tcs, lap, pre_len N x (by omega), ih (by omega)]
  have htc := tc_eq t
  rw [pre_eq, lcn, key _ (by omega)]
  omega
theorem put29 {row : List TreeD} {len : Nat} (x : TreeD) (h : len ≤ row.length) : (splice row len [x]).take (len + 1) = row.take len ++ [x] ∧ (splice row len [x]).length ≥ row.length ∧ (row.take len ++ [x]).take (len + 1) = row.take len ++ [x] ∧ (row.take len ++ [x]).length = len + 1 := by
 have hs : (row.take len ++ [x]).length = len + 1 := by simp; omega
 refine ⟨?_, by simp [splice]; omega, by rw [← hs, tkl], hs⟩
 have : splice row len [x] = (row.take len ++ [x]) ++ row.drop (len + 1) := by simp [splice]
 rw [this, ← hs, List.take_left]
theorem l29 {E : Type} (fin : Nat → Nat → List TreeD → E) (t : TreeD) (step : Nat × Nat × Int × List TreeD → Option (E ⊕ (Nat × Nat × Int × List TreeD))) (N : Nat)
  (hend : ∀ g len row, step (g, len, (t.kids.length : Int), row) = some (.inl (fin g len row)))
  (hs : ∀ (i : Nat) (x : TreeD) g len (row : List TreeD), t.kids[i]? = some x → len ≤ row.length → len + tc x ≤ N → ∃ g' row', step (g, len, (i : Int), row) = some (.inr (g', len + tc x, ((i + 1 : Nat) : Int), row')) ∧ row'.take (len + tc x) = row.take len ++ pre x ∧ len + tc x ≤ row'.length) :
  ∀ (k i g len : Nat) (row : List TreeD), i + k = t.kids.length → len ≤ row.length → len + tcs (t.kids.drop i) ≤ N →
  ∃ g' row', runL step (g, len, (i : Int), row) = some (fin g' (len + tcs (t.kids.drop i)) row') ∧ row'.take (len + tcs (t.kids.drop i)) = row.take len ++ pres (t.kids.drop i) ∧ len + tcs (t.kids.drop i) ≤ row'.length
 | 0, i, g, len, row, hi, hlen, hN => by
  obtain rfl : i = t.kids.length := by omega
  rw [List.drop_length]
  exact ⟨g, row, runL_done (hend _ _ _), by simp [pres, tcs], hlen⟩
 | k + 1, i, g, len, row, hi, hlen, hN => by
  have hx : t.kids[i]? = some t.kids[i] := geg (by omega)
  have hdr : t.kids.drop i = t.kids[i] :: t.kids.drop (i + 1) := List.drop_eq_getElem_cons (by omega)
  generalize t.kids[i] = x at hx hdr
  rw [hdr] at hN ⊢
  simp only [tcs] at hN ⊢
  obtain ⟨g1, row1, e1, e2, e3⟩ := hs i x g len row hx hlen (by omega)
  obtain ⟨g2, row2, f1, f2, f3⟩ := l29 fin t step N hend hs k (i + 1) g1 (len + tc x) row1 (by omega) e3 (by omega)
  refine ⟨g2, row2, (runL_next e1).trans ?_, ?_, by omega⟩
  ·rw [f1, Nat.add_assoc]
  ·rw [← Nat.add_assoc, f2, e2]
   simp only [pres, List.append_assoc]
theorem ap40 {len n : Nat} (h : len ≤ n) (hb : len ≤ 100000) : apOk len 1 n 40 = true := decide_eq_true ⟨h, by unfold limit47; omega, by unfold limit47; omega⟩
theorem q29_3 : ∀ (Nf : Nat) (t : TreeD) (g len : Nat) (row : List TreeD), tc t < Nf → tc t ≤ 1000 → len + tc t ≤ 10000 → len ≤ row.length →
  ∃ g' row', F29_3 Nf t g len row = some (.k0 g' (len + tc t) row') ∧ row'.take (len + tc t) = row.take len ++ pre t ∧ len + tc t ≤ row'.length
 | 0, _, _, _, _, h, _, _, _ => by omega
 | Nf + 1, t, g, len, row, h, h1, h2, h4 => by
  have htc := tc_eq t
  have hl := tcs_len t.kids
  obtain ⟨s1, s2, s3, s4⟩ := put29 t h4
  have key := l29 (fun a b c => E_L29_0_7.k0 a b c) t (fun s => L29_0_7 (F29_3 Nf) t s.1 s.2.1 s.2.2.1 s.2.2.2) 10000
   (fun g len row => by simp only [L29_0_7, decide_eq_false (show ¬ ((t.kids.length : Int) < (t.kids.length : Int)) by omega), cond_false])
   (fun i x g len row hx hlen hN => by
    have hk := tkid hx
    have hi := (gei.1 hx).1
    obtain ⟨g', row', e1, e2, e3⟩ := q29_3 Nf x g len row (by omega) (by omega) (by omega) hlen
    refine ⟨g', row', ?_, e2, e3⟩
    simp only [L29_0_7, decide_eq_true (show (i : Int) < (t.kids.length : Int) by omega), cond_true, getI_nat, hx, bsm, e1]
    rw [w_S (by omega)])
  show ∃ g' row', F29_3_b (F29_3 Nf) t g len row = _ ∧ _
  unfold F29_3_b
  rw [ap40 h4 (by omega), cond_true, t_eta]
  by_cases hc : len + 1 ≤ row.length
  ·rw [decide_eq_true hc, cond_true]
   obtain ⟨g', row', e1, e2, e3⟩ := key t.kids.length 0 g (len + 1) (splice row len [t]) (by omega) (by omega) (by rw [List.drop_zero]; omega)
   rw [List.drop_zero] at e1 e2 e3
   refine ⟨g', row', ?_, ?_, by omega⟩
   ·rw [show ((g : Nat), len + 1, (0 : Int), splice row len [t]) = (g, len + 1, ((0 : Nat) : Int), splice row len [t]) from rfl, e1, bsm]
    simp only
    congr 2
    omega
   ·rw [show len + tc t = len + 1 + tcs t.kids by omega, e2, s1, pre_eq, List.append_assoc]; rfl
  ·rw [decide_eq_false hc, cond_false]
   obtain ⟨g', row', e1, e2, e3⟩ := key t.kids.length 0 (g + 1) (len + 1) (row.take len ++ [t]) (by omega) (by omega) (by rw [List.drop_zero]; omega)
   rw [List.drop_zero] at e1 e2 e3
   refine ⟨g', row', ?_, ?_, by omega⟩
   ·rw [show ((g + 1 : Nat), len + 1, (0 : Int), row.take len ++ [t]) = (g + 1, len + 1, ((0 : Nat) : Int), row.take len ++ [t]) from rfl, e1, bsm]
    simp only
    congr 2
    omega
   ·rw [show len + tc t = len + 1 + tcs t.kids by omega, e2, s3, pre_eq, List.append_assoc]; rfl
theorem q29 {Nf : Nat} {t : TreeD} (h : tc t < Nf) (h1 : tc t ≤ 1000) : F29 Nf t = some (pre t) := by
 have htc := tc_eq t
 have hl := tcs_len t.kids
 have key := l29 (fun a b c => E_L29_0_8.k0 a b c) t (fun s => L29_0_8 Nf t s.1 s.2.1 s.2.2.1 s.2.2.2) 10000
  (fun g len row => by simp only [L29_0_8, decide_eq_false (show ¬ ((t.kids.length : Int) < (t.kids.length : Int)) by omega), cond_false])
  (fun i x g len row hx hlen hN => by
   have hk := tkid hx
   have hi := (gei.1 hx).1
   obtain ⟨g', row', e1, e2, e3⟩ := q29_3 Nf x g len row (by omega) (by omega) (by omega) hlen
   refine ⟨g', row', ?_, e2, e3⟩
   simp only [L29_0_8, decide_eq_true (show (i : Int) < (t.kids.length : Int) by omega), cond_true, getI_nat, hx, bsm, e1]
   rw [w_S (by omega)])
 unfold F29
 obtain ⟨g', row', e1, e2, e3⟩ := key t.kids.length 0 1 (0 + 1) (([] : List TreeD).take 0 ++ [t]) (by omega) (by simp) (by rw [List.drop_zero]; omega)
 rw [List.drop_zero] at e1 e2 e3
 rw [ap40 (by simp) (by omega), cond_true, t_eta, show ((1 : Nat), 0 + 1, (0 : Int), ([] : List TreeD).take 0 ++ [t]) = (1, 0 + 1, ((0 : Nat) : Int), ([] : List TreeD).take 0 ++ [t]) from rfl, e1, bsm]
 simp only
 rw [decide_eq_true e3, cond_true, e2, pre_eq]
 rfl
abbrev bz (l : List UInt8) : ByteArray := ⟨l.toArray⟩
theorem bz_app (a b : List UInt8) : bz a ++ bz b = bz (a ++ b) := by
 apply ByteArray.ext
 simp [ByteArray.data_append]
theorem bz_size (l : List UInt8) : (bz l).size = l.length := by rw [← len_d]
theorem hexl_at : ∀ n : _root_.Fin 16, hexL[n.val]? = some (hexd n.val) := by decide +kernel
theorem of_nat (c : UInt8) : UInt8.ofNat (Int.toNat (c.toNat : Int)) = c := by simp
theorem q27 : ∀ (Nf : Nat) (t : TreeD), tc t < Nf → tc t ≤ 2000 → Ty t → badT t = false → F27 Nf t = some (bz (tbt t))
 | 0, _, h, _, _, _ => by omega
 | Nf + 1, t, h, h2, hty, hb => by
  show F27_b (F27 Nf) t = _
  have htc := tc_eq t
  have hl := tcs_len t.kids
  unfold F27_b
  rcases good_top hb with ⟨g1, g2⟩ | ⟨g1, g2, g3⟩
  ·have hby := hty.by
   obtain ⟨n, hn⟩ : ∃ n : Nat, t.byte = (n : Int) := ⟨t.byte.toNat, by omega⟩
   have h16 : Int.tdiv t.byte 16 = ((n / 16 : Nat) : Int) := by rw [hn]; rfl
   have h17 : Int.tmod t.byte 16 = ((n % 16 : Nat) : Int) := by rw [hn]; rfl
   have e0 := hexl_at ⟨n / 16, (by omega)⟩
   have e1 := hexl_at ⟨n % 16, (by omega)⟩
   simp only at e0 e1
   rw [decide_eq_true (show t.prod < 0 by omega), cond_true, h16, h17, show IntKind.wrap .u8 ((n / 16 : Nat) : Int) = ((n / 16 : Nat) : Int) from IntWalk.u8_in _ (by omega)]
   show ((getI hexL ((n / 16 : Nat) : Int)).bind fun x2 => (getI hexL ((n % 16 : Nat) : Int)).bind fun x3 => _) = _
   rw [getI_nat, e0, bsm, getI_nat, e1, bsm, of_nat, of_nat]
   show (bif decide ((bz [120]).size + (bz [hexd (n / 16), hexd (n % 16)]).size ≤ 9223372036854775807) then some (bz [120] ++ bz [hexd (n / 16), hexd (n % 16)]) else none) = _
   rw [bz_size, bz_size, decide_eq_true (show ([120] : List UInt8).length + [hexd (n / 16), hexd (n % 16)].length ≤ 9223372036854775807 by simp), cond_true, bz_app, tbt_eq, decide_eq_true (show t.prod < 0 by omega), cond_true, hn]
   rfl
  ·rw [decide_eq_false (show ¬ t.prod < 0 by omega), cond_false]
   have hI : I42 t.prod = some (itoaB t.prod) := by
    unfold I42 F42
    have hp := hty.pr
    rw [decide_eq_true hp, cond_true]
   have hlen := itoa_len t.prod
   have hib : itoaB t.prod = bz (itoaL t.prod) := rfl
   have hb40 : (⟨([40] : List UInt8).toArray⟩ : ByteArray) = bz [40] := rfl
   have hb41 : (⟨([41] : List UInt8).toArray⟩ : ByteArray) = bz [41] := rfl
   have hb32 : (⟨([32] : List UInt8).toArray⟩ : ByteArray) = bz [32] := rfl
   have hk : ∀ l : List TreeD, (tbk l).length ≤ 24 * tcs l := fun l => by
    have := tbr_len l
    show ((tbr l).drop 1).length ≤ _
    rw [List.length_drop]
    omega
   have key : ∀ (k i : Nat), i + k = t.kids.length → runL (fun s => L27_0 (F27 Nf) t s.1 s.2) (bz (itoaL t.prod ++ [40] ++ tbk (t.kids.take i)), (i : Int)) = some (.k0 (bz (itoaL t.prod ++ [40] ++ tbk t.kids))) := by
    intro k
    induction k with
    | zero =>
     intro i hi
     obtain rfl : i = t.kids.length := by omega
     rw [tkl]
     exact runL_done (by simp only [L27_0, decide_eq_false (show ¬ ((t.kids.length : Int) < (t.kids.length : Int)) by omega), cond_false])
    | succ k ih =>
     intro i hi
     obtain ⟨x, hx, hkx, hm⟩ := kid_at t (show i < t.kids.length by omega)
     have hr := q27 Nf x (by omega) (by omega) (hty.kid hm) (good_kid hb hm)
     have hq := hk (t.kids.take i)
     have hq2 := tcs_take_le t.kids i
     have hx2 := tb_len _ x (Nat.le_refl _)
     have htk := tbk_take hx
     refine (runL_next (s' := (bz (itoaL t.prod ++ [40] ++ tbk (t.kids.take (i + 1))), ((i + 1 : Nat) : Int))) ?_).trans (ih (i + 1) (by omega))
     simp only [L27_0, decide_eq_true (show (i : Int) < (t.kids.length : Int) by omega), cond_true, getI_nat, hx, bsm, hr, hb32, bz_size, bz_app, lap, lcn, List.length_nil]
     rw [htk, w_S (by omega)]
     cases hi0 : decide ((i : Int) > 0) with
     | true =>
      simp only [cond_true]
      rw [decide_eq_true (by omega), cond_true, decide_eq_true (by omega), cond_true]
      simp
     | false =>
      simp only [cond_false]
      rw [decide_eq_true (by omega), cond_true]
      simp
   have hk1 := key t.kids.length 0 (by omega)
   rw [List.take_zero] at hk1
   have hkk := hk t.kids
   rw [hI, bsm, hib, hb40, hb41, bz_size, bz_size, decide_eq_true (by simp; omega), cond_true, bz_app, show itoaL t.prod ++ [40] = itoaL t.prod ++ [40] ++ tbk [] by simp [tbk, tbr], show (0 : Int) = ((0 : Nat) : Int) from rfl, hk1, bsm]
   simp only
   rw [bz_size, bz_size, decide_eq_true (by simp only [lap, lcn, List.length_nil]; omega), cond_true, bz_app, tbt_eq, decide_eq_false (show ¬ t.prod < 0 by omega), cond_false]
   simp [tbk]
theorem y25 {Nf : Nat} {l : List TreeD} {n : Nat} {x : TreeD} {leave : Int} (h : l[n]? = some x) (hx : tc x < Nf) (hx2 : tc x ≤ 4000) (hn : n ≤ 100000) : Y25_0_7 Nf (n : Int) x (n : Int) l leave = some (bif ((n + 1 : Nat) : Int) == leave then .k0 true ((n + 1 : Nat) : Int) else .k1) := by
 have hi := (gei.1 h).1
 unfold Y25_0_7
 rw [decide_eq_false (by omega), cond_false, show ((n : Int) != (n : Int)) = false from by simp, cond_false, getI_nat, h, bsm, q14 Nf x x hx hx2, bsm, @decide_eq_true _ (Classical.propDecidable _) rfl, cond_true, w_S (by omega)]
 cases ((n + 1 : Nat) : Int) == leave <;> rfl
theorem pre_kid {u x : TreeD} {i : Nat} (h : u.kids[i]? = some x) {j : Nat} (hj : j < tc x) : (pre u)[1 + tcs (u.kids.take i) + j]? = (pre x)[j]? := by
 have papp : ∀ (a b : List TreeD), pres (a ++ b) = pres a ++ pres b := by
  intro a b
  induction a with
  | nil => simp [pres]
  | cons t a ih => simp only [List.cons_append, pres, ih, List.append_assoc]
 have hk : u.kids = u.kids.take i ++ (x :: u.kids.drop (i + 1)) := by
  have h1 := (List.take_append_drop (i + 1) u.kids).symm
  rw [take_S h] at h1
  simpa using h1
 have hl : (pres (u.kids.take i)).length = tcs (u.kids.take i) := by
  have := pre_len _ (.mk 0 0 (u.kids.take i)) (Nat.le_refl _)
  rw [pre_eq] at this
  have e2 : tc (.mk 0 0 (u.kids.take i)) = 1 + tcs (u.kids.take i) := tc_eq _
  rw [e2, lcn] at this
  show (pres (TreeD.kids (.mk 0 0 (u.kids.take i)))).length = _
  omega
 have e : pres u.kids = pres (u.kids.take i) ++ (pre x ++ pres (u.kids.drop (i + 1))) := by
  conv => lhs; rw [hk, papp]
  simp only [pres]
 rw [pre_eq, show 1 + tcs (u.kids.take i) + j = (tcs (u.kids.take i) + j) + 1 by omega, List.getElem?_cons_succ, e, List.getElem?_append_right (by omega), hl, Nat.add_sub_cancel_left, List.getElem?_append_left (by rw [pre_len _ x (Nat.le_refl _)]; exact hj)]
theorem q52 {T : TreeD} {l : List TreeD} {leave : Int} (a8 a9 : TreeD) : ∀ (Nf : Nat) (u : TreeD) (n : Nat), 4000 + tc u < Nf → tc u ≤ 1000 → n + tc u ≤ 10000 → (∀ j, j < tc u → l[n + j]? = (pre u)[j]?) →
  ∃ r, F52_11 Nf u (n : Int) T l leave l leave a8 a9 (n : Int) = some r ∧ ((∃ x y, r = .k0 true x y) ∨ r = .k1 ((n + tc u : Nat) : Int) ((n + tc u : Nat) : Int))
 | 0, _, _, h, _, _, _ => by omega
 | Nf + 1, u, n, h, h1, h2, hr => by
  have htc := tc_eq u
  have hl := tcs_len u.kids
  have hr0 := hr 0 (by omega)
  rw [Nat.add_zero, pre_eq, List.getElem?_cons_zero] at hr0
  have hy := y25 (Nf := Nf) (leave := leave) hr0 (by omega) (by omega) (by omega)
  have key : ∀ (k i : Nat), i + k = u.kids.length → ∃ r, runL (fun s => L52_0_8 (F52_11 Nf) u (u.kids.length : Int) T l leave l leave a8 a9 s.1 s.2.1 s.2.2) ((i : Int), ((n + (1 + tcs (u.kids.take i)) : Nat) : Int), ((n + (1 + tcs (u.kids.take i)) : Nat) : Int)) = some r ∧ ((∃ x y z w v, r = .k0 true x y z w v) ∨ r = .k1 ((n + tc u : Nat) : Int) ((n + tc u : Nat) : Int)) := by
   intro k
   induction k with
   | zero =>
    intro i hi
    obtain rfl : i = u.kids.length := by omega
    rw [tkl]
    refine ⟨.k1 ((n + (1 + tcs u.kids) : Nat) : Int) ((n + (1 + tcs u.kids) : Nat) : Int), runL_done ?_, .inr ?_⟩
    ·simp only [L52_0_8, decide_eq_false (show ¬ ((u.kids.length : Int) < (u.kids.length : Int)) by omega), cond_false]
    ·rw [htc]
   | succ k ih =>
    intro i hi
    obtain ⟨x, hx, hk, _⟩ := kid_at u (show i < u.kids.length by omega)
    have h3 := tcs_take hx
    have h4 := tcs_take_le u.kids (i + 1)
    obtain ⟨r, e1, e2⟩ := q52 (T := T) (leave := leave) a8 a9 Nf x (n + (1 + tcs (u.kids.take i))) (by omega) (by omega) (by omega) (fun j hj => by
     rw [← pre_kid hx hj, ← hr (1 + tcs (u.kids.take i) + j) (by omega), Nat.add_assoc])
    rcases e2 with ⟨a, b, rfl⟩ | rfl
    ·refine ⟨.k0 true a b x.prod x.byte x.kids, runL_done ?_, .inl ⟨_, _, _, _, _, rfl⟩⟩
     simp only [L52_0_8, decide_eq_true (show (i : Int) < (u.kids.length : Int) by omega), cond_true, getI_nat, hx, bsm, e1]
    ·obtain ⟨r2, f1, f2⟩ := ih (i + 1) (by omega)
     refine ⟨r2, (runL_next ?_).trans f1, f2⟩
     simp only [L52_0_8, decide_eq_true (show (i : Int) < (u.kids.length : Int) by omega), cond_true, getI_nat, hx, bsm, e1]
     rw [w_S (by omega), h3]
     simp only [Nat.add_assoc]
  show ∃ r, F52_11_b Nf (F52_11 Nf) u (n : Int) T l leave l leave a8 a9 (n : Int) = some r ∧ _
  unfold F52_11_b
  rw [w_S (by omega), w_id (by omega), show (((n + 1 : Nat) : Int) - 1) = (n : Int) by omega, hy, bsm]
  cases hlv : ((n + 1 : Nat) : Int) == leave with
  | true => exact ⟨_, rfl, .inl ⟨_, _, rfl⟩⟩
  | false =>
   simp only [cond_false]
   obtain ⟨r, e1, e2⟩ := key u.kids.length 0 (by omega)
   rw [List.take_zero, show tcs [] = 0 from rfl] at e1
   rw [show ((0 : Int), ((n + 1 : Nat) : Int), ((n + 1 : Nat) : Int)) = (((0 : Nat) : Int), ((n + (1 + 0) : Nat) : Int), ((n + (1 + 0) : Nat) : Int)) from rfl, e1, bsm]
   rcases e2 with ⟨x, y, z, w, v, rfl⟩ | rfl
   ·exact ⟨_, rfl, .inl ⟨_, _, rfl⟩⟩
   ·exact ⟨_, rfl, .inr rfl⟩
theorem pre_goes {T : TreeD} (h : tc T ≤ 900) (leave : Int) (a8 a9 : TreeD) : ∃ r, F52_11 5000 T 0 T (pre T) leave (pre T) leave a8 a9 0 = some r ∧ ((∃ x y, r = .k0 true x y) ∨ r = .k1 ((tc T : Nat) : Int) ((tc T : Nat) : Int)) := by
 obtain ⟨r, e1, e2⟩ := q52 (T := T) (l := pre T) (leave := leave) a8 a9 5000 T 0 (by omega) (by omega) (by omega) (fun j hj => by rw [Nat.zero_add])
 rw [Nat.zero_add] at e2
 exact ⟨r, e1, e2⟩
theorem q25_6 {T : TreeD} (h : tc T ≤ 900) (hb : badT T = false) (leave : Int) : F25_6 5000 T (pre T) leave = some true := by
 have hl := pre_len _ T (Nat.le_refl _)
 obtain ⟨r, e1, e2⟩ := pre_goes h leave T T
 unfold F25_6 F51_9
 rw [q23 (t := T) (by omega), hb]
 simp only [cond_false, bsm, show ((0 : Int) != 0) = false from rfl]
 rw [e1, bsm]
 rcases e2 with ⟨x, y, rfl⟩ | rfl
 ·rfl
 ·simp only [bsm, hl, beq_self_eq_true]
theorem q25_7 {T : TreeD} (h : tc T ≤ 900) (hb : badT T = false) : F25_7 5000 T (pre T) = some true := by
 have hl := pre_len _ T (Nat.le_refl _)
 obtain ⟨r, e1, e2⟩ := pre_goes h 0 T T
 unfold F25_7 F51_10
 rw [q23 (t := T) (by omega), hb]
 simp only [cond_false, bsm, show ((0 : Int) != 0) = false from rfl]
 rw [e1, bsm]
 rcases e2 with ⟨x, y, rfl⟩ | rfl
 ·rfl
 ·simp only [bsm, hl, beq_self_eq_true]
theorem treeTells [ErC] {a b : TreeD} (ha : Ty a) (hb : Ty b) (n : Int) : F4 5000 a b n = some true := by
 unfold F4
 rw [t_eta, t_eta, q16 (by omega), bsm]
 by_cases h : tc a ≤ 2000 ∧ tc b ≤ 2000
 ·rw [decide_eq_true h, cond_true, q17 5000 a (by omega) (by omega), bsm]
  have h0 : ∀ x : Int, (x != x) = false := fun x => by simp
  simp only [t_eta]
  rw [q18 (by omega) (by omega), bsm, q19 (by omega) h.1, bsm]
  have hq20 := q20 (Nf := 5000) (t := a) (by omega) h.1 ha
  have h14 : ∀ x y : TreeD, tc x ≤ 2000 → F14 5000 x y = some (@decide (x = y) (Classical.propDecidable _)) := fun x y hx => q14 5000 x y (by omega) (by omega)
  have h24 : ∀ x y : TreeD, tc x ≤ 2000 → F24 5000 x y = some (@decide (x = y) (Classical.propDecidable _)) := fun x y hx => q24 5000 x y (by omega) (by omega)
  have hcomm : @decide (b = a) (Classical.propDecidable _) = @decide (a = b) (Classical.propDecidable _) := by
   by_cases e : a = b
   ·rw [@decide_eq_true _ (Classical.propDecidable _) e, @decide_eq_true _ (Classical.propDecidable _) e.symm]
   ·rw [@decide_eq_false _ (Classical.propDecidable _) e, @decide_eq_false _ (Classical.propDecidable _) (fun q => e q.symm)]
  cases hbt : badT a with
  | true =>
   rw [hbt] at hq20
   simp only [cond_true] at hq20 ⊢
   rw [hq20, bsm]
   unfold F21
   simp only [bsm, t_eta, q22 5000 a (show tc a < 5000 by omega) (by omega), cond_true, q23 h.1, hbt, F15, h0, cond_false, h24 a b h.1, h14 a b h.1, h24 b a h.2, hcomm, q24s 5000 a (show tc a < 5000 by omega) (by omega), beq_self_eq_true, Bool.and_true, Bool.not_true]
   unfold F25_5 F51_8
   rw [q23 h.1, hbt]
   rfl
  | false =>
   rw [hbt] at hq20
   simp only [cond_false] at hq20 ⊢
   rw [hq20, bsm]
   unfold F21
   have h27 := q27 5000 a (by omega) h.1 ha hbt
   have h26 := q26 5000 a (by omega) (by omega)
   have h28 := q28 5000 300 a (by omega) (by omega)
   simp only [bsm, t_eta, q22 5000 a (show tc a < 5000 by omega) (by omega), cond_true, q23 h.1, hbt, F15, h0, cond_false, h24 a b h.1, h14 a b h.1, h24 b a h.2, hcomm, q24s 5000 a (show tc a < 5000 by omega) (by omega), beq_self_eq_true, Bool.and_true, Bool.not_true, h26, h27]
   rw [show (300 : Int) = ((300 : Nat) : Int) from rfl, h28, bsm]
   by_cases h3 : tc a ≤ 300
   ·rw [decide_eq_false (show ¬ (((min (tc a) (300 + 1) : Nat) : Int) > ((300 : Nat) : Int)) by omega), cond_false, q29 (by omega) (by omega), bsm, q25_6 (by omega) hbt, bsm, cond_true, bsm, q25_7 (by omega) hbt]
    rfl
   ·rw [decide_eq_true (show (((min (tc a) (300 + 1) : Nat) : Int) > ((300 : Nat) : Int)) by omega), cond_true]
    rfl
 ·rw [decide_eq_false h, cond_false]
  rfl
end Go.Proofs.Tryd
