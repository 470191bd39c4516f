/- Trees: how many, which may be. Plain data alone. -/
import Derived.Test.YtcdebkkjbminoaaDoorH63
import Derived.Test.YtcdebkkjbminoaaDoorVE
open Option renaming bind_some → bsm
open List renaming getElem?_eq_some_iff → gei, getElem?_eq_getElem → geg, length_append → lap, length_cons → lcn
namespace Go.Proofs.Tryd
set_option linter.unusedSimpArgs false
set_option linter.unusedVariables false
open Go Go.Vs
mutual
def tc : TreeD → Nat
 | .mk _ _ l => 1 + tcs l
def tcs : List TreeD → Nat
 | [] => 0
 | t :: l => tc t + tcs l
end
def bad1 (t : TreeD) : Bool := decide (t.prod < -1) || (decide (t.prod > 2147483647) || ((t.prod == -1 && decide ((t.kids.length : Int) > 0)) || (decide (t.prod ≥ 0) && t.byte != 0)))
mutual
def badT : TreeD → Bool
 | .mk p b l => bad1 (.mk p b l) || badTs l
def badTs : List TreeD → Bool
 | [] => false
 | t :: l => badT t || badTs l
end
inductive Ty : TreeD → Prop
 | mk {p b : Int} {l : List TreeD} (h1 : -9223372036854775808 ≤ p ∧ p ≤ 9223372036854775807) (h2 : 0 ≤ b ∧ b ≤ 255) (h3 : ∀ x ∈ l, Ty x) : Ty (.mk p b l)
theorem Ty.pr {t : TreeD} (h : Ty t) : -9223372036854775808 ≤ t.prod ∧ t.prod ≤ 9223372036854775807 := by cases h with | mk h1 h2 h3 => exact h1
theorem Ty.by {t : TreeD} (h : Ty t) : 0 ≤ t.byte ∧ t.byte ≤ 255 := by cases h with | mk h1 h2 h3 => exact h2
theorem Ty.kid {t x : TreeD} (h : Ty t) (hx : x ∈ t.kids) : Ty x := by cases h with | mk h1 h2 h3 => exact h3 x hx
theorem tc_eq : ∀ t : TreeD, tc t = 1 + tcs t.kids
 | .mk _ _ _ => by simp only [tc, TreeD.kids]
theorem badT_eq : ∀ t : TreeD, badT t = (bad1 t || badTs t.kids)
 | .mk _ _ _ => by simp only [badT, TreeD.kids]
theorem tcs_mem {b : TreeD} : ∀ {l : List TreeD}, b ∈ l → tc b ≤ tcs l
 | [], h => by simp at h
 | u :: l, h => by
  simp only [tcs]
  rcases List.mem_cons.1 h with rfl | h
  ·omega
  ·have := tcs_mem h; omega
theorem tcs_app : ∀ (a b : List TreeD), tcs (a ++ b) = tcs a + tcs b
 | [], b => by simp [tcs]
 | t :: a, b => by simp only [List.cons_append, tcs, tcs_app a b]; omega
theorem tc_pos (b : TreeD) : 1 ≤ tc b := by rw [tc_eq]; omega
theorem tcs_len : ∀ (l : List TreeD), l.length ≤ tcs l
 | [] => by simp
 | t :: a => by have := tcs_len a; have := tc_pos t; simp only [lcn, tcs]; omega
theorem tkid {b x : TreeD} {i : Nat} (h : b.kids[i]? = some x) : tc x < tc b := by
 have := tcs_mem (List.mem_of_getElem? h)
 have := tc_eq b
 omega
theorem take_S {α : Type} {l : List α} {i : Nat} {x : α} (h : l[i]? = some x) : l.take (i + 1) = l.take i ++ [x] := by
 rw [List.take_add_one, h]; rfl
theorem tcs_take {l : List TreeD} {i : Nat} {x : TreeD} (h : l[i]? = some x) : tcs (l.take (i + 1)) = tcs (l.take i) + tc x := by
 rw [take_S h, tcs_app]; simp [tcs]
theorem tcs_take_le (l : List TreeD) (i : Nat) : tcs (l.take i) ≤ tcs l := by
 have := tcs_app (l.take i) (l.drop i)
 rw [List.take_append_drop] at this
 omega
theorem badTs_any : ∀ l : List TreeD, badTs l = l.any badT
 | [] => rfl
 | t :: l => by simp only [badTs, List.any_cons, badTs_any l]
theorem q28 : ∀ (Nf left : Nat) (t : TreeD), left < Nf → left ≤ 4000 → F28_2 Nf t left = some ((min (tc t) (left + 1) : Nat) : Int)
 | 0, left, t, h, _ => by omega
 | Nf + 1, left, t, h, h2 => by
  show F28_2_b (F28_2 Nf) t left = _
  unfold F28_2_b
  have key : ∀ (k i : Nat), i + k = t.kids.length → runL (fun s => L28_0_2 (F28_2 Nf) left t s.1 s.2) (((min (1 + tcs (t.kids.take i)) (left + 1) : Nat) : Int), (i : Int)) = some (.k0 ((min (tc t) (left + 1) : Nat) : Int)) := by
   intro k
   induction k with
   | zero =>
    intro i hi
    obtain rfl : i = t.kids.length := by omega
    rw [List.take_length, ← tc_eq]
    refine runL_done ?_
    simp only [L28_0_2, decide_eq_false (show ¬ ((t.kids.length : Int) < (t.kids.length : Int)) by omega), cond_false]
   | succ k ih =>
    intro i hi
    have hx : t.kids[i]? = some t.kids[i] := geg (by omega)
    generalize t.kids[i] = x at hx
    have hlt : decide ((i : Int) < (t.kids.length : Int)) = true := decide_eq_true (by omega)
    have hl := tcs_take hx
    have hle := tcs_take_le t.kids i
    have htc := tc_eq t
    by_cases hn : 1 + tcs (t.kids.take i) ≤ left
    ·have hm : min (1 + tcs (t.kids.take i)) (left + 1) = 1 + tcs (t.kids.take i) := by omega
     have hw : IntKind.wrap .i64 ((left : Int) - ((1 + tcs (t.kids.take i) : Nat) : Int)) = ((left - (1 + tcs (t.kids.take i)) : Nat) : Int) := by
      rw [w_id (by omega)]; omega
     have hr := q28 Nf (left - (1 + tcs (t.kids.take i))) x (by omega) (by omega)
     rw [hm]
     refine (runL_next (s' := (((min (1 + tcs (t.kids.take (i + 1))) (left + 1) : Nat) : Int), ((i + 1 : Nat) : Int))) ?_).trans (ih (i + 1) (by omega))
     simp only [L28_0_2, hlt, cond_true, decide_eq_true (show ((1 + tcs (t.kids.take i) : Nat) : Int) ≤ (left : Int) by omega), getI_nat, hx, bsm, hw, hr]
     rw [w_id (by omega), w_S (by have := tcs_len (t.kids.take i); rw [List.length_take] at this; omega)]
     congr 4
     omega
    ·have hm : min (1 + tcs (t.kids.take i)) (left + 1) = left + 1 := by omega
     have hm2 : min (tc t) (left + 1) = left + 1 := by omega
     rw [hm, hm2]
     refine runL_done ?_
     simp only [L28_0_2, hlt, cond_true, decide_eq_false (show ¬ ((left + 1 : Nat) : Int) ≤ (left : Int) by omega), cond_false]
  have := key t.kids.length 0 (by omega)
  rw [List.take_zero, show min (1 + tcs []) (left + 1) = 1 from by simp [tcs]] at this
  rw [show ((1 : Int), (0 : Int)) = (((1 : Nat) : Int), ((0 : Nat) : Int)) from rfl, this]
  rfl
theorem q16 {Nf : Nat} (hf : 2000 < Nf) (a b : TreeD) : F16 Nf [a, b] = some (decide (tc a ≤ 2000 ∧ tc b ≤ 2000)) := by
 unfold F16
 have key := loop_list (l := [a, b]) (fun _ x => decide (tc x ≤ 2000)) (bad := .k0) (fin := .k1) (step := fun s => L16_0 Nf [a, b] s) (fun i x hx => ?_) rfl
 ·rw [key]
  simp only [allF, Bool.and_true]
  by_cases h1 : tc a ≤ 2000 <;> by_cases h2 : tc b ≤ 2000 <;> simp [h1, h2]
 ·have hi : i < 2 := by have := (gei.1 hx).1; simpa using this
  have hr := q28 Nf 2000 x hf (by omega)
  have hr : F28_2 Nf x 2000 = some ((min (tc x) (2000 + 1) : Nat) : Int) := hr
  simp only [L16_0, lcn, List.length_nil, decide_eq_true (show (i : Int) < ((0 + 1 + 1 : Nat) : Int) by omega), cond_true, getI_nat, hx, bsm, hr]
  by_cases h : tc x ≤ 2000
  ·rw [decide_eq_false (show ¬ ((min (tc x) (2000 + 1) : Nat) : Int) > 2000 by omega), decide_eq_true h, w_S (by omega)]
   rfl
  ·rw [decide_eq_true (show ((min (tc x) (2000 + 1) : Nat) : Int) > 2000 by omega), decide_eq_false h]
   rfl
theorem q54 (t : TreeD) (b : Bool) : F54 t b = some (b || bad1 t) := by
 unfold F54 bad1
 cases decide (t.prod < -1) <;> cases decide (t.prod > 2147483647) <;> cases t.prod == -1 <;> cases decide ((t.kids.length : Int) > 0) <;> cases decide (t.prod ≥ 0) <;> cases t.byte != 0 <;> cases b <;> rfl
theorem fold_or : ∀ (l : List TreeD) (b : Bool), l.foldl (fun b x => b || badT x) b = (b || badTs l)
 | [], b => by simp [badTs]
 | t :: l, b => by rw [List.foldl_cons, fold_or l, badTs, Bool.or_assoc]
theorem q72 : ∀ (Nf left : Nat) (t bx : TreeD) (b : Bool), tc t ≤ left → left < Nf → left ≤ 20000 → F72 Nf t left bx b = some (b || badT t)
 | 0, left, t, bx, b, _, h, _ => by omega
 | Nf + 1, left, t, bx, b, h1, h, h2 => by
  show F72_b (F72 Nf) t left bx b = _
  have hp := tc_pos t
  unfold F72_b
  rw [show ((left : Int) == 0) = false from by simpa using by omega, cond_false, q54, bsm]
  have key := loop_foldl (step := fun s => L72_0 (F72 Nf) left t (t.kids.length : Int) bx s.1 s.2) (l := t.kids) (emb := fun i b => ((i : Int), b)) (f := fun b x => b || badT x) (fin := fun b => .k0 b) (Inv := fun _ => True) (fun i x a hx _ => ?_) (fun a _ => ?_) t.kids.length 0 (b || bad1 t) (by omega) trivial
  ·rw [List.drop_zero, fold_or] at key
   rw [show ((0 : Int), b || bad1 t) = (((0 : Nat) : Int), b || bad1 t) from rfl, key, bsm, badT_eq, Bool.or_assoc]
  ·refine ⟨?_, trivial⟩
   have hi : i < t.kids.length := (gei.1 hx).1
   have hl := tcs_len t.kids
   have hk := tkid hx
   have htc := tc_eq t
   have hw : IntKind.wrap .i64 ((left : Int) - 1) = ((left - 1 : Nat) : Int) := by rw [w_id (by omega)]; omega
   simp only [L72_0, decide_eq_true (show (i : Int) < (t.kids.length : Int) by omega), cond_true, getI_nat, hx, bsm, hw, q72 Nf (left - 1) x bx a (by omega) (by omega) (by omega)]
   rw [w_S (by omega)]
  ·simp only [L72_0, decide_eq_false (show ¬ ((t.kids.length : Int) < (t.kids.length : Int)) by omega), cond_false]
theorem q23 {t : TreeD} (h : tc t ≤ 2000) : F23 t = some (bif badT t then 240 else 0) := by
 unfold F23
 have := q72 16386 16384 t t false (by omega) (by omega) (by omega)
 rw [show ((16384 : Nat) : Int) = 16384 from rfl] at this
 rw [this]
 cases badT t <;> rfl
theorem len_d (a : ByteArray) : a.data.toList.length = a.size := by rw [Array.length_toList]; rfl
theorem splice_app {α : Type} {l y : List α} {n : Nat} (h : n + y.length ≤ l.length) : (splice l n y).take (n + y.length) = l.take n ++ y ∧ (splice l n y).length = l.length := by
 unfold splice
 refine ⟨?_, by simp; omega⟩
 have : (l.take n ++ y).length = n + y.length := by simp; omega
 rw [← this, List.take_left]
abbrev ints (l : List UInt8) : List Int := l.map fun b => ((b.toNat : Nat) : Int)
theorem bstr_ints (l : List UInt8) : bstr (ints l) = ⟨l.toArray⟩ := by
 unfold bstr
 congr 2
 rw [List.map_map]
 conv => rhs; rw [← List.map_id l]
 refine List.map_congr_left (fun x _ => ?_)
 simp
structure Buf (row : List Int) (len : Nat) (o : List UInt8) : Prop where
 le : len ≤ row.length
 is : row.take len = ints o
theorem Buf.len {row : List Int} {len : Nat} {o : List UInt8} (h : Buf row len o) : len = o.length := by
 have := congrArg List.length h.is
 rw [List.length_take, List.length_map] at this
 have := h.le
 omega
theorem sb_ints (s : ByteArray) : sbytes s = ints s.data.toList := rfl
theorem sb_len (s : ByteArray) : (sbytes s).length = s.size := by rw [sb_ints, List.length_map, len_d]
theorem apN {len k n : Nat} (h : len ≤ n) (hb : len + k ≤ 5000000) : apOk len k n 1 = true := decide_eq_true ⟨h, by unfold limit47; omega, by unfold limit47; omega⟩
theorem putN {row : List Int} {len : Nat} {o : List UInt8} (s : List UInt8) (h : Buf row len o) :
  (len + s.length ≤ row.length → Buf (splice row len (ints s)) (len + s.length) (o ++ s)) ∧ Buf (row.take len ++ ints s) (len + s.length) (o ++ s) := by
 have hs : (ints s).length = s.length := List.length_map _
 have ha : ints (o ++ s) = row.take len ++ ints s := by rw [h.is]; simp [ints]
 have hp : (row.take len).length = len := by rw [List.length_take]; have := h.le; omega
 refine ⟨fun hl => ?_, ⟨?_, ?_⟩⟩
 ·obtain ⟨h1, h2⟩ := splice_app (l := row) (y := ints s) (n := len) (by omega)
  rw [hs] at h1
  exact ⟨by rw [h2]; exact hl, by rw [h1, ha]⟩
 ·rw [lap, hp, hs]; exact Nat.le_refl _
 ·rw [ha]; exact List.take_of_length_le (by rw [lap, hp, hs]; exact Nat.le_refl _)
abbrev hexL : List UInt8 := [48, 49, 50, 51, 52, 53, 54, 55, 56, 57, 97, 98, 99, 100, 101, 102]
def hexd (n : Nat) : UInt8 := hexL[n]?.getD 0
mutual
def tbt : TreeD → List UInt8
 | .mk p b l => bif decide (p < 0) then [120, hexd (b.toNat / 16), hexd (b.toNat % 16)] else itoaL p ++ 40 :: ((tbr l).drop 1 ++ [41])
def tbr : List TreeD → List UInt8
 | [] => []
 | t :: l => 32 :: (tbt t ++ tbr l)
end
theorem tbt_eq : ∀ t : TreeD, tbt t = bif decide (t.prod < 0) then [120, hexd (t.byte.toNat / 16), hexd (t.byte.toNat % 16)] else itoaL t.prod ++ 40 :: ((tbr t.kids).drop 1 ++ [41])
 | .mk _ _ _ => by rw [tbt]; rfl
theorem tbr_app : ∀ a b : List TreeD, tbr (a ++ b) = tbr a ++ tbr b
 | [], b => by simp [tbr]
 | t :: a, b => by simp [tbr, tbr_app a b]
theorem dd_len : ∀ k u : Nat, (dd k u).length ≤ k
 | 0, _ => by simp [dd]
 | k + 1, u => by
  have := dd_len k (u / 10)
  rw [dd]
  split
  ·simp
  ·rw [lap]; simp; omega
theorem itoa_len (n : Int) : (itoaL n).length ≤ 21 := by
 unfold itoaL
 cases n with
 | ofNat u => exact Nat.le_trans (dd_len 20 u) (by omega)
 | negSucc u => rw [lcn]; have := dd_len 20 (u + 1); omega
theorem tb_len : ∀ (N : Nat) (t : TreeD), tc t ≤ N → (tbt t).length + 1 ≤ 24 * tc t
 | 0, t, h => by have := tc_pos t; omega
 | N + 1, t, h => by
  have key : ∀ l : List TreeD, tcs l ≤ N → (tbr l).length ≤ 24 * tcs l := by
   intro l
   induction l with
   | nil => intro _; simp [tbr]
   | cons x l ih =>
    intro hl
    simp only [tcs] at hl
    have h1 := tb_len N x (by omega)
    have h2 := ih (by omega)
    simp only [tbr, tcs, lcn, lap]
    omega
  have h1 := key t.kids (by have := tc_eq t; omega)
  have h2 := itoa_len t.prod
  have h3 := tc_eq t
  rw [tbt_eq]
  cases decide (t.prod < 0) with
  | true => simp; omega
  | false =>
   simp only [cond_false, lap, lcn, List.length_drop, List.length_nil]
   omega
theorem tbr_len : ∀ l : List TreeD, (tbr l).length ≤ 24 * tcs l
 | [] => by simp [tbr]
 | x :: l => by
  have h1 := tb_len (tc x) x (Nat.le_refl _)
  have h2 := tbr_len l
  simp only [tbr, tcs, lcn, lap]
  omega
abbrev tbk (l : List TreeD) : List UInt8 := (tbr l).drop 1
theorem tbk_take {l : List TreeD} {i : Nat} {x : TreeD} (h : l[i]? = some x) : tbk (l.take (i + 1)) = bif decide ((i : Int) > 0) then tbk (l.take i) ++ 32 :: tbt x else tbk (l.take i) ++ tbt x := by
 unfold tbk
 rw [take_S h, tbr_app]
 cases i with
 | zero => simp [tbr]
 | succ i =>
  rw [decide_eq_true (by omega), cond_true]
  cases l with
  | nil => simp at h
  | cons y l => simp [tbr]
section
variable {row : List Int} {len : Nat} {o : List UInt8}
theorem q825 (v : Bool) : F82_5 v = some true := by unfold F82_5; cases v <;> rfl
theorem q826 (v : Bool) : F82_6 v = some true := by unfold F82_6; cases v <;> rfl
theorem q827 (v : Bool) : F82_7 v = some true := by unfold F82_7; cases v <;> rfl
theorem q68 (g : Nat) (v : Bool) (a b : UInt8) (h : Buf row len o) (hb : len ≤ 4000000) : ∃ g' row' v', F68_3 g row v len (a.toNat : Int) (b.toNat : Int) = some (.k0 g' row' v') ∧ Buf row' (len + 3) (o ++ [120, a, b]) := by
 obtain ⟨p1, p2⟩ := putN [120, a, b] h
 unfold F68_3
 rw [q825]
 simp only [bsm, apN h.le (show len + 3 ≤ 5000000 by omega), cond_true]
 by_cases hr : len + 3 ≤ row.length
 ·rw [decide_eq_true hr]; exact ⟨_, _, _, rfl, p1 hr⟩
 ·rw [decide_eq_false hr]; exact ⟨_, _, _, rfl, p2⟩
theorem q69 (s : ByteArray) (g : Nat) (v : Bool) (h : Buf row len o) (hb : len + s.size ≤ 5000000) : ∃ n g' row' v', F69_3 s g row v len = some (.k0 n g' row' v') ∧ Buf row' (len + s.size) (o ++ s.data.toList) := by
 obtain ⟨p1, p2⟩ := putN s.data.toList h
 rw [len_d, ← sb_ints] at p1 p2
 unfold F69_3
 rw [q826]
 simp only [bsm, sb_len, apN h.le hb, cond_true]
 by_cases hr : len + s.size ≤ row.length
 ·rw [decide_eq_true hr]; exact ⟨_, _, _, _, rfl, p1 hr⟩
 ·rw [decide_eq_false hr]; exact ⟨_, _, _, _, rfl, p2⟩
theorem q70 (g : Nat) (v : Bool) (h : Buf row len o) (hb : len ≤ 4000000) : ∃ g' row' v', F70 g row v len = some (.k0 g' row' v') ∧ Buf row' (len + 1) (o ++ [41]) := by
 obtain ⟨p1, p2⟩ := putN [41] h
 unfold F70
 rw [q826]
 simp only [bsm, apN h.le (show len + 1 ≤ 5000000 by omega), cond_true]
 by_cases hr : len + 1 ≤ row.length
 ·rw [decide_eq_true hr]; exact ⟨_, _, _, rfl, p1 hr⟩
 ·rw [decide_eq_false hr]; exact ⟨_, _, _, rfl, p2⟩
theorem q702 (g : Nat) (v : Bool) (h : Buf row len o) (hb : len ≤ 4000000) : ∃ g' row' v', F70_2 g row v len = some (.k0 g' row' v') ∧ Buf row' (len + 1) (o ++ [32]) := by
 obtain ⟨p1, p2⟩ := putN [32] h
 unfold F70_2
 rw [q827]
 simp only [bsm, apN h.le (show len + 1 ≤ 5000000 by omega), cond_true]
 by_cases hr : len + 1 ≤ row.length
 ·rw [decide_eq_true hr]; exact ⟨_, _, _, rfl, p1 hr⟩
 ·rw [decide_eq_false hr]; exact ⟨_, _, _, rfl, p2⟩
end
theorem hex_get {n : Nat} (h : n < 16) {i : Int} (hi : i = (n : Int)) : getI hexL i = some (hexd n) := by
 subst hi
 rw [getI_nat]
 have : n < hexL.length := h
 unfold hexd
 rw [geg this]
 rfl
theorem hi_nib {b : Int} (h : 0 ≤ b ∧ b ≤ 255) : Int.fdiv b (2 ^ (min (Int.toNat 4) (IntKind.bits .u8))) = ((b.toNat / 16 : Nat) : Int) := by
 rw [show (2 : Int) ^ (min (Int.toNat 4) (IntKind.bits .u8)) = 16 from rfl, Int.fdiv_eq_ediv_of_nonneg _ (by omega)]
 omega
theorem lo_nib {b : Int} (h : 0 ≤ b ∧ b ≤ 255) : IntKind.wrap .u8 ((BitVec.ofInt (IntKind.bits .u8) b &&& BitVec.ofInt (IntKind.bits .u8) 15).toNat : Int) = ((b.toNat % 16 : Nat) : Int) := by
 obtain ⟨n, rfl⟩ : ∃ n : Nat, b = (n : Int) := ⟨b.toNat, by omega⟩
 have hn : n ≤ 255 := by omega
 have : ∀ n : _root_.Fin 256, IntKind.wrap .u8 ((BitVec.ofInt (IntKind.bits .u8) ((n.val : Nat) : Int) &&& BitVec.ofInt (IntKind.bits .u8) 15).toNat : Int) = ((((n.val : Nat) : Int).toNat % 16 : Nat) : Int) := by decide +kernel
 exact this ⟨n, by omega⟩
theorem q48 : ∀ (Nf : Nat) (t bx : TreeD) (g : Nat) (row : List Int) (v : Bool) (len : Nat) (o : List UInt8), tc t < Nf → Ty t → Buf row len o → len + 24 * tc t ≤ 1000000 →
  ∃ g' row' v' len', F48_3 Nf t bx g row v len = some (.k0 g' row' v' len') ∧ Buf row' len' (o ++ tbt t)
 | 0, t, _, _, _, _, _, _, h, _, _, _ => by omega
 | Nf + 1, t, bx, g, row, v, len, o, h, ht, hB, hb => by
  show ∃ g' row' v' len', F48_3_b (F48_3 Nf) t bx g row v len = some (.k0 g' row' v' len') ∧ Buf row' len' (o ++ tbt t)
  unfold F48_3_b
  rw [tbt_eq]
  have hp := tc_pos t
  cases hneg : decide (t.prod < 0) with
  | true =>
   have hby := ht.by
   have e1 := hex_get (n := t.byte.toNat / 16) (by omega) (hi_nib hby)
   have e2 := hex_get (n := t.byte.toNat % 16) (by omega) (lo_nib hby)
   simp only [cond_true]
   rw [e1]
   simp only [bsm]
   rw [e2]
   obtain ⟨g', row', v', h1, h2⟩ := q68 g v (hexd (t.byte.toNat / 16)) (hexd (t.byte.toNat % 16)) hB (by omega)
   simp only [bsm, h1]
   exact ⟨_, _, _, _, rfl, h2⟩
  | false =>
   simp only [cond_false]
   have hpr := ht.pr
   have hI : I42 t.prod = some (itoaB t.prod) := by
    unfold I42 F42
    rw [decide_eq_true hpr]
    rfl
   have hil := itoa_len t.prod
   have hsz : (itoaB t.prod).size = (itoaL t.prod).length := by rw [← len_d]
   have hsz2 : (itoaB t.prod ++ (⟨([40] : List UInt8).toArray⟩ : ByteArray)).size = (itoaL t.prod).length + 1 := by rw [ByteArray.size_append, hsz]; rfl
   have hd2 : (itoaB t.prod ++ (⟨([40] : List UInt8).toArray⟩ : ByteArray)).data.toList = itoaL t.prod ++ [40] := by rw [ByteArray.data_append, Array.toList_append]
   rw [hI]
   simp only [bsm]
   rw [decide_eq_true (by rw [hsz]; show (itoaL t.prod).length + 1 ≤ 9223372036854775807; omega), cond_true]
   obtain ⟨n1, g1, row1, v1, e1, B1⟩ := q69 (itoaB t.prod ++ (⟨([40] : List UInt8).toArray⟩ : ByteArray)) g v hB (by rw [hsz2]; omega)
   rw [e1]
   simp only [bsm]
   rw [hd2] at B1
   rw [sb_len]
   have htc := tc_eq t
   have key : ∀ (k i : Nat) (g : Nat) (row : List Int) (v : Bool) (len1 : Nat), i + k = t.kids.length → Buf row len1 (o ++ (itoaL t.prod ++ [40]) ++ tbk (t.kids.take i)) →
     ∃ g' row' v' len', runL (fun s => L48_0_3 (F48_3 Nf) t (t.kids.length : Int) bx s.1 s.2.1 s.2.2.1 s.2.2.2.1 s.2.2.2.2) ((i : Int), g, row, v, len1) = some (.k0 g' row' v' len') ∧ Buf row' len' (o ++ (itoaL t.prod ++ [40]) ++ tbk t.kids) := by
    intro k
    induction k with
    | zero =>
     intro i g row v len1 hi hB
     obtain rfl : i = t.kids.length := by omega
     rw [List.take_length] at hB
     refine ⟨g, row, v, len1, runL_done ?_, hB⟩
     simp only [L48_0_3, decide_eq_false (show ¬ ((t.kids.length : Int) < (t.kids.length : Int)) by omega), cond_false]
    | succ k ih =>
     intro i g row v len1 hi hB
     have hx : t.kids[i]? = some t.kids[i] := geg (by omega)
     generalize t.kids[i] = x at hx
     have hxm := List.mem_of_getElem? hx
     have hl := hB.len
     have htk := tcs_take hx
     have hle := tcs_take_le t.kids (i + 1)
     have hbl := tbr_len (t.kids.take i)
     have hlen1 : len1 + 24 * tc x + 1 ≤ 1000000 := by
      rw [hl]
      simp only [lap, List.length_drop, lcn, List.length_nil]
      have := hB.len
      have hol : len = o.length := by have := (by assumption : Buf _ len o).len; exact this
      omega
     have hn := tbk_take hx
     have hlt : decide ((i : Int) < (t.kids.length : Int)) = true := decide_eq_true (by omega)
     have hws : IntKind.wrap .i64 ((i : Int) + 1) = ((i + 1 : Nat) : Int) := w_S (by have := tcs_len (t.kids.take i); rw [List.length_take] at this; omega)
     cases hi0 : decide ((i : Int) > 0) with
     | true =>
      rw [hi0, cond_true] at hn
      obtain ⟨g2, row2, v2, e2, B2⟩ := q702 g v hB (by omega)
      obtain ⟨g3, row3, v3, len3, e3, B3⟩ := q48 Nf x bx g2 row2 v2 (len1 + 1) _ (by omega) (ht.kid hxm) B2 (by omega)
      rw [List.append_assoc, List.append_assoc, show tbk (t.kids.take i) ++ ([32] ++ tbt x) = tbk (t.kids.take (i + 1)) by rw [hn]; rfl] at B3
      obtain ⟨g4, row4, v4, len4, e4, B4⟩ := ih (i + 1) g3 row3 v3 len3 (by omega) B3
      refine ⟨g4, row4, v4, len4, (runL_next (s' := (((i + 1 : Nat) : Int), g3, row3, v3, len3)) ?_).trans e4, B4⟩
      simp only [L48_0_3, hlt, cond_true, getI_nat, hx, bsm, hi0, e2, e3, hws]
     | false =>
      rw [hi0, cond_false] at hn
      obtain ⟨g3, row3, v3, len3, e3, B3⟩ := q48 Nf x bx g row v len1 _ (by omega) (ht.kid hxm) hB (by omega)
      rw [List.append_assoc, ← hn] at B3
      obtain ⟨g4, row4, v4, len4, e4, B4⟩ := ih (i + 1) g3 row3 v3 len3 (by omega) B3
      refine ⟨g4, row4, v4, len4, (runL_next (s' := (((i + 1 : Nat) : Int), g3, row3, v3, len3)) ?_).trans e4, B4⟩
      simp only [L48_0_3, hlt, cond_true, cond_false, getI_nat, hx, bsm, hi0, e3, hws]
   obtain ⟨g2, row2, v2, len2, e2, B2⟩ := key t.kids.length 0 g1 row1 v1 (len + (itoaB t.prod ++ (⟨([40] : List UInt8).toArray⟩ : ByteArray)).size) (by omega) (by rw [List.take_zero]; show Buf _ _ (_ ++ []); rw [List.append_nil]; exact B1)
   rw [show ((0 : Int), g1, row1, v1, len + (itoaB t.prod ++ (⟨([40] : List UInt8).toArray⟩ : ByteArray)).size) = (((0 : Nat) : Int), g1, row1, v1, len + (itoaB t.prod ++ (⟨([40] : List UInt8).toArray⟩ : ByteArray)).size) from rfl, e2]
   simp only [bsm]
   have hl2 := B2.len
   have hol := hB.len
   have hkl := tbr_len t.kids
   simp only [lap, List.length_drop, lcn, List.length_nil] at hl2
   obtain ⟨g3, row3, v3, e3, B3⟩ := q70 g2 v2 B2 (by omega)
   rw [e3]
   simp only [bsm]
   refine ⟨_, _, _, _, rfl, ?_⟩
   simpa using B3
theorem tb_pos (t : TreeD) : 1 ≤ (tbt t).length := by
 rw [tbt_eq]
 cases decide (t.prod < 0) <;> simp <;> omega
theorem q20 {Nf : Nat} {t : TreeD} (h : tc t < Nf) (h2 : tc t ≤ 2000) (ht : Ty t) : F20 Nf t = some (bif badT t then .k0 b0 240 else .k0 ⟨(tbt t).toArray⟩ 0) := by
 unfold F20
 rw [q23 h2, bsm]
 cases hb : badT t with
 | true => rfl
 | false =>
  obtain ⟨g', row', v', len', e1, B1⟩ := q48 Nf t t 0 [] false 0 [] h ht ⟨Nat.le_refl _, rfl⟩ (by omega)
  have hl := B1.len
  rw [List.nil_append] at hl B1
  have hp := tb_pos t
  have hm := tb_len (tc t) t (Nat.le_refl _)
  rw [show ((bif false then (240 : Int) else 0) != 0) = false from rfl, cond_false, cond_false, e1]
  simp only [bsm, F49]
  rw [decide_eq_false (show ¬ ((len' : Nat) : Int) > 1048576 by omega), cond_false]
  unfold F50
  rw [decide_eq_true (show 0 < len' by omega), cond_true, show usOk len' row'.length = true from decide_eq_true ⟨B1.le, by omega⟩, cond_true, B1.is, bstr_ints]
  rfl
theorem tree_ext : ∀ {a b : TreeD}, a.prod = b.prod → a.byte = b.byte → a.kids = b.kids → a = b
 | .mk _ _ _, .mk _ _ _, h1, h2, h3 => by
  simp only [TreeD.prod, TreeD.byte, TreeD.kids] at h1 h2 h3
  subst h1 h2 h3
  rfl
open Classical in
theorem q24 : ∀ (Nf : Nat) (a b : TreeD), tc a < Nf → tc a ≤ 2000 → F24 Nf a b = some (decide (a = b))
 | 0, a, b, h, _ => by omega
 | Nf + 1, a, b, h, h2 => by
  show F24_b (F24 Nf) a b = _
  unfold F24_b
  by_cases hp : a.prod = b.prod
  ·rw [show (a.prod == b.prod) = true by simpa using hp, cond_true]
   by_cases hq : a.byte = b.byte
   ·rw [show (a.byte == b.byte) = true by simpa using hq, cond_true]
    unfold F55
    have htc := tc_eq a
    have hlen := tcs_len a.kids
    by_cases hl : a.kids.length = b.kids.length
    ·rw [show ((a.kids.length : Int) != (b.kids.length : Int)) = false by simp [hl], cond_false]
     have key := loop_list (l := a.kids) (fun i x => decide (b.kids[i]? = some x)) (bad := .k0) (fin := .k1) (step := fun s => L55_0 (F24 Nf) b a (a.kids.length : Int) s) (fun i x hx => ?_) (by simp only [L55_0, decide_eq_false (show ¬ ((a.kids.length : Int) < (a.kids.length : Int)) by omega), cond_false])
     ·rw [key, bsm]
      by_cases hk : allF (fun i x => decide (b.kids[i]? = some x)) 0 a.kids = true
      ·rw [hk]
       have hk := (allF_iff _ _).1 hk
       have : a = b := tree_ext hp hq (List.ext_getElem? fun i => by
        by_cases hi : i < a.kids.length
        ·have hx : a.kids[i]? = some a.kids[i] := geg hi
         have := of_decide_eq_true (hk i _ hx)
         rw [Nat.zero_add] at this
         rw [hx, this]
        ·rw [List.getElem?_eq_none (by omega), List.getElem?_eq_none (by omega)])
       rw [decide_eq_true this]
       rfl
      ·have hk' : allF (fun i x => decide (b.kids[i]? = some x)) 0 a.kids = false := by simpa using hk
       rw [hk']
       have : ¬ a = b := fun e => hk ((allF_iff _ _).2 (fun i x hx => by rw [Nat.zero_add, ← e]; exact decide_eq_true hx))
       rw [decide_eq_false this]
       rfl
     ·have hi : i < a.kids.length := (gei.1 hx).1
      have hy : b.kids[i]? = some b.kids[i] := geg (by omega)
      generalize b.kids[i] = y at hy
      have hk := tkid hx
      have hlx := tcs_len a.kids
      simp only [L55_0, decide_eq_true (show (i : Int) < (a.kids.length : Int) by omega), cond_true, getI_nat, hx, hy, bsm, q24 Nf x y (by omega) (by omega)]
      by_cases hxy : x = y
      ·subst hxy
       rw [w_S (by omega)]
       simp
      ·have : ¬ (some y = some x) := fun e => hxy (by cases e; rfl)
       rw [decide_eq_false hxy, decide_eq_false this]
       rfl
    ·rw [show ((a.kids.length : Int) != (b.kids.length : Int)) = true by simpa using fun e => hl (by omega), cond_true]
     rw [decide_eq_false (fun e => hl (by rw [e]))]
     rfl
   ·rw [show (a.byte == b.byte) = false by simpa using hq, cond_false, decide_eq_false (fun e => hq (by rw [e]))]
  ·rw [show (a.prod == b.prod) = false by simpa using hp, cond_false, decide_eq_false (fun e => hp (by rw [e]))]
theorem good_top {t : TreeD} (h : badT t = false) : (t.prod = -1 ∧ t.kids = []) ∨ (0 ≤ t.prod ∧ t.prod ≤ 2147483647 ∧ t.byte = 0) := by
 rw [badT_eq, Bool.or_eq_false_iff] at h
 have h := h.1
 unfold bad1 at h
 simp only [Bool.or_eq_false_iff, decide_eq_false_iff_not, Bool.and_eq_false_iff] at h
 obtain ⟨h1, h2, h3, h4⟩ := h
 by_cases c : t.prod = -1
 ·refine .inl ⟨c, ?_⟩
  rcases h3 with h3 | h3
  ·simp [c] at h3
  ·exact List.eq_nil_of_length_eq_zero (by omega)
 ·refine .inr ⟨by omega, by omega, ?_⟩
  rcases h4 with h4 | h4
  ·omega
  ·simpa using h4
theorem good_kid {t x : TreeD} (h : badT t = false) (hx : x ∈ t.kids) : badT x = false := by
 rw [badT_eq, Bool.or_eq_false_iff, badTs_any] at h
 have := h.2
 rw [List.any_eq_false] at this
 simpa using this x hx
def vald : List UInt8 → Nat → Nat
 | [], n => n
 | c :: l, n => vald l (10 * n + (c.toNat - 48))
theorem vald_app : ∀ (a b : List UInt8) (n : Nat), vald (a ++ b) n = vald b (vald a n)
 | [], b, n => rfl
 | c :: a, b, n => vald_app a b _
theorem dig_toNat {u : Nat} (h : u < 10) : (UInt8.ofNat (48 + u)).toNat = 48 + u := by
 rw [UInt8.toNat_ofNat']
 omega
theorem dd_val : ∀ (k u : Nat), u < 10 ^ k → 0 < k → vald (dd k u) 0 = u
 | 0, _, _, h => by omega
 | k + 1, u, h, _ => by
  rw [dd]
  by_cases c : u < 10
  ·rw [show Nat.blt u 10 = true from by simpa [Nat.blt_eq] using c]
   simp only [vald, dig_toNat c]
   omega
  ·rw [show Nat.blt u 10 = false from by simpa [Bool.eq_false_iff, Nat.blt_eq] using c]
   simp only
   have hk : 0 < k := by
    rcases Nat.eq_zero_or_pos k with rfl | hk
    ·simp at h; omega
    ·exact hk
   rw [vald_app, dd_val k (u / 10) (by rw [Nat.pow_succ] at h; omega) hk]
   simp only [vald, dig_toNat (show u % 10 < 10 by omega)]
   omega
theorem dd_dig : ∀ (k u : Nat), ∀ c ∈ dd k u, 48 ≤ c.toNat ∧ c.toNat ≤ 57
 | 0, _, c, h => by simp [dd] at h
 | k + 1, u, c, h => by
  rw [dd] at h
  by_cases hu : u < 10
  ·rw [show Nat.blt u 10 = true from by simpa [Nat.blt_eq] using hu] at h
   simp only [List.mem_singleton] at h
   subst h
   rw [dig_toNat hu]; omega
  ·rw [show Nat.blt u 10 = false from by simpa [Bool.eq_false_iff, Nat.blt_eq] using hu] at h
   simp only [List.mem_append, List.mem_singleton] at h
   rcases h with h | rfl
   ·exact dd_dig k _ c h
   ·rw [dig_toNat (show u % 10 < 10 by omega)]; omega
theorem itoa_nn {n : Int} (h : 0 ≤ n) : itoaL n = dd 20 n.toNat := by
 obtain ⟨u, rfl⟩ : ∃ u : Nat, n = (u : Int) := ⟨n.toNat, by omega⟩
 rfl
theorem itoa_inj {a b : Int} (ha : 0 ≤ a ∧ a ≤ 2147483647) (hb : 0 ≤ b ∧ b ≤ 2147483647) (h : itoaL a = itoaL b) : a = b := by
 rw [itoa_nn ha.1, itoa_nn hb.1] at h
 have : vald (dd 20 a.toNat) 0 = vald (dd 20 b.toNat) 0 := by rw [h]
 rw [dd_val 20 _ (by omega) (by omega), dd_val 20 _ (by omega) (by omega)] at this
 omega
theorem itoa_dig {a : Int} (ha : 0 ≤ a) : ∀ c ∈ itoaL a, 48 ≤ c.toNat ∧ c.toNat ≤ 57 := by rw [itoa_nn ha]; exact dd_dig 20 _
theorem cut40 : ∀ {l m x y : List UInt8}, (∀ c ∈ l, 48 ≤ c.toNat) → (∀ c ∈ m, 48 ≤ c.toNat) → l ++ 40 :: x = m ++ 40 :: y → l = m ∧ x = y
 | [], [], x, y, _, _, h => ⟨rfl, by simpa using h⟩
 | [], c :: m, x, y, _, h2, h => by
  simp only [List.nil_append, List.cons_append, List.cons.injEq] at h
  have := h2 c (by simp)
  rw [← h.1] at this
  exact absurd this (by decide)
 | c :: l, [], x, y, h1, _, h => by
  simp only [List.nil_append, List.cons_append, List.cons.injEq] at h
  have := h1 c (by simp)
  rw [h.1] at this
  exact absurd this (by decide)
 | c :: l, d :: m, x, y, h1, h2, h => by
  simp only [List.cons_append, List.cons.injEq] at h
  obtain ⟨rfl, h⟩ := h
  obtain ⟨rfl, e⟩ := cut40 (fun z hz => h1 z (by simp [hz])) (fun z hz => h2 z (by simp [hz])) h
  exact ⟨rfl, e⟩
theorem hexd_inj : ∀ a b : _root_.Fin 256, hexd (a.val / 16) = hexd (b.val / 16) → hexd (a.val % 16) = hexd (b.val % 16) → a = b := by
 have h16 : ∀ i j : _root_.Fin 16, hexd i.val = hexd j.val → i = j := by decide +kernel
 intro a b h1 h2
 have e1 := h16 ⟨a.val / 16, by omega⟩ ⟨b.val / 16, by omega⟩ h1
 have e2 := h16 ⟨a.val % 16, by omega⟩ ⟨b.val % 16, by omega⟩ h2
 simp only [_root_.Fin.mk.injEq] at e1 e2
 exact _root_.Fin.ext (by omega)
theorem tb_head {t : TreeD} (h : badT t = false) : ∃ c l, tbt t = c :: l ∧ 48 ≤ c.toNat := by
 rw [tbt_eq]
 rcases good_top h with ⟨h1, h2⟩ | ⟨h1, h2, h3⟩
 ·rw [decide_eq_true (by omega), cond_true]
  exact ⟨_, _, rfl, by decide⟩
 ·rw [decide_eq_false (by omega), cond_false]
  have hv := dd_val 20 t.prod.toNat (by omega) (by omega)
  have hd := itoa_dig h1
  rw [itoa_nn h1] at hd ⊢
  cases hh : dd 20 t.prod.toNat with
  | nil =>
   exfalso
   rw [dd] at hh
   split at hh <;> simp at hh
  | cons c l =>
   rw [hh] at hd
   exact ⟨c, _, rfl, (hd c (by simp)).1⟩
theorem tb_inj : ∀ (N : Nat) (a b : TreeD) (x y : List UInt8), tc a ≤ N → Ty a → Ty b → badT a = false → badT b = false → tbt a ++ x = tbt b ++ y → a = b ∧ x = y
 | 0, a, _, _, _, h, _, _, _, _, _ => by have := tc_pos a; omega
 | N + 1, a, b, x, y, hN, ta, tb, ga, gb, h => by
  have htc := tc_eq a
  have key : ∀ (l m : List TreeD) (x y : List UInt8), tcs l ≤ N → (∀ z ∈ l, Ty z ∧ badT z = false) → (∀ z ∈ m, Ty z ∧ badT z = false) → tbr l ++ 41 :: x = tbr m ++ 41 :: y → l = m ∧ x = y := by
   intro l
   induction l with
   | nil =>
    intro m x y _ _ hm h
    cases m with
    | nil => exact ⟨rfl, by simpa [tbr] using h⟩
    | cons z m => simp [tbr] at h
   | cons z l ih =>
    intro m x y hN hl hm h
    cases m with
    | nil => simp [tbr] at h
    | cons u m =>
     simp only [tcs] at hN
     simp only [tbr, List.cons_append, List.append_assoc, List.cons.injEq, true_and] at h
     obtain ⟨rfl, h'⟩ := tb_inj N z u _ _ (by omega) (hl z (by simp)).1 (hm u (by simp)).1 (hl z (by simp)).2 (hm u (by simp)).2 h
     obtain ⟨rfl, h''⟩ := ih m x y (by omega) (fun w hw => hl w (by simp [hw])) (fun w hw => hm w (by simp [hw])) h'
     exact ⟨rfl, h''⟩
  have keyK : ∀ (l m : List TreeD) (x y : List UInt8), tcs l ≤ N → (∀ z ∈ l, Ty z ∧ badT z = false) → (∀ z ∈ m, Ty z ∧ badT z = false) → tbk l ++ 41 :: x = tbk m ++ 41 :: y → l = m ∧ x = y := by
   intro l m x y hN hl hm h
   have hhd : ∀ (z : TreeD) (r r' x' : List UInt8), badT z = false → tbt z ++ r = 41 :: x' → False := by
    intro z r r' x' hz e
    obtain ⟨c, q, hc, h48⟩ := tb_head hz
    rw [hc] at e
    simp only [List.cons_append, List.cons.injEq] at e
    rw [e.1] at h48
    exact absurd h48 (by decide)
   cases l with
   | nil =>
    cases m with
    | nil => exact ⟨rfl, by simpa [tbr] using h⟩
    | cons z m =>
     simp only [tbk, tbr, List.drop_nil, List.nil_append, List.drop_succ_cons, List.drop_zero, List.append_assoc] at h
     exact (hhd z _ [] _ (hm z (by simp)).2 h.symm).elim
   | cons z l =>
    cases m with
    | nil =>
     simp only [tbk, tbr, List.drop_nil, List.nil_append, List.drop_succ_cons, List.drop_zero, List.append_assoc] at h
     exact (hhd z _ [] _ (hl z (by simp)).2 h).elim
    | cons u m =>
     refine key (z :: l) (u :: m) x y hN hl hm ?_
     simp only [tbk, tbr, List.drop_succ_cons, List.drop_zero, List.append_assoc] at h
     simp only [tbr, List.cons_append, List.append_assoc, h]
  rw [tbt_eq a, tbt_eq b] at h
  rcases good_top ga with ⟨a1, a2⟩ | ⟨a1, a2, a3⟩ <;> rcases good_top gb with ⟨b1, b2⟩ | ⟨b1, b2, b3⟩
  ·rw [decide_eq_true (by omega), decide_eq_true (by omega)] at h
   simp only [cond_true, List.cons_append, List.nil_append, List.cons.injEq, true_and] at h
   have hA := ta.by
   have hB := tb.by
   have := hexd_inj ⟨a.byte.toNat, by omega⟩ ⟨b.byte.toNat, by omega⟩ h.1 h.2.1
   simp only [_root_.Fin.mk.injEq] at this
   exact ⟨tree_ext (by omega) (by omega) (by rw [a2, b2]), h.2.2⟩
  ·exfalso
   obtain ⟨c, l, hc, _⟩ := tb_head gb
   have hd := itoa_dig b1
   rw [decide_eq_true (by omega), decide_eq_false (by omega), cond_true, cond_false] at h
   cases hh : itoaL b.prod with
   | nil => rw [hh] at h; simp at h
   | cons c l =>
    rw [hh] at h hd
    simp only [List.cons_append, List.cons.injEq] at h
    have := (hd c (by simp)).2
    rw [← h.1] at this
    exact absurd this (by decide)
  ·exfalso
   have hd := itoa_dig a1
   rw [decide_eq_false (by omega), decide_eq_true (by omega), cond_true, cond_false] at h
   cases hh : itoaL a.prod with
   | nil => rw [hh] at h; simp at h
   | cons c l =>
    rw [hh] at h hd
    simp only [List.cons_append, List.cons.injEq] at h
    have := (hd c (by simp)).2
    rw [h.1] at this
    exact absurd this (by decide)
  ·rw [decide_eq_false (by omega), decide_eq_false (by omega)] at h
   simp only [cond_false, List.append_assoc, List.cons_append] at h
   obtain ⟨e1, e2⟩ := cut40 (fun c hc => (itoa_dig a1 c hc).1) (fun c hc => (itoa_dig b1 c hc).1) h
   have e1 := itoa_inj ⟨a1, a2⟩ ⟨b1, b2⟩ e1
   simp only [List.nil_append] at e2
   obtain ⟨e3, e4⟩ := keyK a.kids b.kids x y (by omega) (fun z hz => ⟨ta.kid hz, good_kid ga hz⟩) (fun z hz => ⟨tb.kid hz, good_kid gb hz⟩) e2
   exact ⟨tree_ext e1 (by rw [a3, b3]) e3, e4⟩
theorem tmk : ∀ t : TreeD, TreeD.mk t.prod t.byte t.kids = t
 | .mk _ _ _ => rfl
theorem ext_mid {s : ByteArray} {p m r : List UInt8} (h : s.data.toList = p ++ (m ++ r)) : s.extract p.length (p.length + m.length) = ⟨m.toArray⟩ := by
 apply ByteArray.ext
 rw [ByteArray.data_extract]
 apply Array.toList_inj.1
 rw [Array.toList_extract, h]
 simp [List.extract]
theorem q61 {s : ByteArray} {D R : List UInt8} (h : s.data.toList = D ++ 40 :: R) (hD : ∀ c ∈ D, 48 ≤ c.toNat) (hs : s.size ≤ 4000000) : runL (fun v => L6_1 s v) 0 = some (.k0 (D.length : Int)) := by
 have hsz : s.size = D.length + R.length + 1 := by rw [← len_d, h]; simp; omega
 have key : ∀ (k i : Nat), i + k = D.length → runL (fun v => L6_1 s v) (i : Int) = some (.k0 (D.length : Int)) := by
  intro k
  induction k with
  | zero =>
   intro i hi
   obtain rfl : i = D.length := by omega
   refine runL_done ?_
   have hx : s.data.toList[D.length]? = some 40 := by rw [h]; simp
   simp only [L6_1, decide_eq_true (show (D.length : Int) < (s.size : Int) by omega), cond_true, getI_nat, hx, bsm]
   rfl
  | succ k ih =>
   intro i hi
   have hx : s.data.toList[i]? = some D[i] := by rw [h, List.getElem?_append_left (by omega)]; exact geg _
   have hc := hD D[i] (List.getElem_mem _)
   generalize D[i] = c at hx hc
   refine (runL_next (s' := ((i + 1 : Nat) : Int)) ?_).trans (ih (i + 1) (by omega))
   simp only [L6_1, decide_eq_true (show (i : Int) < (s.size : Int) by omega), cond_true, getI_nat, hx, bsm]
   rw [show (((c.toNat : Nat) : Int) != 40) = true from by simpa using by omega, cond_true, w_S (by omega)]
 exact key D.length 0 (by omega)
theorem tbk_split {l : List TreeD} {i : Nat} {x : TreeD} (h : l[i]? = some x) : tbk l = (tbr (l.take i) ++ [32]).drop 1 ++ (tbt x ++ tbr (l.drop (i + 1))) := by
 obtain ⟨hi, hx⟩ := gei.1 h
 have e : l = l.take i ++ x :: l.drop (i + 1) := by
  conv => lhs; rw [← List.take_append_drop i l, List.drop_eq_getElem_cons hi, hx]
 have e2 : tbr l = (tbr (l.take i) ++ [32]) ++ (tbt x ++ tbr (l.drop (i + 1))) := by
  conv => lhs; rw [e, tbr_app]
  simp [tbr]
 unfold tbk
 rw [e2, List.drop_append_of_le_length (by simp)]
theorem tcs_take_S {l : List TreeD} {i : Nat} {x : TreeD} (h : l[i]? = some x) : (tbr (l.take (i + 1))).length = (tbr (l.take i)).length + (tbt x).length + 1 := by
 rw [take_S h, tbr_app]
 simp [tbr]
 omega
theorem q60 {Nf : Nat} {a : TreeD} {s : ByteArray} {D : List UInt8} (hf : tc a < Nf) (ha : tc a ≤ 2000) (ta : Ty a) (ga : badT a = false) (h : s.data.toList = D ++ 40 :: (tbk a.kids ++ [41])) (hs : s.size ≤ 4000000) :
  runL (fun z => L6_0 Nf s a z.1 z.2) (((D.length + 1 : Nat) : Int), 0) = some (.k1 ((D.length + 1 + (tbr a.kids).length : Nat) : Int)) := by
 have htc := tc_eq a
 have hkl := tcs_len a.kids
 have key : ∀ (k i : Nat), i + k = a.kids.length → runL (fun z => L6_0 Nf s a z.1 z.2) (((D.length + 1 + (tbr (a.kids.take i)).length : Nat) : Int), (i : Int)) = some (.k1 ((D.length + 1 + (tbr a.kids).length : Nat) : Int)) := by
  intro k
  induction k with
  | zero =>
   intro i hi
   obtain rfl : i = a.kids.length := by omega
   rw [List.take_length]
   refine runL_done ?_
   simp only [L6_0, decide_eq_false (show ¬ ((a.kids.length : Int) < (a.kids.length : Int)) by omega), cond_false]
  | succ k ih =>
   intro i hi
   have hx : a.kids[i]? = some a.kids[i] := geg (by omega)
   generalize a.kids[i] = x at hx
   have hxm := List.mem_of_getElem? hx
   have hk := tkid hx
   have hq := q20 (Nf := Nf) (t := x) (by omega) (by omega) (ta.kid hxm)
   rw [good_kid ga hxm, cond_false] at hq
   have hsp := tbk_split hx
   have hS := tcs_take_S hx
   have hs2 : s.data.toList = (D ++ 40 :: (tbr (a.kids.take i) ++ [32]).drop 1) ++ (tbt x ++ (tbr (a.kids.drop (i + 1)) ++ [41])) := by
    rw [h, hsp]; simp [List.append_assoc]
   have hpl : (D ++ (40 : UInt8) :: (tbr (a.kids.take i) ++ [32]).drop 1).length = D.length + 1 + (tbr (a.kids.take i)).length := by
    simp only [lap, lcn, List.length_drop, List.length_nil]
    omega
   have hex := ext_mid hs2
   rw [hpl] at hex
   have hsz : s.size = D.length + 1 + (tbr (a.kids.take i)).length + (tbt x).length + (tbr (a.kids.drop (i + 1))).length + 1 := by
    rw [← len_d, hs2, lap, hpl]
    simp only [lap, lcn, List.length_nil]
    omega
   have hbs : (⟨(tbt x).toArray⟩ : ByteArray).size = (tbt x).length := by rw [← len_d]
   refine (runL_next (s' := (((D.length + 1 + (tbr (a.kids.take (i + 1))).length : Nat) : Int), ((i + 1 : Nat) : Int))) ?_).trans (ih (i + 1) (by omega))
   have hw1 : IntKind.wrap .i64 ((s.size : Int) - ((D.length + 1 + (tbr (a.kids.take i)).length : Nat) : Int)) = (s.size : Int) - ((D.length + 1 + (tbr (a.kids.take i)).length : Nat) : Int) := w_id (by omega)
   have hw2 : IntKind.wrap .i64 (((D.length + 1 + (tbr (a.kids.take i)).length : Nat) : Int) + ((tbt x).length : Int)) = ((D.length + 1 + (tbr (a.kids.take i)).length + (tbt x).length : Nat) : Int) := by rw [w_id (by omega)]; omega
   simp only [L6_0, decide_eq_true (show (i : Int) < (a.kids.length : Int) by omega), cond_true, getI_nat, hx, bsm, hq, F15, hbs, hw1, hw2]
   rw [show ((0 : Int) != 0) = false from rfl, cond_false, decide_eq_false (by omega), cond_false, show sl_ok ((D.length + 1 + (tbr (a.kids.take i)).length : Nat) : Int) ((D.length + 1 + (tbr (a.kids.take i)).length + (tbt x).length : Nat) : Int) s.size = true from decide_eq_true ⟨by omega, by omega, by omega⟩, cond_true, Int.toNat_natCast, Int.toNat_natCast, hex, bytes_list, decide_eq_true rfl, Bool.not_true, cond_false, w_S (by omega), w_S (by omega), hS]
   congr 4
   omega
 have := key a.kids.length 0 (by omega)
 rw [List.take_zero] at this
 exact this
theorem treeOne {a b : TreeD} (ta : Ty a) (tb : Ty b) : F6 2100 a b = some true := by
 unfold F6
 rw [tmk, tmk, q16 (by omega)]
 by_cases hsm : tc a ≤ 2000 ∧ tc b ≤ 2000
 ·rw [decide_eq_true hsm]
  obtain ⟨ha, hb⟩ := hsm
  rw [q20 (t := a) (by omega) ha ta, q20 (t := b) (by omega) hb tb, q24 2100 a b (by omega) ha]
  simp only [bsm, cond_true]
  cases ga : badT a with
  | true => rfl
  | false =>
   cases gb : badT b with
   | true => rfl
   | false =>
    simp only [cond_false, bsm, F15]
    rw [show ((0 : Int) != 0) = false from rfl, cond_false]
    have hse : ((⟨(tbt a).toArray⟩ : ByteArray).toList == (⟨(tbt b).toArray⟩ : ByteArray).toList) = @decide (a = b) (Classical.propDecidable _) := by
     rw [bytes_list]
     by_cases e : a = b
     ·rw [@decide_eq_true _ (Classical.propDecidable _) e, decide_eq_true (by rw [e])]
     ·rw [@decide_eq_false _ (Classical.propDecidable _) e, decide_eq_false]
      intro q
      have q1 : tbt a = tbt b := by
       have := congrArg (fun s : ByteArray => s.data.toList) q
       simpa using this
      exact e (tb_inj (tc a) a b [] [] (Nat.le_refl _) ta tb ga gb (by rw [q1])).1
    rw [hse]
    simp only [beq_self_eq_true, Bool.and_self, Bool.not_true, cond_false]
    have hbs : (⟨(tbt a).toArray⟩ : ByteArray).size = (tbt a).length := by rw [← len_d]
    have hmx := tb_len (tc a) a (Nat.le_refl _)
    have hte := tbt_eq a
    cases hneg : decide (a.prod < 0) with
    | true =>
     rw [hneg, cond_true] at hte
     rw [cond_true, hbs, hte]
     rfl
    | false =>
     rw [hneg, cond_false] at hte
     rw [cond_false]
     have hpr : 0 ≤ a.prod := by have := of_decide_eq_false hneg; omega
     have hd : (⟨(tbt a).toArray⟩ : ByteArray).data.toList = itoaL a.prod ++ 40 :: (tbk a.kids ++ [41]) := by rw [List.toList_toArray, hte]
     rw [q61 hd (fun c hc => (itoa_dig hpr c hc).1) (by omega), bsm]
     have hln : (tbt a).length = (itoaL a.prod).length + 1 + ((tbr a.kids).length - 1) + 1 := by
      rw [hte]
      simp only [lap, lcn, List.length_drop, List.length_nil]
      omega
     simp only
     rw [w_S (by omega), q60 (by omega) ha ta ga hd (by omega), bsm]
     simp only
     have hfin : IntKind.wrap .i64 (((⟨(tbt a).toArray⟩ : ByteArray).size : Int) - 1) = (((tbt a).length - 1 : Nat) : Int) := by rw [hbs, w_id (by omega)]; omega
     have hge : decide ((((itoaL a.prod).length + 1 + (tbr a.kids).length : Nat) : Int) ≥ IntKind.wrap .i64 (((⟨(tbt a).toArray⟩ : ByteArray).size : Int) - 1)) = true := decide_eq_true (by rw [hfin]; omega)
     show (bif decide ((((itoaL a.prod).length + 1 + (tbr a.kids).length : Nat) : Int) ≥ IntKind.wrap .i64 (((⟨(tbt a).toArray⟩ : ByteArray).size : Int) - 1)) then _ else _) = _
     rw [hge, cond_true]
     rfl
 ·rw [decide_eq_false hsm]
  rfl
end Go.Proofs.Tryd
