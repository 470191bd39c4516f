/- Trees: how many, which may be. Plain data alone. -/
import Derived.Test.YtcdebkkjbminoaaDoorH53
import Derived.Test.YtcdebkkjbminoaaDoorVE
import Derived.Test.YtcdebkkjbminoaaDoorP5
import Derived.Lib.ParseIntBTie
import Derived.Lib.Bytealg
open Option renaming bind_some → bsm
open List renaming getElem?_eq_some_iff → gei, getElem?_eq_getElem → geg, length_append → lap, length_cons → lcn
namespace Go.Proofs.Tryd
set_option linter.unusedSimpArgs false
set_option linter.unusedVariables false
open Go Go.Vs
mutual
def tc : TreeD → Nat
 | .mk _ _ l => 1 + tcs l
def tcs : List TreeD → Nat
 | [] => 0
 | t :: l => tc t + tcs l
end
def bad1 (t : TreeD) : Bool := decide (t.prod < -1) || (decide (t.prod > 2147483647) || ((t.prod == -1 && decide ((t.kids.length : Int) > 0)) || (decide (t.prod ≥ 0) && t.byte != 0)))
mutual
def badT : TreeD → Bool
 | .mk p b l => bad1 (.mk p b l) || badTs l
def badTs : List TreeD → Bool
 | [] => false
 | t :: l => badT t || badTs l
end
inductive Ty : TreeD → Prop
 | mk {p b : Int} {l : List TreeD} (h1 : -9223372036854775808 ≤ p ∧ p ≤ 9223372036854775807) (h2 : 0 ≤ b ∧ b ≤ 255) (h3 : ∀ x ∈ l, Ty x) : Ty (.mk p b l)
theorem Ty.pr {t : TreeD} (h : Ty t) : -9223372036854775808 ≤ t.prod ∧ t.prod ≤ 9223372036854775807 := by cases h with | mk h1 h2 h3 => exact h1
theorem Ty.by {t : TreeD} (h : Ty t) : 0 ≤ t.byte ∧ t.byte ≤ 255 := by cases h with | mk h1 h2 h3 => exact h2
theorem Ty.kid {t x : TreeD} (h : Ty t) (hx : x ∈ t.kids) : Ty x := by cases h with | mk h1 h2 h3 => exact h3 x hx
theorem tc_eq : ∀ t : TreeD, tc t = 1 + tcs t.kids
 | .mk _ _ _ => by simp only [tc, TreeD.kids]
theorem badT_eq : ∀ t : TreeD, badT t = (bad1 t || badTs t.kids)
 | .mk _ _ _ => by simp only [badT, TreeD.kids]
theorem tcs_mem {b : TreeD} : ∀ {l : List TreeD}, b ∈ l → tc b ≤ tcs l
 | [], h => by simp at h
 | u :: l, h => by
  simp only [tcs]
  rcases List.mem_cons.1 h with rfl | h
  ·omega
  ·have := tcs_mem h; omega
theorem tcs_app : ∀ (a b : List TreeD), tcs (a ++ b) = tcs a + tcs b
 | [], b => by simp [tcs]
 | t :: a, b => by simp only [List.cons_append, tcs, tcs_app a b]; omega
theorem tc_pos (b : TreeD) : 1 ≤ tc b := by rw [tc_eq]; omega
theorem tcs_len : ∀ (l : List TreeD), l.length ≤ tcs l
 | [] => by simp
 | t :: a => by have := tcs_len a; have := tc_pos t; simp only [lcn, tcs]; omega
theorem tkid {b x : TreeD} {i : Nat} (h : b.kids[i]? = some x) : tc x < tc b := by
 have := tcs_mem (List.mem_of_getElem? h)
 have := tc_eq b
 omega
theorem take_S {α : Type} {l : List α} {i : Nat} {x : α} (h : l[i]? = some x) : l.take (i + 1) = l.take i ++ [x] := by
 rw [List.take_add_one, h]; rfl
theorem tcs_take {l : List TreeD} {i : Nat} {x : TreeD} (h : l[i]? = some x) : tcs (l.take (i + 1)) = tcs (l.take i) + tc x := by
 rw [take_S h, tcs_app]; simp [tcs]
theorem tcs_take_le (l : List TreeD) (i : Nat) : tcs (l.take i) ≤ tcs l := by
 have := tcs_app (l.take i) (l.drop i)
 rw [List.take_append_drop] at this
 omega
theorem badTs_any : ∀ l : List TreeD, badTs l = l.any badT
 | [] => rfl
 | t :: l => by simp only [badTs, List.any_cons, badTs_any l]
theorem q28 : ∀ (Nf left : Nat) (t : TreeD), left < Nf → left ≤ 4000 → F28_2 Nf t left = some ((min (tc t) (left + 1) : Nat) : Int)
 | 0, left, t, h, _ => by omega
 | Nf + 1, left, t, h, h2 => by
  show F28_2_b (F28_2 Nf) t left = _
  unfold F28_2_b
  have key : ∀ (k i : Nat), i + k = t.kids.length → runL (fun s => L28_0_2 (F28_2 Nf) left t s.1 s.2) (((min (1 + tcs (t.kids.take i)) (left + 1) : Nat) : Int), (i : Int)) = some (.k0 ((min (tc t) (left + 1) : Nat) : Int)) := by
   intro k
   induction k with
   | zero =>
    intro i hi
    obtain rfl : i = t.kids.length := by omega
    rw [List.take_length, ← tc_eq]
    refine runL_done ?_
    simp only [L28_0_2, decide_eq_false (show ¬ ((t.kids.length : Int) < (t.kids.length : Int)) by omega), cond_false]
   | succ k ih =>
    intro i hi
    have hx : t.kids[i]? = some t.kids[i] := geg (by omega)
    generalize t.kids[i] = x at hx
    have hlt : decide ((i : Int) < (t.kids.length : Int)) = true := decide_eq_true (by omega)
    have hl := tcs_take hx
    have hle := tcs_take_le t.kids i
    have htc := tc_eq t
    by_cases hn : 1 + tcs (t.kids.take i) ≤ left
    ·have hm : min (1 + tcs (t.kids.take i)) (left + 1) = 1 + tcs (t.kids.take i) := by omega
     have hw : IntKind.wrap .i64 ((left : Int) - ((1 + tcs (t.kids.take i) : Nat) : Int)) = ((left - (1 + tcs (t.kids.take i)) : Nat) : Int) := by
      rw [w_id (by omega)]; omega
     have hr := q28 Nf (left - (1 + tcs (t.kids.take i))) x (by omega) (by omega)
     rw [hm]
     refine (runL_next (s' := (((min (1 + tcs (t.kids.take (i + 1))) (left + 1) : Nat) : Int), ((i + 1 : Nat) : Int))) ?_).trans (ih (i + 1) (by omega))
     simp only [L28_0_2, hlt, cond_true, decide_eq_true (show ((1 + tcs (t.kids.take i) : Nat) : Int) ≤ (left : Int) by omega), getI_nat, hx, bsm, hw, hr]
     rw [w_id (by omega), w_S (by have := tcs_len (t.kids.take i); rw [List.length_take] at this; omega)]
     congr 4
     omega
    ·have hm : min (1 + tcs (t.kids.take i)) (left + 1) = left + 1 := by omega
     have hm2 : min (tc t) (left + 1) = left + 1 := by omega
     rw [hm, hm2]
     refine runL_done ?_
     simp only [L28_0_2, hlt, cond_true, decide_eq_false (show ¬ ((left + 1 : Nat) : Int) ≤ (left : Int) by omega), cond_false]
  have := key t.kids.length 0 (by omega)
  rw [List.take_zero, show min (1 + tcs []) (left + 1) = 1 from by simp [tcs]] at this
  rw [show ((1 : Int), (0 : Int)) = (((1 : Nat) : Int), ((0 : Nat) : Int)) from rfl, this]
  rfl
theorem q16g {Nf : Nat} (hf : 2000 < Nf) (l : List TreeD) (hl : l.length ≤ 4000) : F16 Nf l = some (allF (fun _ x => decide (tc x ≤ 2000)) 0 l) := by
 unfold F16
 have key := loop_list (l := l) (fun _ x => decide (tc x ≤ 2000)) (bad := .k0) (fin := .k1) (step := fun s => L16_0 Nf l s) (fun i x hx => ?_) ?_
 ·rw [key]
  cases allF (fun _ x => decide (tc x ≤ 2000)) 0 l <;> rfl
 ·have hi : i < l.length := (gei.1 hx).1
  have hr := q28 Nf 2000 x hf (by omega)
  have hr : F28_2 Nf x 2000 = some ((min (tc x) (2000 + 1) : Nat) : Int) := hr
  simp only [L16_0, decide_eq_true (show (i : Int) < (l.length : Int) by omega), cond_true, getI_nat, hx, bsm, hr]
  by_cases h : tc x ≤ 2000
  ·rw [decide_eq_false (show ¬ ((min (tc x) (2000 + 1) : Nat) : Int) > 2000 by omega), decide_eq_true h, w_S (by omega)]
   rfl
  ·rw [decide_eq_true (show ((min (tc x) (2000 + 1) : Nat) : Int) > 2000 by omega), decide_eq_false h]
   rfl
 ·simp only [L16_0, decide_eq_false (show ¬ ((l.length : Int) < (l.length : Int)) by omega), cond_false]
theorem q54 (t : TreeD) (b : Bool) : F54 t b = some (b || bad1 t) := by
 unfold F54 bad1
 cases decide (t.prod < -1) <;> cases decide (t.prod > 2147483647) <;> cases t.prod == -1 <;> cases decide ((t.kids.length : Int) > 0) <;> cases decide (t.prod ≥ 0) <;> cases t.byte != 0 <;> cases b <;> rfl
theorem fold_or : ∀ (l : List TreeD) (b : Bool), l.foldl (fun b x => b || badT x) b = (b || badTs l)
 | [], b => by simp [badTs]
 | t :: l, b => by rw [List.foldl_cons, fold_or l, badTs, Bool.or_assoc]
theorem q72 : ∀ (Nf left : Nat) (t bx : TreeD) (b : Bool), tc t ≤ left → left < Nf → left ≤ 20000 → F72 Nf t left bx b = some (b || badT t)
 | 0, left, t, bx, b, _, h, _ => by omega
 | Nf + 1, left, t, bx, b, h1, h, h2 => by
  show F72_b (F72 Nf) t left bx b = _
  have hp := tc_pos t
  unfold F72_b
  rw [show ((left : Int) == 0) = false from by simpa using by omega, cond_false, q54, bsm]
  have key := loop_foldl (step := fun s => L72_0 (F72 Nf) left t (t.kids.length : Int) bx s.1 s.2) (l := t.kids) (emb := fun i b => ((i : Int), b)) (f := fun b x => b || badT x) (fin := fun b => .k0 b) (Inv := fun _ => True) (fun i x a hx _ => ?_) (fun a _ => ?_) t.kids.length 0 (b || bad1 t) (by omega) trivial
  ·rw [List.drop_zero, fold_or] at key
   rw [show ((0 : Int), b || bad1 t) = (((0 : Nat) : Int), b || bad1 t) from rfl, key, bsm, badT_eq, Bool.or_assoc]
  ·refine ⟨?_, trivial⟩
   have hi : i < t.kids.length := (gei.1 hx).1
   have hl := tcs_len t.kids
   have hk := tkid hx
   have htc := tc_eq t
   have hw : IntKind.wrap .i64 ((left : Int) - 1) = ((left - 1 : Nat) : Int) := by rw [w_id (by omega)]; omega
   simp only [L72_0, decide_eq_true (show (i : Int) < (t.kids.length : Int) by omega), cond_true, getI_nat, hx, bsm, hw, q72 Nf (left - 1) x bx a (by omega) (by omega) (by omega)]
   rw [w_S (by omega)]
  ·simp only [L72_0, decide_eq_false (show ¬ ((t.kids.length : Int) < (t.kids.length : Int)) by omega), cond_false]
theorem q23 {t : TreeD} (h : tc t ≤ 2000) : F23 t = some (bif badT t then 240 else 0) := by
 unfold F23
 have := q72 16386 16384 t t false (by omega) (by omega) (by omega)
 rw [show ((16384 : Nat) : Int) = 16384 from rfl] at this
 rw [this]
 cases badT t <;> rfl
theorem len_d (a : ByteArray) : a.data.toList.length = a.size := by rw [Array.length_toList]; rfl
theorem splice_app {α : Type} {l y : List α} {n : Nat} (h : n + y.length ≤ l.length) : (splice l n y).take (n + y.length) = l.take n ++ y ∧ (splice l n y).length = l.length := by
 unfold splice
 refine ⟨?_, by simp; omega⟩
 have : (l.take n ++ y).length = n + y.length := by simp; omega
 rw [← this, List.take_left]
abbrev ints (l : List UInt8) : List Int := l.map fun b => ((b.toNat : Nat) : Int)
theorem bstr_ints (l : List UInt8) : bstr (ints l) = ⟨l.toArray⟩ := by
 unfold bstr
 congr 2
 rw [List.map_map]
 conv => rhs; rw [← List.map_id l]
 refine List.map_congr_left (fun x _ => ?_)
 simp
structure Buf (row : List Int) (len : Nat) (o : List UInt8) : Prop where
 le : len ≤ row.length
 is : row.take len = ints o
theorem Buf.len {row : List Int} {len : Nat} {o : List UInt8} (h : Buf row len o) : len = o.length := by
 have := congrArg List.length h.is
 rw [List.length_take, List.length_map] at this
 have := h.le
 omega
theorem sb_ints (s : ByteArray) : sbytes s = ints s.data.toList := rfl
theorem sb_len (s : ByteArray) : (sbytes s).length = s.size := by rw [sb_ints, List.length_map, len_d]
theorem apN {len k n : Nat} (h : len ≤ n) (hb : len + k ≤ 5000000) : apOk len k n 1 = true := decide_eq_true ⟨h, by unfold limit47; omega, by unfold limit47; omega⟩
theorem putN {row : List Int} {len : Nat} {o : List UInt8} (s : List UInt8) (h : Buf row len o) :
  (len + s.length ≤ row.length → Buf (splice row len (ints s)) (len + s.length) (o ++ s)) ∧ Buf (row.take len ++ ints s) (len + s.length) (o ++ s) := by
 have hs : (ints s).length = s.length := List.length_map _
 have ha : ints (o ++ s) = row.take len ++ ints s := by rw [h.is]; simp [ints]
 have hp : (row.take len).length = len := by rw [List.length_take]; have := h.le; omega
 refine ⟨fun hl => ?_, ⟨?_, ?_⟩⟩
 ·obtain ⟨h1, h2⟩ := splice_app (l := row) (y := ints s) (n := len) (by omega)
  rw [hs] at h1
  exact ⟨by rw [h2]; exact hl, by rw [h1, ha]⟩
 ·rw [lap, hp, hs]; exact Nat.le_refl _
 ·rw [ha]; exact List.take_of_length_le (by rw [lap, hp, hs]; exact Nat.le_refl _)
abbrev hexL : List UInt8 := [48, 49, 50, 51, 52, 53, 54, 55, 56, 57, 97, 98, 99, 100, 101, 102]
def hexd (n : Nat) : UInt8 := hexL[n]?.getD 0
mutual
def tbt : TreeD → List UInt8
 | .mk p b l => bif decide (p < 0) then [120, hexd (b.toNat / 16), hexd (b.toNat % 16)] else itoaL p ++ 40 :: ((tbr l).drop 1 ++ [41])
def tbr : List TreeD → List UInt8
 | [] => []
 | t :: l => 32 :: (tbt t ++ tbr l)
end
theorem tbt_eq : ∀ t : TreeD, tbt t = bif decide (t.prod < 0) then [120, hexd (t.byte.toNat / 16), hexd (t.byte.toNat % 16)] else itoaL t.prod ++ 40 :: ((tbr t.kids).drop 1 ++ [41])
 | .mk _ _ _ => by rw [tbt]; rfl
theorem tbr_app : ∀ a b : List TreeD, tbr (a ++ b) = tbr a ++ tbr b
 | [], b => by simp [tbr]
 | t :: a, b => by simp [tbr, tbr_app a b]
theorem dd_len : ∀ k u : Nat, (dd k u).length ≤ k
 | 0, _ => by simp [dd]
 | k + 1, u => by
  have := dd_len k (u / 10)
  rw [dd]
  split
  ·simp
  ·rw [lap]; simp; omega
theorem itoa_len (n : Int) : (itoaL n).length ≤ 21 := by
 unfold itoaL
 cases n with
 | ofNat u => exact Nat.le_trans (dd_len 20 u) (by omega)
 | negSucc u => rw [lcn]; have := dd_len 20 (u + 1); omega
theorem tb_len : ∀ (N : Nat) (t : TreeD), tc t ≤ N → (tbt t).length + 1 ≤ 24 * tc t
 | 0, t, h => by have := tc_pos t; omega
 | N + 1, t, h => by
  have key : ∀ l : List TreeD, tcs l ≤ N → (tbr l).length ≤ 24 * tcs l := by
   intro l
   induction l with
   | nil => intro _; simp [tbr]
   | cons x l ih =>
    intro hl
    simp only [tcs] at hl
    have h1 := tb_len N x (by omega)
    have h2 := ih (by omega)
    simp only [tbr, tcs, lcn, lap]
    omega
  have h1 := key t.kids (by have := tc_eq t; omega)
  have h2 := itoa_len t.prod
  have h3 := tc_eq t
  rw [tbt_eq]
  cases decide (t.prod < 0) with
  | true => simp; omega
  | false =>
   simp only [cond_false, lap, lcn, List.length_drop, List.length_nil]
   omega
theorem tbr_len : ∀ l : List TreeD, (tbr l).length ≤ 24 * tcs l
 | [] => by simp [tbr]
 | x :: l => by
  have h1 := tb_len (tc x) x (Nat.le_refl _)
  have h2 := tbr_len l
  simp only [tbr, tcs, lcn, lap]
  omega
abbrev tbk (l : List TreeD) : List UInt8 := (tbr l).drop 1
theorem tbk_take {l : List TreeD} {i : Nat} {x : TreeD} (h : l[i]? = some x) : tbk (l.take (i + 1)) = bif decide ((i : Int) > 0) then tbk (l.take i) ++ 32 :: tbt x else tbk (l.take i) ++ tbt x := by
 unfold tbk
 rw [take_S h, tbr_app]
 cases i with
 | zero => simp [tbr]
 | succ i =>
  rw [decide_eq_true (by omega), cond_true]
  cases l with
  | nil => simp at h
  | cons y l => simp [tbr]
section
variable {row : List Int} {len : Nat} {o : List UInt8}
theorem q825 (v : Bool) : F82_5 v = some true := by unfold F82_5; cases v <;> rfl
theorem q826 (v : Bool) : F82_6 v = some true := by unfold F82_6; cases v <;> rfl
theorem q827 (v : Bool) : F82_7 v = some true := by unfold F82_7; cases v <;> rfl
theorem q68 (g : Nat) (v : Bool) (a b : UInt8) (h : Buf row len o) (hb : len ≤ 4000000) : ∃ g' row' v', F68_3 g row v len (a.toNat : Int) (b.toNat : Int) = some (.k0 g' row' v') ∧ Buf row' (len + 3) (o ++ [120, a, b]) := by
 obtain ⟨p1, p2⟩ := putN [120, a, b] h
 unfold F68_3
 rw [q825]
 simp only [bsm, apN h.le (show len + 3 ≤ 5000000 by omega), cond_true]
 by_cases hr : len + 3 ≤ row.length
 ·rw [decide_eq_true hr]; exact ⟨_, _, _, rfl, p1 hr⟩
 ·rw [decide_eq_false hr]; exact ⟨_, _, _, rfl, p2⟩
theorem q69 (s : ByteArray) (g : Nat) (v : Bool) (h : Buf row len o) (hb : len + s.size ≤ 5000000) : ∃ n g' row' v', F69_3 s g row v len = some (.k0 n g' row' v') ∧ Buf row' (len + s.size) (o ++ s.data.toList) := by
 obtain ⟨p1, p2⟩ := putN s.data.toList h
 rw [len_d, ← sb_ints] at p1 p2
 unfold F69_3
 rw [q826]
 simp only [bsm, sb_len, apN h.le hb, cond_true]
 by_cases hr : len + s.size ≤ row.length
 ·rw [decide_eq_true hr]; exact ⟨_, _, _, _, rfl, p1 hr⟩
 ·rw [decide_eq_false hr]; exact ⟨_, _, _, _, rfl, p2⟩
theorem q70 (g : Nat) (v : Bool) (h : Buf row len o) (hb : len ≤ 4000000) : ∃ g' row' v', F70 g row v len = some (.k0 g' row' v') ∧ Buf row' (len + 1) (o ++ [41]) := by
 obtain ⟨p1, p2⟩ := putN [41] h
 unfold F70
 rw [q826]
 simp only [bsm, apN h.le (show len + 1 ≤ 5000000 by omega), cond_true]
 by_cases hr : len + 1 ≤ row.length
 ·rw [decide_eq_true hr]; exact ⟨_, _, _, rfl, p1 hr⟩
 ·rw [decide_eq_false hr]; exact ⟨_, _, _, rfl, p2⟩
theorem q702 (g : Nat) (v : Bool) (h : Buf row len o) (hb : len ≤ 4000000) : ∃ g' row' v', F70_2 g row v len = some (.k0 g' row' v') ∧ Buf row' (len + 1) (o ++ [32]) := by
 obtain ⟨p1, p2⟩ := putN [32] h
 unfold F70_2
 rw [q827]
 simp only [bsm, apN h.le (show len + 1 ≤ 5000000 by omega), cond_true]
 by_cases hr : len + 1 ≤ row.length
 ·rw [decide_eq_true hr]; exact ⟨_, _, _, rfl, p1 hr⟩
 ·rw [decide_eq_false hr]; exact ⟨_, _, _, rfl, p2⟩
end
theorem hex_get {n : Nat} (h : n < 16) {i : Int} (hi : i = (n : Int)) : getI hexL i = some (hexd n) := by
 subst hi
 rw [getI_nat]
 have : n < hexL.length := h
 unfold hexd
 rw [geg this]
 rfl
theorem hi_nib {b : Int} (h : 0 ≤ b ∧ b ≤ 255) : Int.fdiv b (2 ^ (min (Int.toNat 4) (IntKind.bits .u8))) = ((b.toNat / 16 : Nat) : Int) := by
 rw [show (2 : Int) ^ (min (Int.toNat 4) (IntKind.bits .u8)) = 16 from rfl, Int.fdiv_eq_ediv_of_nonneg _ (by omega)]
 omega
theorem lo_nib {b : Int} (h : 0 ≤ b ∧ b ≤ 255) : IntKind.wrap .u8 ((BitVec.ofInt (IntKind.bits .u8) b &&& BitVec.ofInt (IntKind.bits .u8) 15).toNat : Int) = ((b.toNat % 16 : Nat) : Int) := by
 obtain ⟨n, rfl⟩ : ∃ n : Nat, b = (n : Int) := ⟨b.toNat, by omega⟩
 have hn : n ≤ 255 := by omega
 have : ∀ n : _root_.Fin 256, IntKind.wrap .u8 ((BitVec.ofInt (IntKind.bits .u8) ((n.val : Nat) : Int) &&& BitVec.ofInt (IntKind.bits .u8) 15).toNat : Int) = ((((n.val : Nat) : Int).toNat % 16 : Nat) : Int) := by decide +kernel
 exact this ⟨n, by omega⟩
theorem q48 : ∀ (Nf : Nat) (t bx : TreeD) (g : Nat) (row : List Int) (v : Bool) (len : Nat) (o : List UInt8), tc t < Nf → Ty t → Buf row len o → len + 24 * tc t ≤ 1000000 →
  ∃ g' row' v' len', F48_3 Nf t bx g row v len = some (.k0 g' row' v' len') ∧ Buf row' len' (o ++ tbt t)
 | 0, t, _, _, _, _, _, _, h, _, _, _ => by omega
 | Nf + 1, t, bx, g, row, v, len, o, h, ht, hB, hb => by
  show ∃ g' row' v' len', F48_3_b (F48_3 Nf) t bx g row v len = some (.k0 g' row' v' len') ∧ Buf row' len' (o ++ tbt t)
  unfold F48_3_b
  rw [tbt_eq]
  have hp := tc_pos t
  cases hneg : decide (t.prod < 0) with
  | true =>
   have hby := ht.by
   have e1 := hex_get (n := t.byte.toNat / 16) (by omega) (hi_nib hby)
   have e2 := hex_get (n := t.byte.toNat % 16) (by omega) (lo_nib hby)
   simp only [cond_true]
   rw [e1]
   simp only [bsm]
   rw [e2]
   obtain ⟨g', row', v', h1, h2⟩ := q68 g v (hexd (t.byte.toNat / 16)) (hexd (t.byte.toNat % 16)) hB (by omega)
   simp only [bsm, h1]
   exact ⟨_, _, _, _, rfl, h2⟩
  | false =>
   simp only [cond_false]
   have hpr := ht.pr
   have hI : I42 t.prod = some (itoaB t.prod) := by
    unfold I42 F42
    rw [decide_eq_true hpr]
    rfl
   have hil := itoa_len t.prod
   have hsz : (itoaB t.prod).size = (itoaL t.prod).length := by rw [← len_d]
   have hsz2 : (itoaB t.prod ++ (⟨([40] : List UInt8).toArray⟩ : ByteArray)).size = (itoaL t.prod).length + 1 := by rw [ByteArray.size_append, hsz]; rfl
   have hd2 : (itoaB t.prod ++ (⟨([40] : List UInt8).toArray⟩ : ByteArray)).data.toList = itoaL t.prod ++ [40] := by rw [ByteArray.data_append, Array.toList_append]
   rw [hI]
   simp only [bsm]
   rw [decide_eq_true (by rw [hsz]; show (itoaL t.prod).length + 1 ≤ 9223372036854775807; omega), cond_true]
   obtain ⟨n1, g1, row1, v1, e1, B1⟩ := q69 (itoaB t.prod ++ (⟨([40] : List UInt8).toArray⟩ : ByteArray)) g v hB (by rw [hsz2]; omega)
   rw [e1]
   simp only [bsm]
   rw [hd2] at B1
   rw [sb_len]
   have htc := tc_eq t
   have key : ∀ (k i : Nat) (g : Nat) (row : List Int) (v : Bool) (len1 : Nat), i + k = t.kids.length → Buf row len1 (o ++ (itoaL t.prod ++ [40]) ++ tbk (t.kids.take i)) →
     ∃ g' row' v' len', runL (fun s => L48_0_3 (F48_3 Nf) t (t.kids.length : Int) bx s.1 s.2.1 s.2.2.1 s.2.2.2.1 s.2.2.2.2) ((i : Int), g, row, v, len1) = some (.k0 g' row' v' len') ∧ Buf row' len' (o ++ (itoaL t.prod ++ [40]) ++ tbk t.kids) := by
    intro k
    induction k with
    | zero =>
     intro i g row v len1 hi hB
     obtain rfl : i = t.kids.length := by omega
     rw [List.take_length] at hB
     refine ⟨g, row, v, len1, runL_done ?_, hB⟩
     simp only [L48_0_3, decide_eq_false (show ¬ ((t.kids.length : Int) < (t.kids.length : Int)) by omega), cond_false]
    | succ k ih =>
     intro i g row v len1 hi hB
     have hx : t.kids[i]? = some t.kids[i] := geg (by omega)
     generalize t.kids[i] = x at hx
     have hxm := List.mem_of_getElem? hx
     have hl := hB.len
     have htk := tcs_take hx
     have hle := tcs_take_le t.kids (i + 1)
     have hbl := tbr_len (t.kids.take i)
     have hlen1 : len1 + 24 * tc x + 1 ≤ 1000000 := by
      rw [hl]
      simp only [lap, List.length_drop, lcn, List.length_nil]
      have := hB.len
      have hol : len = o.length := by have := (by assumption : Buf _ len o).len; exact this
      omega
     have hn := tbk_take hx
     have hlt : decide ((i : Int) < (t.kids.length : Int)) = true := decide_eq_true (by omega)
     have hws : IntKind.wrap .i64 ((i : Int) + 1) = ((i + 1 : Nat) : Int) := w_S (by have := tcs_len (t.kids.take i); rw [List.length_take] at this; omega)
     cases hi0 : decide ((i : Int) > 0) with
     | true =>
      rw [hi0, cond_true] at hn
      obtain ⟨g2, row2, v2, e2, B2⟩ := q702 g v hB (by omega)
      obtain ⟨g3, row3, v3, len3, e3, B3⟩ := q48 Nf x bx g2 row2 v2 (len1 + 1) _ (by omega) (ht.kid hxm) B2 (by omega)
      rw [List.append_assoc, List.append_assoc, show tbk (t.kids.take i) ++ ([32] ++ tbt x) = tbk (t.kids.take (i + 1)) by rw [hn]; rfl] at B3
      obtain ⟨g4, row4, v4, len4, e4, B4⟩ := ih (i + 1) g3 row3 v3 len3 (by omega) B3
      refine ⟨g4, row4, v4, len4, (runL_next (s' := (((i + 1 : Nat) : Int), g3, row3, v3, len3)) ?_).trans e4, B4⟩
      simp only [L48_0_3, hlt, cond_true, getI_nat, hx, bsm, hi0, e2, e3, hws]
     | false =>
      rw [hi0, cond_false] at hn
      obtain ⟨g3, row3, v3, len3, e3, B3⟩ := q48 Nf x bx g row v len1 _ (by omega) (ht.kid hxm) hB (by omega)
      rw [List.append_assoc, ← hn] at B3
      obtain ⟨g4, row4, v4, len4, e4, B4⟩ := ih (i + 1) g3 row3 v3 len3 (by omega) B3
      refine ⟨g4, row4, v4, len4, (runL_next (s' := (((i + 1 : Nat) : Int), g3, row3, v3, len3)) ?_).trans e4, B4⟩
      simp only [L48_0_3, hlt, cond_true, cond_false, getI_nat, hx, bsm, hi0, e3, hws]
   obtain ⟨g2, row2, v2, len2, e2, B2⟩ := key t.kids.length 0 g1 row1 v1 (len + (itoaB t.prod ++ (⟨([40] : List UInt8).toArray⟩ : ByteArray)).size) (by omega) (by rw [List.take_zero]; show Buf _ _ (_ ++ []); rw [List.append_nil]; exact B1)
   rw [show ((0 : Int), g1, row1, v1, len + (itoaB t.prod ++ (⟨([40] : List UInt8).toArray⟩ : ByteArray)).size) = (((0 : Nat) : Int), g1, row1, v1, len + (itoaB t.prod ++ (⟨([40] : List UInt8).toArray⟩ : ByteArray)).size) from rfl, e2]
   simp only [bsm]
   have hl2 := B2.len
   have hol := hB.len
   have hkl := tbr_len t.kids
   simp only [lap, List.length_drop, lcn, List.length_nil] at hl2
   obtain ⟨g3, row3, v3, e3, B3⟩ := q70 g2 v2 B2 (by omega)
   rw [e3]
   simp only [bsm]
   refine ⟨_, _, _, _, rfl, ?_⟩
   simpa using B3
theorem tb_pos (t : TreeD) : 1 ≤ (tbt t).length := by
 rw [tbt_eq]
 cases decide (t.prod < 0) <;> simp <;> omega
theorem q20 {Nf : Nat} {t : TreeD} (h : tc t < Nf) (h2 : tc t ≤ 2000) (ht : Ty t) : F20 Nf t = some (bif badT t then .k0 b0 240 else .k0 ⟨(tbt t).toArray⟩ 0) := by
 unfold F20
 rw [q23 h2, bsm]
 cases hb : badT t with
 | true => rfl
 | false =>
  obtain ⟨g', row', v', len', e1, B1⟩ := q48 Nf t t 0 [] false 0 [] h ht ⟨Nat.le_refl _, rfl⟩ (by omega)
  have hl := B1.len
  rw [List.nil_append] at hl B1
  have hp := tb_pos t
  have hm := tb_len (tc t) t (Nat.le_refl _)
  rw [show ((bif false then (240 : Int) else 0) != 0) = false from rfl, cond_false, cond_false, e1]
  simp only [bsm, F49]
  rw [decide_eq_false (show ¬ ((len' : Nat) : Int) > 1048576 by omega), cond_false]
  unfold F50
  rw [decide_eq_true (show 0 < len' by omega), cond_true, show usOk len' row'.length = true from decide_eq_true ⟨B1.le, by omega⟩, cond_true, B1.is, bstr_ints]
  rfl
theorem tree_ext : ∀ {a b : TreeD}, a.prod = b.prod → a.byte = b.byte → a.kids = b.kids → a = b
 | .mk _ _ _, .mk _ _ _, h1, h2, h3 => by
  simp only [TreeD.prod, TreeD.byte, TreeD.kids] at h1 h2 h3
  subst h1 h2 h3
  rfl
open Classical in
theorem q24 : ∀ (Nf : Nat) (a b : TreeD), tc a < Nf → tc a ≤ 2000 → F24 Nf a b = some (decide (a = b))
 | 0, a, b, h, _ => by omega
 | Nf + 1, a, b, h, h2 => by
  show F24_b (F24 Nf) a b = _
  unfold F24_b
  by_cases hp : a.prod = b.prod
  ·rw [show (a.prod == b.prod) = true by simpa using hp, cond_true]
   by_cases hq : a.byte = b.byte
   ·rw [show (a.byte == b.byte) = true by simpa using hq, cond_true]
    unfold F55
    have htc := tc_eq a
    have hlen := tcs_len a.kids
    by_cases hl : a.kids.length = b.kids.length
    ·rw [show ((a.kids.length : Int) != (b.kids.length : Int)) = false by simp [hl], cond_false]
     have key := loop_list (l := a.kids) (fun i x => decide (b.kids[i]? = some x)) (bad := .k0) (fin := .k1) (step := fun s => L55_0 (F24 Nf) b a (a.kids.length : Int) s) (fun i x hx => ?_) (by simp only [L55_0, decide_eq_false (show ¬ ((a.kids.length : Int) < (a.kids.length : Int)) by omega), cond_false])
     ·rw [key, bsm]
      by_cases hk : allF (fun i x => decide (b.kids[i]? = some x)) 0 a.kids = true
      ·rw [hk]
       have hk := (allF_iff _ _).1 hk
       have : a = b := tree_ext hp hq (List.ext_getElem? fun i => by
        by_cases hi : i < a.kids.length
        ·have hx : a.kids[i]? = some a.kids[i] := geg hi
         have := of_decide_eq_true (hk i _ hx)
         rw [Nat.zero_add] at this
         rw [hx, this]
        ·rw [List.getElem?_eq_none (by omega), List.getElem?_eq_none (by omega)])
       rw [decide_eq_true this]
       rfl
      ·have hk' : allF (fun i x => decide (b.kids[i]? = some x)) 0 a.kids = false := by simpa using hk
       rw [hk']
       have : ¬ a = b := fun e => hk ((allF_iff _ _).2 (fun i x hx => by rw [Nat.zero_add, ← e]; exact decide_eq_true hx))
       rw [decide_eq_false this]
       rfl
     ·have hi : i < a.kids.length := (gei.1 hx).1
      have hy : b.kids[i]? = some b.kids[i] := geg (by omega)
      generalize b.kids[i] = y at hy
      have hk := tkid hx
      have hlx := tcs_len a.kids
      simp only [L55_0, decide_eq_true (show (i : Int) < (a.kids.length : Int) by omega), cond_true, getI_nat, hx, hy, bsm, q24 Nf x y (by omega) (by omega)]
      by_cases hxy : x = y
      ·subst hxy
       rw [w_S (by omega)]
       simp
      ·have : ¬ (some y = some x) := fun e => hxy (by cases e; rfl)
       rw [decide_eq_false hxy, decide_eq_false this]
       rfl
    ·rw [show ((a.kids.length : Int) != (b.kids.length : Int)) = true by simpa using fun e => hl (by omega), cond_true]
     rw [decide_eq_false (fun e => hl (by rw [e]))]
     rfl
   ·rw [show (a.byte == b.byte) = false by simpa using hq, cond_false, decide_eq_false (fun e => hq (by rw [e]))]
  ·rw [show (a.prod == b.prod) = false by simpa using hp, cond_false, decide_eq_false (fun e => hp (by rw [e]))]
theorem good_top {t : TreeD} (h : badT t = false) : (t.prod = -1 ∧ t.kids = []) ∨ (0 ≤ t.prod ∧ t.prod ≤ 2147483647 ∧ t.byte = 0) := by
 rw [badT_eq, Bool.or_eq_false_iff] at h
 have h := h.1
 unfold bad1 at h
 simp only [Bool.or_eq_false_iff, decide_eq_false_iff_not, Bool.and_eq_false_iff] at h
 obtain ⟨h1, h2, h3, h4⟩ := h
 by_cases c : t.prod = -1
 ·refine .inl ⟨c, ?_⟩
  rcases h3 with h3 | h3
  ·simp [c] at h3
  ·exact List.eq_nil_of_length_eq_zero (by omega)
 ·refine .inr ⟨by omega, by omega, ?_⟩
  rcases h4 with h4 | h4
  ·omega
  ·simpa using h4
theorem good_kid {t x : TreeD} (h : badT t = false) (hx : x ∈ t.kids) : badT x = false := by
 rw [badT_eq, Bool.or_eq_false_iff, badTs_any] at h
 have := h.2
 rw [List.any_eq_false] at this
 simpa using this x hx
def vald : List UInt8 → Nat → Nat
 | [], n => n
 | c :: l, n => vald l (10 * n + (c.toNat - 48))
theorem vald_app : ∀ (a b : List UInt8) (n : Nat), vald (a ++ b) n = vald b (vald a n)
 | [], b, n => rfl
 | c :: a, b, n => vald_app a b _
theorem dig_toNat {u : Nat} (h : u < 10) : (UInt8.ofNat (48 + u)).toNat = 48 + u := by
 rw [UInt8.toNat_ofNat']
 omega
theorem dd_val : ∀ (k u : Nat), u < 10 ^ k → 0 < k → vald (dd k u) 0 = u
 | 0, _, _, h => by omega
 | k + 1, u, h, _ => by
  rw [dd]
  by_cases c : u < 10
  ·rw [show Nat.blt u 10 = true from by simpa [Nat.blt_eq] using c]
   simp only [vald, dig_toNat c]
   omega
  ·rw [show Nat.blt u 10 = false from by simpa [Bool.eq_false_iff, Nat.blt_eq] using c]
   simp only
   have hk : 0 < k := by
    rcases Nat.eq_zero_or_pos k with rfl | hk
    ·simp at h; omega
    ·exact hk
   rw [vald_app, dd_val k (u / 10) (by rw [Nat.pow_succ] at h; omega) hk]
   simp only [vald, dig_toNat (show u % 10 < 10 by omega)]
   omega
theorem dd_dig : ∀ (k u : Nat), ∀ c ∈ dd k u, 48 ≤ c.toNat ∧ c.toNat ≤ 57
 | 0, _, c, h => by simp [dd] at h
 | k + 1, u, c, h => by
  rw [dd] at h
  by_cases hu : u < 10
  ·rw [show Nat.blt u 10 = true from by simpa [Nat.blt_eq] using hu] at h
   simp only [List.mem_singleton] at h
   subst h
   rw [dig_toNat hu]; omega
  ·rw [show Nat.blt u 10 = false from by simpa [Bool.eq_false_iff, Nat.blt_eq] using hu] at h
   simp only [List.mem_append, List.mem_singleton] at h
   rcases h with h | rfl
   ·exact dd_dig k _ c h
   ·rw [dig_toNat (show u % 10 < 10 by omega)]; omega
theorem itoa_nn {n : Int} (h : 0 ≤ n) : itoaL n = dd 20 n.toNat := by
 obtain ⟨u, rfl⟩ : ∃ u : Nat, n = (u : Int) := ⟨n.toNat, by omega⟩
 rfl
theorem itoa_dig {a : Int} (ha : 0 ≤ a) : ∀ c ∈ itoaL a, 48 ≤ c.toNat ∧ c.toNat ≤ 57 := by rw [itoa_nn ha]; exact dd_dig 20 _
theorem tb_head {t : TreeD} (h : badT t = false) : ∃ c l, tbt t = c :: l ∧ 48 ≤ c.toNat := by
 rw [tbt_eq]
 rcases good_top h with ⟨h1, h2⟩ | ⟨h1, h2, h3⟩
 ·rw [decide_eq_true (by omega), cond_true]
  exact ⟨_, _, rfl, by decide⟩
 ·rw [decide_eq_false (by omega), cond_false]
  have hv := dd_val 20 t.prod.toNat (by omega) (by omega)
  have hd := itoa_dig h1
  rw [itoa_nn h1] at hd ⊢
  cases hh : dd 20 t.prod.toNat with
  | nil =>
   exfalso
   rw [dd] at hh
   split at hh <;> simp at hh
  | cons c l =>
   rw [hh] at hd
   exact ⟨c, _, rfl, (hd c (by simp)).1⟩
theorem tmk : ∀ t : TreeD, TreeD.mk t.prod t.byte t.kids = t
 | .mk _ _ _ => rfl
theorem ext_mid {s : ByteArray} {p m r : List UInt8} (h : s.data.toList = p ++ (m ++ r)) : s.extract p.length (p.length + m.length) = ⟨m.toArray⟩ := by
 apply ByteArray.ext
 rw [ByteArray.data_extract]
 apply Array.toList_inj.1
 rw [Array.toList_extract, h]
 simp [List.extract]
abbrev bs (l : List UInt8) : ByteArray := ⟨l.toArray⟩
theorem bs_size (l : List UInt8) : (bs l).size = l.length := by rw [← len_d]
theorem bs_tl (l : List UInt8) : (bs l).data.toList = l := rfl
theorem bs_drop (p m : List UInt8) : (bs (p ++ m)).extract p.length (p ++ m).length = bs m := by
 have := ext_mid (s := bs (p ++ m)) (p := p) (m := m) (r := []) (by rw [bs_tl, List.append_nil])
 rw [lap]
 exact this
theorem bs_tail (c : UInt8) (l : List UInt8) : (bs (c :: l)).extract 1 (c :: l).length = bs l := bs_drop [c] l
theorem bs_head (c : UInt8) (l : List UInt8) : (bs (c :: l)).extract 0 1 = bs [c] := ext_mid (s := bs (c :: l)) (p := []) (m := [c]) (r := l) rfl
theorem bs_inj {a b : List UInt8} : bs a = bs b ↔ a = b := by
 constructor
 ·intro h
  have := congrArg (fun s : ByteArray => s.data.toList) h
  simpa using this
 ·rintro rfl; rfl
theorem beq_bs (a b : List UInt8) : ((bs a).toList == (bs b).toList) = decide (a = b) := by
 rw [bytes_list]
 by_cases h : a = b
 ·rw [decide_eq_true h, decide_eq_true (by rw [h])]
 ·rw [decide_eq_false h, decide_eq_false (fun e => h (bs_inj.1 e))]
def hd (x : UInt8) : List UInt8 → Bool
 | c :: _ => c == x
 | [] => false
theorem head_gen (x : UInt8) (l : List UInt8) : (bif (decide (((bs l).size : Int) ≥ 1)) then (bif (sl_ok 0 1 (bs l).size) then (some (((bs l).extract (Int.toNat 0) (Int.toNat 1)).toList == (bs [x]).toList)) else none) else (some false)) = some (hd x l) := by
 rw [bs_size]
 cases l with
 | nil => rfl
 | cons c l =>
  rw [decide_eq_true (by simp; omega), cond_true, show sl_ok 0 1 (c :: l).length = true from decide_eq_true ⟨by omega, by omega, by simp; omega⟩, cond_true]
  rw [show (Int.toNat 0) = 0 from rfl, show Int.toNat 1 = 1 from rfl, bs_head, beq_bs]
  congr 1
  simp only [hd, List.cons.injEq, and_true]
  rfl
theorem p43_2 (l : List UInt8) : F43_2 (bs l) = some (hd 41 l) := by
 unfold F43_2 F66_3
 rw [head_gen 41 l]; rfl
theorem p43_3 (l : List UInt8) : F43_3 (bs l) = some (hd 32 l) := by
 unfold F43_3 F66_4
 rw [head_gen 32 l]; rfl
theorem slS {n : Nat} (c : UInt8) (l : List UInt8) : sl_ok 1 ((bs (c :: l)).size : Int) (bs (c :: l)).size = true := by
 rw [bs_size]
 exact decide_eq_true ⟨by omega, by simp; omega, by omega⟩
theorem p38a (r : List UInt8) : F38_2 (bs (120 :: r)) = some (.k0 (bs r) true) := by
 have e : F60_2 (bs (120 :: r)) = some (.k0 (bs r) true) := by
  unfold F60_2 F66_2
  rw [head_gen 120 (120 :: r), bsm, show hd 120 (120 :: r) = true from rfl, cond_true, slS (n := 0), cond_true, bs_size, show Int.toNat 1 = 1 from rfl, Int.toNat_natCast, bs_tail]
 unfold F38_2
 rw [e]
 rfl
theorem p38b {l : List UInt8} (h : hd 120 l = false) : F38_2 (bs l) = some (.k0 (bs l) false) := by
 have e : F60_2 (bs l) = some (.k0 (bs l) false) := by
  unfold F60_2 F66_2
  rw [head_gen 120 l, bsm, h, cond_false]
 unfold F38_2
 rw [e]
 rfl
def cutL : List UInt8 → Option (List UInt8 × List UInt8)
 | [] => none
 | c :: l => bif c == 40 then some ([], l) else (cutL l).map fun p => (c :: p.1, p.2)
theorem cutL_some : ∀ {l d q : List UInt8}, cutL l = some (d, q) → l = d ++ 40 :: q ∧ (40 : UInt8) ∉ d
 | [], d, q, h => by simp [cutL] at h
 | c :: l, d, q, h => by
  rw [cutL] at h
  by_cases hc : c = 40
  ·subst hc
   simp at h
   obtain ⟨rfl, rfl⟩ := h
   exact ⟨rfl, by simp⟩
  ·rw [show (c == 40) = false by simpa using hc, cond_false] at h
   obtain ⟨⟨d', q'⟩, h1, h2⟩ := Option.map_eq_some_iff.1 h
   cases h2
   obtain ⟨rfl, h3⟩ := cutL_some h1
   exact ⟨rfl, by simp only [List.mem_cons, not_or]; exact ⟨fun e => hc e.symm, h3⟩⟩
theorem cutL_app {d q : List UInt8} (h : (40 : UInt8) ∉ d) : cutL (d ++ 40 :: q) = some (d, q) := by
 induction d with
 | nil => rfl
 | cons c d ih =>
  simp only [List.mem_cons, not_or] at h
  rw [List.cons_append, cutL, show (c == 40) = false by simpa using fun e => h.1 e.symm, cond_false, ih h.2]
  rfl
theorem idx_cut : ∀ l : List UInt8, Lib.indexByte l 40 = match cutL l with | some p => (p.1.length : Int) | none => -1
 | [] => rfl
 | c :: l => by
  rw [Lib.indexByte, cutL]
  by_cases hc : c = 40
  ·subst hc; rfl
  ·rw [show (c == 40) = false by simpa using hc, cond_false, if_neg (by simp), idx_cut l]
   cases cutL l with
   | none => rfl
   | some p =>
    simp only [Option.map_some, lcn]
    rw [if_neg (by simp)]
    simp
theorem p75 (l : List UInt8) : F75_2 (bs l) = some (Lib.indexByte l 40) := by
 unfold F75_2
 show (bif ((bs [40]).toList == (bs l).toList) then some 0 else _) = _
 rw [beq_bs]
 by_cases h : [40] = l
 ·subst h; rfl
 ·rw [decide_eq_false h, cond_false]
  show (F61 (bs l) 40).bind _ = _
  unfold F61
  show some (firstIdx (bs l) 40) = _
  rw [Lib.firstIdx_eq]
theorem p40s {l d q : List UInt8} (h : cutL l = some (d, q)) (hl : l.length ≤ 4000000) : F40_2 (bs l) = some (.k0 (bs d) (bs q) true) := by
 obtain ⟨rfl, _⟩ := cutL_some h
 have hlen : (d ++ 40 :: q).length = d.length + 1 + q.length := by simp; omega
 have e : F62_2 (bs (d ++ 40 :: q)) = some (.k0 (bs d) (bs q) true) := by
  unfold F62_2
  rw [p75, idx_cut, h]
  simp only [bsm]
  rw [decide_eq_true (show ((d.length : Int) ≥ 0) by omega), cond_true, bs_size, w_id (by omega)]
  rw [show sl_ok 0 (d.length : Int) (d ++ 40 :: q).length = true from decide_eq_true ⟨by omega, by omega, by omega⟩, cond_true]
  rw [show sl_ok ((d.length : Int) + 1) ((d ++ 40 :: q).length : Int) (d ++ 40 :: q).length = true from decide_eq_true ⟨by omega, by omega, by omega⟩, cond_true]
  have e1 : (bs (d ++ 40 :: q)).extract (Int.toNat 0) (Int.toNat (d.length : Int)) = bs d := by
   have := ext_mid (s := bs (d ++ 40 :: q)) (p := []) (m := d) (r := 40 :: q) rfl
   simpa using this
  have e2 : (bs (d ++ 40 :: q)).extract (Int.toNat ((d.length : Int) + 1)) (Int.toNat ((d ++ 40 :: q).length : Int)) = bs q := by
   have := ext_mid (s := bs (d ++ 40 :: q)) (p := d ++ [40]) (m := q) (r := []) (by simp)
   rw [Int.toNat_natCast, hlen, show Int.toNat ((d.length : Int) + 1) = d.length + 1 by omega]
   simpa using this
  rw [e1, e2]
 unfold F40_2
 rw [e]
 rfl
theorem p40n {l : List UInt8} (h : cutL l = none) : F40_2 (bs l) = some (.k0 (bs l) (bs []) false) := by
 have e : F62_2 (bs l) = some (.k0 (bs l) (bs []) false) := by
  unfold F62_2
  rw [p75, idx_cut, h]
  rfl
 unfold F40_2
 rw [e]
 rfl
def hexI (c : UInt8) : Int := Lib.indexByte hexL c
theorem p39 (c : UInt8) : F39_2 (c.toNat : Int) = some (hexI c) := by
 unfold F39_2 F61_2
 show some (firstIdx (bs hexL) (Int.toNat ((c.toNat : Nat) : Int)).toUInt8) = _
 rw [Lib.firstIdx_eq, Int.toNat_natCast]
 have : (c.toNat).toUInt8 = c := by simp
 rw [this]
 rfl
theorem hexI_all : ∀ c : UInt8, hexI c < 0 ∨ (0 ≤ hexI c ∧ hexI c < 16 ∧ hexd (hexI c).toNat = c) := by
 have h : ∀ n : _root_.Fin 256, hexI (UInt8.ofNat n.val) < 0 ∨ (0 ≤ hexI (UInt8.ofNat n.val) ∧ hexI (UInt8.ofNat n.val) < 16 ∧ hexd (hexI (UInt8.ofNat n.val)).toNat = UInt8.ofNat n.val) := by decide +kernel
 intro c
 have := h ⟨c.toNat, c.toNat_lt⟩
 simpa using this
theorem hexI_hexd : ∀ n : _root_.Fin 16, hexI (hexd n.val) = (n.val : Int) := by decide +kernel
theorem hexB_all : ∀ a b : _root_.Fin 16, hexB (a.val : Int) (b.val : Int) = 16 * (a.val : Int) + (b.val : Int) := by decide +kernel
theorem hexB_eq {a b : Int} (ha : 0 ≤ a ∧ a < 16) (hb : 0 ≤ b ∧ b < 16) : hexB a b = 16 * a + b := by
 have := hexB_all ⟨a.toNat, by omega⟩ ⟨b.toNat, by omega⟩
 simp only at this
 rwa [Int.toNat_of_nonneg ha.1, Int.toNat_of_nonneg hb.1] at this
section
variable {e : (TypeId × Value) × (TypeId × Value)} {k : Nat} {st : List TreeD} {t : TreeD} {b : Bool}
abbrev mk1 (x : TreeD) (t : TreeD) : TreeD := .mk x.prod x.byte (x.kids ++ [t])
theorem rd0 {s : ByteArray} : rd (some e) (k + 1) 0 st t b s = some (zT, 240) := by rw [rd]
theorem rd1n {l : List UInt8} : rd (some e) (k + 1) 1 [] t b (bs l) = bif !decide (l = []) then rd (some e) k 0 [] t b (bs l) else bif b then some (zT, 3) else some (t, 0) := by
 rw [rd]
 show (bif !((bs l).toList == (bs []).toList) then _ else _) = _
 rw [beq_bs]
theorem rd1s {x : TreeD} {l : List UInt8} : rd (some e) (k + 1) 1 (x :: st) t b (bs (32 :: l)) = rd (some e) k 2 (mk1 x t :: st) t b (bs l) := by
 rw [rd, p43_3, bsm, show hd 32 (32 :: l) = true from rfl, cond_true, slS (n := 0), cond_true, bs_size, show Int.toNat 1 = 1 from rfl, Int.toNat_natCast, bs_tail]
theorem rd1c {x : TreeD} {l : List UInt8} : rd (some e) (k + 1) 1 (x :: st) t b (bs (41 :: l)) = rd (some e) k 3 (mk1 x t :: st) t b (bs (41 :: l)) := by
 rw [rd, p43_3, bsm, show hd 32 (41 :: l) = false from rfl, cond_false, p43_2, bsm, show hd 41 (41 :: l) = true from rfl]
theorem rd1b {x : TreeD} {l : List UInt8} (h1 : hd 32 l = false) (h2 : hd 41 l = false) : rd (some e) (k + 1) 1 (x :: st) t b (bs l) = rd (some e) k 0 (mk1 x t :: st) t b (bs l) := by
 rw [rd, p43_3, bsm, h1, cond_false, p43_2, bsm, h2]
theorem rd3 {x : TreeD} {c : UInt8} {l : List UInt8} : rd (some e) (k + 1) 3 (x :: st) t b (bs (c :: l)) = rd (some e) k 1 st x b (bs l) := by
 rw [rd, slS (n := 0), cond_true, bs_size, show Int.toNat 1 = 1 from rfl, Int.toNat_natCast, bs_tail]
theorem rd2x {c0 c1 : UInt8} {r : List UInt8} : rd (some e) (k + 1) 2 st t b (bs (120 :: c0 :: c1 :: r)) = bif decide (hexI c0 < 0) || decide (hexI c1 < 0) then rd (some e) k 0 st t b (bs (120 :: c0 :: c1 :: r)) else rd (some e) k 1 st (.mk (-1) (hexB (hexI c0) (hexI c1)) []) (b || decide ((st.length : Int) ≥ 16384)) (bs r) := by
 rw [rd, p38a, bsm]
 simp only
 rw [Bool.true_and, decide_eq_true (show (((bs (c0 :: c1 :: r)).size : Int) ≥ 2) by rw [bs_size]; simp; omega), cond_true]
 rw [show getI (bs (c0 :: c1 :: r)).data.toList 0 = some c0 from rfl, show getI (bs (c0 :: c1 :: r)).data.toList 1 = some c1 from rfl]
 simp only [bsm, p39]
 congr 1
 rw [show (sl_ok 2 ((bs (c0 :: c1 :: r)).size : Int) (bs (c0 :: c1 :: r)).size && decide ((bs (c0 :: c1 :: r)).size ≤ (bs (120 :: c0 :: c1 :: r)).size)) = true from by
  rw [Bool.and_eq_true]
  refine ⟨decide_eq_true ⟨by omega, by rw [bs_size]; simp; omega, by omega⟩, decide_eq_true (by rw [bs_size, bs_size]; simp)⟩, cond_true]
 have := bs_drop [c0, c1] r
 rw [bs_size, show Int.toNat 2 = 2 from rfl, Int.toNat_natCast]
 congr 1
theorem p41 {d : List UInt8} (h : d.length ≤ 4000000) : (∃ v, Lib.parseIntB 32 d = .ok v ∧ F41 (some e) (bs d) = some (.k0 v)) ∨ ((∀ v, Lib.parseIntB 32 d ≠ .ok v) ∧ ∃ z, F41 (some e) (bs d) = some (.k1 z)) := by
 unfold F41
 rw [decide_eq_true (show (bs d).size ≤ 281474976710656 by rw [bs_size]; omega), cond_true]
 show (∃ v, _ ∧ (match Lib.parseIntB 32 d, true with | .ok n, _ => some (R_F41.k0 n) | Lib.NumEnd.syntax, true => some (.k1 0) | .range, true => some (.k1 (Lib.intSat 32 d)) | _, false => none) = _) ∨ (_ ∧ ∃ z, (match Lib.parseIntB 32 d, true with | .ok n, _ => some (R_F41.k0 n) | Lib.NumEnd.syntax, true => some (.k1 0) | .range, true => some (.k1 (Lib.intSat 32 d)) | _, false => none) = _)
 cases hp : Lib.parseIntB 32 d with
 | ok v => exact .inl ⟨v, rfl, rfl⟩
 | range => exact .inr ⟨fun v => by simp, _, rfl⟩
 | _ => exact .inr ⟨fun v => by simp, _, rfl⟩
theorem rd2c {l : List UInt8} (h : ∀ c0 c1 r, l ≠ 120 :: c0 :: c1 :: r) : rd (some e) (k + 1) 2 st t b (bs l) = (F40_2 (bs l)).bind fun r => match r with
     | .k0 d q ok2 => bif ok2 then (F41 (some e) d).bind fun v => match v with
       | .k0 v => (F42 v).bind fun y => bif !(y.toList == d.toList) || decide (v < 0) then rd (some e) k 0 st t b (bs l) else
         bif decide (q.size < (bs l).size) then (F43_2 q).bind fun cl => rd (some e) k (match cl with | true => 3 | false => 2) (.mk v 0 [] :: st) t (b || decide (((st.length + 1 : Nat) : Int) > 16384)) q else none
       | .k1 _ => rd (some e) k 0 st t b (bs l)
      else rd (some e) k 0 st t b (bs l) := by
 rw [rd]
 by_cases hx : hd 120 l = true
 ·match l, hx, h with
  | c :: r, hx, h =>
   have hc : c = 120 := by simpa [hd] using hx
   subst hc
   rw [p38a, bsm]
   simp only
   have : ¬ (((bs r).size : Int) ≥ 2) := by
    rw [bs_size]
    match r, h with
    | [], _ => simp
    | [_], _ => simp
    | c0 :: c1 :: r, h => exact absurd rfl (h c0 c1 r)
   rw [decide_eq_false this, Bool.and_false, cond_false]
   rfl
 ·rw [p38b (by simpa using hx), bsm]
  simp only
  rw [Bool.false_and, cond_false]
  rfl
theorem rd2b {v : Int} {q : List UInt8} (hv : 0 ≤ v ∧ v ≤ 2147483647) (hp : Lib.parseIntB 32 (itoaL v) = .ok v) (hl : (itoaL v ++ 40 :: q).length ≤ 4000000) : rd (some e) (k + 1) 2 st t b (bs (itoaL v ++ 40 :: q)) = rd (some e) k (match hd 41 q with | true => 3 | false => 2) (.mk v 0 [] :: st) t (b || decide (((st.length + 1 : Nat) : Int) > 16384)) (bs q) := by
 have hdg := itoa_dig hv.1
 have h40 : (40 : UInt8) ∉ itoaL v := fun hm => absurd (hdg 40 hm).1 (by decide)
 rw [rd2c (fun c0 c1 r hh => by
  cases hi : itoaL v with
  | nil => rw [hi] at hh; simp at hh
  | cons c m =>
   rw [hi] at hh
   simp only [List.cons_append, List.cons.injEq] at hh
   have := (hdg c (by rw [hi]; simp)).2
   rw [hh.1] at this
   exact absurd this (by decide)), p40s (cutL_app h40) hl, bsm]
 simp only [cond_true]
 simp only [lap, lcn] at hl
 rcases p41 (e := e) (d := itoaL v) (by omega) with ⟨u, h1, h2⟩ | ⟨h1, _⟩
 ·rw [hp] at h1
  cases h1
  rw [h2, bsm]
  simp only
  have : F42 v = some (bs (itoaL v)) := by
   unfold F42
   rw [decide_eq_true (by omega), cond_true]
  rw [this, bsm]
  rw [beq_bs, decide_eq_true rfl, Bool.not_true, Bool.false_or, decide_eq_false (by omega), cond_false, bs_size, bs_size, decide_eq_true (by simp; omega), cond_true, p43_2, bsm]
 ·exact absurd hp (h1 v)
theorem step2 {l : List UInt8} (hl : l.length ≤ 4000000) :
  (∃ c0 c1 r, l = 120 :: c0 :: c1 :: r ∧ (0 ≤ hexI c0 ∧ hexI c0 < 16 ∧ hexd (hexI c0).toNat = c0) ∧ (0 ≤ hexI c1 ∧ hexI c1 < 16 ∧ hexd (hexI c1).toNat = c1) ∧ ∀ k st t b, rd (some e) (k + 1) 2 st t b (bs l) = rd (some e) k 1 st (.mk (-1) (16 * hexI c0 + hexI c1) []) (b || decide ((st.length : Int) ≥ 16384)) (bs r))
  ∨ (∃ v q, (0 ≤ v ∧ v ≤ 2147483647) ∧ l = itoaL v ++ 40 :: q ∧ ∀ k st t b, rd (some e) (k + 1) 2 st t b (bs l) = rd (some e) k (match hd 41 q with | true => 3 | false => 2) (.mk v 0 [] :: st) t (b || decide (((st.length + 1 : Nat) : Int) > 16384)) (bs q))
  ∨ (∀ k st t b, rd (some e) (k + 1) 2 st t b (bs l) = rd (some e) k 0 st t b (bs l)) := by
 by_cases hx : ∃ c0 c1 r, l = 120 :: c0 :: c1 :: r
 ·obtain ⟨c0, c1, r, rfl⟩ := hx
  rcases hexI_all c0 with h0 | h0
  ·exact .inr (.inr fun k st t b => by rw [rd2x, decide_eq_true h0, Bool.true_or, cond_true])
  ·rcases hexI_all c1 with h1 | h1
   ·exact .inr (.inr fun k st t b => by rw [rd2x, decide_eq_true h1, Bool.or_true, cond_true])
   ·exact .inl ⟨c0, c1, r, rfl, h0, h1, fun k st t b => by rw [rd2x, decide_eq_false (by omega), decide_eq_false (by omega), Bool.or_self, cond_false, hexB_eq ⟨h0.1, h0.2.1⟩ ⟨h1.1, h1.2.1⟩]⟩
 ·have hx' : ∀ c0 c1 r, l ≠ 120 :: c0 :: c1 :: r := fun c0 c1 r hh => hx ⟨c0, c1, r, hh⟩
  cases hc : cutL l with
  | none => exact .inr (.inr fun k st t b => by rw [rd2c hx', p40n hc]; rfl)
  | some p =>
   obtain ⟨d, q⟩ := p
   obtain ⟨hlq, _⟩ := cutL_some hc
   have hdl : d.length ≤ 4000000 := by rw [hlq] at hl; simp at hl; omega
   rcases p41 (e := e) hdl with ⟨v, h1, h2⟩ | ⟨h1, z, h2⟩
   ·have hb := Lib.parseIntB_bounds h1
    have hF : F42 v = some (bs (itoaL v)) := by
     unfold F42
     rw [decide_eq_true (by omega), cond_true]
    by_cases hok : itoaL v = d ∧ 0 ≤ v
    ·obtain ⟨rfl, hv⟩ := hok
     refine .inr (.inl ⟨v, q, ⟨hv, by omega⟩, hlq, fun k st t b => ?_⟩)
     rw [hlq]
     exact rd2b ⟨hv, by omega⟩ h1 (by rw [← hlq]; exact hl)
    ·refine .inr (.inr fun k st t b => ?_)
     rw [rd2c hx', p40s hc hl, bsm]
     simp only [cond_true]
     rw [h2, bsm]
     simp only
     rw [hF, bsm]
     rw [beq_bs, show (!decide (itoaL v = d) || decide (v < 0)) = true from by
      by_cases h3 : itoaL v = d
      ·rw [decide_eq_true h3, Bool.not_true, Bool.false_or]
       exact decide_eq_true (by have hn : ¬ 0 ≤ v := fun q => hok ⟨h3, q⟩; omega)
      ·rw [decide_eq_false h3]; rfl, cond_true]
   ·refine .inr (.inr fun k st t b => ?_)
    rw [rd2c hx', p40s hc hl, bsm]
    simp only [cond_true]
    rw [h2, bsm]
end
def pre2 : List TreeD → List UInt8
 | [] => []
 | x :: st => pre2 st ++ (itoaL x.prod ++ 40 :: (tbr x.kids ++ [32]).drop 1)
def good (t : TreeD) : Prop := Ty t ∧ badT t = false
def okE (x : TreeD) : Prop := (0 ≤ x.prod ∧ x.prod ≤ 2147483647) ∧ x.byte = 0 ∧ ∀ k ∈ x.kids, good k
def Wd (lab : Nat) (st : List TreeD) (t : TreeD) (l : List UInt8) : List UInt8 := match lab, st with
 | 1, st => pre2 st ++ (tbt t ++ l)
 | 2, st => pre2 st ++ l
 | 3, x :: st => pre2 st ++ (itoaL x.prod ++ 40 :: (tbk x.kids ++ l))
 | _, _ => []
theorem tbr_snoc (ks : List TreeD) (t : TreeD) : tbr (ks ++ [t]) = (tbr ks ++ [32]) ++ tbt t := by
 rw [tbr_app]; simp [tbr]
theorem tbk_snoc (ks : List TreeD) (t : TreeD) : tbk (ks ++ [t]) = (tbr ks ++ [32]).drop 1 ++ tbt t := by
 unfold tbk
 rw [tbr_snoc, List.drop_append_of_le_length (by simp)]
theorem pre_snoc (ks : List TreeD) (t : TreeD) : (tbr (ks ++ [t]) ++ [32]).drop 1 = (tbr ks ++ [32]).drop 1 ++ (tbt t ++ [32]) := by
 rw [tbr_snoc, List.append_assoc, List.drop_append_of_le_length (by simp)]
theorem ty_eta {t : TreeD} (h1 : -9223372036854775808 ≤ t.prod ∧ t.prod ≤ 9223372036854775807) (h2 : 0 ≤ t.byte ∧ t.byte ≤ 255) (h3 : ∀ x ∈ t.kids, Ty x) : Ty t := by
 cases t with | mk p b l => exact .mk h1 h2 h3
theorem okE_good {x : TreeD} (h : okE x) : good x := by
 obtain ⟨h1, h2, h3⟩ := h
 refine ⟨ty_eta ⟨by omega, by omega⟩ ⟨by omega, by omega⟩ (fun y hy => (h3 y hy).1), ?_⟩
 rw [badT_eq, badTs_any, Bool.or_eq_false_iff]
 constructor
 ·unfold bad1
  rw [decide_eq_false (show ¬ x.prod < -1 by omega), decide_eq_false (show ¬ x.prod > 2147483647 by omega), show (x.prod == -1) = false from by simpa using by omega, show (x.byte != 0) = false from by simpa using h2]
  simp
 ·rw [List.any_eq_false]
  intro y hy
  simpa using (h3 y hy).2
theorem leaf_good {a b : Int} (ha : 0 ≤ a ∧ a < 16) (hb : 0 ≤ b ∧ b < 16) : good (.mk (-1) (16 * a + b) []) := by
 refine ⟨.mk ⟨by omega, by omega⟩ ⟨by omega, by omega⟩ (by simp), ?_⟩
 rw [badT_eq]
 simp [bad1, TreeD.prod, TreeD.kids, TreeD.byte, badTs]
theorem leaf_tb {a b : Int} (ha : 0 ≤ a ∧ a < 16) (hb : 0 ≤ b ∧ b < 16) : tbt (.mk (-1) (16 * a + b) []) = [120, hexd a.toNat, hexd b.toNat] := by
 rw [tbt_eq]
 have e1 : (16 * a + b).toNat / 16 = a.toNat := by omega
 have e2 : (16 * a + b).toNat % 16 = b.toNat := by omega
 show (bif decide ((-1 : Int) < 0) then [120, hexd ((16 * a + b).toNat / 16), hexd ((16 * a + b).toNat % 16)] else _) = _
 rw [e1, e2]
 rfl
theorem node_tb {x : TreeD} (h : 0 ≤ x.prod) : tbt x = itoaL x.prod ++ 40 :: (tbk x.kids ++ [41]) := by
 rw [tbt_eq, decide_eq_false (by omega), cond_false]
def wt (lab : Nat) : Nat := match lab with | 1 => 2 | 2 => 3 | 3 => 1 | _ => 0
theorem hd_cons {x : UInt8} {l : List UInt8} (h : hd x l = true) : ∃ r, l = x :: r := by
 cases l with
 | nil => cases h
 | cons c r =>
  have h' : c = x := by simpa [hd] using h
  exact ⟨r, by rw [h']⟩
theorem back {e : (TypeId × Value) × (TypeId × Value)} : ∀ (k lab : Nat) (st : List TreeD) (t : TreeD) (b : Bool) (l : List UInt8), 2 * l.length + wt lab < k → l.length ≤ 4000000 → (∀ x ∈ st, okE x) → (lab = 1 → good t) → (lab = 3 → st ≠ [] ∧ hd 41 l = true) → lab ≤ 3 →
  ∃ r, rd (some e) k lab st t b (bs l) = some r ∧ (r.2 = 0 → good r.1 ∧ tbt r.1 = Wd lab st t l)
 | 0, _, _, _, _, _, h, _, _, _, _, _ => by omega
 | k + 1, lab, st, t, b, l, hk, hl, hst, ht, h3, hlab => by
  have h0 : ∀ (lab' : Nat) (st st' : List TreeD) (t t' : TreeD) (l : List UInt8), 0 < k → ∃ r, rd (some e) k 0 st t b (bs l) = some r ∧ (r.2 = 0 → good r.1 ∧ tbt r.1 = Wd lab' st' t' l) := fun lab' st st' t t' l hk => by
   obtain ⟨k', rfl⟩ : ∃ k', k = k' + 1 := ⟨k - 1, by omega⟩
   exact ⟨_, rd0, fun h => by cases h⟩
  match lab, hlab, ht, h3, hk with
  | 0, _, _, _, _ => exact ⟨_, rd0, fun h => by cases h⟩
  | 2, _, _, _, hk =>
   have hk : 2 * l.length + 3 < k + 1 := hk
   rcases step2 (e := e) hl with ⟨c0, c1, r, rfl, q0, q1, hs⟩ | ⟨v, q, hv, rfl, hs⟩ | hs
   ·rw [hs]
    simp only [lcn] at hk hl
    obtain ⟨z, z1, z2⟩ := back k 1 st (.mk (-1) (16 * hexI c0 + hexI c1) []) (b || decide ((st.length : Int) ≥ 16384)) r (by show 2 * r.length + 2 < k; omega) (by omega) hst (fun _ => leaf_good ⟨q0.1, q0.2.1⟩ ⟨q1.1, q1.2.1⟩) (fun h => by cases h) (by omega)
    refine ⟨z, z1, fun hz => ⟨(z2 hz).1, ?_⟩⟩
    rw [(z2 hz).2]
    show pre2 st ++ (tbt _ ++ r) = pre2 st ++ (120 :: c0 :: c1 :: r)
    rw [leaf_tb ⟨q0.1, q0.2.1⟩ ⟨q1.1, q1.2.1⟩, q0.2.2, q1.2.2]
    rfl
   ·rw [hs]
    simp only [lap, lcn] at hk hl
    have hx : ∀ x ∈ TreeD.mk v 0 [] :: st, okE x := by
     intro x hx
     rcases List.mem_cons.1 hx with rfl | hx
     ·exact ⟨hv, rfl, by intro k hk; simp [TreeD.kids] at hk⟩
     ·exact hst x hx
    cases h41 : hd 41 q with
    | true =>
     obtain ⟨z, z1, z2⟩ := back k 3 (.mk v 0 [] :: st) t (b || decide (((st.length + 1 : Nat) : Int) > 16384)) q (by show 2 * q.length + 1 < k; omega) (by omega) hx (fun h => by cases h) (fun _ => ⟨by simp, h41⟩) (by omega)
     refine ⟨z, z1, fun hz => ⟨(z2 hz).1, ?_⟩⟩
     rw [(z2 hz).2]
     show pre2 st ++ (itoaL v ++ 40 :: (tbk [] ++ q)) = pre2 st ++ (itoaL v ++ 40 :: q)
     rfl
    | false =>
     obtain ⟨z, z1, z2⟩ := back k 2 (.mk v 0 [] :: st) t (b || decide (((st.length + 1 : Nat) : Int) > 16384)) q (by show 2 * q.length + 3 < k; omega) (by omega) hx (fun h => by cases h) (fun h => by cases h) (by omega)
     refine ⟨z, z1, fun hz => ⟨(z2 hz).1, ?_⟩⟩
     rw [(z2 hz).2]
     show (pre2 st ++ (itoaL v ++ 40 :: [])) ++ q = pre2 st ++ (itoaL v ++ 40 :: q)
     simp
   ·rw [hs]
    exact h0 2 st st t t l (by omega)
  | 3, _, _, h3, hk =>
   obtain ⟨h31, h32⟩ := h3 rfl
   obtain ⟨r, rfl⟩ := hd_cons h32
   match st, h31, hst with
   | x :: st, _, hst =>
    rw [rd3]
    have hk : 2 * (r.length + 1) + 1 < k + 1 := hk
    simp only [lcn] at hl
    have hx := hst x (by simp)
    obtain ⟨z, z1, z2⟩ := back k 1 st x b r (by show 2 * r.length + 2 < k; omega) (by omega) (fun y hy => hst y (by simp [hy])) (fun _ => okE_good hx) (fun h => by cases h) (by omega)
    refine ⟨z, z1, fun hz => ⟨(z2 hz).1, ?_⟩⟩
    rw [(z2 hz).2]
    show pre2 st ++ (tbt x ++ r) = pre2 st ++ (itoaL x.prod ++ 40 :: (tbk x.kids ++ 41 :: r))
    rw [node_tb hx.1.1]
    simp
  | 1, _, ht, _, hk =>
   have hk : 2 * l.length + 2 < k + 1 := hk
   have ht := ht rfl
   match st, hst with
   | [], _ =>
    rw [rd1n]
    by_cases hn : l = []
    ·subst hn
     rw [decide_eq_true rfl, Bool.not_true, cond_false]
     cases b with
     | true => exact ⟨_, rfl, fun h => by cases h⟩
     | false =>
      refine ⟨_, rfl, fun _ => ⟨ht, ?_⟩⟩
      show tbt t = [] ++ (tbt t ++ [])
      simp
    ·rw [decide_eq_false hn, Bool.not_false, cond_true]
     exact h0 1 [] [] t t l (by omega)
   | x :: st, hst =>
    have hx := hst x (by simp)
    have hx' : ∀ y ∈ mk1 x t :: st, okE y := by
     intro y hy
     rcases List.mem_cons.1 hy with rfl | hy
     ·refine ⟨hx.1, hx.2.1, fun u hu => ?_⟩
      rcases List.mem_append.1 hu with hu | hu
      ·exact hx.2.2 u hu
      ·simp only [List.mem_singleton] at hu
       subst hu
       exact ht
     ·exact hst y (by simp [hy])
    cases h32 : hd 32 l with
    | true =>
     obtain ⟨r, rfl⟩ := hd_cons h32
     rw [rd1s]
     simp only [lcn] at hk hl
     obtain ⟨z, z1, z2⟩ := back k 2 (mk1 x t :: st) t b r (by show 2 * r.length + 3 < k; omega) (by omega) hx' (fun h => by cases h) (fun h => by cases h) (by omega)
     refine ⟨z, z1, fun hz => ⟨(z2 hz).1, ?_⟩⟩
     rw [(z2 hz).2]
     show (pre2 st ++ (itoaL x.prod ++ 40 :: (tbr (x.kids ++ [t]) ++ [32]).drop 1)) ++ r = (pre2 st ++ (itoaL x.prod ++ 40 :: (tbr x.kids ++ [32]).drop 1)) ++ (tbt t ++ 32 :: r)
     rw [pre_snoc]
     simp
    | false =>
     cases h41 : hd 41 l with
     | true =>
      obtain ⟨r, rfl⟩ := hd_cons h41
      rw [rd1c]
      obtain ⟨z, z1, z2⟩ := back k 3 (mk1 x t :: st) t b (41 :: r) (by show 2 * (41 :: r).length + 1 < k; omega) hl hx' (fun h => by cases h) (fun _ => ⟨by simp, rfl⟩) (by omega)
      refine ⟨z, z1, fun hz => ⟨(z2 hz).1, ?_⟩⟩
      rw [(z2 hz).2]
      show pre2 st ++ (itoaL x.prod ++ 40 :: (tbk (x.kids ++ [t]) ++ 41 :: r)) = (pre2 st ++ (itoaL x.prod ++ 40 :: (tbr x.kids ++ [32]).drop 1)) ++ (tbt t ++ 41 :: r)
      rw [tbk_snoc]
      simp
     | false =>
      rw [rd1b h32 h41]
      exact h0 1 (mk1 x t :: st) (x :: st) t t l (by omega)
theorem read_all {e : (TypeId × Value) × (TypeId × Value)} {l : List UInt8} (hl : l.length ≤ 1048576) : ∃ r, readF (some e) (bs l) = some r ∧ (r.2 = 0 → good r.1 ∧ tbt r.1 = l) := by
 unfold readF
 rw [bs_size, decide_eq_false (by omega), cond_false]
 obtain ⟨r, h1, h2⟩ := back (e := e) (4 * l.length + 8) 2 [] zT false l (by show 2 * l.length + 3 < 4 * l.length + 8; omega) (by omega) (by simp) (fun h => by cases h) (fun h => by cases h) (by omega)
 exact ⟨r, h1, h2⟩
theorem vald_ge : ∀ (l : List UInt8) (n : Nat), n ≤ vald l n
 | [], n => Nat.le_refl _
 | c :: l, n => by
  have := vald_ge l (10 * n + (c.toNat - 48))
  simp only [vald]
  omega
theorem pU {M : Nat} (hM : M < 4294967296) : ∀ (l : List UInt8) (acc : Nat), (∀ c ∈ l, 48 ≤ c.toNat ∧ c.toNat ≤ 57) → vald l acc ≤ M → Lib.parseUintM M acc l = .ok (vald l acc)
 | [], acc, _, _ => rfl
 | c :: l, acc, hd, hv => by
  have h1 := vald_ge (c :: l) acc
  simp only [vald] at hv
  have h2 := vald_ge l (10 * acc + (c.toNat - 48))
  rw [Lib.parseUintM, if_pos (hd c (by simp)), if_neg (by omega), if_neg (by omega), show acc * 10 + (c.toNat - 48) = 10 * acc + (c.toNat - 48) by omega, pU hM l _ (fun x hx => hd x (by simp [hx])) hv]
  rfl
theorem p_itoa {v : Int} (hv : 0 ≤ v ∧ v ≤ 2147483647) : Lib.parseIntB 32 (itoaL v) = .ok v := by
 have hd := itoa_dig hv.1
 have hval : vald (itoaL v) 0 = v.toNat := by rw [itoa_nn hv.1]; exact dd_val 20 _ (by omega) (by omega)
 have hU : Lib.parseUintB 32 (itoaL v) = .ok v.toNat := by
  unfold Lib.parseUintB
  rw [if_neg, pU (by omega) (itoaL v) 0 hd (by rw [hval]; omega), hval]
  intro h
  rw [h] at hval
  have hz : v.toNat = 0 := hval.symm
  have : itoaL v = itoaL 0 := by rw [show v = 0 by omega]
  rw [h] at this
  exact absurd this (by decide)
 cases hi : itoaL v with
 | nil =>
  rw [hi] at hU
  cases hU
 | cons c r =>
  have hc := hd c (by rw [hi]; simp)
  rw [hi] at hU
  unfold Lib.parseIntB
  simp only
  rw [if_neg (by omega), hU]
  simp only
  rw [if_neg (by omega), if_neg (by omega), if_neg (by omega)]
  congr 1
  omega
mutual
def costT : TreeD → Nat
 | .mk p _ l => bif decide (p < 0) then 1 else 2 + costs l
def costs : List TreeD → Nat
 | [] => 0
 | t :: l => costT t + 1 + costs l
end
theorem costT_eq : ∀ t : TreeD, costT t = bif decide (t.prod < 0) then 1 else 2 + costs t.kids
 | .mk _ _ _ => by rw [costT]; rfl
theorem tb_ge : ∀ (N : Nat) (t : TreeD), tc t ≤ N → badT t = false → 3 * tc t ≤ (tbt t).length ∧ costT t + 1 ≤ 3 * tc t
 | 0, t, h, _ => by have := tc_pos t; omega
 | N + 1, t, h, hg => by
  have htc := tc_eq t
  have key : ∀ l : List TreeD, tcs l ≤ N → (∀ x ∈ l, badT x = false) → 3 * tcs l + l.length ≤ (tbr l).length ∧ costs l ≤ 3 * tcs l := by
   intro l
   induction l with
   | nil => intro _ _; simp [tbr, tcs, costs]
   | cons x l ih =>
    intro hl hb
    simp only [tcs] at hl
    have h1 := tb_ge N x (by omega) (hb x (by simp))
    have h2 := ih (by omega) (fun y hy => hb y (by simp [hy]))
    simp only [tbr, tcs, costs, lcn, lap]
    omega
  have h1 := key t.kids (by omega) (fun x hx => good_kid hg hx)
  rw [tbt_eq, costT_eq]
  rcases good_top hg with ⟨g1, g2⟩ | ⟨g1, g2, g3⟩
  ·rw [decide_eq_true (by omega), cond_true, cond_true, htc, g2]
   simp [tcs]
  ·rw [decide_eq_false (by omega), cond_false, cond_false]
   obtain ⟨c, m, hc, _⟩ := tb_head hg
   have hi : 1 ≤ (itoaL t.prod).length := by
    cases hh : itoaL t.prod with
    | nil =>
     have hv := p_itoa ⟨g1, g2⟩
     rw [hh] at hv
     cases hv
    | cons c l => simp
   simp only [lap, lcn, List.length_drop, List.length_nil]
   have : t.kids.length = 0 → tcs t.kids = 0 := fun hz => by rw [List.eq_nil_of_length_eq_zero hz]; rfl
   omega
theorem fwd {e : (TypeId × Value) × (TypeId × Value)} : ∀ (N : Nat) (t : TreeD), tc t ≤ N → good t → ∀ (k : Nat) (st : List TreeD) (t0 : TreeD) (b : Bool) (r : List UInt8), tc t + st.length ≤ 16384 → (tbt t ++ r).length ≤ 4000000 →
  rd (some e) (k + costT t) 2 st t0 b (bs (tbt t ++ r)) = rd (some e) k 1 st t b (bs r)
 | 0, t, h, _, _, _, _, _, _, _, _ => by have := tc_pos t; omega
 | N + 1, t, h, hg, k, st, t0, b, r, hst, hlen => by
  have htc := tc_eq t
  have hp := tc_pos t
  rcases good_top hg.2 with ⟨g1, g2⟩ | ⟨g1, g2, g3⟩
  ·have hby := hg.1.by
   have e1 := hexI_hexd ⟨t.byte.toNat / 16, by omega⟩
   have e2 := hexI_hexd ⟨t.byte.toNat % 16, by omega⟩
   simp only at e1 e2
   rw [costT_eq, tbt_eq, decide_eq_true (by omega), cond_true, cond_true]
   show rd (some e) (k + 1) 2 st t0 b (bs (120 :: hexd (t.byte.toNat / 16) :: hexd (t.byte.toNat % 16) :: r)) = _
   rw [rd2x, e1, e2, decide_eq_false (by omega), decide_eq_false (by omega), Bool.or_self, cond_false, hexB_eq ⟨by omega, by omega⟩ ⟨by omega, by omega⟩, decide_eq_false (by omega), Bool.or_false]
   congr 1
   exact tree_ext g1.symm (by show 16 * ((t.byte.toNat / 16 : Nat) : Int) + ((t.byte.toNat % 16 : Nat) : Int) = t.byte; omega) g2.symm
  ·have kidsL : ∀ (ks dn : List TreeD) (k : Nat) (t0 : TreeD) (r : List UInt8), ks ≠ [] → (∀ x ∈ ks, good x ∧ tc x ≤ N) → tcs ks + st.length + 1 ≤ 16384 → (tbk ks ++ 41 :: r).length ≤ 4000000 →
     rd (some e) (k + 1 + costs ks) 2 (.mk t.prod 0 dn :: st) t0 b (bs (tbk ks ++ 41 :: r)) = rd (some e) k 1 st (.mk t.prod 0 (dn ++ ks)) b (bs r) := by
    intro ks
    induction ks with
    | nil => intro _ _ _ _ h; exact absurd rfl h
    | cons x ks ih =>
     intro dn k t0 r _ hks hcs hlen
     have hx := hks x (by simp)
     simp only [tcs] at hcs
     have ht : tbk (x :: ks) ++ 41 :: r = tbt x ++ (tbr ks ++ 41 :: r) := by simp [tbk, tbr]
     rw [ht] at hlen ⊢
     rw [show k + 1 + costs (x :: ks) = (k + 1 + costs ks + 1) + costT x by simp only [costs]; omega]
     rw [fwd N x hx.2 hx.1 _ _ _ _ _ (by simp only [lcn]; omega) hlen]
     cases ks with
     | nil =>
      show rd (some e) (k + 1 + 0 + 1) 1 _ x b (bs (41 :: r)) = _
      rw [rd1c]
      show rd (some e) (k + 1) 3 _ x b (bs (41 :: r)) = _
      rw [rd3]
      rfl
     | cons y ks =>
      have ht2 : tbr (y :: ks) ++ 41 :: r = 32 :: (tbk (y :: ks) ++ 41 :: r) := by simp [tbk, tbr]
      rw [ht2, rd1s]
      rw [ht2] at hlen
      have := ih (dn ++ [x]) k x r (by simp) (fun z hz => hks z (by simp only [List.mem_cons] at hz ⊢; exact .inr hz)) (by omega) (by simp only [lap, lcn] at hlen ⊢; omega)
      rw [List.append_assoc] at this
      exact this
   have hnode : tbt t ++ r = itoaL t.prod ++ 40 :: (tbk t.kids ++ 41 :: r) := by rw [node_tb g1]; simp
   rw [hnode] at hlen ⊢
   rw [costT_eq, decide_eq_false (by omega), cond_false, show k + (2 + costs t.kids) = (k + 1 + costs t.kids) + 1 by omega]
   rw [rd2b ⟨g1, g2⟩ (p_itoa ⟨g1, g2⟩) hlen, decide_eq_false (by omega), Bool.or_false]
   have htt : TreeD.mk t.prod 0 t.kids = t := tree_ext rfl g3.symm rfl
   cases hk : t.kids with
   | nil =>
    show rd (some e) (k + 1 + 0) 3 _ t0 b (bs (41 :: r)) = _
    rw [show k + 1 + 0 = k + 1 from rfl, rd3]
    rw [hk] at htt
    rw [htt]
   | cons x ks =>
    have hf : hd 41 (tbk (x :: ks) ++ 41 :: r) = false := by
     obtain ⟨c, m, hc, h48⟩ := tb_head (good_kid hg.2 (by rw [hk]; simp : x ∈ t.kids))
     have : tbk (x :: ks) ++ 41 :: r = c :: (m ++ (tbr ks ++ 41 :: r)) := by simp [tbk, tbr, hc]
     rw [this]
     have : c ≠ 41 := by
      rintro rfl
      exact absurd h48 (by decide)
     simpa [hd] using this
    rw [hf]
    have := kidsL (x :: ks) [] k t0 r (by simp) (fun z hz => by
     have hz : z ∈ t.kids := by rw [hk]; exact hz
     have := tcs_mem hz
     exact ⟨⟨hg.1.kid hz, good_kid hg.2 hz⟩, by omega⟩) (by rw [hk] at htc; omega) (by rw [hk] at hlen; simp only [lap, lcn] at hlen ⊢; omega)
    rw [List.nil_append] at this
    rw [hk] at htt
    rw [htt] at this
    exact this
theorem read_term {e : (TypeId × Value) × (TypeId × Value)} {t : TreeD} (hg : good t) (ht : tc t ≤ 2000) : readF (some e) (bs (tbt t)) = some (t, 0) := by
 have h1 := tb_len (tc t) t (Nat.le_refl _)
 have h2 := tb_ge (tc t) t (Nat.le_refl _) hg.2
 unfold readF
 rw [bs_size, decide_eq_false (by omega), cond_false]
 obtain ⟨k, hk⟩ : ∃ k, 4 * (tbt t).length + 8 = (k + 1) + costT t := ⟨4 * (tbt t).length + 7 - costT t, by omega⟩
 have := fwd (e := e) (tc t) t (Nat.le_refl _) hg (k + 1) [] zT false [] (by simp; omega) (by simp; omega)
 rw [List.append_nil] at this
 rw [hk, this, rd1n]
 rfl
theorem bs_eta (s : ByteArray) : bs s.data.toList = s := by
 apply ByteArray.ext
 rfl
theorem treeBack [ErC] {e : (TypeId × Value) × (TypeId × Value)} (he : ErC.e = some e) {t : TreeD} {s : ByteArray} (ht : Ty t) : F5 2100 t s = some true := by
 unfold F5
 rw [tmk, q16g (by omega) [t] (by simp)]
 simp only [allF, Bool.and_true, bsm]
 by_cases h2 : tc t ≤ 2000
 ·rw [decide_eq_true h2, cond_true]
  by_cases hs : s.size ≤ 5000
  ·rw [decide_eq_false (by omega), cond_false]
   obtain ⟨r, r1, r2⟩ := read_all (e := e) (l := s.data.toList) (by rw [len_d]; omega)
   rw [bs_eta] at r1
   have hF : F12 s = some (.k0 r.1 r.2) := by unfold F12; rw [he, r1]
   have hR : (r.2 = 0 → F20 2100 r.1 = some (.k0 s 0)) := fun hz => by
    obtain ⟨g, gt⟩ := r2 hz
    have hb := tb_ge (tc r.1) r.1 (Nat.le_refl _) g.2
    rw [gt, len_d] at hb
    rw [q20 (by omega) (by omega) g.1, g.2, cond_false, gt]
   have hrest : ((F12 s).bind fun r15 => match r15 with | .k0 x15_0 x15_1 => ((F15 x15_1).bind fun x16 => (bif (x16 != 0) then ((F11).bind fun x18 => (some x18)) else ((F20 2100 (TreeD.mk (x15_0).prod (x15_0).byte (x15_0).kids)).bind fun r18 => match r18 with | .k0 x18_0 x18_1 => ((F15 x18_1).bind fun x19 => (bif (x19 == 0) then (bif (x18_0.toList == s.toList) then ((F11).bind fun x22 => (some x22)) else (some false)) else (some false))))))) = some true := by
    rw [hF, bsm]
    simp only [F15, bsm, tmk]
    by_cases hz : r.2 = 0
    ·rw [hR hz, hz]
     simp only [bsm]
     simp
     rfl
    ·rw [show (r.2 != 0) = true from by simpa using hz, cond_true]
     rfl
   rw [q20 (by omega) h2 ht, bsm]
   cases hb : badT t with
   | true =>
    simp only [cond_true, F15, bsm]
    rw [show ((240 : Int) == 0) = false from rfl, cond_false, show (b0.toList == (⟨([] : List UInt8).toArray⟩ : ByteArray).toList) = true from by simp, Bool.not_true, cond_false, q23 h2, hb, cond_true, bsm, show ((240 : Int) == 0) = false from rfl, cond_false]
    exact hrest
   | false =>
    simp only [cond_false, F15, bsm]
    have hT : F12 (⟨(tbt t).toArray⟩ : ByteArray) = some (.k0 t 0) := by
     unfold F12
     rw [he]
     have := read_term (e := e) (t := t) ⟨ht, hb⟩ h2
     rw [this]
    rw [show ((0 : Int) == 0) = true from rfl, cond_true, hT, bsm]
    simp only [F15, bsm]
    rw [show ((0 : Int) != 0) = false from rfl, cond_false, tmk, q24 2100 t t (by omega) h2, bsm, @decide_eq_true _ (Classical.propDecidable _) rfl, cond_true, q23 h2, hb, cond_false, bsm, show ((0 : Int) != 0) = false from rfl, cond_false]
    exact hrest
  ·rw [decide_eq_true (by omega), cond_true]
   rfl
 ·rw [decide_eq_false h2, cond_false]
  rfl
end Go.Proofs.Tryd
