/- Trees: how many, which may be. Plain data alone. -/
import Derived.Test.YtcdebkkjbminoaaDoorH83
import Derived.Test.YtcdebkkjbminoaaDoorVE
import Derived.Test.YtcdebkkjbminoaaDoorP82
import Derived.Lib.ParseIntBTie
import Derived.Lib.Bytealg
import Derived.Test.YtcdebkkjbminoaaDoorH84
open Option renaming bind_some → bsm
open List renaming length_append → lap, length_cons → lcn
namespace Go.Proofs.Tryd
set_option linter.unusedSimpArgs false
set_option linter.unusedVariables false
open Go Go.Vs
mutual
def tc : TreeD → Nat
 | .mk _ _ l => 1 + tcs l
def tcs : List TreeD → Nat
 | [] => 0
 | t :: l => tc t + tcs l
end
def bad1 (t : TreeD) : Bool := decide (t.prod < -1) || (decide (t.prod > 2147483647) || ((t.prod == -1 && decide ((t.kids.length : Int) > 0)) || (decide (t.prod ≥ 0) && t.byte != 0)))
mutual
def badT : TreeD → Bool
 | .mk p b l => bad1 (.mk p b l) || badTs l
def badTs : List TreeD → Bool
 | [] => false
 | t :: l => badT t || badTs l
end
inductive Ty : TreeD → Prop
 | mk {p b : Int} {l : List TreeD} (h1 : -9223372036854775808 ≤ p ∧ p ≤ 9223372036854775807) (h2 : 0 ≤ b ∧ b ≤ 255) (h3 : ∀ x ∈ l, Ty x) : Ty (.mk p b l)
theorem Ty.pr {t : TreeD} (h : Ty t) : -9223372036854775808 ≤ t.prod ∧ t.prod ≤ 9223372036854775807 := by cases h with | mk h1 h2 h3 => exact h1
theorem Ty.by {t : TreeD} (h : Ty t) : 0 ≤ t.byte ∧ t.byte ≤ 255 := by cases h with | mk h1 h2 h3 => exact h2
theorem Ty.kid {t x : TreeD} (h : Ty t) (hx : x ∈ t.kids) : Ty x := by cases h with | mk h1 h2 h3 => exact h3 x hx
theorem tc_eq : ∀ t : TreeD, tc t = 1 + tcs t.kids
 | .mk _ _ _ => by simp only [tc, TreeD.kids]
theorem badT_eq : ∀ t : TreeD, badT t = (bad1 t || badTs t.kids)
 | .mk _ _ _ => by simp only [badT, TreeD.kids]
theorem tcs_mem {b : TreeD} : ∀ {l : List TreeD}, b ∈ l → tc b ≤ tcs l
 | [], h => by simp at h
 | u :: l, h => by
  simp only [tcs]
  rcases List.mem_cons.1 h with rfl | h
  ·omega
  ·have := tcs_mem h; omega
theorem tcs_app : ∀ (a b : List TreeD), tcs (a ++ b) = tcs a + tcs b
 | [], b => by simp [tcs]
 | t :: a, b => by simp only [List.cons_append, tcs, tcs_app a b]; omega
theorem tc_pos (b : TreeD) : 1 ≤ tc b := by rw [tc_eq]; omega
theorem tcs_len : ∀ (l : List TreeD), l.length ≤ tcs l
 | [] => by simp
 | t :: a => by have := tcs_len a; have := tc_pos t; simp only [lcn, tcs]; omega
theorem tkid {b x : TreeD} {i : Nat} (h : b.kids[i]? = some x) : tc x < tc b := by
 have := tcs_mem (List.mem_of_getElem? h)
 have := tc_eq b
 omega
theorem take_S {α : Type} {l : List α} {i : Nat} {x : α} (h : l[i]? = some x) : l.take (i + 1) = l.take i ++ [x] := by
 rw [List.take_add_one, h]; rfl
theorem tcs_take {l : List TreeD} {i : Nat} {x : TreeD} (h : l[i]? = some x) : tcs (l.take (i + 1)) = tcs (l.take i) + tc x := by
 rw [take_S h, tcs_app]; simp [tcs]
theorem tcs_take_le (l : List TreeD) (i : Nat) : tcs (l.take i) ≤ tcs l := by
 have := tcs_app (l.take i) (l.drop i)
 rw [List.take_append_drop] at this
 omega
theorem q54 (t : TreeD) (b : Bool) : F54 t b = some (b || bad1 t) := by
 unfold F54 bad1
 cases decide (t.prod < -1) <;> cases decide (t.prod > 2147483647) <;> cases t.prod == -1 <;> cases decide ((t.kids.length : Int) > 0) <;> cases decide (t.prod ≥ 0) <;> cases t.byte != 0 <;> cases b <;> rfl
theorem fold_or : ∀ (l : List TreeD) (b : Bool), l.foldl (fun b x => b || badT x) b = (b || badTs l)
 | [], b => by simp [badTs]
 | t :: l, b => by rw [List.foldl_cons, fold_or l, badTs, Bool.or_assoc]
theorem q72 : ∀ (Nf left : Nat) (t bx : TreeD) (b : Bool), tc t ≤ left → left < Nf → left ≤ 20000 → F72 Nf t left bx b = some (b || badT t)
 | 0, left, t, bx, b, _, h, _ => by omega
 | Nf + 1, left, t, bx, b, h1, h, h2 => by
  show F72_b (F72 Nf) t left bx b = _
  have hp := tc_pos t
  unfold F72_b
  rw [show ((left : Int) == 0) = false from by simpa using by omega, cond_false, q54, bsm]
  have key := loop_foldl (step := fun s => L72_0 (F72 Nf) left t (t.kids.length : Int) bx s.1 s.2) (l := t.kids) (emb := fun i b => ((i : Int), b)) (f := fun b x => b || badT x) (fin := fun b => .k0 b) (Inv := fun _ => True) (fun i x a hx _ => ?_) (fun a _ => ?_) t.kids.length 0 (b || bad1 t) (by omega) trivial
  ·rw [List.drop_zero, fold_or] at key
   rw [show ((0 : Int), b || bad1 t) = (((0 : Nat) : Int), b || bad1 t) from rfl, key, bsm, badT_eq, Bool.or_assoc]
  ·refine ⟨?_, trivial⟩
   have hi : i < t.kids.length := (List.getElem?_eq_some_iff.1 hx).1
   have hl := tcs_len t.kids
   have hk := tkid hx
   have htc := tc_eq t
   have hw : IntKind.wrap .i64 ((left : Int) - 1) = ((left - 1 : Nat) : Int) := by rw [w_id (by omega)]; omega
   simp only [L72_0, decide_eq_true (show (i : Int) < (t.kids.length : Int) by omega), cond_true, getI_nat, hx, bsm, hw, q72 Nf (left - 1) x bx a (by omega) (by omega) (by omega)]
   rw [w_S (by omega)]
  ·simp only [L72_0, decide_eq_false (show ¬ ((t.kids.length : Int) < (t.kids.length : Int)) by omega), cond_false]
theorem len_d (a : ByteArray) : a.data.toList.length = a.size := by rw [Array.length_toList]; rfl
theorem splice_app {α : Type} {l y : List α} {n : Nat} (h : n + y.length ≤ l.length) : (splice l n y).take (n + y.length) = l.take n ++ y ∧ (splice l n y).length = l.length := by
 unfold splice
 refine ⟨?_, by simp; omega⟩
 have : (l.take n ++ y).length = n + y.length := by simp; omega
 rw [← this, List.take_left]
abbrev ints (l : List UInt8) : List Int := l.map fun b => ((b.toNat : Nat) : Int)
theorem bstr_ints (l : List UInt8) : bstr (ints l) = ⟨l.toArray⟩ := by
 unfold bstr
 congr 2
 rw [List.map_map]
 conv => rhs; rw [← List.map_id l]
 refine List.map_congr_left (fun x _ => ?_)
 simp
structure Buf (row : List Int) (len : Nat) (o : List UInt8) : Prop where
 le : len ≤ row.length
 is : row.take len = ints o
theorem Buf.len {row : List Int} {len : Nat} {o : List UInt8} (h : Buf row len o) : len = o.length := by
 have := congrArg List.length h.is
 rw [List.length_take, List.length_map] at this
 have := h.le
 omega
theorem sb_ints (s : ByteArray) : sbytes s = ints s.data.toList := rfl
theorem sb_len (s : ByteArray) : (sbytes s).length = s.size := by rw [sb_ints, List.length_map, len_d]
theorem apN {len k n : Nat} (h : len ≤ n) (hb : len + k ≤ 50000000) : apOk len k n 1 = true := decide_eq_true ⟨h, by unfold limit47; omega, by unfold limit47; omega⟩
theorem putN {row : List Int} {len : Nat} {o : List UInt8} (s : List UInt8) (h : Buf row len o) :
  (len + s.length ≤ row.length → Buf (splice row len (ints s)) (len + s.length) (o ++ s)) ∧ Buf (row.take len ++ ints s) (len + s.length) (o ++ s) := by
 have hs : (ints s).length = s.length := List.length_map _
 have ha : ints (o ++ s) = row.take len ++ ints s := by rw [h.is]; simp [ints]
 have hp : (row.take len).length = len := by rw [List.length_take]; have := h.le; omega
 refine ⟨fun hl => ?_, ⟨?_, ?_⟩⟩
 ·obtain ⟨h1, h2⟩ := splice_app (l := row) (y := ints s) (n := len) (by omega)
  rw [hs] at h1
  exact ⟨by rw [h2]; exact hl, by rw [h1, ha]⟩
 ·rw [lap, hp, hs]; exact Nat.le_refl _
 ·rw [ha]; exact List.take_of_length_le (by rw [lap, hp, hs]; exact Nat.le_refl _)
abbrev hexL : List UInt8 := [48, 49, 50, 51, 52, 53, 54, 55, 56, 57, 97, 98, 99, 100, 101, 102]
def hexd (n : Nat) : UInt8 := hexL[n]?.getD 0
mutual
def tbt : TreeD → List UInt8
 | .mk p b l => bif decide (p < 0) then [120, hexd (b.toNat / 16), hexd (b.toNat % 16)] else itoaL p ++ 40 :: ((tbr l).drop 1 ++ [41])
def tbr : List TreeD → List UInt8
 | [] => []
 | t :: l => 32 :: (tbt t ++ tbr l)
end
theorem tbt_eq : ∀ t : TreeD, tbt t = bif decide (t.prod < 0) then [120, hexd (t.byte.toNat / 16), hexd (t.byte.toNat % 16)] else itoaL t.prod ++ 40 :: ((tbr t.kids).drop 1 ++ [41])
 | .mk _ _ _ => by rw [tbt]; rfl
theorem tbr_app : ∀ a b : List TreeD, tbr (a ++ b) = tbr a ++ tbr b
 | [], b => by simp [tbr]
 | t :: a, b => by simp [tbr, tbr_app a b]
theorem dd_len : ∀ k u : Nat, (dd k u).length ≤ k
 | 0, _ => by simp [dd]
 | k + 1, u => by
  have := dd_len k (u / 10)
  rw [dd]
  split
  ·simp
  ·rw [lap]; simp; omega
theorem itoa_len (n : Int) : (itoaL n).length ≤ 21 := by
 unfold itoaL
 cases n with
 | ofNat u => exact Nat.le_trans (dd_len 20 u) (by omega)
 | negSucc u => rw [lcn]; have := dd_len 20 (u + 1); omega
theorem tb_len : ∀ (N : Nat) (t : TreeD), tc t ≤ N → (tbt t).length + 1 ≤ 24 * tc t
 | 0, t, h => by have := tc_pos t; omega
 | N + 1, t, h => by
  have key : ∀ l : List TreeD, tcs l ≤ N → (tbr l).length ≤ 24 * tcs l := by
   intro l
   induction l with
   | nil => intro _; simp [tbr]
   | cons x l ih =>
    intro hl
    simp only [tcs] at hl
    have h1 := tb_len N x (by omega)
    have h2 := ih (by omega)
    simp only [tbr, tcs, lcn, lap]
    omega
  have h1 := key t.kids (by have := tc_eq t; omega)
  have h2 := itoa_len t.prod
  have h3 := tc_eq t
  rw [tbt_eq]
  cases decide (t.prod < 0) with
  | true => simp; omega
  | false =>
   simp only [cond_false, lap, lcn, List.length_drop, List.length_nil]
   omega
theorem tbr_len : ∀ l : List TreeD, (tbr l).length ≤ 24 * tcs l
 | [] => by simp [tbr]
 | x :: l => by
  have h1 := tb_len (tc x) x (Nat.le_refl _)
  have h2 := tbr_len l
  simp only [tbr, tcs, lcn, lap]
  omega
abbrev tbk (l : List TreeD) : List UInt8 := (tbr l).drop 1
theorem tbk_take {l : List TreeD} {i : Nat} {x : TreeD} (h : l[i]? = some x) : tbk (l.take (i + 1)) = bif decide ((i : Int) > 0) then tbk (l.take i) ++ 32 :: tbt x else tbk (l.take i) ++ tbt x := by
 unfold tbk
 rw [take_S h, tbr_app]
 cases i with
 | zero => simp [tbr]
 | succ i =>
  rw [decide_eq_true (by omega), cond_true]
  cases l with
  | nil => simp at h
  | cons y l => simp [tbr]
section
variable {row : List Int} {len : Nat} {o : List UInt8}
theorem q825 (v : Bool) : F82_5 v = some true := by unfold F82_5; cases v <;> rfl
theorem q826 (v : Bool) : F82_6 v = some true := by unfold F82_6; cases v <;> rfl
theorem q827 (v : Bool) : F82_7 v = some true := by unfold F82_7; cases v <;> rfl
theorem q68 (g : Nat) (v : Bool) (a b : UInt8) (h : Buf row len o) (hb : len ≤ 40000000) : ∃ g' row' v', F68_3 g row v len (a.toNat : Int) (b.toNat : Int) = some (.k0 g' row' v') ∧ Buf row' (len + 3) (o ++ [120, a, b]) := by
 obtain ⟨p1, p2⟩ := putN [120, a, b] h
 unfold F68_3
 rw [q825]
 simp only [bsm, apN h.le (show len + 3 ≤ 50000000 by omega), cond_true]
 by_cases hr : len + 3 ≤ row.length
 ·rw [decide_eq_true hr]; exact ⟨_, _, _, rfl, p1 hr⟩
 ·rw [decide_eq_false hr]; exact ⟨_, _, _, rfl, p2⟩
theorem q69 (s : ByteArray) (g : Nat) (v : Bool) (h : Buf row len o) (hb : len + s.size ≤ 50000000) : ∃ n g' row' v', F69_3 s g row v len = some (.k0 n g' row' v') ∧ Buf row' (len + s.size) (o ++ s.data.toList) := by
 obtain ⟨p1, p2⟩ := putN s.data.toList h
 rw [len_d, ← sb_ints] at p1 p2
 unfold F69_3
 rw [q826]
 simp only [bsm, sb_len, apN h.le hb, cond_true]
 by_cases hr : len + s.size ≤ row.length
 ·rw [decide_eq_true hr]; exact ⟨_, _, _, _, rfl, p1 hr⟩
 ·rw [decide_eq_false hr]; exact ⟨_, _, _, _, rfl, p2⟩
theorem q70 (g : Nat) (v : Bool) (h : Buf row len o) (hb : len ≤ 40000000) : ∃ g' row' v', F70 g row v len = some (.k0 g' row' v') ∧ Buf row' (len + 1) (o ++ [41]) := by
 obtain ⟨p1, p2⟩ := putN [41] h
 unfold F70
 rw [q826]
 simp only [bsm, apN h.le (show len + 1 ≤ 50000000 by omega), cond_true]
 by_cases hr : len + 1 ≤ row.length
 ·rw [decide_eq_true hr]; exact ⟨_, _, _, rfl, p1 hr⟩
 ·rw [decide_eq_false hr]; exact ⟨_, _, _, rfl, p2⟩
theorem q702 (g : Nat) (v : Bool) (h : Buf row len o) (hb : len ≤ 40000000) : ∃ g' row' v', F70_2 g row v len = some (.k0 g' row' v') ∧ Buf row' (len + 1) (o ++ [32]) := by
 obtain ⟨p1, p2⟩ := putN [32] h
 unfold F70_2
 rw [q827]
 simp only [bsm, apN h.le (show len + 1 ≤ 50000000 by omega), cond_true]
 by_cases hr : len + 1 ≤ row.length
 ·rw [decide_eq_true hr]; exact ⟨_, _, _, rfl, p1 hr⟩
 ·rw [decide_eq_false hr]; exact ⟨_, _, _, rfl, p2⟩
end
theorem hex_get {n : Nat} (h : n < 16) {i : Int} (hi : i = (n : Int)) : getI hexL i = some (hexd n) := by
 subst hi
 rw [getI_nat]
 have : n < hexL.length := h
 unfold hexd
 rw [List.getElem?_eq_getElem this]
 rfl
theorem hi_nib {b : Int} (h : 0 ≤ b ∧ b ≤ 255) : Int.fdiv b (2 ^ (min (Int.toNat 4) (IntKind.bits .u8))) = ((b.toNat / 16 : Nat) : Int) := by
 rw [show (2 : Int) ^ (min (Int.toNat 4) (IntKind.bits .u8)) = 16 from rfl, Int.fdiv_eq_ediv_of_nonneg _ (by omega)]
 omega
theorem lo_nib {b : Int} (h : 0 ≤ b ∧ b ≤ 255) : IntKind.wrap .u8 ((BitVec.ofInt (IntKind.bits .u8) b &&& BitVec.ofInt (IntKind.bits .u8) 15).toNat : Int) = ((b.toNat % 16 : Nat) : Int) := by
 obtain ⟨n, rfl⟩ : ∃ n : Nat, b = (n : Int) := ⟨b.toNat, by omega⟩
 have hn : n ≤ 255 := by omega
 have : ∀ n : _root_.Fin 256, IntKind.wrap .u8 ((BitVec.ofInt (IntKind.bits .u8) ((n.val : Nat) : Int) &&& BitVec.ofInt (IntKind.bits .u8) 15).toNat : Int) = ((((n.val : Nat) : Int).toNat % 16 : Nat) : Int) := by decide +kernel
 exact this ⟨n, by omega⟩
theorem q48 : ∀ (Nf : Nat) (t bx : TreeD) (g : Nat) (row : List Int) (v : Bool) (len : Nat) (o : List UInt8), tc t < Nf → Ty t → Buf row len o → len + 24 * tc t ≤ 10000000 →
  ∃ g' row' v' len', F48_3 Nf t bx g row v len = some (.k0 g' row' v' len') ∧ Buf row' len' (o ++ tbt t)
 | 0, t, _, _, _, _, _, _, h, _, _, _ => by omega
 | Nf + 1, t, bx, g, row, v, len, o, h, ht, hB, hb => by
  show ∃ g' row' v' len', F48_3_b (F48_3 Nf) t bx g row v len = some (.k0 g' row' v' len') ∧ Buf row' len' (o ++ tbt t)
  unfold F48_3_b
  rw [tbt_eq]
  have hp := tc_pos t
  cases hneg : decide (t.prod < 0) with
  | true =>
   have hby := ht.by
   have e1 := hex_get (n := t.byte.toNat / 16) (by omega) (hi_nib hby)
   have e2 := hex_get (n := t.byte.toNat % 16) (by omega) (lo_nib hby)
   simp only [cond_true]
   rw [e1]
   simp only [bsm]
   rw [e2]
   obtain ⟨g', row', v', h1, h2⟩ := q68 g v (hexd (t.byte.toNat / 16)) (hexd (t.byte.toNat % 16)) hB (by omega)
   simp only [bsm, h1]
   exact ⟨_, _, _, _, rfl, h2⟩
  | false =>
   simp only [cond_false]
   have hpr := ht.pr
   have hI : I42 t.prod = some (itoaB t.prod) := by
    unfold I42 F42
    rw [decide_eq_true hpr]
    rfl
   have hil := itoa_len t.prod
   have hsz : (itoaB t.prod).size = (itoaL t.prod).length := by rw [← len_d]
   have hsz2 : (itoaB t.prod ++ (⟨([40] : List UInt8).toArray⟩ : ByteArray)).size = (itoaL t.prod).length + 1 := by rw [ByteArray.size_append, hsz]; rfl
   have hd2 : (itoaB t.prod ++ (⟨([40] : List UInt8).toArray⟩ : ByteArray)).data.toList = itoaL t.prod ++ [40] := by rw [ByteArray.data_append, Array.toList_append]
   rw [hI]
   simp only [bsm]
   rw [decide_eq_true (by rw [hsz]; show (itoaL t.prod).length + 1 ≤ 9223372036854775807; omega), cond_true]
   obtain ⟨n1, g1, row1, v1, e1, B1⟩ := q69 (itoaB t.prod ++ (⟨([40] : List UInt8).toArray⟩ : ByteArray)) g v hB (by rw [hsz2]; omega)
   rw [e1]
   simp only [bsm]
   rw [hd2] at B1
   rw [sb_len]
   have htc := tc_eq t
   have key : ∀ (k i : Nat) (g : Nat) (row : List Int) (v : Bool) (len1 : Nat), i + k = t.kids.length → Buf row len1 (o ++ (itoaL t.prod ++ [40]) ++ tbk (t.kids.take i)) →
     ∃ g' row' v' len', runL (fun s => L48_0_3 (F48_3 Nf) t (t.kids.length : Int) bx s.1 s.2.1 s.2.2.1 s.2.2.2.1 s.2.2.2.2) ((i : Int), g, row, v, len1) = some (.k0 g' row' v' len') ∧ Buf row' len' (o ++ (itoaL t.prod ++ [40]) ++ tbk t.kids) := by
    intro k
    induction k with
    | zero =>
     intro i g row v len1 hi hB
     obtain rfl : i = t.kids.length := by omega
     rw [List.take_length] at hB
     refine ⟨g, row, v, len1, runL_done ?_, hB⟩
     simp only [L48_0_3, decide_eq_false (show ¬ ((t.kids.length : Int) < (t.kids.length : Int)) by omega), cond_false]
    | succ k ih =>
     intro i g row v len1 hi hB
     have hx : t.kids[i]? = some t.kids[i] := List.getElem?_eq_getElem (by omega)
     generalize t.kids[i] = x at hx
     have hxm := List.mem_of_getElem? hx
     have hl := hB.len
     have htk := tcs_take hx
     have hle := tcs_take_le t.kids (i + 1)
     have hbl := tbr_len (t.kids.take i)
     have hlen1 : len1 + 24 * tc x + 1 ≤ 10000000 := by
      rw [hl]
      simp only [lap, List.length_drop, lcn, List.length_nil]
      have := hB.len
      have hol : len = o.length := by have := (by assumption : Buf _ len o).len; exact this
      omega
     have hn := tbk_take hx
     have hlt : decide ((i : Int) < (t.kids.length : Int)) = true := decide_eq_true (by omega)
     have hws : IntKind.wrap .i64 ((i : Int) + 1) = ((i + 1 : Nat) : Int) := w_S (by have := tcs_len (t.kids.take i); rw [List.length_take] at this; omega)
     cases hi0 : decide ((i : Int) > 0) with
     | true =>
      rw [hi0, cond_true] at hn
      obtain ⟨g2, row2, v2, e2, B2⟩ := q702 g v hB (by omega)
      obtain ⟨g3, row3, v3, len3, e3, B3⟩ := q48 Nf x bx g2 row2 v2 (len1 + 1) _ (by omega) (ht.kid hxm) B2 (by omega)
      rw [List.append_assoc, List.append_assoc, show tbk (t.kids.take i) ++ ([32] ++ tbt x) = tbk (t.kids.take (i + 1)) by rw [hn]; rfl] at B3
      obtain ⟨g4, row4, v4, len4, e4, B4⟩ := ih (i + 1) g3 row3 v3 len3 (by omega) B3
      refine ⟨g4, row4, v4, len4, (runL_next (s' := (((i + 1 : Nat) : Int), g3, row3, v3, len3)) ?_).trans e4, B4⟩
      simp only [L48_0_3, hlt, cond_true, getI_nat, hx, bsm, hi0, e2, e3, hws]
     | false =>
      rw [hi0, cond_false] at hn
      obtain ⟨g3, row3, v3, len3, e3, B3⟩ := q48 Nf x bx g row v len1 _ (by omega) (ht.kid hxm) hB (by omega)
      rw [List.append_assoc, ← hn] at B3
      obtain ⟨g4, row4, v4, len4, e4, B4⟩ := ih (i + 1) g3 row3 v3 len3 (by omega) B3
      refine ⟨g4, row4, v4, len4, (runL_next (s' := (((i + 1 : Nat) : Int), g3, row3, v3, len3)) ?_).trans e4, B4⟩
      simp only [L48_0_3, hlt, cond_true, cond_false, getI_nat, hx, bsm, hi0, e3, hws]
   obtain ⟨g2, row2, v2, len2, e2, B2⟩ := key t.kids.length 0 g1 row1 v1 (len + (itoaB t.prod ++ (⟨([40] : List UInt8).toArray⟩ : ByteArray)).size) (by omega) (by rw [List.take_zero]; show Buf _ _ (_ ++ []); rw [List.append_nil]; exact B1)
   rw [show ((0 : Int), g1, row1, v1, len + (itoaB t.prod ++ (⟨([40] : List UInt8).toArray⟩ : ByteArray)).size) = (((0 : Nat) : Int), g1, row1, v1, len + (itoaB t.prod ++ (⟨([40] : List UInt8).toArray⟩ : ByteArray)).size) from rfl, e2]
   simp only [bsm]
   have hl2 := B2.len
   have hol := hB.len
   have hkl := tbr_len t.kids
   simp only [lap, List.length_drop, lcn, List.length_nil] at hl2
   obtain ⟨g3, row3, v3, e3, B3⟩ := q70 g2 v2 B2 (by omega)
   rw [e3]
   simp only [bsm]
   refine ⟨_, _, _, _, rfl, ?_⟩
   simpa using B3
theorem tb_pos (t : TreeD) : 1 ≤ (tbt t).length := by
 rw [tbt_eq]
 cases decide (t.prod < 0) <;> simp <;> omega
open Classical in
theorem good_top {t : TreeD} (h : badT t = false) : (t.prod = -1 ∧ t.kids = []) ∨ (0 ≤ t.prod ∧ t.prod ≤ 2147483647 ∧ t.byte = 0) := by
 rw [badT_eq, Bool.or_eq_false_iff] at h
 have h := h.1
 unfold bad1 at h
 simp only [Bool.or_eq_false_iff, decide_eq_false_iff_not, Bool.and_eq_false_iff] at h
 obtain ⟨h1, h2, h3, h4⟩ := h
 by_cases c : t.prod = -1
 ·refine .inl ⟨c, ?_⟩
  rcases h3 with h3 | h3
  ·simp [c] at h3
  ·exact List.eq_nil_of_length_eq_zero (by omega)
 ·refine .inr ⟨by omega, by omega, ?_⟩
  rcases h4 with h4 | h4
  ·omega
  ·simpa using h4
def vald : List UInt8 → Nat → Nat
 | [], n => n
 | c :: l, n => vald l (10 * n + (c.toNat - 48))
theorem vald_app : ∀ (a b : List UInt8) (n : Nat), vald (a ++ b) n = vald b (vald a n)
 | [], b, n => rfl
 | c :: a, b, n => vald_app a b _
theorem dig_toNat {u : Nat} (h : u < 10) : (UInt8.ofNat (48 + u)).toNat = 48 + u := by
 rw [UInt8.toNat_ofNat']
 omega
theorem dd_val : ∀ (k u : Nat), u < 10 ^ k → 0 < k → vald (dd k u) 0 = u
 | 0, _, _, h => by omega
 | k + 1, u, h, _ => by
  rw [dd]
  by_cases c : u < 10
  ·rw [show Nat.blt u 10 = true from by simpa [Nat.blt_eq] using c]
   simp only [vald, dig_toNat c]
   omega
  ·rw [show Nat.blt u 10 = false from by simpa [Bool.eq_false_iff, Nat.blt_eq] using c]
   simp only
   have hk : 0 < k := by
    rcases Nat.eq_zero_or_pos k with rfl | hk
    ·simp at h; omega
    ·exact hk
   rw [vald_app, dd_val k (u / 10) (by rw [Nat.pow_succ] at h; omega) hk]
   simp only [vald, dig_toNat (show u % 10 < 10 by omega)]
   omega
theorem dd_dig : ∀ (k u : Nat), ∀ c ∈ dd k u, 48 ≤ c.toNat ∧ c.toNat ≤ 57
 | 0, _, c, h => by simp [dd] at h
 | k + 1, u, c, h => by
  rw [dd] at h
  by_cases hu : u < 10
  ·rw [show Nat.blt u 10 = true from by simpa [Nat.blt_eq] using hu] at h
   simp only [List.mem_singleton] at h
   subst h
   rw [dig_toNat hu]; omega
  ·rw [show Nat.blt u 10 = false from by simpa [Bool.eq_false_iff, Nat.blt_eq] using hu] at h
   simp only [List.mem_append, List.mem_singleton] at h
   rcases h with h | rfl
   ·exact dd_dig k _ c h
   ·rw [dig_toNat (show u % 10 < 10 by omega)]; omega
theorem itoa_nn {n : Int} (h : 0 ≤ n) : itoaL n = dd 20 n.toNat := by
 obtain ⟨u, rfl⟩ : ∃ u : Nat, n = (u : Int) := ⟨n.toNat, by omega⟩
 rfl
theorem itoa_dig {a : Int} (ha : 0 ≤ a) : ∀ c ∈ itoaL a, 48 ≤ c.toNat ∧ c.toNat ≤ 57 := by rw [itoa_nn ha]; exact dd_dig 20 _
theorem tb_head {t : TreeD} (h : badT t = false) : ∃ c l, tbt t = c :: l ∧ 48 ≤ c.toNat := by
 rw [tbt_eq]
 rcases good_top h with ⟨h1, h2⟩ | ⟨h1, h2, h3⟩
 ·rw [decide_eq_true (by omega), cond_true]
  exact ⟨_, _, rfl, by decide⟩
 ·rw [decide_eq_false (by omega), cond_false]
  have hv := dd_val 20 t.prod.toNat (by omega) (by omega)
  have hd := itoa_dig h1
  rw [itoa_nn h1] at hd ⊢
  cases hh : dd 20 t.prod.toNat with
  | nil =>
   exfalso
   rw [dd] at hh
   split at hh <;> simp at hh
  | cons c l =>
   rw [hh] at hd
   exact ⟨c, _, rfl, (hd c (by simp)).1⟩
theorem tmk : ∀ t : TreeD, TreeD.mk t.prod t.byte t.kids = t
 | .mk _ _ _ => rfl
theorem ext_mid {s : ByteArray} {p m r : List UInt8} (h : s.data.toList = p ++ (m ++ r)) : s.extract p.length (p.length + m.length) = ⟨m.toArray⟩ := by
 apply ByteArray.ext
 rw [ByteArray.data_extract]
 apply Array.toList_inj.1
 rw [Array.toList_extract, h]
 simp [List.extract]
abbrev bs (l : List UInt8) : ByteArray := ⟨l.toArray⟩
theorem bs_size (l : List UInt8) : (bs l).size = l.length := by rw [← len_d]
theorem bs_tl (l : List UInt8) : (bs l).data.toList = l := rfl
theorem bs_drop (p m : List UInt8) : (bs (p ++ m)).extract p.length (p ++ m).length = bs m := by
 have := ext_mid (s := bs (p ++ m)) (p := p) (m := m) (r := []) (by rw [bs_tl, List.append_nil])
 rw [lap]
 exact this
theorem bs_tail (c : UInt8) (l : List UInt8) : (bs (c :: l)).extract 1 (c :: l).length = bs l := bs_drop [c] l
theorem bs_head (c : UInt8) (l : List UInt8) : (bs (c :: l)).extract 0 1 = bs [c] := ext_mid (s := bs (c :: l)) (p := []) (m := [c]) (r := l) rfl
theorem bs_inj {a b : List UInt8} : bs a = bs b ↔ a = b := by
 constructor
 ·intro h
  have := congrArg (fun s : ByteArray => s.data.toList) h
  simpa using this
 ·rintro rfl; rfl
theorem beq_bs (a b : List UInt8) : ((bs a).toList == (bs b).toList) = decide (a = b) := by
 rw [bytes_list]
 by_cases h : a = b
 ·rw [decide_eq_true h, decide_eq_true (by rw [h])]
 ·rw [decide_eq_false h, decide_eq_false (fun e => h (bs_inj.1 e))]
def hd (x : UInt8) : List UInt8 → Bool
 | c :: _ => c == x
 | [] => false
theorem head_gen (x : UInt8) (l : List UInt8) : (bif (decide (((bs l).size : Int) ≥ 1)) then (bif (sl_ok 0 1 (bs l).size) then (some (((bs l).extract (Int.toNat 0) (Int.toNat 1)).toList == (bs [x]).toList)) else none) else (some false)) = some (hd x l) := by
 rw [bs_size]
 cases l with
 | nil => rfl
 | cons c l =>
  rw [decide_eq_true (by simp; omega), cond_true, show sl_ok 0 1 (c :: l).length = true from decide_eq_true ⟨by omega, by omega, by simp; omega⟩, cond_true]
  rw [show (Int.toNat 0) = 0 from rfl, show Int.toNat 1 = 1 from rfl, bs_head, beq_bs]
  congr 1
  simp only [hd, List.cons.injEq, and_true]
  rfl
theorem p43_2 (l : List UInt8) : F43_2 (bs l) = some (hd 41 l) := by
 unfold F43_2 F66_3
 rw [head_gen 41 l]; rfl
theorem p43_3 (l : List UInt8) : F43_3 (bs l) = some (hd 32 l) := by
 unfold F43_3 F66_4
 rw [head_gen 32 l]; rfl
theorem slS {n : Nat} (c : UInt8) (l : List UInt8) : sl_ok 1 ((bs (c :: l)).size : Int) (bs (c :: l)).size = true := by
 rw [bs_size]
 exact decide_eq_true ⟨by omega, by simp; omega, by omega⟩
theorem p38a (r : List UInt8) : F38_2 (bs (120 :: r)) = some (.k0 (bs r) true) := by
 have e : F60_2 (bs (120 :: r)) = some (.k0 (bs r) true) := by
  unfold F60_2 F66_2
  rw [head_gen 120 (120 :: r), bsm, show hd 120 (120 :: r) = true from rfl, cond_true, slS (n := 0), cond_true, bs_size, show Int.toNat 1 = 1 from rfl, Int.toNat_natCast, bs_tail]
 unfold F38_2
 rw [e]
 rfl
theorem p38b {l : List UInt8} (h : hd 120 l = false) : F38_2 (bs l) = some (.k0 (bs l) false) := by
 have e : F60_2 (bs l) = some (.k0 (bs l) false) := by
  unfold F60_2 F66_2
  rw [head_gen 120 l, bsm, h, cond_false]
 unfold F38_2
 rw [e]
 rfl
def cutL : List UInt8 → Option (List UInt8 × List UInt8)
 | [] => none
 | c :: l => bif c == 40 then some ([], l) else (cutL l).map fun p => (c :: p.1, p.2)
theorem cutL_some : ∀ {l d q : List UInt8}, cutL l = some (d, q) → l = d ++ 40 :: q ∧ (40 : UInt8) ∉ d
 | [], d, q, h => by simp [cutL] at h
 | c :: l, d, q, h => by
  rw [cutL] at h
  by_cases hc : c = 40
  ·subst hc
   simp at h
   obtain ⟨rfl, rfl⟩ := h
   exact ⟨rfl, by simp⟩
  ·rw [show (c == 40) = false by simpa using hc, cond_false] at h
   obtain ⟨⟨d', q'⟩, h1, h2⟩ := Option.map_eq_some_iff.1 h
   cases h2
   obtain ⟨rfl, h3⟩ := cutL_some h1
   exact ⟨rfl, by simp only [List.mem_cons, not_or]; exact ⟨fun e => hc e.symm, h3⟩⟩
theorem cutL_app {d q : List UInt8} (h : (40 : UInt8) ∉ d) : cutL (d ++ 40 :: q) = some (d, q) := by
 induction d with
 | nil => rfl
 | cons c d ih =>
  simp only [List.mem_cons, not_or] at h
  rw [List.cons_append, cutL, show (c == 40) = false by simpa using fun e => h.1 e.symm, cond_false, ih h.2]
  rfl
theorem idx_cut : ∀ l : List UInt8, Lib.indexByte l 40 = match cutL l with | some p => (p.1.length : Int) | none => -1
 | [] => rfl
 | c :: l => by
  rw [Lib.indexByte, cutL]
  by_cases hc : c = 40
  ·subst hc; rfl
  ·rw [show (c == 40) = false by simpa using hc, cond_false, if_neg (by simp), idx_cut l]
   cases cutL l with
   | none => rfl
   | some p =>
    simp only [Option.map_some, lcn]
    rw [if_neg (by simp)]
    simp
theorem p75 (l : List UInt8) : F75_2 (bs l) = some (Lib.indexByte l 40) := by
 unfold F75_2
 show (bif ((bs [40]).toList == (bs l).toList) then some 0 else _) = _
 rw [beq_bs]
 by_cases h : [40] = l
 ·subst h; rfl
 ·rw [decide_eq_false h, cond_false]
  show (F61 (bs l) 40).bind _ = _
  unfold F61
  show some (firstIdx (bs l) 40) = _
  rw [Lib.firstIdx_eq]
theorem p40s {l d q : List UInt8} (h : cutL l = some (d, q)) (hl : l.length ≤ 4000000) : F40_2 (bs l) = some (.k0 (bs d) (bs q) true) := by
 obtain ⟨rfl, _⟩ := cutL_some h
 have hlen : (d ++ 40 :: q).length = d.length + 1 + q.length := by simp; omega
 have e : F62_2 (bs (d ++ 40 :: q)) = some (.k0 (bs d) (bs q) true) := by
  unfold F62_2
  rw [p75, idx_cut, h]
  simp only [bsm]
  rw [decide_eq_true (show ((d.length : Int) ≥ 0) by omega), cond_true, bs_size, w_id (by omega)]
  rw [show sl_ok 0 (d.length : Int) (d ++ 40 :: q).length = true from decide_eq_true ⟨by omega, by omega, by omega⟩, cond_true]
  rw [show sl_ok ((d.length : Int) + 1) ((d ++ 40 :: q).length : Int) (d ++ 40 :: q).length = true from decide_eq_true ⟨by omega, by omega, by omega⟩, cond_true]
  have e1 : (bs (d ++ 40 :: q)).extract (Int.toNat 0) (Int.toNat (d.length : Int)) = bs d := by
   have := ext_mid (s := bs (d ++ 40 :: q)) (p := []) (m := d) (r := 40 :: q) rfl
   simpa using this
  have e2 : (bs (d ++ 40 :: q)).extract (Int.toNat ((d.length : Int) + 1)) (Int.toNat ((d ++ 40 :: q).length : Int)) = bs q := by
   have := ext_mid (s := bs (d ++ 40 :: q)) (p := d ++ [40]) (m := q) (r := []) (by simp)
   rw [Int.toNat_natCast, hlen, show Int.toNat ((d.length : Int) + 1) = d.length + 1 by omega]
   simpa using this
  rw [e1, e2]
 unfold F40_2
 rw [e]
 rfl
section
variable {e : (TypeId × Value) × (TypeId × Value)} {k : Nat} {st : List TreeD} {t : TreeD} {b : Bool}
abbrev mk1 (x : TreeD) (t : TreeD) : TreeD := .mk x.prod x.byte (x.kids ++ [t])
theorem rd1n {l : List UInt8} : rd (some e) (k + 1) 1 [] t b (bs l) = bif !decide (l = []) then rd (some e) k 0 [] t b (bs l) else bif b then some (zT, 3) else some (t, 0) := by
 rw [rd]
 show (bif !((bs l).toList == (bs []).toList) then _ else _) = _
 rw [beq_bs]
theorem rd1c {x : TreeD} {l : List UInt8} : rd (some e) (k + 1) 1 (x :: st) t b (bs (41 :: l)) = rd (some e) k 3 (mk1 x t :: st) t b (bs (41 :: l)) := by
 rw [rd, p43_3, bsm, show hd 32 (41 :: l) = false from rfl, cond_false, p43_2, bsm, show hd 41 (41 :: l) = true from rfl]
theorem rd3 {x : TreeD} {c : UInt8} {l : List UInt8} : rd (some e) (k + 1) 3 (x :: st) t b (bs (c :: l)) = rd (some e) k 1 st x b (bs l) := by
 rw [rd, slS (n := 0), cond_true, bs_size, show Int.toNat 1 = 1 from rfl, Int.toNat_natCast, bs_tail]
theorem p41 {d : List UInt8} (h : d.length ≤ 4000000) : (∃ v, Lib.parseIntB 32 d = .ok v ∧ F41 (some e) (bs d) = some (.k0 v)) ∨ ((∀ v, Lib.parseIntB 32 d ≠ .ok v) ∧ ∃ z, F41 (some e) (bs d) = some (.k1 z)) := by
 unfold F41
 rw [decide_eq_true (show (bs d).size ≤ 281474976710656 by rw [bs_size]; omega), cond_true]
 show (∃ v, _ ∧ (match Lib.parseIntB 32 d, true with | .ok n, _ => some (R_F41.k0 n) | Lib.NumEnd.syntax, true => some (.k1 0) | .range, true => some (.k1 (Lib.intSat 32 d)) | _, false => none) = _) ∨ (_ ∧ ∃ z, (match Lib.parseIntB 32 d, true with | .ok n, _ => some (R_F41.k0 n) | Lib.NumEnd.syntax, true => some (.k1 0) | .range, true => some (.k1 (Lib.intSat 32 d)) | _, false => none) = _)
 cases hp : Lib.parseIntB 32 d with
 | ok v => exact .inl ⟨v, rfl, rfl⟩
 | range => exact .inr ⟨fun v => by simp, _, rfl⟩
 | _ => exact .inr ⟨fun v => by simp, _, rfl⟩
theorem rd2c {l : List UInt8} (h : ∀ c0 c1 r, l ≠ 120 :: c0 :: c1 :: r) : rd (some e) (k + 1) 2 st t b (bs l) = (F40_2 (bs l)).bind fun r => match r with
     | .k0 d q ok2 => bif ok2 then (F41 (some e) d).bind fun v => match v with
       | .k0 v => (F42 v).bind fun y => bif !(y.toList == d.toList) || decide (v < 0) then rd (some e) k 0 st t b (bs l) else
         bif decide (q.size < (bs l).size) then (F43_2 q).bind fun cl => rd (some e) k (match cl with | true => 3 | false => 2) (.mk v 0 [] :: st) t (b || decide (((st.length + 1 : Nat) : Int) > 16384)) q else none
       | .k1 _ => rd (some e) k 0 st t b (bs l)
      else rd (some e) k 0 st t b (bs l) := by
 rw [rd]
 by_cases hx : hd 120 l = true
 ·match l, hx, h with
  | c :: r, hx, h =>
   have hc : c = 120 := by simpa [hd] using hx
   subst hc
   rw [p38a, bsm]
   simp only
   have : ¬ (((bs r).size : Int) ≥ 2) := by
    rw [bs_size]
    match r, h with
    | [], _ => simp
    | [_], _ => simp
    | c0 :: c1 :: r, h => exact absurd rfl (h c0 c1 r)
   rw [decide_eq_false this, Bool.and_false, cond_false]
   rfl
 ·rw [p38b (by simpa using hx), bsm]
  simp only
  rw [Bool.false_and, cond_false]
  rfl
theorem rd2b {v : Int} {q : List UInt8} (hv : 0 ≤ v ∧ v ≤ 2147483647) (hp : Lib.parseIntB 32 (itoaL v) = .ok v) (hl : (itoaL v ++ 40 :: q).length ≤ 4000000) : rd (some e) (k + 1) 2 st t b (bs (itoaL v ++ 40 :: q)) = rd (some e) k (match hd 41 q with | true => 3 | false => 2) (.mk v 0 [] :: st) t (b || decide (((st.length + 1 : Nat) : Int) > 16384)) (bs q) := by
 have hdg := itoa_dig hv.1
 have h40 : (40 : UInt8) ∉ itoaL v := fun hm => absurd (hdg 40 hm).1 (by decide)
 rw [rd2c (fun c0 c1 r hh => by
  cases hi : itoaL v with
  | nil => rw [hi] at hh; simp at hh
  | cons c m =>
   rw [hi] at hh
   simp only [List.cons_append, List.cons.injEq] at hh
   have := (hdg c (by rw [hi]; simp)).2
   rw [hh.1] at this
   exact absurd this (by decide)), p40s (cutL_app h40) hl, bsm]
 simp only [cond_true]
 simp only [lap, lcn] at hl
 rcases p41 (e := e) (d := itoaL v) (by omega) with ⟨u, h1, h2⟩ | ⟨h1, _⟩
 ·rw [hp] at h1
  cases h1
  rw [h2, bsm]
  simp only
  have : F42 v = some (bs (itoaL v)) := by
   unfold F42
   rw [decide_eq_true (by omega), cond_true]
  rw [this, bsm]
  rw [beq_bs, decide_eq_true rfl, Bool.not_true, Bool.false_or, decide_eq_false (by omega), cond_false, bs_size, bs_size, decide_eq_true (by simp; omega), cond_true, p43_2, bsm]
 ·exact absurd hp (h1 v)
end
theorem vald_ge : ∀ (l : List UInt8) (n : Nat), n ≤ vald l n
 | [], n => Nat.le_refl _
 | c :: l, n => by
  have := vald_ge l (10 * n + (c.toNat - 48))
  simp only [vald]
  omega
theorem pU {M : Nat} (hM : M < 4294967296) : ∀ (l : List UInt8) (acc : Nat), (∀ c ∈ l, 48 ≤ c.toNat ∧ c.toNat ≤ 57) → vald l acc ≤ M → Lib.parseUintM M acc l = .ok (vald l acc)
 | [], acc, _, _ => rfl
 | c :: l, acc, hd, hv => by
  have h1 := vald_ge (c :: l) acc
  simp only [vald] at hv
  have h2 := vald_ge l (10 * acc + (c.toNat - 48))
  rw [Lib.parseUintM, if_pos (hd c (by simp)), if_neg (by omega), if_neg (by omega), show acc * 10 + (c.toNat - 48) = 10 * acc + (c.toNat - 48) by omega, pU hM l _ (fun x hx => hd x (by simp [hx])) hv]
  rfl
theorem p_itoa {v : Int} (hv : 0 ≤ v ∧ v ≤ 2147483647) : Lib.parseIntB 32 (itoaL v) = .ok v := by
 have hd := itoa_dig hv.1
 have hval : vald (itoaL v) 0 = v.toNat := by rw [itoa_nn hv.1]; exact dd_val 20 _ (by omega) (by omega)
 have hU : Lib.parseUintB 32 (itoaL v) = .ok v.toNat := by
  unfold Lib.parseUintB
  rw [if_neg, pU (by omega) (itoaL v) 0 hd (by rw [hval]; omega), hval]
  intro h
  rw [h] at hval
  have hz : v.toNat = 0 := hval.symm
  have : itoaL v = itoaL 0 := by rw [show v = 0 by omega]
  rw [h] at this
  exact absurd this (by decide)
 cases hi : itoaL v with
 | nil =>
  rw [hi] at hU
  cases hU
 | cons c r =>
  have hc := hd c (by rw [hi]; simp)
  rw [hi] at hU
  unfold Lib.parseIntB
  simp only
  rw [if_neg (by omega), hU]
  simp only
  rw [if_neg (by omega), if_neg (by omega), if_neg (by omega)]
  congr 1
  omega
mutual
def byt : TreeD → Nat
 | .mk p _ l => (if p < 0 then 1 else 0) + byts l
def byts : List TreeD → Nat
 | [] => 0
 | t :: l => byt t + byts l
end
mutual
def dep : TreeD → Nat
 | .mk _ _ l => deps l + 1
def deps : List TreeD → Nat
 | [] => 0
 | t :: l => max (dep t) (deps l)
end
theorem dep_eq : ∀ t : TreeD, dep t = deps t.kids + 1
 | .mk _ _ _ => by rw [dep]; rfl
theorem set_same {α : Type} {l : List α} {i : Nat} {x : α} (h : l[i]? = some x) : l.set i x = l := by
 apply List.ext_getElem?
 intro j
 rw [List.getElem?_set]
 split
 ·rename_i e
  subst e
  have := (List.getElem?_eq_some_iff.1 h).1
  rw [if_pos this, h]
 ·rfl
theorem clN {n : Nat} (h : n ≤ 100000) : clOk n 40 = true := decide_eq_true ⟨by unfold limit47; omega, by unfold limit47; omega⟩
def fol : TreeD → List Int → Option (TreeD × Nat)
 | t, [] => some (t, 0)
 | t, i :: p => if 0 ≤ i ∧ i < t.kids.length then (t.kids[i.toNat]?).bind fun k => (fol k p).map fun r => (r.1, byts (t.kids.take i.toNat) + r.2) else none
mutual
def RepT (h : List AB) : TreeD → Nat → Nat → List AV → Prop
 | .mk p b ks, lo, hi, xs => ∃ blk g rows, xs = [i6 p, vi .u8 b, .sl blk g 3 0 ks.length] ∧ lo ≤ blk ∧ h[blk]? = some (.row 25 3 g rows) ∧ RepK h ks (blk + 1) hi rows
def RepK (h : List AB) : List TreeD → Nat → Nat → List (List AV) → Prop
 | [], lo, hi, rows => rows = [] ∧ lo ≤ hi
 | k :: ks, lo, hi, rows => ∃ r rs mid, rows = r :: rs ∧ RepT h k lo mid r ∧ RepK h ks mid hi rs
end
mutual
theorem repT_lt {h : List AB} : ∀ (t : TreeD) {lo hi : Nat} {xs : List AV}, RepT h t lo hi xs → lo < hi
 | .mk p b ks, lo, hi, xs, ⟨blk, g, rows, _, h1, _, h2⟩ => by have := repK_le ks h2; omega
theorem repK_le {h : List AB} : ∀ (ks : List TreeD) {lo hi : Nat} {rows : List (List AV)}, RepK h ks lo hi rows → lo ≤ hi
 | [], lo, hi, rows, ⟨_, h⟩ => h
 | k :: ks, lo, hi, rows, ⟨r, rs, mid, _, h1, h2⟩ => by have := repT_lt k h1; have := repK_le ks h2; omega
end
mutual
theorem repT_frame {h h' : List AB} : ∀ (t : TreeD) {lo hi : Nat} {xs : List AV}, (∀ b, lo ≤ b → b < hi → h'[b]? = h[b]?) → RepT h t lo hi xs → RepT h' t lo hi xs
 | .mk p b ks, lo, hi, xs, hf, ⟨blk, g, rows, e, h1, hb, h2⟩ => by
  have hle := repK_le ks h2
  exact ⟨blk, g, rows, e, h1, (hf blk h1 (by omega)).trans hb, repK_frame ks (fun c h3 h4 => hf c (by omega) h4) h2⟩
theorem repK_frame {h h' : List AB} : ∀ (ks : List TreeD) {lo hi : Nat} {rows : List (List AV)}, (∀ b, lo ≤ b → b < hi → h'[b]? = h[b]?) → RepK h ks lo hi rows → RepK h' ks lo hi rows
 | [], lo, hi, rows, _, h => h
 | k :: ks, lo, hi, rows, hf, ⟨r, rs, mid, e, h1, h2⟩ => by
  have l1 := repT_lt k h1
  have l2 := repK_le ks h2
  exact ⟨r, rs, mid, e, repT_frame k (fun c h3 h4 => hf c h3 (by omega)) h1, repK_frame ks (fun c h3 h4 => hf c (by omega) h4) h2⟩
end
mutual
theorem repT_wide {h : List AB} : ∀ (t : TreeD) {lo hi lo' hi' : Nat} {xs : List AV}, RepT h t lo hi xs → lo' ≤ lo → hi ≤ hi' → RepT h t lo' hi' xs
 | .mk p b ks, lo, hi, lo', hi', xs, ⟨blk, g, rows, e, h1, hb, h2⟩, a1, a2 => ⟨blk, g, rows, e, by omega, hb, repK_wide ks h2 (Nat.le_refl _) a2⟩
theorem repK_wide {h : List AB} : ∀ (ks : List TreeD) {lo hi lo' hi' : Nat} {rows : List (List AV)}, RepK h ks lo hi rows → lo' ≤ lo → hi ≤ hi' → RepK h ks lo' hi' rows
 | [], lo, hi, lo', hi', rows, ⟨e, h⟩, a1, a2 => ⟨e, by omega⟩
 | k :: ks, lo, hi, lo', hi', rows, ⟨r, rs, mid, e, h1, h2⟩, a1, a2 => ⟨r, rs, mid, e, repT_wide k h1 a1 (Nat.le_refl _), repK_wide ks h2 (Nat.le_refl _) a2⟩
end
theorem ren_get {h nb : List AB} {b : Nat} {x : AB} (hb : nb[b]? = some x) : (h ++ nb.map (AB.ren (· + h.length)))[b + h.length]? = some (x.ren (· + h.length)) := by
 rw [List.getElem?_append_right (by omega), show b + h.length - h.length = b by omega, List.getElem?_map, hb]
 rfl
mutual
theorem repT_ren {h nb : List AB} : ∀ (t : TreeD) {lo hi : Nat} {xs : List AV}, RepT nb t lo hi xs → RepT (h ++ nb.map (AB.ren (· + h.length))) t (lo + h.length) (hi + h.length) (rens (· + h.length) xs)
 | .mk p b ks, lo, hi, xs, ⟨blk, g, rows, e, h1, hb, h2⟩ => by
  subst e
  refine ⟨blk + h.length, g, rows.map (rens (· + h.length)), rfl, by omega, ren_get hb, ?_⟩
  have := repK_ren (h := h) ks h2
  rwa [show blk + 1 + h.length = blk + h.length + 1 by omega] at this
theorem repK_ren {h nb : List AB} : ∀ (ks : List TreeD) {lo hi : Nat} {rows : List (List AV)}, RepK nb ks lo hi rows → RepK (h ++ nb.map (AB.ren (· + h.length))) ks (lo + h.length) (hi + h.length) (rows.map (rens (· + h.length)))
 | [], lo, hi, rows, ⟨e, h1⟩ => by subst e; exact ⟨rfl, by omega⟩
 | k :: ks, lo, hi, rows, ⟨r, rs, mid, e, h1, h2⟩ => by
  subst e
  exact ⟨_, _, mid + h.length, rfl, repT_ren k h1, repK_ren ks h2⟩
end
theorem repK_len {h : List AB} : ∀ (ks : List TreeD) {lo hi : Nat} {rows : List (List AV)}, RepK h ks lo hi rows → rows.length = ks.length
 | [], lo, hi, rows, ⟨e, h⟩ => by rw [e]; rfl
 | k :: ks, lo, hi, rows, ⟨r, rs, mid, e, h1, h2⟩ => by rw [e, lcn, lcn, repK_len ks h2]
theorem repK_snoc {h : List AB} {k : TreeD} {r : List AV} {hi : Nat} : ∀ (ks : List TreeD) {lo mid : Nat} {rows : List (List AV)}, RepK h ks lo mid rows → RepT h k mid hi r → RepK h (ks ++ [k]) lo hi (rows ++ [r])
 | [], lo, mid, rows, ⟨e, h1⟩, h2 => by
  subst e
  have := repT_lt k h2
  exact ⟨r, [], hi, rfl, repT_wide k h2 h1 (Nat.le_refl _), rfl, Nat.le_refl _⟩
 | a :: ks, lo, mid, rows, ⟨q, rs, m, e, h1, h2⟩, h3 => by
  subst e
  exact ⟨q, rs ++ [r], m, rfl, h1, repK_snoc ks h2 h3⟩
def putT (t x : TreeD) : List Int → TreeD
 | [] => x
 | i :: q => match t.kids[i.toNat]? with
  | some k => .mk t.prod t.byte (t.kids.set i.toNat (putT k x q))
  | none => t
def tgt (h : List AB) : AV → List Int → Option AV
 | P, [] => some P
 | P, i :: q => match (ptrAdd 2 P).bind (loadA h 1) with
  | some [.sl blk g 3 0 n] => if 0 ≤ i ∧ i < n then tgt h (.rp blk g 3 i.toNat 0) q else none
  | _ => none
end Go.Proofs.Tryd
