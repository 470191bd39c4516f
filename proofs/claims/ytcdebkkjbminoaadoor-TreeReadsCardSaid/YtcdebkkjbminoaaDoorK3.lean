/- Trees: how many, which may be. Plain data alone. -/
import Derived.Test.YtcdebkkjbminoaaDoorH33
import Derived.Test.YtcdebkkjbminoaaDoorVE
import Derived.Test.YtcdebkkjbminoaaDoorP3
import Derived.Lib.ParseIntBTie
import Derived.Lib.Bytealg
open Option renaming bind_some → bsm
open List renaming getElem?_eq_some_iff → gei, eq_nil_of_length_eq_zero → enz, getElem?_eq_getElem → geg, getElem?_append_right → gar, length_append → lap, length_cons → lcn
namespace Go.Proofs.Tryd
set_option linter.unusedSimpArgs false
set_option linter.unusedVariables false
open Go Go.Vs
mutual
def tc : TreeD → Nat
 | .mk _ _ l => 1 + tcs l
def tcs : List TreeD → Nat
 | [] => 0
 | t :: l => tc t + tcs l
end
def bad1 (t : TreeD) : Bool := decide (t.prod < -1) || (decide (t.prod > 2147483647) || ((t.prod == -1 && decide ((t.kids.length : Int) > 0)) || (decide (t.prod ≥ 0) && t.byte != 0)))
mutual
def badT : TreeD → Bool
 | .mk p b l => bad1 (.mk p b l) || badTs l
def badTs : List TreeD → Bool
 | [] => false
 | t :: l => badT t || badTs l
end
inductive Ty : TreeD → Prop
 | mk {p b : Int} {l : List TreeD} (h1 : -9223372036854775808 ≤ p ∧ p ≤ 9223372036854775807) (h2 : 0 ≤ b ∧ b ≤ 255) (h3 : ∀ x ∈ l, Ty x) : Ty (.mk p b l)
theorem Ty.by {t : TreeD} (h : Ty t) : 0 ≤ t.byte ∧ t.byte ≤ 255 := by cases h with | mk h1 h2 h3 => exact h2
theorem Ty.kid {t x : TreeD} (h : Ty t) (hx : x ∈ t.kids) : Ty x := by cases h with | mk h1 h2 h3 => exact h3 x hx
theorem tc_eq : ∀ t : TreeD, tc t = 1 + tcs t.kids
 | .mk _ _ _ => by simp only [tc, TreeD.kids]
theorem badT_eq : ∀ t : TreeD, badT t = (bad1 t || badTs t.kids)
 | .mk _ _ _ => by simp only [badT, TreeD.kids]
theorem tcs_mem {b : TreeD} : ∀ {l : List TreeD}, b ∈ l → tc b ≤ tcs l
 | [], h => by simp at h
 | u :: l, h => by
  simp only [tcs]
  rcases List.mem_cons.1 h with rfl | h
  ·omega
  ·have := tcs_mem h; omega
theorem tc_pos (b : TreeD) : 1 ≤ tc b := by rw [tc_eq]; omega
theorem tcs_len : ∀ (l : List TreeD), l.length ≤ tcs l
 | [] => by simp
 | t :: a => by have := tcs_len a; have := tc_pos t; simp only [lcn, tcs]; omega
theorem tkid {b x : TreeD} {i : Nat} (h : b.kids[i]? = some x) : tc x < tc b := by
 have := tcs_mem (List.mem_of_getElem? h)
 have := tc_eq b
 omega
theorem take_S {α : Type} {l : List α} {i : Nat} {x : α} (h : l[i]? = some x) : l.take (i + 1) = l.take i ++ [x] := by
 rw [List.take_add_one, h]; rfl
theorem badTs_any : ∀ l : List TreeD, badTs l = l.any badT
 | [] => rfl
 | t :: l => by simp only [badTs, List.any_cons, badTs_any l]
theorem len_d (a : ByteArray) : a.data.toList.length = a.size := by rw [Array.length_toList]; rfl
theorem splice_app {α : Type} {l y : List α} {n : Nat} (h : n + y.length ≤ l.length) : (splice l n y).take (n + y.length) = l.take n ++ y ∧ (splice l n y).length = l.length := by
 unfold splice
 refine ⟨?_, by simp; omega⟩
 have : (l.take n ++ y).length = n + y.length := by simp; omega
 rw [← this, List.take_left]
abbrev hexL : List UInt8 := [48, 49, 50, 51, 52, 53, 54, 55, 56, 57, 97, 98, 99, 100, 101, 102]
def hexd (n : Nat) : UInt8 := hexL[n]?.getD 0
mutual
def tbt : TreeD → List UInt8
 | .mk p b l => bif decide (p < 0) then [120, hexd (b.toNat / 16), hexd (b.toNat % 16)] else itoaL p ++ 40 :: ((tbr l).drop 1 ++ [41])
def tbr : List TreeD → List UInt8
 | [] => []
 | t :: l => 32 :: (tbt t ++ tbr l)
end
theorem tbt_eq : ∀ t : TreeD, tbt t = bif decide (t.prod < 0) then [120, hexd (t.byte.toNat / 16), hexd (t.byte.toNat % 16)] else itoaL t.prod ++ 40 :: ((tbr t.kids).drop 1 ++ [41])
 | .mk _ _ _ => by rw [tbt]; rfl
theorem tbr_app : ∀ a b : List TreeD, tbr (a ++ b) = tbr a ++ tbr b
 | [], b => by simp [tbr]
 | t :: a, b => by simp [tbr, tbr_app a b]
theorem dd_len : ∀ k u : Nat, (dd k u).length ≤ k
 | 0, _ => by simp [dd]
 | k + 1, u => by
  have := dd_len k (u / 10)
  rw [dd]
  split
  ·simp
  ·rw [lap]; simp; omega
theorem itoa_len (n : Int) : (itoaL n).length ≤ 21 := by
 unfold itoaL
 cases n with
 | ofNat u => exact Nat.le_trans (dd_len 20 u) (by omega)
 | negSucc u => rw [lcn]; have := dd_len 20 (u + 1); omega
theorem tb_len : ∀ (N : Nat) (t : TreeD), tc t ≤ N → (tbt t).length + 1 ≤ 24 * tc t
 | 0, t, h => by have := tc_pos t; omega
 | N + 1, t, h => by
  have key : ∀ l : List TreeD, tcs l ≤ N → (tbr l).length ≤ 24 * tcs l := by
   intro l
   induction l with
   | nil => intro _; simp [tbr]
   | cons x l ih =>
    intro hl
    simp only [tcs] at hl
    have h1 := tb_len N x (by omega)
    have h2 := ih (by omega)
    simp only [tbr, tcs, lcn, lap]
    omega
  have h1 := key t.kids (by have := tc_eq t; omega)
  have h2 := itoa_len t.prod
  have h3 := tc_eq t
  rw [tbt_eq]
  cases decide (t.prod < 0) with
  | true => simp; omega
  | false =>
   simp only [cond_false, lap, lcn, List.length_drop, List.length_nil]
   omega
abbrev tbk (l : List TreeD) : List UInt8 := (tbr l).drop 1
section
variable {row : List Int} {len : Nat} {o : List UInt8}
end
theorem tb_pos (t : TreeD) : 1 ≤ (tbt t).length := by
 rw [tbt_eq]
 cases decide (t.prod < 0) <;> simp <;> omega
theorem tree_ext : ∀ {a b : TreeD}, a.prod = b.prod → a.byte = b.byte → a.kids = b.kids → a = b
 | .mk _ _ _, .mk _ _ _, h1, h2, h3 => by
  simp only [TreeD.prod, TreeD.byte, TreeD.kids] at h1 h2 h3
  subst h1 h2 h3
  rfl
open Classical in
theorem good_top {t : TreeD} (h : badT t = false) : (t.prod = -1 ∧ t.kids = []) ∨ (0 ≤ t.prod ∧ t.prod ≤ 2147483647 ∧ t.byte = 0) := by
 rw [badT_eq, Bool.or_eq_false_iff] at h
 have h := h.1
 unfold bad1 at h
 simp only [Bool.or_eq_false_iff, decide_eq_false_iff_not, Bool.and_eq_false_iff] at h
 obtain ⟨h1, h2, h3, h4⟩ := h
 by_cases c : t.prod = -1
 ·refine .inl ⟨c, ?_⟩
  rcases h3 with h3 | h3
  ·simp [c] at h3
  ·exact enz (by omega)
 ·refine .inr ⟨by omega, by omega, ?_⟩
  rcases h4 with h4 | h4
  ·omega
  ·simpa using h4
theorem good_kid {t x : TreeD} (h : badT t = false) (hx : x ∈ t.kids) : badT x = false := by
 rw [badT_eq, Bool.or_eq_false_iff, badTs_any] at h
 have := h.2
 rw [List.any_eq_false] at this
 simpa using this x hx
def vald : List UInt8 → Nat → Nat
 | [], n => n
 | c :: l, n => vald l (10 * n + (c.toNat - 48))
theorem vald_app : ∀ (a b : List UInt8) (n : Nat), vald (a ++ b) n = vald b (vald a n)
 | [], b, n => rfl
 | c :: a, b, n => vald_app a b _
theorem dig_toNat {u : Nat} (h : u < 10) : (UInt8.ofNat (48 + u)).toNat = 48 + u := by
 rw [UInt8.toNat_ofNat']
 omega
theorem dd_val : ∀ (k u : Nat), u < 10 ^ k → 0 < k → vald (dd k u) 0 = u
 | 0, _, _, h => by omega
 | k + 1, u, h, _ => by
  rw [dd]
  by_cases c : u < 10
  ·rw [show Nat.blt u 10 = true from by simpa [Nat.blt_eq] using c]
   simp only [vald, dig_toNat c]
   omega
  ·rw [show Nat.blt u 10 = false from by simpa [Bool.eq_false_iff, Nat.blt_eq] using c]
   simp only
   have hk : 0 < k := by
    rcases Nat.eq_zero_or_pos k with rfl | hk
    ·simp at h; omega
    ·exact hk
   rw [vald_app, dd_val k (u / 10) (by rw [Nat.pow_succ] at h; omega) hk]
   simp only [vald, dig_toNat (show u % 10 < 10 by omega)]
   omega
theorem dd_dig : ∀ (k u : Nat), ∀ c ∈ dd k u, 48 ≤ c.toNat ∧ c.toNat ≤ 57
 | 0, _, c, h => by simp [dd] at h
 | k + 1, u, c, h => by
  rw [dd] at h
  by_cases hu : u < 10
  ·rw [show Nat.blt u 10 = true from by simpa [Nat.blt_eq] using hu] at h
   simp only [List.mem_singleton] at h
   subst h
   rw [dig_toNat hu]; omega
  ·rw [show Nat.blt u 10 = false from by simpa [Bool.eq_false_iff, Nat.blt_eq] using hu] at h
   simp only [List.mem_append, List.mem_singleton] at h
   rcases h with h | rfl
   ·exact dd_dig k _ c h
   ·rw [dig_toNat (show u % 10 < 10 by omega)]; omega
theorem itoa_nn {n : Int} (h : 0 ≤ n) : itoaL n = dd 20 n.toNat := by
 obtain ⟨u, rfl⟩ : ∃ u : Nat, n = (u : Int) := ⟨n.toNat, by omega⟩
 rfl
theorem itoa_dig {a : Int} (ha : 0 ≤ a) : ∀ c ∈ itoaL a, 48 ≤ c.toNat ∧ c.toNat ≤ 57 := by rw [itoa_nn ha]; exact dd_dig 20 _
theorem cut40 : ∀ {l m x y : List UInt8}, (∀ c ∈ l, 48 ≤ c.toNat) → (∀ c ∈ m, 48 ≤ c.toNat) → l ++ 40 :: x = m ++ 40 :: y → l = m ∧ x = y
 | [], [], x, y, _, _, h => ⟨rfl, by simpa using h⟩
 | [], c :: m, x, y, _, h2, h => by
  simp only [List.nil_append, List.cons_append, List.cons.injEq] at h
  have := h2 c (by simp)
  rw [← h.1] at this
  exact absurd this (by decide)
 | c :: l, [], x, y, h1, _, h => by
  simp only [List.nil_append, List.cons_append, List.cons.injEq] at h
  have := h1 c (by simp)
  rw [h.1] at this
  exact absurd this (by decide)
 | c :: l, d :: m, x, y, h1, h2, h => by
  simp only [List.cons_append, List.cons.injEq] at h
  obtain ⟨rfl, h⟩ := h
  obtain ⟨rfl, e⟩ := cut40 (fun z hz => h1 z (by simp [hz])) (fun z hz => h2 z (by simp [hz])) h
  exact ⟨rfl, e⟩
theorem tb_head {t : TreeD} (h : badT t = false) : ∃ c l, tbt t = c :: l ∧ 48 ≤ c.toNat := by
 rw [tbt_eq]
 rcases good_top h with ⟨h1, h2⟩ | ⟨h1, h2, h3⟩
 ·rw [decide_eq_true (by omega), cond_true]
  exact ⟨_, _, rfl, by decide⟩
 ·rw [decide_eq_false (by omega), cond_false]
  have hv := dd_val 20 t.prod.toNat (by omega) (by omega)
  have hd := itoa_dig h1
  rw [itoa_nn h1] at hd ⊢
  cases hh : dd 20 t.prod.toNat with
  | nil =>
   exfalso
   rw [dd] at hh
   split at hh <;> simp at hh
  | cons c l =>
   rw [hh] at hd
   exact ⟨c, _, rfl, (hd c (by simp)).1⟩
theorem tmk : ∀ t : TreeD, TreeD.mk t.prod t.byte t.kids = t
 | .mk _ _ _ => rfl
theorem ext_mid {s : ByteArray} {p m r : List UInt8} (h : s.data.toList = p ++ (m ++ r)) : s.extract p.length (p.length + m.length) = ⟨m.toArray⟩ := by
 apply ByteArray.ext
 rw [ByteArray.data_extract]
 apply Array.toList_inj.1
 rw [Array.toList_extract, h]
 simp [List.extract]
theorem tbk_split {l : List TreeD} {i : Nat} {x : TreeD} (h : l[i]? = some x) : tbk l = (tbr (l.take i) ++ [32]).drop 1 ++ (tbt x ++ tbr (l.drop (i + 1))) := by
 obtain ⟨hi, hx⟩ := gei.1 h
 have e : l = l.take i ++ x :: l.drop (i + 1) := by
  conv => lhs; rw [← List.take_append_drop i l, List.drop_eq_getElem_cons hi, hx]
 have e2 : tbr l = (tbr (l.take i) ++ [32]) ++ (tbt x ++ tbr (l.drop (i + 1))) := by
  conv => lhs; rw [e, tbr_app]
  simp [tbr]
 unfold tbk
 rw [e2, List.drop_append_of_le_length (by simp)]
abbrev bs (l : List UInt8) : ByteArray := ⟨l.toArray⟩
theorem bs_size (l : List UInt8) : (bs l).size = l.length := by rw [← len_d]
theorem bs_tl (l : List UInt8) : (bs l).data.toList = l := rfl
theorem bs_drop (p m : List UInt8) : (bs (p ++ m)).extract p.length (p ++ m).length = bs m := by
 have := ext_mid (s := bs (p ++ m)) (p := p) (m := m) (r := []) (by rw [bs_tl, List.append_nil])
 rw [lap]
 exact this
theorem bs_tail (c : UInt8) (l : List UInt8) : (bs (c :: l)).extract 1 (c :: l).length = bs l := bs_drop [c] l
theorem bs_head (c : UInt8) (l : List UInt8) : (bs (c :: l)).extract 0 1 = bs [c] := ext_mid (s := bs (c :: l)) (p := []) (m := [c]) (r := l) rfl
theorem bs_inj {a b : List UInt8} : bs a = bs b ↔ a = b := by
 constructor
 ·intro h
  have := congrArg (fun s : ByteArray => s.data.toList) h
  simpa using this
 ·rintro rfl; rfl
theorem beq_bs (a b : List UInt8) : ((bs a).toList == (bs b).toList) = decide (a = b) := by
 rw [bytes_list]
 by_cases h : a = b
 ·rw [decide_eq_true h, decide_eq_true (by rw [h])]
 ·rw [decide_eq_false h, decide_eq_false (fun e => h (bs_inj.1 e))]
def hd (x : UInt8) : List UInt8 → Bool
 | c :: _ => c == x
 | [] => false
theorem head_gen (x : UInt8) (l : List UInt8) : (bif (decide (((bs l).size : Int) ≥ 1)) then (bif (sl_ok 0 1 (bs l).size) then (some (((bs l).extract (Int.toNat 0) (Int.toNat 1)).toList == (bs [x]).toList)) else none) else (some false)) = some (hd x l) := by
 rw [bs_size]
 cases l with
 | nil => rfl
 | cons c l =>
  rw [decide_eq_true (by simp; omega), cond_true, show sl_ok 0 1 (c :: l).length = true from decide_eq_true ⟨by omega, by omega, by simp; omega⟩, cond_true]
  rw [show (Int.toNat 0) = 0 from rfl, show Int.toNat 1 = 1 from rfl, bs_head, beq_bs]
  congr 1
  simp only [hd, List.cons.injEq, and_true]
  rfl
theorem p43_2 (l : List UInt8) : F43_2 (bs l) = some (hd 41 l) := by
 unfold F43_2 F66_3
 rw [head_gen 41 l]; rfl
theorem p43_3 (l : List UInt8) : F43_3 (bs l) = some (hd 32 l) := by
 unfold F43_3 F66_4
 rw [head_gen 32 l]; rfl
theorem slS {n : Nat} (c : UInt8) (l : List UInt8) : sl_ok 1 ((bs (c :: l)).size : Int) (bs (c :: l)).size = true := by
 rw [bs_size]
 exact decide_eq_true ⟨by omega, by simp; omega, by omega⟩
theorem p38a (r : List UInt8) : F38_2 (bs (120 :: r)) = some (.k0 (bs r) true) := by
 have e : F60_2 (bs (120 :: r)) = some (.k0 (bs r) true) := by
  unfold F60_2 F66_2
  rw [head_gen 120 (120 :: r), bsm, show hd 120 (120 :: r) = true from rfl, cond_true, slS (n := 0), cond_true, bs_size, show Int.toNat 1 = 1 from rfl, Int.toNat_natCast, bs_tail]
 unfold F38_2
 rw [e]
 rfl
theorem p38b {l : List UInt8} (h : hd 120 l = false) : F38_2 (bs l) = some (.k0 (bs l) false) := by
 have e : F60_2 (bs l) = some (.k0 (bs l) false) := by
  unfold F60_2 F66_2
  rw [head_gen 120 l, bsm, h, cond_false]
 unfold F38_2
 rw [e]
 rfl
def cutL : List UInt8 → Option (List UInt8 × List UInt8)
 | [] => none
 | c :: l => bif c == 40 then some ([], l) else (cutL l).map fun p => (c :: p.1, p.2)
theorem cutL_some : ∀ {l d q : List UInt8}, cutL l = some (d, q) → l = d ++ 40 :: q ∧ (40 : UInt8) ∉ d
 | [], d, q, h => by simp [cutL] at h
 | c :: l, d, q, h => by
  rw [cutL] at h
  by_cases hc : c = 40
  ·subst hc
   simp at h
   obtain ⟨rfl, rfl⟩ := h
   exact ⟨rfl, by simp⟩
  ·rw [show (c == 40) = false by simpa using hc, cond_false] at h
   obtain ⟨⟨d', q'⟩, h1, h2⟩ := Option.map_eq_some_iff.1 h
   cases h2
   obtain ⟨rfl, h3⟩ := cutL_some h1
   exact ⟨rfl, by simp only [List.mem_cons, not_or]; exact ⟨fun e => hc e.symm, h3⟩⟩
theorem cutL_app {d q : List UInt8} (h : (40 : UInt8) ∉ d) : cutL (d ++ 40 :: q) = some (d, q) := by
 induction d with
 | nil => rfl
 | cons c d ih =>
  simp only [List.mem_cons, not_or] at h
  rw [List.cons_append, cutL, show (c == 40) = false by simpa using fun e => h.1 e.symm, cond_false, ih h.2]
  rfl
theorem idx_cut : ∀ l : List UInt8, Lib.indexByte l 40 = match cutL l with | some p => (p.1.length : Int) | none => -1
 | [] => rfl
 | c :: l => by
  rw [Lib.indexByte, cutL]
  by_cases hc : c = 40
  ·subst hc; rfl
  ·rw [show (c == 40) = false by simpa using hc, cond_false, if_neg (by simp), idx_cut l]
   cases cutL l with
   | none => rfl
   | some p =>
    simp only [Option.map_some, lcn]
    rw [if_neg (by simp)]
    simp
theorem p75 (l : List UInt8) : F75_2 (bs l) = some (Lib.indexByte l 40) := by
 unfold F75_2
 show (bif ((bs [40]).toList == (bs l).toList) then some 0 else _) = _
 rw [beq_bs]
 by_cases h : [40] = l
 ·subst h; rfl
 ·rw [decide_eq_false h, cond_false]
  show (F61 (bs l) 40).bind _ = _
  unfold F61
  show some (firstIdx (bs l) 40) = _
  rw [Lib.firstIdx_eq]
theorem p40s {l d q : List UInt8} (h : cutL l = some (d, q)) (hl : l.length ≤ 4000000) : F40_2 (bs l) = some (.k0 (bs d) (bs q) true) := by
 obtain ⟨rfl, _⟩ := cutL_some h
 have hlen : (d ++ 40 :: q).length = d.length + 1 + q.length := by simp; omega
 have e : F62_2 (bs (d ++ 40 :: q)) = some (.k0 (bs d) (bs q) true) := by
  unfold F62_2
  rw [p75, idx_cut, h]
  simp only [bsm]
  rw [decide_eq_true (show ((d.length : Int) ≥ 0) by omega), cond_true, bs_size, w_id (by omega)]
  rw [show sl_ok 0 (d.length : Int) (d ++ 40 :: q).length = true from decide_eq_true ⟨by omega, by omega, by omega⟩, cond_true]
  rw [show sl_ok ((d.length : Int) + 1) ((d ++ 40 :: q).length : Int) (d ++ 40 :: q).length = true from decide_eq_true ⟨by omega, by omega, by omega⟩, cond_true]
  have e1 : (bs (d ++ 40 :: q)).extract (Int.toNat 0) (Int.toNat (d.length : Int)) = bs d := by
   have := ext_mid (s := bs (d ++ 40 :: q)) (p := []) (m := d) (r := 40 :: q) rfl
   simpa using this
  have e2 : (bs (d ++ 40 :: q)).extract (Int.toNat ((d.length : Int) + 1)) (Int.toNat ((d ++ 40 :: q).length : Int)) = bs q := by
   have := ext_mid (s := bs (d ++ 40 :: q)) (p := d ++ [40]) (m := q) (r := []) (by simp)
   rw [Int.toNat_natCast, hlen, show Int.toNat ((d.length : Int) + 1) = d.length + 1 by omega]
   simpa using this
  rw [e1, e2]
 unfold F40_2
 rw [e]
 rfl
theorem p40n {l : List UInt8} (h : cutL l = none) : F40_2 (bs l) = some (.k0 (bs l) (bs []) false) := by
 have e : F62_2 (bs l) = some (.k0 (bs l) (bs []) false) := by
  unfold F62_2
  rw [p75, idx_cut, h]
  rfl
 unfold F40_2
 rw [e]
 rfl
def hexI (c : UInt8) : Int := Lib.indexByte hexL c
theorem p39 (c : UInt8) : F39_2 (c.toNat : Int) = some (hexI c) := by
 unfold F39_2 F61_2
 show some (firstIdx (bs hexL) (Int.toNat ((c.toNat : Nat) : Int)).toUInt8) = _
 rw [Lib.firstIdx_eq, Int.toNat_natCast]
 have : (c.toNat).toUInt8 = c := by simp
 rw [this]
 rfl
theorem hexI_all : ∀ c : UInt8, hexI c < 0 ∨ (0 ≤ hexI c ∧ hexI c < 16 ∧ hexd (hexI c).toNat = c) := by
 have h : ∀ n : _root_.Fin 256, hexI (UInt8.ofNat n.val) < 0 ∨ (0 ≤ hexI (UInt8.ofNat n.val) ∧ hexI (UInt8.ofNat n.val) < 16 ∧ hexd (hexI (UInt8.ofNat n.val)).toNat = UInt8.ofNat n.val) := by decide +kernel
 intro c
 have := h ⟨c.toNat, c.toNat_lt⟩
 simpa using this
theorem hexI_hexd : ∀ n : _root_.Fin 16, hexI (hexd n.val) = (n.val : Int) := by decide +kernel
theorem hexB_all : ∀ a b : _root_.Fin 16, hexB (a.val : Int) (b.val : Int) = 16 * (a.val : Int) + (b.val : Int) := by decide +kernel
theorem hexB_eq {a b : Int} (ha : 0 ≤ a ∧ a < 16) (hb : 0 ≤ b ∧ b < 16) : hexB a b = 16 * a + b := by
 have := hexB_all ⟨a.toNat, by omega⟩ ⟨b.toNat, by omega⟩
 simp only at this
 rwa [Int.toNat_of_nonneg ha.1, Int.toNat_of_nonneg hb.1] at this
section
variable {e : (TypeId × Value) × (TypeId × Value)} {k : Nat} {st : List TreeD} {t : TreeD} {b : Bool}
abbrev mk1 (x : TreeD) (t : TreeD) : TreeD := .mk x.prod x.byte (x.kids ++ [t])
theorem rd0 {s : ByteArray} : rd (some e) (k + 1) 0 st t b s = some (zT, 240) := by rw [rd]
theorem rd1n {l : List UInt8} : rd (some e) (k + 1) 1 [] t b (bs l) = bif !decide (l = []) then rd (some e) k 0 [] t b (bs l) else bif b then some (zT, 3) else some (t, 0) := by
 rw [rd]
 show (bif !((bs l).toList == (bs []).toList) then _ else _) = _
 rw [beq_bs]
theorem rd1s {x : TreeD} {l : List UInt8} : rd (some e) (k + 1) 1 (x :: st) t b (bs (32 :: l)) = rd (some e) k 2 (mk1 x t :: st) t b (bs l) := by
 rw [rd, p43_3, bsm, show hd 32 (32 :: l) = true from rfl, cond_true, slS (n := 0), cond_true, bs_size, show Int.toNat 1 = 1 from rfl, Int.toNat_natCast, bs_tail]
theorem rd1c {x : TreeD} {l : List UInt8} : rd (some e) (k + 1) 1 (x :: st) t b (bs (41 :: l)) = rd (some e) k 3 (mk1 x t :: st) t b (bs (41 :: l)) := by
 rw [rd, p43_3, bsm, show hd 32 (41 :: l) = false from rfl, cond_false, p43_2, bsm, show hd 41 (41 :: l) = true from rfl]
theorem rd1b {x : TreeD} {l : List UInt8} (h1 : hd 32 l = false) (h2 : hd 41 l = false) : rd (some e) (k + 1) 1 (x :: st) t b (bs l) = rd (some e) k 0 (mk1 x t :: st) t b (bs l) := by
 rw [rd, p43_3, bsm, h1, cond_false, p43_2, bsm, h2]
theorem rd3 {x : TreeD} {c : UInt8} {l : List UInt8} : rd (some e) (k + 1) 3 (x :: st) t b (bs (c :: l)) = rd (some e) k 1 st x b (bs l) := by
 rw [rd, slS (n := 0), cond_true, bs_size, show Int.toNat 1 = 1 from rfl, Int.toNat_natCast, bs_tail]
theorem rd2x {c0 c1 : UInt8} {r : List UInt8} : rd (some e) (k + 1) 2 st t b (bs (120 :: c0 :: c1 :: r)) = bif decide (hexI c0 < 0) || decide (hexI c1 < 0) then rd (some e) k 0 st t b (bs (120 :: c0 :: c1 :: r)) else rd (some e) k 1 st (.mk (-1) (hexB (hexI c0) (hexI c1)) []) (b || decide ((st.length : Int) ≥ 16384)) (bs r) := by
 rw [rd, p38a, bsm]
 simp only
 rw [Bool.true_and, decide_eq_true (show (((bs (c0 :: c1 :: r)).size : Int) ≥ 2) by rw [bs_size]; simp; omega), cond_true]
 rw [show getI (bs (c0 :: c1 :: r)).data.toList 0 = some c0 from rfl, show getI (bs (c0 :: c1 :: r)).data.toList 1 = some c1 from rfl]
 simp only [bsm, p39]
 congr 1
 rw [show (sl_ok 2 ((bs (c0 :: c1 :: r)).size : Int) (bs (c0 :: c1 :: r)).size && decide ((bs (c0 :: c1 :: r)).size ≤ (bs (120 :: c0 :: c1 :: r)).size)) = true from by
  rw [Bool.and_eq_true]
  refine ⟨decide_eq_true ⟨by omega, by rw [bs_size]; simp; omega, by omega⟩, decide_eq_true (by rw [bs_size, bs_size]; simp)⟩, cond_true]
 have := bs_drop [c0, c1] r
 rw [bs_size, show Int.toNat 2 = 2 from rfl, Int.toNat_natCast]
 congr 1
theorem p41 {d : List UInt8} (h : d.length ≤ 4000000) : (∃ v, Lib.parseIntB 32 d = .ok v ∧ F41 (some e) (bs d) = some (.k0 v)) ∨ ((∀ v, Lib.parseIntB 32 d ≠ .ok v) ∧ ∃ z, F41 (some e) (bs d) = some (.k1 z)) := by
 unfold F41
 rw [decide_eq_true (show (bs d).size ≤ 281474976710656 by rw [bs_size]; omega), cond_true]
 show (∃ v, _ ∧ (match Lib.parseIntB 32 d, true with | .ok n, _ => some (R_F41.k0 n) | Lib.NumEnd.syntax, true => some (.k1 0) | .range, true => some (.k1 (Lib.intSat 32 d)) | _, false => none) = _) ∨ (_ ∧ ∃ z, (match Lib.parseIntB 32 d, true with | .ok n, _ => some (R_F41.k0 n) | Lib.NumEnd.syntax, true => some (.k1 0) | .range, true => some (.k1 (Lib.intSat 32 d)) | _, false => none) = _)
 cases hp : Lib.parseIntB 32 d with
 | ok v => exact .inl ⟨v, rfl, rfl⟩
 | range => exact .inr ⟨fun v => by simp, _, rfl⟩
 | _ => exact .inr ⟨fun v => by simp, _, rfl⟩
theorem rd2c {l : List UInt8} (h : ∀ c0 c1 r, l ≠ 120 :: c0 :: c1 :: r) : rd (some e) (k + 1) 2 st t b (bs l) = (F40_2 (bs l)).bind fun r => match r with
     | .k0 d q ok2 => bif ok2 then (F41 (some e) d).bind fun v => match v with
       | .k0 v => (F42 v).bind fun y => bif !(y.toList == d.toList) || decide (v < 0) then rd (some e) k 0 st t b (bs l) else
         bif decide (q.size < (bs l).size) then (F43_2 q).bind fun cl => rd (some e) k (match cl with | true => 3 | false => 2) (.mk v 0 [] :: st) t (b || decide (((st.length + 1 : Nat) : Int) > 16384)) q else none
       | .k1 _ => rd (some e) k 0 st t b (bs l)
      else rd (some e) k 0 st t b (bs l) := by
 rw [rd]
 by_cases hx : hd 120 l = true
 ·match l, hx, h with
  | c :: r, hx, h =>
   have hc : c = 120 := by simpa [hd] using hx
   subst hc
   rw [p38a, bsm]
   simp only
   have : ¬ (((bs r).size : Int) ≥ 2) := by
    rw [bs_size]
    match r, h with
    | [], _ => simp
    | [_], _ => simp
    | c0 :: c1 :: r, h => exact absurd rfl (h c0 c1 r)
   rw [decide_eq_false this, Bool.and_false, cond_false]
   rfl
 ·rw [p38b (by simpa using hx), bsm]
  simp only
  rw [Bool.false_and, cond_false]
  rfl
theorem rd2b {v : Int} {q : List UInt8} (hv : 0 ≤ v ∧ v ≤ 2147483647) (hp : Lib.parseIntB 32 (itoaL v) = .ok v) (hl : (itoaL v ++ 40 :: q).length ≤ 4000000) : rd (some e) (k + 1) 2 st t b (bs (itoaL v ++ 40 :: q)) = rd (some e) k (match hd 41 q with | true => 3 | false => 2) (.mk v 0 [] :: st) t (b || decide (((st.length + 1 : Nat) : Int) > 16384)) (bs q) := by
 have hdg := itoa_dig hv.1
 have h40 : (40 : UInt8) ∉ itoaL v := fun hm => absurd (hdg 40 hm).1 (by decide)
 rw [rd2c (fun c0 c1 r hh => by
  cases hi : itoaL v with
  | nil => rw [hi] at hh; simp at hh
  | cons c m =>
   rw [hi] at hh
   simp only [List.cons_append, List.cons.injEq] at hh
   have := (hdg c (by rw [hi]; simp)).2
   rw [hh.1] at this
   exact absurd this (by decide)), p40s (cutL_app h40) hl, bsm]
 simp only [cond_true]
 simp only [lap, lcn] at hl
 rcases p41 (e := e) (d := itoaL v) (by omega) with ⟨u, h1, h2⟩ | ⟨h1, _⟩
 ·rw [hp] at h1
  cases h1
  rw [h2, bsm]
  simp only
  have : F42 v = some (bs (itoaL v)) := by
   unfold F42
   rw [decide_eq_true (by omega), cond_true]
  rw [this, bsm]
  rw [beq_bs, decide_eq_true rfl, Bool.not_true, Bool.false_or, decide_eq_false (by omega), cond_false, bs_size, bs_size, decide_eq_true (by simp; omega), cond_true, p43_2, bsm]
 ·exact absurd hp (h1 v)
theorem step2 {l : List UInt8} (hl : l.length ≤ 4000000) :
  (∃ c0 c1 r, l = 120 :: c0 :: c1 :: r ∧ (0 ≤ hexI c0 ∧ hexI c0 < 16 ∧ hexd (hexI c0).toNat = c0) ∧ (0 ≤ hexI c1 ∧ hexI c1 < 16 ∧ hexd (hexI c1).toNat = c1) ∧ ∀ k st t b, rd (some e) (k + 1) 2 st t b (bs l) = rd (some e) k 1 st (.mk (-1) (16 * hexI c0 + hexI c1) []) (b || decide ((st.length : Int) ≥ 16384)) (bs r))
  ∨ (∃ v q, (0 ≤ v ∧ v ≤ 2147483647) ∧ l = itoaL v ++ 40 :: q ∧ ∀ k st t b, rd (some e) (k + 1) 2 st t b (bs l) = rd (some e) k (match hd 41 q with | true => 3 | false => 2) (.mk v 0 [] :: st) t (b || decide (((st.length + 1 : Nat) : Int) > 16384)) (bs q))
  ∨ (∀ k st t b, rd (some e) (k + 1) 2 st t b (bs l) = rd (some e) k 0 st t b (bs l)) := by
 by_cases hx : ∃ c0 c1 r, l = 120 :: c0 :: c1 :: r
 ·obtain ⟨c0, c1, r, rfl⟩ := hx
  rcases hexI_all c0 with h0 | h0
  ·exact .inr (.inr fun k st t b => by rw [rd2x, decide_eq_true h0, Bool.true_or, cond_true])
  ·rcases hexI_all c1 with h1 | h1
   ·exact .inr (.inr fun k st t b => by rw [rd2x, decide_eq_true h1, Bool.or_true, cond_true])
   ·exact .inl ⟨c0, c1, r, rfl, h0, h1, fun k st t b => by rw [rd2x, decide_eq_false (by omega), decide_eq_false (by omega), Bool.or_self, cond_false, hexB_eq ⟨h0.1, h0.2.1⟩ ⟨h1.1, h1.2.1⟩]⟩
 ·have hx' : ∀ c0 c1 r, l ≠ 120 :: c0 :: c1 :: r := fun c0 c1 r hh => hx ⟨c0, c1, r, hh⟩
  cases hc : cutL l with
  | none => exact .inr (.inr fun k st t b => by rw [rd2c hx', p40n hc]; rfl)
  | some p =>
   obtain ⟨d, q⟩ := p
   obtain ⟨hlq, _⟩ := cutL_some hc
   have hdl : d.length ≤ 4000000 := by rw [hlq] at hl; simp at hl; omega
   rcases p41 (e := e) hdl with ⟨v, h1, h2⟩ | ⟨h1, z, h2⟩
   ·have hb := Lib.parseIntB_bounds h1
    have hF : F42 v = some (bs (itoaL v)) := by
     unfold F42
     rw [decide_eq_true (by omega), cond_true]
    by_cases hok : itoaL v = d ∧ 0 ≤ v
    ·obtain ⟨rfl, hv⟩ := hok
     refine .inr (.inl ⟨v, q, ⟨hv, by omega⟩, hlq, fun k st t b => ?_⟩)
     rw [hlq]
     exact rd2b ⟨hv, by omega⟩ h1 (by rw [← hlq]; exact hl)
    ·refine .inr (.inr fun k st t b => ?_)
     rw [rd2c hx', p40s hc hl, bsm]
     simp only [cond_true]
     rw [h2, bsm]
     simp only
     rw [hF, bsm]
     rw [beq_bs, show (!decide (itoaL v = d) || decide (v < 0)) = true from by
      by_cases h3 : itoaL v = d
      ·rw [decide_eq_true h3, Bool.not_true, Bool.false_or]
       exact decide_eq_true (by have hn : ¬ 0 ≤ v := fun q => hok ⟨h3, q⟩; omega)
      ·rw [decide_eq_false h3]; rfl, cond_true]
   ·refine .inr (.inr fun k st t b => ?_)
    rw [rd2c hx', p40s hc hl, bsm]
    simp only [cond_true]
    rw [h2, bsm]
end
def pre2 : List TreeD → List UInt8
 | [] => []
 | x :: st => pre2 st ++ (itoaL x.prod ++ 40 :: (tbr x.kids ++ [32]).drop 1)
def good (t : TreeD) : Prop := Ty t ∧ badT t = false
def okE (x : TreeD) : Prop := (0 ≤ x.prod ∧ x.prod ≤ 2147483647) ∧ x.byte = 0 ∧ ∀ k ∈ x.kids, good k
def Wd (lab : Nat) (st : List TreeD) (t : TreeD) (l : List UInt8) : List UInt8 := match lab, st with
 | 1, st => pre2 st ++ (tbt t ++ l)
 | 2, st => pre2 st ++ l
 | 3, x :: st => pre2 st ++ (itoaL x.prod ++ 40 :: (tbk x.kids ++ l))
 | _, _ => []
theorem tbr_snoc (ks : List TreeD) (t : TreeD) : tbr (ks ++ [t]) = (tbr ks ++ [32]) ++ tbt t := by
 rw [tbr_app]; simp [tbr]
theorem tbk_snoc (ks : List TreeD) (t : TreeD) : tbk (ks ++ [t]) = (tbr ks ++ [32]).drop 1 ++ tbt t := by
 unfold tbk
 rw [tbr_snoc, List.drop_append_of_le_length (by simp)]
theorem pre_snoc (ks : List TreeD) (t : TreeD) : (tbr (ks ++ [t]) ++ [32]).drop 1 = (tbr ks ++ [32]).drop 1 ++ (tbt t ++ [32]) := by
 rw [tbr_snoc, List.append_assoc, List.drop_append_of_le_length (by simp)]
theorem ty_eta {t : TreeD} (h1 : -9223372036854775808 ≤ t.prod ∧ t.prod ≤ 9223372036854775807) (h2 : 0 ≤ t.byte ∧ t.byte ≤ 255) (h3 : ∀ x ∈ t.kids, Ty x) : Ty t := by
 cases t with | mk p b l => exact .mk h1 h2 h3
theorem okE_good {x : TreeD} (h : okE x) : good x := by
 obtain ⟨h1, h2, h3⟩ := h
 refine ⟨ty_eta ⟨by omega, by omega⟩ ⟨by omega, by omega⟩ (fun y hy => (h3 y hy).1), ?_⟩
 rw [badT_eq, badTs_any, Bool.or_eq_false_iff]
 constructor
 ·unfold bad1
  rw [decide_eq_false (show ¬ x.prod < -1 by omega), decide_eq_false (show ¬ x.prod > 2147483647 by omega), show (x.prod == -1) = false from by simpa using by omega, show (x.byte != 0) = false from by simpa using h2]
  simp
 ·rw [List.any_eq_false]
  intro y hy
  simpa using (h3 y hy).2
theorem leaf_good {a b : Int} (ha : 0 ≤ a ∧ a < 16) (hb : 0 ≤ b ∧ b < 16) : good (.mk (-1) (16 * a + b) []) := by
 refine ⟨.mk ⟨by omega, by omega⟩ ⟨by omega, by omega⟩ (by simp), ?_⟩
 rw [badT_eq]
 simp [bad1, TreeD.prod, TreeD.kids, TreeD.byte, badTs]
theorem leaf_tb {a b : Int} (ha : 0 ≤ a ∧ a < 16) (hb : 0 ≤ b ∧ b < 16) : tbt (.mk (-1) (16 * a + b) []) = [120, hexd a.toNat, hexd b.toNat] := by
 rw [tbt_eq]
 have e1 : (16 * a + b).toNat / 16 = a.toNat := by omega
 have e2 : (16 * a + b).toNat % 16 = b.toNat := by omega
 show (bif decide ((-1 : Int) < 0) then [120, hexd ((16 * a + b).toNat / 16), hexd ((16 * a + b).toNat % 16)] else _) = _
 rw [e1, e2]
 rfl
theorem node_tb {x : TreeD} (h : 0 ≤ x.prod) : tbt x = itoaL x.prod ++ 40 :: (tbk x.kids ++ [41]) := by
 rw [tbt_eq, decide_eq_false (by omega), cond_false]
def wt (lab : Nat) : Nat := match lab with | 1 => 2 | 2 => 3 | 3 => 1 | _ => 0
theorem hd_cons {x : UInt8} {l : List UInt8} (h : hd x l = true) : ∃ r, l = x :: r := by
 cases l with
 | nil => cases h
 | cons c r =>
  have h' : c = x := by simpa [hd] using h
  exact ⟨r, by rw [h']⟩
theorem vald_ge : ∀ (l : List UInt8) (n : Nat), n ≤ vald l n
 | [], n => Nat.le_refl _
 | c :: l, n => by
  have := vald_ge l (10 * n + (c.toNat - 48))
  simp only [vald]
  omega
theorem pU {M : Nat} (hM : M < 4294967296) : ∀ (l : List UInt8) (acc : Nat), (∀ c ∈ l, 48 ≤ c.toNat ∧ c.toNat ≤ 57) → vald l acc ≤ M → Lib.parseUintM M acc l = .ok (vald l acc)
 | [], acc, _, _ => rfl
 | c :: l, acc, hd, hv => by
  have h1 := vald_ge (c :: l) acc
  simp only [vald] at hv
  have h2 := vald_ge l (10 * acc + (c.toNat - 48))
  rw [Lib.parseUintM, if_pos (hd c (by simp)), if_neg (by omega), if_neg (by omega), show acc * 10 + (c.toNat - 48) = 10 * acc + (c.toNat - 48) by omega, pU hM l _ (fun x hx => hd x (by simp [hx])) hv]
  rfl
theorem p_itoa {v : Int} (hv : 0 ≤ v ∧ v ≤ 2147483647) : Lib.parseIntB 32 (itoaL v) = .ok v := by
 have hd := itoa_dig hv.1
 have hval : vald (itoaL v) 0 = v.toNat := by rw [itoa_nn hv.1]; exact dd_val 20 _ (by omega) (by omega)
 have hU : Lib.parseUintB 32 (itoaL v) = .ok v.toNat := by
  unfold Lib.parseUintB
  rw [if_neg, pU (by omega) (itoaL v) 0 hd (by rw [hval]; omega), hval]
  intro h
  rw [h] at hval
  have hz : v.toNat = 0 := hval.symm
  have : itoaL v = itoaL 0 := by rw [show v = 0 by omega]
  rw [h] at this
  exact absurd this (by decide)
 cases hi : itoaL v with
 | nil =>
  rw [hi] at hU
  cases hU
 | cons c r =>
  have hc := hd c (by rw [hi]; simp)
  rw [hi] at hU
  unfold Lib.parseIntB
  simp only
  rw [if_neg (by omega), hU]
  simp only
  rw [if_neg (by omega), if_neg (by omega), if_neg (by omega)]
  congr 1
  omega
mutual
def costT : TreeD → Nat
 | .mk p _ l => bif decide (p < 0) then 1 else 2 + costs l
def costs : List TreeD → Nat
 | [] => 0
 | t :: l => costT t + 1 + costs l
end
theorem costT_eq : ∀ t : TreeD, costT t = bif decide (t.prod < 0) then 1 else 2 + costs t.kids
 | .mk _ _ _ => by rw [costT]; rfl
theorem tb_ge : ∀ (N : Nat) (t : TreeD), tc t ≤ N → badT t = false → 3 * tc t ≤ (tbt t).length ∧ costT t + 1 ≤ 3 * tc t
 | 0, t, h, _ => by have := tc_pos t; omega
 | N + 1, t, h, hg => by
  have htc := tc_eq t
  have key : ∀ l : List TreeD, tcs l ≤ N → (∀ x ∈ l, badT x = false) → 3 * tcs l + l.length ≤ (tbr l).length ∧ costs l ≤ 3 * tcs l := by
   intro l
   induction l with
   | nil => intro _ _; simp [tbr, tcs, costs]
   | cons x l ih =>
    intro hl hb
    simp only [tcs] at hl
    have h1 := tb_ge N x (by omega) (hb x (by simp))
    have h2 := ih (by omega) (fun y hy => hb y (by simp [hy]))
    simp only [tbr, tcs, costs, lcn, lap]
    omega
  have h1 := key t.kids (by omega) (fun x hx => good_kid hg hx)
  rw [tbt_eq, costT_eq]
  rcases good_top hg with ⟨g1, g2⟩ | ⟨g1, g2, g3⟩
  ·rw [decide_eq_true (by omega), cond_true, cond_true, htc, g2]
   simp [tcs]
  ·rw [decide_eq_false (by omega), cond_false, cond_false]
   obtain ⟨c, m, hc, _⟩ := tb_head hg
   have hi : 1 ≤ (itoaL t.prod).length := by
    cases hh : itoaL t.prod with
    | nil =>
     have hv := p_itoa ⟨g1, g2⟩
     rw [hh] at hv
     cases hv
    | cons c l => simp
   simp only [lap, lcn, List.length_drop, List.length_nil]
   have : t.kids.length = 0 → tcs t.kids = 0 := fun hz => by rw [enz hz]; rfl
   omega
theorem fwd {e : (TypeId × Value) × (TypeId × Value)} : ∀ (N : Nat) (t : TreeD), tc t ≤ N → good t → ∀ (k : Nat) (st : List TreeD) (t0 : TreeD) (b : Bool) (r : List UInt8), tc t + st.length ≤ 16384 → (tbt t ++ r).length ≤ 4000000 →
  rd (some e) (k + costT t) 2 st t0 b (bs (tbt t ++ r)) = rd (some e) k 1 st t b (bs r)
 | 0, t, h, _, _, _, _, _, _, _, _ => by have := tc_pos t; omega
 | N + 1, t, h, hg, k, st, t0, b, r, hst, hlen => by
  have htc := tc_eq t
  have hp := tc_pos t
  rcases good_top hg.2 with ⟨g1, g2⟩ | ⟨g1, g2, g3⟩
  ·have hby := hg.1.by
   have e1 := hexI_hexd ⟨t.byte.toNat / 16, by omega⟩
   have e2 := hexI_hexd ⟨t.byte.toNat % 16, by omega⟩
   simp only at e1 e2
   rw [costT_eq, tbt_eq, decide_eq_true (by omega), cond_true, cond_true]
   show rd (some e) (k + 1) 2 st t0 b (bs (120 :: hexd (t.byte.toNat / 16) :: hexd (t.byte.toNat % 16) :: r)) = _
   rw [rd2x, e1, e2, decide_eq_false (by omega), decide_eq_false (by omega), Bool.or_self, cond_false, hexB_eq ⟨by omega, by omega⟩ ⟨by omega, by omega⟩, decide_eq_false (by omega), Bool.or_false]
   congr 1
   exact tree_ext g1.symm (by show 16 * ((t.byte.toNat / 16 : Nat) : Int) + ((t.byte.toNat % 16 : Nat) : Int) = t.byte; omega) g2.symm
  ·have kidsL : ∀ (ks dn : List TreeD) (k : Nat) (t0 : TreeD) (r : List UInt8), ks ≠ [] → (∀ x ∈ ks, good x ∧ tc x ≤ N) → tcs ks + st.length + 1 ≤ 16384 → (tbk ks ++ 41 :: r).length ≤ 4000000 →
     rd (some e) (k + 1 + costs ks) 2 (.mk t.prod 0 dn :: st) t0 b (bs (tbk ks ++ 41 :: r)) = rd (some e) k 1 st (.mk t.prod 0 (dn ++ ks)) b (bs r) := by
    intro ks
    induction ks with
    | nil => intro _ _ _ _ h; exact absurd rfl h
    | cons x ks ih =>
     intro dn k t0 r _ hks hcs hlen
     have hx := hks x (by simp)
     simp only [tcs] at hcs
     have ht : tbk (x :: ks) ++ 41 :: r = tbt x ++ (tbr ks ++ 41 :: r) := by simp [tbk, tbr]
     rw [ht] at hlen ⊢
     rw [show k + 1 + costs (x :: ks) = (k + 1 + costs ks + 1) + costT x by simp only [costs]; omega]
     rw [fwd N x hx.2 hx.1 _ _ _ _ _ (by simp only [lcn]; omega) hlen]
     cases ks with
     | nil =>
      show rd (some e) (k + 1 + 0 + 1) 1 _ x b (bs (41 :: r)) = _
      rw [rd1c]
      show rd (some e) (k + 1) 3 _ x b (bs (41 :: r)) = _
      rw [rd3]
      rfl
     | cons y ks =>
      have ht2 : tbr (y :: ks) ++ 41 :: r = 32 :: (tbk (y :: ks) ++ 41 :: r) := by simp [tbk, tbr]
      rw [ht2, rd1s]
      rw [ht2] at hlen
      have := ih (dn ++ [x]) k x r (by simp) (fun z hz => hks z (by simp only [List.mem_cons] at hz ⊢; exact .inr hz)) (by omega) (by simp only [lap, lcn] at hlen ⊢; omega)
      rw [List.append_assoc] at this
      exact this
   have hnode : tbt t ++ r = itoaL t.prod ++ 40 :: (tbk t.kids ++ 41 :: r) := by rw [node_tb g1]; simp
   rw [hnode] at hlen ⊢
   rw [costT_eq, decide_eq_false (by omega), cond_false, show k + (2 + costs t.kids) = (k + 1 + costs t.kids) + 1 by omega]
   rw [rd2b ⟨g1, g2⟩ (p_itoa ⟨g1, g2⟩) hlen, decide_eq_false (by omega), Bool.or_false]
   have htt : TreeD.mk t.prod 0 t.kids = t := tree_ext rfl g3.symm rfl
   cases hk : t.kids with
   | nil =>
    show rd (some e) (k + 1 + 0) 3 _ t0 b (bs (41 :: r)) = _
    rw [show k + 1 + 0 = k + 1 from rfl, rd3]
    rw [hk] at htt
    rw [htt]
   | cons x ks =>
    have hf : hd 41 (tbk (x :: ks) ++ 41 :: r) = false := by
     obtain ⟨c, m, hc, h48⟩ := tb_head (good_kid hg.2 (by rw [hk]; simp : x ∈ t.kids))
     have : tbk (x :: ks) ++ 41 :: r = c :: (m ++ (tbr ks ++ 41 :: r)) := by simp [tbk, tbr, hc]
     rw [this]
     have : c ≠ 41 := by
      rintro rfl
      exact absurd h48 (by decide)
     simpa [hd] using this
    rw [hf]
    have := kidsL (x :: ks) [] k t0 r (by simp) (fun z hz => by
     have hz : z ∈ t.kids := by rw [hk]; exact hz
     have := tcs_mem hz
     exact ⟨⟨hg.1.kid hz, good_kid hg.2 hz⟩, by omega⟩) (by rw [hk] at htc; omega) (by rw [hk] at hlen; simp only [lap, lcn] at hlen ⊢; omega)
    rw [List.nil_append] at this
    rw [hk] at htt
    rw [htt] at this
    exact this
theorem read_term {e : (TypeId × Value) × (TypeId × Value)} {t : TreeD} (hg : good t) (ht : tc t ≤ 2000) : readF (some e) (bs (tbt t)) = some (t, 0) := by
 have h1 := tb_len (tc t) t (Nat.le_refl _)
 have h2 := tb_ge (tc t) t (Nat.le_refl _) hg.2
 unfold readF
 rw [bs_size, decide_eq_false (by omega), cond_false]
 obtain ⟨k, hk⟩ : ∃ k, 4 * (tbt t).length + 8 = (k + 1) + costT t := ⟨4 * (tbt t).length + 7 - costT t, by omega⟩
 have := fwd (e := e) (tc t) t (Nat.le_refl _) hg (k + 1) [] zT false [] (by simp; omega) (by simp; omega)
 rw [List.append_nil] at this
 rw [hk, this, rd1n]
 rfl
theorem back2 {e : (TypeId × Value) × (TypeId × Value)} : ∀ (k lab : Nat) (st : List TreeD) (t : TreeD) (l : List UInt8), st.length + l.length < 16384 → 2 * l.length + wt lab < k → l.length ≤ 4000000 → (∀ x ∈ st, okE x) → (lab = 1 → good t) → (lab = 3 → st ≠ [] ∧ hd 41 l = true) → lab ≤ 3 →
  ∃ r, rd (some e) k lab st t false (bs l) = some r ∧ ((r.2 = 0 ∧ good r.1 ∧ tbt r.1 = Wd lab st t l) ∨ r = (zT, 240))
 | 0, _, _, _, _, _, h, _, _, _, _, _ => by omega
 | k + 1, lab, st, t, l, hdp, hk, hl, hst, ht, h3, hlab => by
  have h0 : ∀ (lab' : Nat) (st st' : List TreeD) (t t' : TreeD) (l : List UInt8), 0 < k → ∃ r, rd (some e) k 0 st t false (bs l) = some r ∧ ((r.2 = 0 ∧ good r.1 ∧ tbt r.1 = Wd lab' st' t' l) ∨ r = (zT, 240)) := fun lab' st st' t t' l hk => by
   obtain ⟨k', rfl⟩ : ∃ k', k = k' + 1 := ⟨k - 1, by omega⟩
   exact ⟨_, rd0, .inr rfl⟩
  match lab, hlab, ht, h3, hk with
  | 0, _, _, _, _ => exact ⟨_, rd0, .inr rfl⟩
  | 2, _, _, _, hk =>
   have hk : 2 * l.length + 3 < k + 1 := hk
   rcases step2 (e := e) hl with ⟨c0, c1, r, rfl, q0, q1, hs⟩ | ⟨v, q, hv, rfl, hs⟩ | hs
   ·rw [hs, decide_eq_false (by simp only [lcn] at hdp; omega), Bool.or_false]
    simp only [lcn] at hk hl
    obtain ⟨z, z1, z2⟩ := back2 k 1 st (.mk (-1) (16 * hexI c0 + hexI c1) []) r (by simp only [lcn] at hdp; omega) (by show 2 * r.length + 2 < k; omega) (by omega) hst (fun _ => leaf_good ⟨q0.1, q0.2.1⟩ ⟨q1.1, q1.2.1⟩) (fun h => by cases h) (by omega)
    refine ⟨z, z1, z2.imp (fun hz => ⟨hz.1, hz.2.1, ?_⟩) id⟩
    rw [hz.2.2]
    show pre2 st ++ (tbt _ ++ r) = pre2 st ++ (120 :: c0 :: c1 :: r)
    rw [leaf_tb ⟨q0.1, q0.2.1⟩ ⟨q1.1, q1.2.1⟩, q0.2.2, q1.2.2]
    rfl
   ·simp only [lap, lcn] at hdp
    rw [hs, decide_eq_false (by omega), Bool.or_false]
    simp only [lap, lcn] at hk hl
    have hx : ∀ x ∈ TreeD.mk v 0 [] :: st, okE x := by
     intro x hx
     rcases List.mem_cons.1 hx with rfl | hx
     ·exact ⟨hv, rfl, by intro k hk; simp [TreeD.kids] at hk⟩
     ·exact hst x hx
    cases h41 : hd 41 q with
    | true =>
     obtain ⟨z, z1, z2⟩ := back2 k 3 (.mk v 0 [] :: st) t q (by simp only [lcn]; omega) (by show 2 * q.length + 1 < k; omega) (by omega) hx (fun h => by cases h) (fun _ => ⟨by simp, h41⟩) (by omega)
     refine ⟨z, z1, z2.imp (fun hz => ⟨hz.1, hz.2.1, ?_⟩) id⟩
     rw [hz.2.2]
     show pre2 st ++ (itoaL v ++ 40 :: (tbk [] ++ q)) = pre2 st ++ (itoaL v ++ 40 :: q)
     rfl
    | false =>
     obtain ⟨z, z1, z2⟩ := back2 k 2 (.mk v 0 [] :: st) t q (by simp only [lcn]; omega) (by show 2 * q.length + 3 < k; omega) (by omega) hx (fun h => by cases h) (fun h => by cases h) (by omega)
     refine ⟨z, z1, z2.imp (fun hz => ⟨hz.1, hz.2.1, ?_⟩) id⟩
     rw [hz.2.2]
     show (pre2 st ++ (itoaL v ++ 40 :: [])) ++ q = pre2 st ++ (itoaL v ++ 40 :: q)
     simp
   ·rw [hs]
    exact h0 2 st st t t l (by omega)
  | 3, _, _, h3, hk =>
   obtain ⟨h31, h32⟩ := h3 rfl
   obtain ⟨r, rfl⟩ := hd_cons h32
   match st, h31, hst with
   | x :: st, _, hst =>
    rw [rd3]
    have hk : 2 * (r.length + 1) + 1 < k + 1 := hk
    simp only [lcn] at hl
    have hx := hst x (by simp)
    obtain ⟨z, z1, z2⟩ := back2 k 1 st x r (by simp only [lcn] at hdp; omega) (by show 2 * r.length + 2 < k; omega) (by omega) (fun y hy => hst y (by simp [hy])) (fun _ => okE_good hx) (fun h => by cases h) (by omega)
    refine ⟨z, z1, z2.imp (fun hz => ⟨hz.1, hz.2.1, ?_⟩) id⟩
    rw [hz.2.2]
    show pre2 st ++ (tbt x ++ r) = pre2 st ++ (itoaL x.prod ++ 40 :: (tbk x.kids ++ 41 :: r))
    rw [node_tb hx.1.1]
    simp
  | 1, _, ht, _, hk =>
   have hk : 2 * l.length + 2 < k + 1 := hk
   have ht := ht rfl
   match st, hst with
   | [], _ =>
    rw [rd1n]
    by_cases hn : l = []
    ·subst hn
     rw [decide_eq_true rfl, Bool.not_true, cond_false]
     ·refine ⟨_, rfl, .inl ⟨rfl, ht, ?_⟩⟩
      show tbt t = [] ++ (tbt t ++ [])
      simp
    ·rw [decide_eq_false hn, Bool.not_false, cond_true]
     exact h0 1 [] [] t t l (by omega)
   | x :: st, hst =>
    have hx := hst x (by simp)
    have hx' : ∀ y ∈ mk1 x t :: st, okE y := by
     intro y hy
     rcases List.mem_cons.1 hy with rfl | hy
     ·refine ⟨hx.1, hx.2.1, fun u hu => ?_⟩
      rcases List.mem_append.1 hu with hu | hu
      ·exact hx.2.2 u hu
      ·simp only [List.mem_singleton] at hu
       subst hu
       exact ht
     ·exact hst y (by simp [hy])
    cases h32 : hd 32 l with
    | true =>
     obtain ⟨r, rfl⟩ := hd_cons h32
     rw [rd1s]
     simp only [lcn] at hk hl
     obtain ⟨z, z1, z2⟩ := back2 k 2 (mk1 x t :: st) t r (by simp only [lcn] at hdp ⊢; omega) (by show 2 * r.length + 3 < k; omega) (by omega) hx' (fun h => by cases h) (fun h => by cases h) (by omega)
     refine ⟨z, z1, z2.imp (fun hz => ⟨hz.1, hz.2.1, ?_⟩) id⟩
     rw [hz.2.2]
     show (pre2 st ++ (itoaL x.prod ++ 40 :: (tbr (x.kids ++ [t]) ++ [32]).drop 1)) ++ r = (pre2 st ++ (itoaL x.prod ++ 40 :: (tbr x.kids ++ [32]).drop 1)) ++ (tbt t ++ 32 :: r)
     rw [pre_snoc]
     simp
    | false =>
     cases h41 : hd 41 l with
     | true =>
      obtain ⟨r, rfl⟩ := hd_cons h41
      rw [rd1c]
      obtain ⟨z, z1, z2⟩ := back2 k 3 (mk1 x t :: st) t (41 :: r) (by simp only [lcn] at hdp ⊢; omega) (by show 2 * (41 :: r).length + 1 < k; omega) hl hx' (fun h => by cases h) (fun _ => ⟨by simp, rfl⟩) (by omega)
      refine ⟨z, z1, z2.imp (fun hz => ⟨hz.1, hz.2.1, ?_⟩) id⟩
      rw [hz.2.2]
      show pre2 st ++ (itoaL x.prod ++ 40 :: (tbk (x.kids ++ [t]) ++ 41 :: r)) = (pre2 st ++ (itoaL x.prod ++ 40 :: (tbr x.kids ++ [32]).drop 1)) ++ (tbt t ++ 41 :: r)
      rw [tbk_snoc]
      simp
     | false =>
      rw [rd1b h32 h41]
      exact h0 1 (mk1 x t :: st) (x :: st) t t l (by omega)
theorem read_two {e : (TypeId × Value) × (TypeId × Value)} {l : List UInt8} (hl : l.length ≤ 5000) : ∃ r, readF (some e) (bs l) = some r ∧ ((r.2 = 0 ∧ good r.1 ∧ tbt r.1 = l) ∨ r = (zT, 240)) := by
 unfold readF
 rw [bs_size, decide_eq_false (by omega), cond_false]
 exact back2 (e := e) (4 * l.length + 8) 2 [] zT l (by simp; omega) (by show 2 * l.length + 3 < 4 * l.length + 8; omega) (by omega) (by simp) (fun h => by cases h) (fun h => by cases h) (by omega)
theorem p67 (c : UInt8) : F67 (c.toNat : Int) = some (hexI c) := by
 have h : ∀ n : _root_.Fin 256, F67 (((UInt8.ofNat n.val).toNat : Nat) : Int) = some (hexI (UInt8.ofNat n.val)) := by decide +kernel
 have := h ⟨c.toNat, c.toNat_lt⟩
 simpa using this
theorem digs {s : ByteArray} (hs : s.size ≤ 4000000) : ∀ (l P : List UInt8) (n : Nat), s.data.toList = P ++ l → n ≤ 30000000000 → ∃ D R, l = D ++ R ∧ (∀ c ∈ D, 48 ≤ c.toNat ∧ c.toNat ≤ 57) ∧ runL (fun z => L44_1_2 s z.1 z.2) ((P.length : Int), (n : Int)) = some (.k0 ((P.length + D.length : Nat) : Int) ((vald D n : Nat) : Int)) ∧ (vald D n > 2147483647 ∨ ∀ c r, R = c :: r → ¬ (48 ≤ c.toNat ∧ c.toNat ≤ 57))
 | [], P, n, h, hn => by
  have hsz : s.size = P.length := by rw [← len_d, h]; simp
  refine ⟨[], [], rfl, by simp, runL_done ?_, .inr (fun c r h => by cases h)⟩
  simp only [L44_1_2, hsz, decide_eq_false (show ¬ ((P.length : Int) < (P.length : Int)) by omega), cond_false]
  rfl
 | c :: l, P, n, h, hn => by
  have hsz : s.size = P.length + (l.length + 1) := by rw [← len_d, h]; simp
  have hx : s.data.toList[P.length]? = some c := by rw [h]; simp
  have hlt : decide ((P.length : Int) < (s.size : Int)) = true := decide_eq_true (by omega)
  by_cases hd : 48 ≤ c.toNat ∧ c.toNat ≤ 57
  ·by_cases hv : n ≤ 2147483647
   ·obtain ⟨D, R, e1, e2, e3, e4⟩ := digs hs l (P ++ [c]) (10 * n + (c.toNat - 48)) (by rw [h]; simp) (by omega)
    refine ⟨c :: D, R, by rw [e1]; rfl, fun x hx => by rcases List.mem_cons.1 hx with rfl | hx; exact hd; exact e2 x hx, ?_, e4⟩
    refine (runL_next (s' := (((P ++ [c]).length : Int), ((10 * n + (c.toNat - 48) : Nat) : Int))) ?_).trans ?_
    ·simp only [L44_1_2, hlt, cond_true, getI_nat, hx, bsm]
     rw [decide_eq_true (show ((c.toNat : Int) ≥ 48) by omega), cond_true, decide_eq_true (show ((c.toNat : Int) ≤ 57) by omega), cond_true, decide_eq_true (show ((n : Int) ≤ 2147483647) by omega), cond_true]
     have hu : IntKind.wrap .u8 ((c.toNat : Int) - 48) = (c.toNat : Int) - 48 := IntWalk.u8_in _ (by omega)
     rw [hu, w_id (x := (c.toNat : Int) - 48) (by omega), w_id (x := 10 * (n : Int)) (by omega), w_id (x := (P.length : Int) + 1) (by omega), w_id (x := 10 * (n : Int) + ((c.toNat : Int) - 48)) (by omega)]
     congr 4
     ·simp
     ·omega
    ·rw [e3]
     simp [vald]
     omega
   ·refine ⟨[], c :: l, rfl, by simp, runL_done ?_, .inl (by show n > 2147483647; omega)⟩
    simp only [L44_1_2, hlt, cond_true, getI_nat, hx, bsm]
    rw [decide_eq_true (show ((c.toNat : Int) ≥ 48) by omega), cond_true, decide_eq_true (show ((c.toNat : Int) ≤ 57) by omega), cond_true, decide_eq_false (show ¬ ((n : Int) ≤ 2147483647) by omega), cond_false]
    rfl
  ·refine ⟨[], c :: l, rfl, by simp, runL_done ?_, .inr (fun c' r h' => by cases h'; exact hd)⟩
   simp only [L44_1_2, hlt, cond_true, getI_nat, hx, bsm]
   by_cases h48 : 48 ≤ c.toNat
   ·rw [decide_eq_true (show ((c.toNat : Int) ≥ 48) by omega), cond_true, decide_eq_false (show ¬ ((c.toNat : Int) ≤ 57) by omega), cond_false]
    rfl
   ·rw [decide_eq_false (show ¬ ((c.toNat : Int) ≥ 48) by omega), cond_false]
    rfl
theorem t44x {rF : T_F44_2} {s : ByteArray} {P : List UInt8} {c0 c1 : UInt8} {q : List UInt8} (h : s.data.toList = P ++ 120 :: c0 :: c1 :: q) (hs : s.size ≤ 4000000) :
  F44_2_b rF s (P.length : Int) = some (bif decide (hexI c0 < 0) then .k0 0 0 [] (-1) else bif decide (hexI c1 < 0) then .k0 0 0 [] (-1) else .k0 (-1) (16 * hexI c0 + hexI c1) [] ((P.length + 3 : Nat) : Int)) := by
 have hsz : s.size = P.length + (q.length + 3) := by rw [← len_d, h]; simp
 have x0 : s.data.toList[P.length]? = some 120 := by rw [h]; simp
 have x1 : s.data.toList[P.length + 1]? = some c0 := by rw [h]; simp
 have x2 : s.data.toList[P.length + 2]? = some c1 := by rw [h]; simp
 have g1 : getI s.data.toList ((P.length : Int) + 1) = some c0 := by rw [show (P.length : Int) + 1 = ((P.length + 1 : Nat) : Int) by omega, getI_nat, x1]
 have g2 : getI s.data.toList ((P.length : Int) + 2) = some c1 := by rw [show (P.length : Int) + 2 = ((P.length + 2 : Nat) : Int) by omega, getI_nat, x2]
 unfold F44_2_b
 rw [decide_eq_true (show (P.length : Int) < (s.size : Int) by omega), cond_true, getI_nat, x0, bsm]
 rw [show (((120 : UInt8).toNat : Int) == 120) = true from rfl, cond_true, w_id (x := (s.size : Int) - (P.length : Int)) (by omega), decide_eq_false (show ¬ ((s.size : Int) - (P.length : Int) < 3) by omega), cond_false]
 rw [w_id (x := (P.length : Int) + 1) (by omega), w_id (x := (P.length : Int) + 2) (by omega), w_id (x := (P.length : Int) + 3) (by omega), g1, bsm, p67, bsm]
 rcases hexI_all c0 with h0 | h0
 ·rw [decide_eq_true h0]; rfl
 ·rw [decide_eq_false (by omega), cond_false, cond_false, g2, bsm, p67, bsm]
  rcases hexI_all c1 with h1 | h1
  ·rw [decide_eq_true h1]; rfl
  ·rw [decide_eq_false (by omega), cond_false, cond_false]
   simp only [bsm]
   rw [w_id (x := 16 * hexI c0) (by omega), w_id (x := 16 * hexI c0 + hexI c1) (by omega), show IntKind.wrap .u8 (16 * hexI c0 + hexI c1) = 16 * hexI c0 + hexI c1 from IntWalk.u8_in _ (by omega)]
   congr 2
theorem t44y {rF : T_F44_2} {s : ByteArray} {P l : List UInt8} (h : s.data.toList = P ++ 120 :: l) (hl : l.length < 2) (hs : s.size ≤ 4000000) : F44_2_b rF s (P.length : Int) = some (.k0 0 0 [] (-1)) := by
 have hsz : s.size = P.length + (l.length + 1) := by rw [← len_d, h]; simp
 have x0 : s.data.toList[P.length]? = some 120 := by rw [h]; simp
 unfold F44_2_b
 rw [decide_eq_true (show (P.length : Int) < (s.size : Int) by omega), cond_true, getI_nat, x0, bsm]
 rw [show (((120 : UInt8).toNat : Int) == 120) = true from rfl, cond_true, w_id (x := (s.size : Int) - (P.length : Int)) (by omega), decide_eq_true (show ((s.size : Int) - (P.length : Int) < 3) by omega), cond_true]
theorem vald_big : ∀ (l : List UInt8) (n : Nat), n * 10 ^ l.length ≤ vald l n
 | [], n => by simp [vald]
 | c :: l, n => by
  have := vald_big l (10 * n + (c.toNat - 48))
  simp only [vald, lcn, Nat.pow_succ]
  refine Nat.le_trans ?_ this
  rw [show n * (10 ^ l.length * 10) = (10 * n) * 10 ^ l.length by rw [Nat.mul_comm (10 ^ l.length) 10, ← Nat.mul_assoc, Nat.mul_comm n 10]]
  exact Nat.mul_le_mul_right _ (by omega)
theorem dd_of : ∀ (k : Nat) (c : UInt8) (r : List UInt8), (∀ x ∈ c :: r, 48 ≤ x.toNat ∧ x.toNat ≤ 57) → (r ≠ [] → c ≠ 48) → r.length < k → dd k (vald (c :: r) 0) = c :: r
 | 0, _, _, _, _, h => by omega
 | k + 1, c, r, hd, hz, hk => by
  rcases List.eq_nil_or_concat r with rfl | ⟨r', x, rfl⟩
  ·have hc := hd c (by simp)
   show dd (k + 1) (10 * 0 + (c.toNat - 48)) = [c]
   rw [dd, show Nat.blt (10 * 0 + (c.toNat - 48)) 10 = true from by rw [Nat.blt_eq]; omega]
   show [UInt8.ofNat (48 + (10 * 0 + (c.toNat - 48)))] = [c]
   congr 1
   apply UInt8.toNat_inj.1
   rw [UInt8.toNat_ofNat']
   omega
  ·rw [List.concat_eq_append] at *
   have hx := hd x (by simp)
   have hc := hd c (by simp)
   have hc48 : c.toNat ≠ 48 := fun e => hz (by simp) (UInt8.toNat_inj.1 e)
   have e : vald (c :: (r' ++ [x])) 0 = 10 * vald (c :: r') 0 + (x.toNat - 48) := by
    rw [← List.cons_append, vald_app]; rfl
   have hb : 1 ≤ vald (c :: r') 0 := by
    show 1 ≤ vald r' (10 * 0 + (c.toNat - 48))
    have h1 := vald_big r' (10 * 0 + (c.toNat - 48))
    have h2 : 1 ≤ (10 * 0 + (c.toNat - 48)) * 10 ^ r'.length := Nat.mul_pos (by omega) (Nat.pos_of_ne_zero (by intro h; simp at h))
    omega
   rw [e, dd, show Nat.blt (10 * vald (c :: r') 0 + (x.toNat - 48)) 10 = false from by rw [Bool.eq_false_iff]; simp only [ne_eq, Nat.blt_eq]; omega]
   show dd k ((10 * vald (c :: r') 0 + (x.toNat - 48)) / 10) ++ [UInt8.ofNat (48 + (10 * vald (c :: r') 0 + (x.toNat - 48)) % 10)] = c :: (r' ++ [x])
   rw [show (10 * vald (c :: r') 0 + (x.toNat - 48)) / 10 = vald (c :: r') 0 by omega, show (10 * vald (c :: r') 0 + (x.toNat - 48)) % 10 = x.toNat - 48 by omega, dd_of k c r' (fun y hy => hd y (by simp at hy ⊢; rcases hy with rfl | hy; exact .inl rfl; exact .inr (.inl hy))) (fun _ => fun e => hc48 (by rw [e]; rfl)) (by simp at hk; omega), List.cons_append]
   congr 3
   apply UInt8.toNat_inj.1
   rw [UInt8.toNat_ofNat']
   omega
theorem itoa_of {c : UInt8} {r : List UInt8} (hd : ∀ x ∈ c :: r, 48 ≤ x.toNat ∧ x.toNat ≤ 57) (hz : r ≠ [] → c ≠ 48) (hv : vald (c :: r) 0 ≤ 2147483647) : itoaL ((vald (c :: r) 0 : Nat) : Int) = c :: r := by
 rw [itoa_nn (by omega)]
 refine dd_of 20 c r hd hz ?_
 by_cases hr : r = []
 ·subst hr; simp
 ·have hc48 : c.toNat ≠ 48 := fun e => hz hr (UInt8.toNat_inj.1 e)
  have hc := hd c (by simp)
  have h1 : (10 * 0 + (c.toNat - 48)) * 10 ^ r.length ≤ vald (c :: r) 0 := vald_big r (10 * 0 + (c.toNat - 48))
  have h2 : 1 * 10 ^ r.length ≤ (10 * 0 + (c.toNat - 48)) * 10 ^ r.length := Nat.mul_le_mul_right _ (by omega)
  have h3 : 10 ^ r.length < 10 ^ 10 := by omega
  have := (Nat.pow_lt_pow_iff_right (show 1 < 10 by omega)).1 h3
  omega
noncomputable def tail44 (rF : T_F44_2) (s : ByteArray) (at_ n : Int) : Option R_F44_2 :=
 (runL (fun z => L44_0 rF s z.1 z.2.1 z.2.2.1 z.2.2.2) (at_, 0, [], 0)).bind fun r => match r with
  | .k0 _ _ _ => some (.k0 0 0 [] (-1))
  | .k1 _ _ _ _ _ _ => some (.k0 0 0 [] (-1))
  | .k2 x0 x1 x2 x3 => bif decide (x0 ≥ (s.size : Int)) then some (.k0 0 0 [] (-1)) else bif decide (x3 ≤ x2.length) then some (.k0 n 0 (x2.take x3) (IntKind.wrap .i64 (x0 + 1))) else none
theorem t44n {rF : T_F44_2} {s : ByteArray} {P : List UInt8} (h : s.data.toList = P) (hs : s.size ≤ 4000000) : F44_2_b rF s (P.length : Int) = some (.k0 0 0 [] (-1)) := by
 have hsz : s.size = P.length := by rw [← len_d, h]
 obtain ⟨D, R, e1, e2, e3, e4⟩ := digs hs [] P 0 (by rw [h]; simp) (by omega)
 obtain ⟨rfl, rfl⟩ : D = [] ∧ R = [] := List.append_eq_nil_iff.1 e1.symm
 have e3 : runL (fun z => L44_1_2 s z.1 z.2) ((P.length : Int), (0 : Int)) = some (.k0 ((P.length + 0 : Nat) : Int) ((vald [] 0 : Nat) : Int)) := e3
 unfold F44_2_b
 rw [decide_eq_false (show ¬ ((P.length : Int) < (s.size : Int)) by omega), cond_false, e3, bsm]
 show (bif (((P.length + 0 : Nat) : Int) == (P.length : Int)) then _ else _) = _
 rw [show ((((P.length + 0 : Nat) : Int) == (P.length : Int))) = true from by simp, cond_true]
theorem t44d {rF : T_F44_2} {s : ByteArray} {P l : List UInt8} {c : UInt8} (h : s.data.toList = P ++ c :: l) (hc : c ≠ 120) (hs : s.size ≤ 4000000) :
  F44_2_b rF s (P.length : Int) = some (.k0 0 0 [] (-1)) ∧ (¬ (48 ≤ c.toNat ∧ c.toNat ≤ 57) ∨ (∃ D R, c :: l = D ++ R ∧ (∀ c ∈ D, 48 ≤ c.toNat ∧ c.toNat ≤ 57) ∧ (vald D 0 > 2147483647 ∨ ((∀ c r, R = c :: r → ¬ (48 ≤ c.toNat ∧ c.toNat ≤ 57)) ∧ (D.length > 1 ∧ c = 48 ∨ (∀ q, R ≠ 40 :: q)))))) ∨
  ∃ r q, l = r ++ 40 :: q ∧ (∀ x ∈ c :: r, 48 ≤ x.toNat ∧ x.toNat ≤ 57) ∧ (r ≠ [] → c ≠ 48) ∧ vald (c :: r) 0 ≤ 2147483647 ∧ F44_2_b rF s (P.length : Int) = tail44 rF s ((P.length + (r.length + 2) : Nat) : Int) ((vald (c :: r) 0 : Nat) : Int) := by
 have hsz : s.size = P.length + (l.length + 1) := by rw [← len_d, h]; simp
 have x0 : s.data.toList[P.length]? = some c := by rw [h]; simp
 have hne : ((c.toNat : Int) == 120) = false := by
  simp only [beq_eq_false_iff_ne, ne_eq]
  intro e
  exact hc (UInt8.toNat_inj.1 (by show c.toNat = 120; omega))
 obtain ⟨D, R, e1, e2, e3, e4⟩ := digs hs (c :: l) P 0 h (by omega)
 have e3 : runL (fun z => L44_1_2 s z.1 z.2) ((P.length : Int), (0 : Int)) = some (.k0 ((P.length + D.length : Nat) : Int) ((vald D 0 : Nat) : Int)) := e3
 have hlen : D.length + R.length = l.length + 1 := by rw [← lap, ← e1]; simp
 generalize hF : F44_2_b rF s (P.length : Int) = A
 unfold F44_2_b at hF
 rw [decide_eq_true (show (P.length : Int) < (s.size : Int) by omega), cond_true, getI_nat, x0, bsm, hne, cond_false, e3, bsm] at hF
 match D, e1, e2, e3, e4, hlen with
 | [], e1, e2, e3, e4, hlen =>
  refine .inl ⟨?_, .inl (by
   rcases e4 with e4 | e4
   ·simp [vald] at e4
   ·exact e4 c l e1.symm)⟩
  have hF : (bif (((P.length + 0 : Nat) : Int) == (P.length : Int)) then some (.k0 0 0 [] (-1)) else _) = A := hF
  rw [show ((((P.length + 0 : Nat) : Int) == (P.length : Int))) = true from by simp, cond_true] at hF
  exact hF.symm
 | c' :: r, e1, e2, e3, e4, hlen =>
  simp only [List.cons_append, List.cons.injEq] at e1
  obtain ⟨rfl, er⟩ := e1
  have hl : l.length = r.length + R.length := by rw [er]; simp
  simp only [lcn] at hF
  rw [show ((((P.length + (r.length + 1) : Nat) : Int) == (P.length : Int))) = false from by simp only [beq_eq_false_iff_ne, ne_eq]; omega, cond_false] at hF
  have tl : ∀ (A : Option R_F44_2), (A = (bif (decide (((vald (c :: r) 0 : Nat) : Int) > 2147483647)) then (some (.k0 0 0 ([]) (-1))) else (bif (decide (((P.length + (r.length + 1) : Nat) : Int) ≥ (s.size : Int))) then (some (.k0 0 0 ([]) (-1))) else ((getI s.data.toList ((P.length + (r.length + 1) : Nat) : Int)).bind fun x9 => (bif ((x9.toNat : Int) != 40) then (some (.k0 0 0 ([]) (-1))) else tail44 rF s (IntKind.wrap .i64 (((P.length + (r.length + 1) : Nat) : Int) + 1)) ((vald (c :: r) 0 : Nat) : Int)))))) → ¬ (r.length + 1 > 1 ∧ c = 48) →
    A = some (.k0 0 0 [] (-1)) ∧ (¬ (48 ≤ c.toNat ∧ c.toNat ≤ 57) ∨ (∃ D R, c :: l = D ++ R ∧ (∀ c ∈ D, 48 ≤ c.toNat ∧ c.toNat ≤ 57) ∧ (vald D 0 > 2147483647 ∨ ((∀ c r, R = c :: r → ¬ (48 ≤ c.toNat ∧ c.toNat ≤ 57)) ∧ (D.length > 1 ∧ c = 48 ∨ (∀ q, R ≠ 40 :: q)))))) ∨
  ∃ r q, l = r ++ 40 :: q ∧ (∀ x ∈ c :: r, 48 ≤ x.toNat ∧ x.toNat ≤ 57) ∧ (r ≠ [] → c ≠ 48) ∧ vald (c :: r) 0 ≤ 2147483647 ∧ A = tail44 rF s ((P.length + (r.length + 2) : Nat) : Int) ((vald (c :: r) 0 : Nat) : Int) := by
   intro A hA hz
   by_cases hv : vald (c :: r) 0 ≤ 2147483647
   ·have e4 : ∀ c r, R = c :: r → ¬ (48 ≤ c.toNat ∧ c.toNat ≤ 57) := e4.resolve_left (by omega)
    rw [decide_eq_false (show ¬ (((vald (c :: r) 0 : Nat) : Int) > 2147483647) by omega), cond_false] at hA
    match R, er, e4, hl with
    | [], e1, e4, hl =>
     refine .inl ⟨?_, .inr ⟨c :: r, [], by rw [e1]; simp, e2, .inr ⟨e4, .inr (by simp)⟩⟩⟩
     rw [hA, decide_eq_true (show ((P.length + (r.length + 1) : Nat) : Int) ≥ (s.size : Int) by simp at hl; omega), cond_true]
    | x :: q, e1, e4, hl =>
     simp only [lcn] at hl
     have hx : s.data.toList[P.length + (r.length + 1)]? = some x := by rw [h, e1, ← List.cons_append, ← List.append_assoc]; simp
     rw [decide_eq_false (show ¬ ((P.length + (r.length + 1) : Nat) : Int) ≥ (s.size : Int) by omega), cond_false, getI_nat, hx, bsm] at hA
     by_cases h40 : x = 40
     ·subst h40
      refine .inr ⟨r, q, e1, e2, fun hr hc => hz ⟨by have := List.length_pos_iff.2 hr; omega, hc⟩, hv, ?_⟩
      rw [hA, show ((((40 : UInt8).toNat : Int)) != 40) = false from rfl, cond_false, w_id (by omega)]
      rfl
     ·refine .inl ⟨?_, .inr ⟨c :: r, x :: q, by rw [e1]; simp, e2, .inr ⟨e4, .inr (by simpa using fun h => absurd h h40)⟩⟩⟩
      rw [hA, show ((x.toNat : Int) != 40) = true from by simp only [bne_iff_ne, ne_eq]; intro e; exact h40 (UInt8.toNat_inj.1 (by show x.toNat = 40; omega)), cond_true]
   ·refine .inl ⟨?_, .inr ⟨c :: r, R, by rw [er]; simp, e2, .inl (by omega)⟩⟩
    rw [hA, decide_eq_true (show (((vald (c :: r) 0 : Nat) : Int) > 2147483647) by omega), cond_true]
  by_cases hr : r = []
  ·subst hr
   rw [show decide (IntKind.wrap .i64 (((P.length + (([] : List UInt8).length + 1) : Nat) : Int) - (P.length : Int)) > 1) = false from decide_eq_false (by rw [w_id (by simp; omega)]; simp; omega), cond_false] at hF
   refine tl _ ?_ (by simp)
   exact hF.symm
  ·have hr1 := List.length_pos_iff.2 hr
   rw [show decide (IntKind.wrap .i64 (((P.length + (r.length + 1) : Nat) : Int) - (P.length : Int)) > 1) = true from decide_eq_true (by rw [w_id (by omega)]; omega), cond_true] at hF
   by_cases h48 : c = 48
   ·subst h48
    rw [show (((48 : UInt8).toNat : Int) == 48) = true from rfl, cond_true] at hF
    refine .inl ⟨hF.symm, .inr ⟨48 :: r, R, by rw [er]; rfl, e2, ?_⟩⟩
    rcases e4 with e4 | e4
    ·exact .inl e4
    ·exact .inr ⟨e4, .inl ⟨by simp; omega, rfl⟩⟩
   ·rw [show ((c.toNat : Int) == 48) = false from by simp only [beq_eq_false_iff_ne, ne_eq]; intro e; exact h48 (UInt8.toNat_inj.1 (by show c.toNat = 48; omega)), cond_false] at hF
    refine tl _ ?_ (fun h => h48 h.2)
    exact hF.symm
theorem dd_head : ∀ (k u : Nat), 1 ≤ u → u < 10 ^ k → ∃ c r, dd k u = c :: r ∧ c ≠ 48
 | 0, u, h1, h2 => by simp at h2; omega
 | k + 1, u, h1, h2 => by
  rw [dd]
  by_cases hu : u < 10
  ·rw [show Nat.blt u 10 = true from by simpa [Nat.blt_eq] using hu]
   refine ⟨_, _, rfl, fun e => ?_⟩
   have := congrArg UInt8.toNat e
   rw [dig_toNat hu] at this
   have h48 : (48 : UInt8).toNat = 48 := rfl
   omega
  ·rw [show Nat.blt u 10 = false from by simpa [Bool.eq_false_iff, Nat.blt_eq] using hu]
   obtain ⟨c, r, e, hc⟩ := dd_head k (u / 10) (by omega) (by rw [Nat.pow_succ] at h2; omega)
   exact ⟨c, r ++ [UInt8.ofNat (48 + u % 10)], by simp only [e, List.cons_append], hc⟩
theorem itoa_head {n : Int} (hn : 0 ≤ n ∧ n ≤ 2147483647) : ∃ c r, itoaL n = c :: r ∧ (c ≠ 48 ∨ r = []) := by
 rw [itoa_nn hn.1]
 by_cases h : n.toNat = 0
 ·rw [h]; exact ⟨48, [], rfl, .inr rfl⟩
 ·obtain ⟨c, r, e, hc⟩ := dd_head 20 n.toNat (by omega) (by omega)
  exact ⟨c, r, e, .inl hc⟩
theorem itoa_val {n : Int} (hn : 0 ≤ n ∧ n ≤ 2147483647) : vald (itoaL n) 0 = n.toNat := by
 rw [itoa_nn hn.1, dd_val 20 _ (by omega) (by omega)]
theorem pre_dig : ∀ {D I R Y : List UInt8}, (∀ c ∈ D, 48 ≤ c.toNat) → D ++ R = I ++ 40 :: Y → ∃ E, I = D ++ E ∧ R = E ++ 40 :: Y
 | [], I, R, Y, _, h => ⟨I, rfl, h⟩
 | d :: D, [], R, Y, hd, h => by
  simp only [List.nil_append, List.cons_append, List.cons.injEq] at h
  have := hd d (by simp)
  rw [h.1] at this
  exact absurd this (by decide)
 | d :: D, i :: I, R, Y, hd, h => by
  simp only [List.cons_append, List.cons.injEq] at h
  obtain ⟨E, e1, e2⟩ := pre_dig (fun c hc => hd c (by simp [hc])) h.2
  exact ⟨E, by rw [h.1, e1]; rfl, e2⟩
theorem no_node {c : UInt8} {l : List UInt8} {n : Int} {Y : List UInt8} (hn : 0 ≤ n ∧ n ≤ 2147483647) (he : c :: l = itoaL n ++ 40 :: Y)
  (h : ¬ (48 ≤ c.toNat ∧ c.toNat ≤ 57) ∨ (∃ D R, c :: l = D ++ R ∧ (∀ c ∈ D, 48 ≤ c.toNat ∧ c.toNat ≤ 57) ∧ (vald D 0 > 2147483647 ∨ ((∀ c r, R = c :: r → ¬ (48 ≤ c.toNat ∧ c.toNat ≤ 57)) ∧ (D.length > 1 ∧ c = 48 ∨ (∀ q, R ≠ 40 :: q)))))) : False := by
 obtain ⟨c0, r0, e0, hz⟩ := itoa_head hn
 have hd := itoa_dig hn.1
 rcases h with h | ⟨D, R, e1, e2, h⟩
 ·rw [e0] at he hd
  simp only [List.cons_append, List.cons.injEq] at he
  exact h (he.1 ▸ hd c0 (by simp))
 ·rw [e1] at he
  obtain ⟨E, i1, i2⟩ := pre_dig (fun x hx => (e2 x hx).1) he
  rcases h with h | ⟨h1, h2⟩
  ·have h3 := itoa_val hn
   rw [i1, vald_app] at h3
   have := vald_ge E (vald D 0)
   omega
  ·have hE : E = [] := by
    cases E with
    | nil => rfl
    | cons x E =>
     exact absurd (hd x (by rw [i1]; simp)) (h1 x _ i2)
   subst hE
   rw [List.append_nil] at i1
   rcases h2 with ⟨h2, h3⟩ | h2
   ·rw [← i1, e0] at h2 e1
    simp only [List.cons_append, List.cons.injEq] at e1
    rcases hz with hz | hz
    ·exact hz (e1.1 ▸ h3)
    ·rw [hz] at h2; simp at h2
   ·exact h2 Y i2
theorem ap44 {v3 : List TreeD} {v4 v2 : Nat} {ks : List TreeD} (x : TreeD) (p : Int) (h : v3.take v4 = ks) (h1 : v4 ≤ v3.length) (hb : v4 ≤ 5000000) :
  ∃ v2' v3', (bif (apOk v4 1 v3.length 40) then (bif (decide (v4 + 1 ≤ v3.length)) then (some (.inr (p, v2, (splice v3 v4 [x]), v4 + 1))) else (some (.inr (p, v2 + 1, (v3.take v4 ++ [x]), v4 + 1)))) else none : Option (E_L44_0 ⊕ (Int × Nat × (List TreeD) × Nat))) = some (.inr (p, v2', v3', v4 + 1)) ∧ v3'.take (v4 + 1) = ks ++ [x] ∧ v4 + 1 ≤ v3'.length := by
 have h0 : apOk v4 1 v3.length 40 = true := decide_eq_true ⟨h1, by unfold limit47; omega, by unfold limit47; omega⟩
 rw [h0, cond_true]
 by_cases hl : v4 + 1 ≤ v3.length
 ·rw [decide_eq_true hl, cond_true]
  obtain ⟨q1, q2⟩ := splice_app (l := v3) (y := [x]) (n := v4) hl
  exact ⟨_, _, rfl, by rw [← h]; exact q1, by rw [q2]; exact hl⟩
 ·rw [decide_eq_false hl, cond_false]
  have hlen : (v3.take v4).length = v4 := by rw [List.length_take]; omega
  exact ⟨_, _, rfl, by rw [h]; exact List.take_of_length_le (by rw [← h, lap, hlen]; simp), by rw [lap, hlen]; simp⟩
theorem s44e {rF : T_F44_2} {s : ByteArray} {v1 v2 : Nat} {v3 : List TreeD} {v4 : Nat} (h : s.data.toList[v1]? = none ∨ s.data.toList[v1]? = some 41) : L44_0 rF s (v1 : Int) v2 v3 v4 = some (.inl (.k2 (v1 : Int) v2 v3 v4)) := by
 unfold L44_0
 rcases h with h | h
 ·have : s.size ≤ v1 := by rw [← len_d]; exact List.getElem?_eq_none_iff.1 h
  rw [decide_eq_false (by omega), cond_false]
 ·have : v1 < s.size := by rw [← len_d]; exact (gei.1 h).1
  rw [decide_eq_true (by omega), cond_true, getI_nat, h, bsm]
  rfl
theorem s44b {rF : T_F44_2} {s : ByteArray} {v1 v2 : Nat} {v3 : List TreeD} {v4 : Nat} {c : UInt8} (h : s.data.toList[v1]? = some c) (h1 : c ≠ 41) (h2 : c ≠ 32) (h4 : 0 < v4) : L44_0 rF s (v1 : Int) v2 v3 v4 = some (.inl (.k0 v2 v3 v4)) := by
 unfold L44_0
 have : v1 < s.size := by rw [← len_d]; exact (gei.1 h).1
 rw [decide_eq_true (by omega), cond_true, getI_nat, h, bsm]
 rw [show ((c.toNat : Int) != 41) = true from by simp only [bne_iff_ne, ne_eq]; intro e; exact h1 (UInt8.toNat_inj.1 (by show c.toNat = 41; omega)), cond_true, decide_eq_true (by omega), cond_true]
 rw [show ((c.toNat : Int) != 32) = true from by simp only [bne_iff_ne, ne_eq]; intro e; exact h2 (UInt8.toNat_inj.1 (by show c.toNat = 32; omega)), cond_true]
theorem s44k {rF : T_F44_2} {s : ByteArray} {v1 v2 : Nat} {v3 : List TreeD} {v4 : Nat} {c : UInt8} {p b nx : Int} {l ks : List TreeD} (hs : s.size ≤ 4000000) (h : s.data.toList[v1]? = some c) (h1 : c ≠ 41) (h2 : 0 < v4 → c = 32)
  (hr : rF s ((v1 + (if 0 < v4 then 1 else 0) : Nat) : Int) = some (.k0 p b l nx)) (hk : v3.take v4 = ks) (hv : v4 ≤ v3.length) (hb : v4 ≤ 5000000) :
  (nx < 0 → ∃ e1 e2 e3 e4 e5 e6, L44_0 rF s (v1 : Int) v2 v3 v4 = some (.inl (.k1 e1 e2 e3 e4 e5 e6))) ∧
  (0 ≤ nx → ∃ v2' v3', L44_0 rF s (v1 : Int) v2 v3 v4 = some (.inr (nx, v2', v3', v4 + 1)) ∧ v3'.take (v4 + 1) = ks ++ [.mk p b l] ∧ v4 + 1 ≤ v3'.length) := by
 unfold L44_0
 have : v1 < s.size := by rw [← len_d]; exact (gei.1 h).1
 rw [decide_eq_true (show (v1 : Int) < (s.size : Int) by omega), cond_true, getI_nat, h, bsm]
 rw [show ((c.toNat : Int) != 41) = true from by simp only [bne_iff_ne, ne_eq]; intro e; exact h1 (UInt8.toNat_inj.1 (by show c.toNat = 41; omega)), cond_true]
 by_cases h4 : 0 < v4
 ·rw [if_pos h4] at hr
  obtain rfl := h2 h4
  rw [decide_eq_true (show (v4 : Int) > 0 by omega), cond_true, show (((32 : UInt8).toNat : Int) != 32) = false from rfl, cond_false, w_S (by omega), hr, bsm]
  simp only
  refine ⟨fun hn => ?_, fun hn => ?_⟩
  ·rw [decide_eq_true hn, cond_true]; exact ⟨_, _, _, _, _, _, rfl⟩
  ·rw [decide_eq_false (by omega), cond_false]
   exact ap44 _ _ hk hv hb
 ·rw [if_neg h4] at hr
  rw [decide_eq_false (show ¬ (v4 : Int) > 0 by omega), cond_false]
  rw [show (v1 : Int) = ((v1 + 0 : Nat) : Int) from rfl, hr, bsm]
  simp only
  refine ⟨fun hn => ?_, fun hn => ?_⟩
  ·rw [decide_eq_true hn, cond_true]; exact ⟨_, _, _, _, _, _, rfl⟩
  ·rw [decide_eq_false (by omega), cond_false]
   exact ap44 _ _ hk hv hb
theorem tbr_cnt : ∀ l : List TreeD, l.length ≤ (tbr l).length
 | [] => by simp
 | t :: l => by have := tbr_cnt l; simp only [tbr, lcn, lap]; omega
theorem sep_len (ks : List TreeD) : ((tbr ks ++ [32]).drop 1).length = (tbk ks).length + (if 0 < ks.length then 1 else 0) := by
 cases ks with
 | nil => rfl
 | cons t l => simp [tbr, tbk]; omega
theorem sep_eq {ks : List TreeD} (h : 0 < ks.length) : (tbr ks ++ [32]).drop 1 = tbk ks ++ [32] := by
 cases ks with
 | nil => simp at h
 | cons t l => simp [tbr, tbk]
def G44 (s : ByteArray) (P l : List UInt8) (r : Option R_F44_2) : Prop :=
 r = some (.k0 0 0 [] (-1)) ∨ ∃ t q, good t ∧ l = tbt t ++ q ∧ r = some (.k0 t.prod t.byte t.kids ((P.length + (tbt t).length : Nat) : Int))
theorem l44A {rF : T_F44_2} {s : ByteArray} (hs : s.size ≤ 4000000) (N : Nat) (ih : ∀ P l : List UInt8, s.data.toList = P ++ l → l.length < N → G44 s P l (rF s (P.length : Int))) (B : List UInt8) : ∀ (k : Nat) (l : List UInt8) (ks : List TreeD) (v2 : Nat) (v3 : List TreeD) (v4 : Nat), l.length < k → l.length < N → s.data.toList = B ++ (tbk ks ++ l) → (∀ x ∈ ks, good x) → v3.take v4 = ks → v4 ≤ v3.length → ks.length = v4 →
  ∃ e, runL (fun z => L44_0 rF s z.1 z.2.1 z.2.2.1 z.2.2.2) (((B.length + (tbk ks).length : Nat) : Int), v2, v3, v4) = some e ∧
   ((∃ a b c, e = .k0 a b c) ∨ (∃ a b c d f g, e = .k1 a b c d f g) ∨ ∃ at_ v2 v3 v4 ks, e = .k2 ((at_ : Nat) : Int) v2 v3 v4 ∧ v3.take v4 = ks ∧ v4 ≤ v3.length ∧ (∀ x ∈ ks, good x) ∧ (at_ = s.size ∨ ∃ q, at_ = B.length + (tbk ks).length ∧ s.data.toList = B ++ (tbk ks ++ 41 :: q)))
 | 0, l, _, _, _, _, h, _, _, _, _, _, _ => by omega
 | k + 1, l, ks, v2, v3, v4, hk, hN, hd, hg, h3, h4, h5 => by
  have hsz : s.size = B.length + ((tbk ks).length + l.length) := by rw [← len_d, hd]; simp
  have hat : s.data.toList[B.length + (tbk ks).length]? = l[0]? := by
   rw [hd, ← List.append_assoc, ← lap, gar (Nat.le_refl _), Nat.sub_self]
  match l, hk, hN, hd, hsz, hat with
  | [], hk, hN, hd, hsz, hat =>
   refine ⟨_, runL_done (s44e (.inl (by rw [hat]; rfl))), .inr (.inr ⟨_, v2, v3, v4, ks, rfl, h3, h4, hg, .inl (by rw [hsz]; rfl)⟩)⟩
  | c :: l, hk, hN, hd, hsz, hat =>
   have hat : s.data.toList[B.length + (tbk ks).length]? = some c := by rw [hat]; rfl
   simp only [lcn] at hk hN hsz
   by_cases h41 : c = 41
   ·subst h41
    exact ⟨_, runL_done (s44e (.inr hat)), .inr (.inr ⟨_, v2, v3, v4, ks, rfl, h3, h4, hg, .inr ⟨l, rfl, hd⟩⟩)⟩
   ·by_cases hb : 0 < v4 ∧ c ≠ 32
    ·exact ⟨_, runL_done (s44b hat h41 hb.2 hb.1), .inl ⟨_, _, _, rfl⟩⟩
    ·-- a kid
     have hc : 0 < v4 → c = 32 := fun h => by by_cases e : c = 32; exact e; exact absurd ⟨h, e⟩ hb
     have hcnt := tbr_cnt ks
     have hv4 : v4 ≤ 5000000 := by
      have : (tbk ks).length = (tbr ks).length - 1 := by simp [tbk]
      omega
     obtain ⟨l2, hl2, hd2⟩ : ∃ l2, (if 0 < v4 then l.length else l.length + 1) = l2.length ∧ s.data.toList = (B ++ (tbr ks ++ [32]).drop 1) ++ l2 := by
      by_cases h0 : 0 < v4
      ·obtain rfl := hc h0
       refine ⟨l, by rw [if_pos h0], ?_⟩
       rw [hd, sep_eq (by omega)]; simp
      ·obtain rfl : ks = [] := enz (by omega)
       refine ⟨c :: l, by rw [if_neg h0]; rfl, ?_⟩
       rw [hd]; simp [tbr, tbk]
     have hl2' : l2.length < N := by rw [← hl2]; split <;> omega
     have hpos : (B ++ (tbr ks ++ [32]).drop 1).length = B.length + (tbk ks).length + (if 0 < v4 then 1 else 0) := by
      rw [lap, sep_len, h5]; omega
     have hi := ih _ l2 hd2 hl2'
     rw [hpos] at hi
     rcases hi with hi | ⟨t, q, g, e, hi⟩
     ·obtain ⟨e1, e2, e3, e4, e5, e6, he⟩ := (s44k (v2 := v2) hs hat h41 hc hi h3 h4 hv4).1 (by omega)
      exact ⟨_, runL_done he, .inr (.inl ⟨_, _, _, _, _, _, rfl⟩)⟩
     ·obtain ⟨v2', v3', he, he3, he4⟩ := (s44k (v2 := v2) hs hat h41 hc hi h3 h4 hv4).2 (by omega)
      have hq : q.length < k := by
       have h1 := congrArg List.length e
       rw [lap] at h1
       have := tb_pos t
       split at hl2 <;> omega
      have htb := tbk_snoc ks t
      have hlen : (B.length + (tbk (ks ++ [t])).length : Nat) = (B ++ (tbr ks ++ [32]).drop 1).length + (tbt t).length := by rw [htb]; simp; omega
      obtain ⟨z, z1, z2⟩ := l44A hs N ih B k q (ks ++ [t]) v2' v3' (v4 + 1) hq (by
       have h1 := congrArg List.length e
       rw [lap] at h1
       omega) (by rw [hd2, e, htb]; simp) (fun x hx => by
        rcases List.mem_append.1 hx with hx | hx
        ·exact hg x hx
        ·simp only [List.mem_singleton] at hx; subst hx; exact g) (by rw [he3]; cases t; rfl) he4 (by simp; omega)
      refine ⟨z, (runL_next (s' := (((B.length + (tbk (ks ++ [t])).length : Nat) : Int), v2', v3', v4 + 1)) ?_).trans z1, z2⟩
      rw [he, hlen, hpos]
theorem t44A {s : ByteArray} (hs : s.size ≤ 5000) : ∀ (Nf : Nat) (P l : List UInt8), s.data.toList = P ++ l → l.length < Nf → G44 s P l (F44_2 Nf s (P.length : Int))
 | 0, _, _, _, h => by omega
 | Nf + 1, P, l, h, hN => by
  have hl : l.length ≤ s.size := by rw [← len_d, h]; simp
  show G44 s P l (F44_2_b (F44_2 Nf) s (P.length : Int))
  match l, h, hN, hl with
  | [], h, _, _ => exact .inl (t44n (by rw [h]; simp) (by omega))
  | c :: l, h, hN, hl =>
   simp only [lcn] at hN hl
   by_cases hx : c = 120
   ·subst hx
    match l, h, hN with
    | [], h, _ => exact .inl (t44y h (by simp) (by omega))
    | [c0], h, _ => exact .inl (t44y h (by simp) (by omega))
    | c0 :: c1 :: q, h, hN =>
     have e := t44x (rF := F44_2 Nf) h (by omega)
     unfold G44
     rw [e]
     rcases hexI_all c0 with h0 | h0
     ·rw [decide_eq_true h0, cond_true]; exact .inl rfl
     ·rw [decide_eq_false (by omega), cond_false]
      rcases hexI_all c1 with h1 | h1
      ·rw [decide_eq_true h1, cond_true]; exact .inl rfl
      ·rw [decide_eq_false (by omega), cond_false]
       refine .inr ⟨.mk (-1) (16 * hexI c0 + hexI c1) [], q, leaf_good ⟨h0.1, h0.2.1⟩ ⟨h1.1, h1.2.1⟩, ?_, ?_⟩
       ·rw [leaf_tb ⟨h0.1, h0.2.1⟩ ⟨h1.1, h1.2.1⟩, h0.2.2, h1.2.2]; rfl
       ·rw [leaf_tb ⟨h0.1, h0.2.1⟩ ⟨h1.1, h1.2.1⟩]; rfl
   ·rcases t44d (rF := F44_2 Nf) h hx (by omega) with ⟨e, _⟩ | ⟨r, q, e1, e2, e3, e4, e5⟩
    ·exact .inl e
    ·have hle : l.length = r.length + (q.length + 1) := by rw [e1]; simp
     have hB : s.data.toList = (P ++ (c :: r ++ [40])) ++ q := by rw [h, e1]; simp
     have hBl : (P ++ (c :: r ++ [40])).length = P.length + (r.length + 2) := by simp
     obtain ⟨e, z1, z2⟩ := l44A (rF := F44_2 Nf) (by omega) Nf (fun P l h1 h2 => t44A hs Nf P l h1 h2) (P ++ (c :: r ++ [40])) (q.length + 1) q [] 0 [] 0 (by omega) (by omega) hB (by simp) rfl (Nat.le_refl _) rfl
     have z1 : runL (fun z => L44_0 (F44_2 Nf) s z.1 z.2.1 z.2.2.1 z.2.2.2) (((P.length + (r.length + 2) : Nat) : Int), 0, [], 0) = some e := by
      rw [← z1, hBl]; rfl
     rw [e5]
     unfold tail44 G44
     rw [z1, bsm]
     rcases z2 with ⟨_, _, _, rfl⟩ | ⟨_, _, _, _, _, _, rfl⟩ | ⟨at_, v2, v3, v4, ks, rfl, h3, h4, hg, hat⟩
     ·exact .inl rfl
     ·exact .inl rfl
     ·simp only
      rcases hat with hat | ⟨q', hat, hd⟩
      ·rw [decide_eq_true (by omega), cond_true]; exact .inl rfl
      ·have hsz : s.size = at_ + (q'.length + 1) := by
        rw [← len_d, hd, hat]; simp; omega
       rw [decide_eq_false (by omega), cond_false, decide_eq_true h4, cond_true, h3]
       have hz : (0 : Int) ≤ ((vald (c :: r) 0 : Nat) : Int) := by omega
       have htb : tbt (.mk ((vald (c :: r) 0 : Nat) : Int) 0 ks) = (c :: r) ++ 40 :: (tbk ks ++ [41]) := by
        rw [node_tb (x := .mk ((vald (c :: r) 0 : Nat) : Int) 0 ks) hz]
        show itoaL ((vald (c :: r) 0 : Nat) : Int) ++ 40 :: (tbk ks ++ [41]) = _
        rw [itoa_of e2 e3 e4]
       refine .inr ⟨.mk ((vald (c :: r) 0 : Nat) : Int) 0 ks, q', ?_, ?_, ?_⟩
       ·exact okE_good ⟨⟨hz, by show ((vald (c :: r) 0 : Nat) : Int) ≤ 2147483647; omega⟩, rfl, hg⟩
       ·rw [htb]
        have : P ++ (c :: l) = P ++ ((c :: r) ++ 40 :: (tbk ks ++ [41]) ++ q') := by
         rw [← h, hd]; simp
        exact List.append_cancel_left this
       ·rw [htb, w_S (by omega), hat, hBl]
        show some (R_F44_2.k0 _ 0 ks _) = some (.k0 _ 0 ks _)
        congr 2
        simp
        omega
theorem l44B {rF : T_F44_2} {s : ByteArray} (hs : s.size ≤ 4000000) (N : Nat) (ih : ∀ (t : TreeD) (P q : List UInt8), good t → s.data.toList = P ++ (tbt t ++ q) → (tbt t ++ q).length < N → rF s (P.length : Int) = some (.k0 t.prod t.byte t.kids ((P.length + (tbt t).length : Nat) : Int)))
  (B q : List UInt8) (l : List TreeD) (hg : ∀ x ∈ l, good x) (hd : s.data.toList = B ++ (tbk l ++ 41 :: q)) (hN : (tbk l ++ 41 :: q).length < N) : ∀ (k i v2 : Nat) (v3 : List TreeD), i + k = l.length → v3.take i = l.take i → i ≤ v3.length →
  ∃ v2' v3', runL (fun z => L44_0 rF s z.1 z.2.1 z.2.2.1 z.2.2.2) (((B.length + (tbk (l.take i)).length : Nat) : Int), v2, v3, i) = some (.k2 ((B.length + (tbk l).length : Nat) : Int) v2' v3' l.length) ∧ v3'.take l.length = l ∧ l.length ≤ v3'.length
 | 0, i, v2, v3, hi, h3, h4 => by
  obtain rfl : i = l.length := by omega
  rw [List.take_length] at h3 ⊢
  have hat : s.data.toList[B.length + (tbk l).length]? = some 41 := by
   rw [hd, ← List.append_assoc, ← lap, gar (Nat.le_refl _), Nat.sub_self]; rfl
  exact ⟨_, _, runL_done (s44e (.inr hat)), h3, h4⟩
 | k + 1, i, v2, v3, hi, h3, h4 => by
  have hx : l[i]? = some l[i] := geg (by omega)
  generalize l[i] = x at hx
  have hgx := hg x (List.mem_of_getElem? hx)
  have hsp := tbk_split hx
  have hcnt := tbr_cnt (l.take i)
  have hil : (l.take i).length = i := by rw [List.length_take]; omega
  have hsep := sep_len (l.take i)
  rw [hil] at hsep hcnt
  have hsz : s.size = B.length + (tbk l ++ 41 :: q).length := by rw [← len_d, hd]; simp
  have hkl : (tbk l).length = (tbk (l.take i)).length + (if 0 < i then 1 else 0) + ((tbt x).length + (tbr (l.drop (i + 1))).length) := by rw [hsp, lap, hsep, lap]
  have hd2 : s.data.toList = (B ++ (tbr (l.take i) ++ [32]).drop 1) ++ (tbt x ++ (tbr (l.drop (i + 1)) ++ 41 :: q)) := by rw [hd, hsp]; simp
  have hpos : (B ++ (tbr (l.take i) ++ [32]).drop 1).length = B.length + (tbk (l.take i)).length + (if 0 < i then 1 else 0) := by rw [lap, hsep]; omega
  have hr := ih x _ _ hgx hd2 (by
   simp only [lap, lcn] at hN ⊢
   split at hkl <;> omega)
  rw [hpos] at hr
  obtain ⟨c0, t0, e0, e1⟩ := tb_head hgx.2
  obtain ⟨c, hat, h41, h32⟩ : ∃ c, s.data.toList[B.length + (tbk (l.take i)).length]? = some c ∧ c ≠ 41 ∧ (0 < i → c = 32) := by
   by_cases h0 : 0 < i
   ·refine ⟨32, ?_, by decide, fun _ => rfl⟩
    rw [hd2, sep_eq (by omega), show (B ++ (tbk (l.take i) ++ [32])) ++ (tbt x ++ (tbr (l.drop (i + 1)) ++ 41 :: q)) = (B ++ tbk (l.take i)) ++ (32 :: (tbt x ++ (tbr (l.drop (i + 1)) ++ 41 :: q))) by simp, ← lap, gar (Nat.le_refl _), Nat.sub_self]
    rfl
   ·refine ⟨c0, ?_, fun e => by rw [e] at e1; exact absurd e1 (by decide), fun h => absurd h h0⟩
    obtain rfl : i = 0 := by omega
    rw [hd2, e0]
    simp [tbr, tbk]
  obtain ⟨v2', v3', he, he3, he4⟩ := (s44k (v2 := v2) hs hat h41 h32 hr h3 h4 (by
   have h9 : (tbk (l.take i)).length = (tbr (l.take i)).length - 1 := by simp [tbk]
   have h8 : (tbk l ++ 41 :: q).length = (tbk l).length + (q.length + 1) := by simp
   have h7 : (tbk l).length ≤ 4000000 := by omega
   have h6 : (tbk (l.take i)).length ≤ 4000000 := by omega
   omega)).2 (by omega)
  have htk : l.take i ++ [x] = l.take (i + 1) := (take_S hx).symm
  have htb := tbk_snoc (l.take i) x
  rw [htk] at htb
  obtain ⟨w2, w3, z1, z2⟩ := l44B hs N ih B q l hg hd hN k (i + 1) v2' v3' (by omega) (by rw [he3, ← htk]; cases x; rfl) he4
  refine ⟨w2, w3, (runL_next (s' := (((B.length + (tbk (l.take (i + 1))).length : Nat) : Int), v2', v3', i + 1)) ?_).trans z1, z2⟩
  have hlen : (B.length + (tbk (l.take (i + 1))).length : Nat) = B.length + (tbk (l.take i)).length + (if 0 < i then 1 else 0) + (tbt x).length := by
   rw [htb, lap, hsep]; omega
  rw [he, hlen]
theorem hexI_d : ∀ n : _root_.Fin 16, hexI (hexd n.val) = (n.val : Int) := by decide +kernel
theorem t44B {s : ByteArray} (hs : s.size ≤ 5000) : ∀ (Nf : Nat) (t : TreeD) (P q : List UInt8), good t → s.data.toList = P ++ (tbt t ++ q) → (tbt t ++ q).length < Nf → F44_2 Nf s (P.length : Int) = some (.k0 t.prod t.byte t.kids ((P.length + (tbt t).length : Nat) : Int))
 | 0, _, _, _, _, _, h => by omega
 | Nf + 1, t, P, q, hg, h, hN => by
  show F44_2_b (F44_2 Nf) s (P.length : Int) = _
  rcases good_top hg.2 with ⟨h1, h2⟩ | ⟨h1, h2, h3⟩
  ·-- a leaf
   have hb := hg.1.by
   have htb : tbt t = [120, hexd (t.byte.toNat / 16), hexd (t.byte.toNat % 16)] := by
    rw [tbt_eq, decide_eq_true (by omega), cond_true]
   rw [htb] at h
   rw [t44x (q := q) h (by omega)]
   have e0 := hexI_d ⟨t.byte.toNat / 16, by omega⟩
   have e1 := hexI_d ⟨t.byte.toNat % 16, by omega⟩
   simp only at e0 e1
   rw [e0, e1, decide_eq_false (by omega), cond_false, decide_eq_false (by omega), cond_false, htb, h1, h2]
   congr 2
   omega
  ·-- a node
   have htb := node_tb h1
   obtain ⟨c, r, e0, hz⟩ := itoa_head ⟨h1, h2⟩
   have hdig := itoa_dig h1
   have hl : s.data.toList = P ++ c :: (r ++ 40 :: (tbk t.kids ++ 41 :: q)) := by rw [h, htb, e0]; simp
   have hc := hdig c (by rw [e0]; simp)
   have hle : s.size = P.length + (r.length + (tbk t.kids).length + q.length + 3) := by rw [← len_d, hl]; simp; omega
   rcases t44d (rF := F44_2 Nf) hl (fun e => by rw [e] at hc; exact absurd hc.2 (by decide)) (by omega) with ⟨_, e⟩ | ⟨r', q', e1, e2, e3, e4, e5⟩
   ·exact (no_node ⟨h1, h2⟩ (Y := tbk t.kids ++ 41 :: q) (by rw [e0]; rfl) e).elim
   ·obtain ⟨rfl, rfl⟩ := cut40 (fun z hz => (hdig z (by rw [e0]; simp [hz])).1) (fun z hz => (e2 z (by simp [hz])).1) e1
    have hB : s.data.toList = (P ++ (c :: r ++ [40])) ++ (tbk t.kids ++ 41 :: q) := by rw [hl]; simp
    have hBl : (P ++ (c :: r ++ [40])).length = P.length + (r.length + 2) := by simp
    have htl : (tbt t).length = r.length + 2 + (tbk t.kids).length + 1 := by rw [htb, e0]; simp; omega
    obtain ⟨v2, v3, z1, z2, z3⟩ := l44B (by omega) Nf (fun t P q h1 h2 h3 => t44B hs Nf t P q h1 h2 h3) (P ++ (c :: r ++ [40])) q t.kids (fun x hx => ⟨hg.1.kid hx, good_kid hg.2 hx⟩) hB (by simp only [lap, lcn] at hN ⊢; omega) t.kids.length 0 0 [] (by omega) rfl (Nat.le_refl _)
    have z1 : runL (fun z => L44_0 (F44_2 Nf) s z.1 z.2.1 z.2.2.1 z.2.2.2) (((P.length + (r.length + 2) : Nat) : Int), 0, [], 0) = some (.k2 ((P.length + (r.length + 2) + (tbk t.kids).length : Nat) : Int) v2 v3 t.kids.length) := by
     rw [← hBl]; exact z1
    rw [e5]
    unfold tail44
    rw [z1, bsm]
    simp only
    rw [decide_eq_false (by omega), cond_false, decide_eq_true z3, cond_true, z2, w_S (by omega), htl, h3]
    have hv : ((vald (c :: r) 0 : Nat) : Int) = t.prod := by
     rw [← e0, itoa_val ⟨h1, h2⟩]; omega
    rw [hv]
    congr 2
    omega
theorem q45 : ∀ (Nf : Nat) (t : TreeD) (left : Nat), tc t ≤ left → tc t < Nf → left ≤ 20000 → F45_2 Nf t left = some false
 | 0, t, left, _, h, _ => by omega
 | Nf + 1, t, left, h1, h, h2 => by
  show F45_2_b (F45_2 Nf) t left = _
  have hp := tc_pos t
  have htc := tc_eq t
  have hl := tcs_len t.kids
  unfold F45_2_b
  rw [decide_eq_false (by omega), cond_false]
  have key : ∀ (k i : Nat), i + k = t.kids.length → runL (fun s => L45_0_2 (F45_2 Nf) left t s) (i : Int) = some .k1 := by
   intro k
   induction k with
   | zero =>
    intro i hi
    refine runL_done ?_
    simp only [L45_0_2, decide_eq_false (show ¬ ((i : Int) < (t.kids.length : Int)) by omega), cond_false]
   | succ k ih =>
    intro i hi
    have hx : t.kids[i]? = some t.kids[i] := geg (by omega)
    generalize t.kids[i] = x at hx
    have hk := tkid hx
    refine (runL_next (s' := ((i + 1 : Nat) : Int)) ?_).trans (ih (i + 1) (by omega))
    have hw : IntKind.wrap .i64 ((left : Int) - 1) = ((left - 1 : Nat) : Int) := by rw [w_id (by omega)]; omega
    simp only [L45_0_2, decide_eq_true (show (i : Int) < (t.kids.length : Int) by omega), cond_true, getI_nat, hx, bsm, hw, q45 Nf x (left - 1) (by omega) (by omega) (by omega), cond_false]
    rw [w_S (by omega)]
  rw [show (0 : Int) = ((0 : Nat) : Int) from rfl, key t.kids.length 0 (by omega)]
  rfl
theorem q14 : ∀ (Nf : Nat) (t : TreeD), tc t < Nf → tc t ≤ 20000 → F14 Nf t t = some true
 | 0, t, h, _ => by omega
 | Nf + 1, t, h, h2 => by
  show F14_b (F14 Nf) t t = _
  have htc := tc_eq t
  have hl := tcs_len t.kids
  unfold F14_b
  rw [show (t.prod != t.prod) = false from by simp, cond_false, show (t.byte != t.byte) = false from by simp, cond_false, show ((t.kids.length : Int) != (t.kids.length : Int)) = false from by simp, cond_false]
  have key : ∀ (k i : Nat), i + k = t.kids.length → runL (fun s => L14_0 (F14 Nf) t t s) (i : Int) = some .k1 := by
   intro k
   induction k with
   | zero =>
    intro i hi
    refine runL_done ?_
    simp only [L14_0, decide_eq_false (show ¬ ((i : Int) < (t.kids.length : Int)) by omega), cond_false]
   | succ k ih =>
    intro i hi
    have hx : t.kids[i]? = some t.kids[i] := geg (by omega)
    generalize t.kids[i] = x at hx
    have hk := tkid hx
    refine (runL_next (s' := ((i + 1 : Nat) : Int)) ?_).trans (ih (i + 1) (by omega))
    simp only [L14_0, decide_eq_true (show (i : Int) < (t.kids.length : Int) by omega), cond_true, getI_nat, hx, bsm, q14 Nf x (by omega) (by omega)]
    rw [w_S (by omega)]
  rw [show (0 : Int) = ((0 : Nat) : Int) from rfl, key t.kids.length 0 (by omega)]
  rfl
theorem bs_eta3 (s : ByteArray) : bs s.data.toList = s := by
 apply ByteArray.ext
 rfl
theorem zT_tc : tc zT = 1 := by unfold zT; simp [tc, tcs]
theorem treeReads [ErC] {e : (TypeId × Value) × (TypeId × Value)} (he : ErC.e = some e) {s : ByteArray} : F3 5100 s = some true := by
 unfold F3
 by_cases hs : s.size ≤ 5000
 ·rw [decide_eq_false (by omega), cond_false]
  obtain ⟨r, r1, r2⟩ := read_two (e := e) (l := s.data.toList) (by rw [len_d]; exact hs)
  rw [bs_eta3] at r1
  have hF : F12 s = some (.k0 r.1 r.2) := by unfold F12; rw [he, r1]
  rw [hF, bsm]
  simp only
  have h13 : F13 5100 s = some (.k0 r.1.prod r.1.byte r.1.kids r.2) := by
   unfold F13
   rw [decide_eq_false (by omega), cond_false]
   rcases r2 with ⟨hz, g, gt⟩ | rfl
   ·have hb := tb_ge (tc r.1) r.1 (Nat.le_refl _) g.2
    have hsz : (tbt r.1).length = s.size := by rw [gt, len_d]
    have hB := t44B hs 5100 r.1 [] [] g (by rw [gt]; simp) (by rw [List.append_nil]; omega)
    rw [show (0 : Int) = (([] : List UInt8).length : Int) from rfl, hB, bsm]
    simp only
    rw [show ((((([] : List UInt8).length + (tbt r.1).length : Nat)) : Int) != (s.size : Int)) = false from by simp [hsz], cond_false]
    rw [tmk, show (16384 : Int) = ((16384 : Nat) : Int) from rfl, q45 5100 r.1 16384 (by omega) (by omega) (by omega), bsm, cond_false, hz]
    rfl
   ·have hA := t44A hs 5100 [] s.data.toList rfl (by rw [len_d]; omega)
    rcases hA with hA | ⟨t, q, g, e1, hA⟩
    ·rw [show (0 : Int) = (([] : List UInt8).length : Int) from rfl, hA, bsm]
     simp only
     rw [show ((-1 : Int) != (s.size : Int)) = true from by simp only [bne_iff_ne, ne_eq]; omega, cond_true]
     rfl
    ·rw [show (0 : Int) = (([] : List UInt8).length : Int) from rfl, hA, bsm]
     simp only
     have hq : q ≠ [] := by
      rintro rfl
      rw [List.append_nil] at e1
      have hb := tb_ge (tc t) t (Nat.le_refl _) g.2
      have hsz : (tbt t).length = s.size := by rw [← e1, len_d]
      have := read_term (e := e) g (show tc t ≤ 2000 by omega)
      rw [← e1, bs_eta3, r1] at this
      have := congrArg (fun o => o.map Prod.snd) this
      simp at this
     have hlen : (tbt t).length + q.length = s.size := by rw [← lap, ← e1, len_d]
     have := List.length_pos_iff.2 hq
     rw [show ((((([] : List UInt8).length + (tbt t).length : Nat)) : Int) != (s.size : Int)) = true from by simp only [bne_iff_ne, ne_eq, List.length_nil, Nat.zero_add]; omega, cond_true]
     rfl
  rw [h13, bsm]
  simp only
  have htc : tc r.1 ≤ 2000 := by
   rcases r2 with ⟨hz, g, gt⟩ | rfl
   ·have hb := tb_ge (tc r.1) r.1 (Nat.le_refl _) g.2
    rw [gt, len_d] at hb
    omega
   ·rw [zT_tc]; omega
  rw [tmk, q14 5100 r.1 (by omega) (by omega), bsm, cond_true]
  simp only [F15, bsm]
  rw [show (r.2 == r.2) = true from by simp, cond_true]
  rfl
 ·rw [decide_eq_true (by omega), cond_true]
  rfl
end Go.Proofs.Tryd
