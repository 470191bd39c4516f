/- SpanDiff: the law is true of any two texts. Plain data alone. -/
import Derived.Test.YthpmanlglbfcdaaDoorH72
import Derived.Test.YthpmanlglbfcdaaDoorVE
open Option renaming bind_some → bsm
open List renaming getElem?_eq_some_iff → gei, getElem?_eq_getElem → geg, mem_of_getElem? → mog, take_of_length_le → tol, getElem?_append_right → gar, getElem?_append_left → gal, length_append → lap, length_cons → lcn, mem_cons_of_mem → mcm
namespace Go.Proofs.Tryd
set_option linter.unusedSimpArgs false
set_option linter.unusedVariables false
open Go Go.Vs
theorem ba_self (s : ByteArray) : (s == s) = true := by
 rw [beq_toListBytes]; exact beq_self_eq_true _
section
variable {a b : ByteArray}
theorem len_d (a : ByteArray) : a.data.toList.length = a.size := by rw [Array.length_toList]; rfl
theorem ex_list (s : ByteArray) (i j : Nat) : (s.extract i j).data.toList = (s.data.toList.take j).drop i := by
 simp [List.drop_take]
theorem sb_len (s : ByteArray) : (sbytes s).length = s.size := by unfold sbytes; rw [List.length_map, len_d]
theorem bstr_sb (l : List UInt8) : bstr (l.map fun b => ((b.toNat : Nat) : Int)) = ⟨l.toArray⟩ := by
 unfold bstr
 congr 2
 rw [List.map_map]
 conv => rhs; rw [← List.map_id l]
 refine List.map_congr_left (fun x _ => ?_)
 simp
theorem splice_app {α : Type} {l y : List α} {n : Nat} (h : n + y.length ≤ l.length) : (splice l n y).take (n + y.length) = l.take n ++ y ∧ (splice l n y).length = l.length := by
 unfold splice
 refine ⟨?_, by simp; omega⟩
 have : (l.take n ++ y).length = n + y.length := by simp; omega
 rw [← this, List.take_left]
theorem q26_4 (s : ByteArray) (c : Bool) {gen len : Nat} {lo : Int} {l : List Int} (hl : len ≤ l.length) (hlo : 0 ≤ lo ∧ lo + s.size ≤ 1048576) (hlen : len ≤ 2000000) (hs : s.size ≤ 2000000) :
  ∃ g' l', F26_4 s c gen len lo l = some (.k0 true g' (len + s.size) l') ∧ len + s.size ≤ l'.length ∧ l'.take (len + s.size) = l.take len ++ sbytes s := by
 have e1 : IntKind.wrap .i64 (lo + (s.size : Int)) = lo + s.size := w_id (by omega)
 have h52 : F52_2 c = some true := by cases c <;> rfl
 have hap : apOk len (sbytes s).length l.length 1 = true := by rw [sb_len]; exact decide_eq_true ⟨hl, by unfold limit47; omega, by unfold limit47; omega⟩
 unfold F26_4 F37_4
 rw [e1, decide_eq_true (by omega), h52]
 simp only [cond_true, bsm, hap]
 by_cases hc : len + (sbytes s).length ≤ l.length
 ·obtain ⟨s1, s2⟩ := splice_app hc
  rw [decide_eq_true hc]
  rw [sb_len] at hc s1 ⊢
  exact ⟨_, _, rfl, by rw [s2]; exact hc, s1⟩
 ·rw [decide_eq_false hc]
  rw [sb_len]
  refine ⟨_, _, rfl, by simp [sb_len]; omega, ?_⟩
  exact tol (by simp [sb_len]; omega)
theorem q26_5 (s : ByteArray) (c : Bool) {gen len : Nat} {lo : Int} {l : List Int} (hl : len ≤ l.length) (hlo : 0 ≤ lo ∧ lo + s.size ≤ 1048576) (hlen : len ≤ 2000000) (hs : s.size ≤ 2000000) :
  ∃ g' l', F26_5 s c gen len lo l = some (.k0 true g' (len + s.size) l') ∧ len + s.size ≤ l'.length ∧ l'.take (len + s.size) = l.take len ++ sbytes s := by
 have e1 : IntKind.wrap .i64 (lo + (s.size : Int)) = lo + s.size := w_id (by omega)
 have h52 : F52_4 c = some true := by cases c <;> rfl
 have hap : apOk len (sbytes s).length l.length 1 = true := by rw [sb_len]; exact decide_eq_true ⟨hl, by unfold limit47; omega, by unfold limit47; omega⟩
 unfold F26_5 F37_5
 rw [e1, decide_eq_true (by omega), h52]
 simp only [cond_true, bsm, hap]
 by_cases hc : len + (sbytes s).length ≤ l.length
 ·obtain ⟨s1, s2⟩ := splice_app hc
  rw [decide_eq_true hc]
  rw [sb_len] at hc s1 ⊢
  exact ⟨_, _, rfl, by rw [s2]; exact hc, s1⟩
 ·rw [decide_eq_false hc]
  rw [sb_len]
  refine ⟨_, _, rfl, by simp [sb_len]; omega, ?_⟩
  exact tol (by simp [sb_len]; omega)
theorem q26_2 (d : EditD) (c : Bool) {gen len : Nat} {lo : Int} {l : List Int} (hl : len ≤ l.length) (hlo : 0 ≤ lo ∧ lo + d.text.size ≤ 1048576) (hlen : len ≤ 2000000) (hs : d.text.size ≤ 2000000) :
  ∃ g' l', F26_2 d c gen len lo l = some (.k0 true g' (len + d.text.size) l') ∧ len + d.text.size ≤ l'.length ∧ l'.take (len + d.text.size) = l.take len ++ sbytes d.text := by
 have e1 : IntKind.wrap .i64 (lo + (d.text.size : Int)) = lo + d.text.size := w_id (by omega)
 have h52 : F52_2 c = some true := by cases c <;> rfl
 have hap : apOk len (sbytes d.text).length l.length 1 = true := by rw [sb_len]; exact decide_eq_true ⟨hl, by unfold limit47; omega, by unfold limit47; omega⟩
 unfold F26_2 F37_2
 rw [e1, decide_eq_true (by omega), h52]
 simp only [cond_true, bsm, hap]
 by_cases hc : len + (sbytes d.text).length ≤ l.length
 ·obtain ⟨s1, s2⟩ := splice_app hc
  rw [decide_eq_true hc]
  rw [sb_len] at hc s1 ⊢
  exact ⟨_, _, rfl, by rw [s2]; exact hc, s1⟩
 ·rw [decide_eq_false hc]
  rw [sb_len]
  refine ⟨_, _, rfl, by simp [sb_len]; omega, ?_⟩
  exact tol (by simp [sb_len]; omega)
end
section
variable {a b : ByteArray}
end
section
variable {a b : ByteArray}
end
theorem bneT {a b : Int} (h : ¬ a = b) : (a != b) = true := by simp [h]
def lt (x y : EditD) : Prop := x.frm < y.frm ∨ x.frm = y.frm ∧ x.til < y.til
instance (x y : EditD) : Decidable (lt x y) := by unfold lt; exact inferInstance
theorem q46 (x y : EditD) : F46 x y = some (if x.frm < y.frm then -1 else if x.frm > y.frm then 1 else 0) := by
 have h : ∀ z : EditD, F56 z = some false := fun z => by unfold F56; simp
 unfold F46
 rw [h, h]
 simp only [bsm, cond_false]
 by_cases h1 : x.frm < y.frm
 ·rw [decide_eq_true h1, if_pos h1]; rfl
 ·rw [decide_eq_false h1, if_neg h1]
  by_cases h2 : x.frm > y.frm
  ·rw [decide_eq_true h2, if_pos h2]; rfl
  ·rw [decide_eq_false h2, if_neg h2]; rfl
theorem q46_2 (x y : EditD) : F46_2 x y = some (if x.til < y.til then -1 else if x.til > y.til then 1 else 0) := by
 have h : ∀ z : EditD, F56_2 z = some false := fun z => by unfold F56_2; simp
 unfold F46_2
 rw [h, h]
 simp only [bsm, cond_false]
 by_cases h1 : x.til < y.til
 ·rw [decide_eq_true h1, if_pos h1]; rfl
 ·rw [decide_eq_false h1, if_neg h1]
  by_cases h2 : x.til > y.til
  ·rw [decide_eq_true h2, if_pos h2]; rfl
  ·rw [decide_eq_false h2, if_neg h2]; rfl
theorem q45 (a b : Int) : F45 [a, b] = some (if a ≠ 0 then a else b) := by
 have g0 : getI [a, b] 0 = some a := rfl
 have g1 : getI [a, b] 1 = some b := rfl
 have w0 : IntKind.wrap .i64 (0 + 1) = 1 := by decide
 have w1 : IntKind.wrap .i64 (1 + 1) = 2 := by decide
 have d0 : decide ((0 : Int) < ((([a, b] : List Int).length : Nat) : Int)) = true := rfl
 have d1 : decide ((1 : Int) < ((([a, b] : List Int).length : Nat) : Int)) = true := rfl
 have k0 : L45_0 [a, b] ((([a, b] : List Int).length : Nat) : Int) 0 = some (if a ≠ 0 then .inl (.k0 a) else .inr 1) := by
  simp only [L45_0, d0, cond_true, g0, bsm, w0]
  by_cases h : a = 0
  ·rw [if_neg (by simpa using h), h]; rfl
  ·rw [if_pos h, bneT h]; rfl
 have k1 : L45_0 [a, b] ((([a, b] : List Int).length : Nat) : Int) 1 = some (if b ≠ 0 then .inl (.k0 b) else .inr 2) := by
  simp only [L45_0, d1, cond_true, g1, bsm, w1]
  by_cases h : b = 0
  ·rw [if_neg (by simpa using h), h]; rfl
  ·rw [if_pos h, bneT h]; rfl
 have k2 : L45_0 [a, b] ((([a, b] : List Int).length : Nat) : Int) 2 = some (.inl .k1) := rfl
 unfold F45
 by_cases h : a = 0
 ·rw [if_neg (by simpa using h)] at k0
  rw [if_neg (by simpa using h)]
  rw [runL_next (step := fun s => L45_0 [a, b] ((([a, b] : List Int).length : Nat) : Int) s) k0]
  by_cases h' : b = 0
  ·rw [if_neg (by simpa using h')] at k1
   rw [runL_next (step := fun s => L45_0 [a, b] ((([a, b] : List Int).length : Nat) : Int) s) k1, runL_done (step := fun s => L45_0 [a, b] ((([a, b] : List Int).length : Nat) : Int) s) k2, h']
   rfl
  ·rw [if_pos h'] at k1
   rw [runL_done (step := fun s => L45_0 [a, b] ((([a, b] : List Int).length : Nat) : Int) s) k1]
   rfl
 ·rw [if_pos h] at k0
  rw [if_pos h, runL_done (step := fun s => L45_0 [a, b] ((([a, b] : List Int).length : Nat) : Int) s) k0]
  rfl
theorem q44 (x y : EditD) : ∃ c, F44 x y = some c ∧ decide (c < 0) = decide (lt x y) := by
 unfold F44
 rw [q46, q46_2]
 simp only [bsm, q45]
 refine ⟨_, rfl, ?_⟩
 rw [decide_eq_decide]
 unfold lt
 by_cases h1 : x.frm < y.frm
 ·rw [if_pos h1]; simp; omega
 ·rw [if_neg h1]
  by_cases h2 : x.frm > y.frm
  ·rw [if_pos h2]; simp; omega
  ·rw [if_neg h2]
   by_cases h3 : x.til < y.til
   ·rw [if_pos h3]; simp; omega
   ·rw [if_neg h3]
    by_cases h4 : x.til > y.til
    ·rw [if_pos h4]; simp; omega
    ·rw [if_neg h4]; simp; omega
def insR (x : EditD) : List EditD → List EditD
 | [] => [x]
 | y :: r => if lt x y then y :: insR x r else x :: y :: r
def isR : List EditD → List EditD → List EditD
 | [], r => r
 | x :: l, r => isR l (insR x r)
theorem insR_len (x : EditD) : ∀ r, (insR x r).length = r.length + 1
 | [] => rfl
 | y :: r => by
  simp only [insR]
  split
  ·simp only [lcn, insR_len x r]
  ·rfl
theorem l65_0 : ∀ (r : List EditD) (x : EditD) (s : List EditD) (n : Nat), n = r.length + 1 + s.length → n ≤ 1000 →
  runL (fun s => L65_0_3 n 0 s.1 s.2) ((r.length : Int), r.reverse ++ x :: s) = some (.k0 ((insR x r).reverse ++ s))
 | [], x, s, n, hn, hb => by
  refine runL_done ?_
  simp [L65_0_3, insR]
 | y :: r, x, s, n, hn, hb => by
  simp only [lcn] at hn
  obtain ⟨c, c1, c2⟩ := q44 x y
  have hrow : (y :: r).reverse ++ x :: s = r.reverse ++ y :: x :: s := by simp
  have hrl : r.reverse.length = r.length := List.length_reverse
  have g1 : (r.reverse ++ y :: x :: s)[r.length + 1]? = some x := by rw [gar (by omega)]; simp
  have g0 : (r.reverse ++ y :: x :: s)[r.length]? = some y := by rw [gar (by omega)]; simp
  have i1 : ixN n (((r.length + 1 : Nat)) : Int) = some (r.length + 1) := by rw [ixN_nat, if_pos (by omega)]
  have e1 : IntKind.wrap .i64 (((r.length + 1 : Nat) : Int) - 1) = ((r.length : Nat) : Int) := by rw [w_id (by omega)]; omega
  have i0 : ixN n ((r.length : Nat) : Int) = some r.length := by rw [ixN_nat, if_pos (by omega)]
  have s1 : (r.reverse ++ y :: x :: s).set (r.length + 1) y = r.reverse ++ y :: y :: s := by
   rw [List.set_append_right _ _ (by omega), hrl, Nat.add_sub_cancel_left]; rfl
  have s2 : (r.reverse ++ y :: y :: s).set r.length x = r.reverse ++ x :: y :: s := by
   rw [List.set_append_right _ _ (by omega), hrl, Nat.sub_self]; rfl
  have g2 : (r.reverse ++ y :: y :: s)[r.length]? = some y := by rw [gar (by omega)]; simp
  have hd : decide (((r.length + 1 : Nat) : Int) > 0) = true := decide_eq_true (by omega)
  rw [hrow]
  show runL (fun s => L65_0_3 n 0 s.1 s.2) (((r.length + 1 : Nat) : Int), r.reverse ++ y :: x :: s) = _
  by_cases hlt : lt x y
  ·rw [decide_eq_true hlt] at c2
   rw [runL_next (s' := (((r.length : Nat) : Int), r.reverse ++ x :: y :: s)) (by
    simp only [L65_0_3, hd, cond_true, i1, g1, bsm, e1, i0, g0, c1, c2, s1, g2, s2])]
   rw [l65_0 r x (y :: s) n (by simp only [lcn]; omega) hb]
   simp only [insR, if_pos hlt, List.reverse_cons, List.append_assoc, List.cons_append, List.nil_append]
  ·rw [decide_eq_false hlt] at c2
   refine runL_done ?_
   simp only [L65_0_3, hd, cond_true, i1, g1, bsm, e1, i0, g0, c1, c2, cond_false, insR, if_neg hlt, List.reverse_cons, List.append_assoc, List.cons_append, List.nil_append]
theorem l65_1 : ∀ (s r : List EditD) (n : Nat), n = r.length + s.length → n ≤ 1000 → 1 ≤ r.length →
  runL (fun s => L65_1_2 n 0 (n : Int) s.1 s.2) ((r.length : Int), r.reverse ++ s) = some (.k0 (isR s r).reverse)
 | [], r, n, hn, hb, h1 => by
  simp only [List.length_nil, Nat.add_zero] at hn
  refine runL_done ?_
  simp only [L65_1_2, decide_eq_false (show ¬ (r.length : Int) < (n : Int) by omega), cond_false, isR, List.append_nil]
 | x :: s, r, n, hn, hb, h1 => by
  simp only [lcn] at hn
  have hin := insR_len x r
  rw [runL_next (s' := (((r.length + 1 : Nat) : Int), (insR x r).reverse ++ s)) (by
   simp only [L65_1_2, decide_eq_true (show (r.length : Int) < (n : Int) by omega), cond_true, l65_0 r x s n (by omega) hb, bsm, w_S (show r.length < 4611686018427387904 by omega)])]
  have := l65_1 s (insR x r) n (by omega) hb (by omega)
  rw [hin] at this
  exact this
def srt (l : List EditD) : List EditD := (isR l []).reverse
theorem q65 (l : List EditD) (hb : l.length ≤ 1000) : F65_2 l.length 0 (l.length : Int) l = some (srt l) := by
 unfold F65_2
 have e1 : IntKind.wrap .i64 (0 + 1) = 1 := by decide
 rw [e1]
 cases l with
 | nil =>
  have : runL (fun s => L65_1_2 ([] : List EditD).length 0 ((([] : List EditD).length : Nat) : Int) s.1 s.2) ((1 : Int), ([] : List EditD)) = some (.k0 []) := runL_done rfl
  rw [this]
  rfl
 | cons x l =>
  have := l65_1 l [x] (x :: l).length (by simp only [lcn, List.length_nil]; omega) hb (Nat.le_refl _)
  have h2 : runL (fun s => L65_1_2 (x :: l).length 0 ((x :: l).length : Int) s.1 s.2) ((1 : Int), x :: l) = some (.k0 (isR l [x]).reverse) := this
  rw [h2]
  rfl
theorem beqF' {a b : Int} (h : ¬ a = b) : (a == b) = false := by simp [h]
theorem insR_perm (x : EditD) : ∀ r, List.Perm (insR x r) (x :: r)
 | [] => List.Perm.refl _
 | y :: r => by
  simp only [insR]
  split
  ·exact ((insR_perm x r).cons y).trans (List.Perm.swap x y r)
  ·exact List.Perm.refl _
theorem isR_perm : ∀ (l r : List EditD), List.Perm (isR l r) (l ++ r)
 | [], r => List.Perm.refl _
 | x :: l, r => by
  simp only [isR]
  refine (isR_perm l (insR x r)).trans ?_
  refine ((insR_perm x r).append_left l).trans ?_
  exact List.perm_middle
theorem srt_perm (l : List EditD) : List.Perm (srt l) l := by
 unfold srt
 exact (List.reverse_perm _).trans (by simpa using isR_perm l [])
theorem srt_len (l : List EditD) : (srt l).length = l.length := (srt_perm l).length_eq
theorem insR_so (x : EditD) : ∀ r, r.Pairwise (fun a b => ¬ lt a b) → (insR x r).Pairwise (fun a b => ¬ lt a b)
 | [], _ => by simp [insR]
 | y :: r, h => by
  rw [List.pairwise_cons] at h
  simp only [insR]
  split
  ·rename_i hl
   refine List.pairwise_cons.2 ⟨fun z hz => ?_, insR_so x r h.2⟩
   rcases List.mem_cons.1 ((insR_perm x r).mem_iff.1 hz) with rfl | hz
   ·unfold lt at hl ⊢; omega
   ·exact h.1 z hz
  ·rename_i hl
   refine List.pairwise_cons.2 ⟨fun z hz => ?_, List.pairwise_cons.2 h⟩
   rcases List.mem_cons.1 hz with rfl | hz
   ·exact hl
   ·have := h.1 z hz
    unfold lt at hl this ⊢; omega
theorem isR_so : ∀ (l r : List EditD), r.Pairwise (fun a b => ¬ lt a b) → (isR l r).Pairwise (fun a b => ¬ lt a b)
 | [], r, h => h
 | x :: l, r, h => isR_so l (insR x r) (insR_so x r h)
theorem srt_so (l : List EditD) : (srt l).Pairwise (fun a b => ¬ lt b a) := by
 unfold srt
 rw [List.pairwise_reverse]
 exact isR_so l [] List.Pairwise.nil
def okE (y x : EditD) : Prop := y.til ≤ x.frm ∧ ¬ (x.frm = y.frm ∧ x.til = y.til ∧ x.frm = x.til)
theorem l25_0 {row : List EditD} {n : Nat} (hn : n = row.length) (hb : n ≤ 1000) : ∀ (k i : Nat), i + k = n →
  ((∃ a b c d e, runL (fun s => L25_0 n ((n : Nat) : Int) row s) (i : Int) = some (.k0 a b c d e)) ∧ ∃ j y x, row[j]? = some y ∧ row[j + 1]? = some x ∧ ¬ okE y x) ∨
  (runL (fun s => L25_0 n ((n : Nat) : Int) row s) (i : Int) = some .k1 ∧ ∀ j y x, i ≤ j + 1 → row[j]? = some y → row[j + 1]? = some x → okE y x)
 | 0, i, hi => by
  obtain rfl : i = n := by omega
  refine .inr ⟨runL_done (by simp [L25_0]), fun j y x h1 h2 h3 => ?_⟩
  have := (gei.1 h3).1
  omega
 | k + 1, i, hi => by
  have hx : row[i]? = some (row[i]'(by omega)) := geg _
  generalize row[i]'(by omega) = x at hx
  have hd : decide ((i : Int) < ((n : Nat) : Int)) = true := decide_eq_true (by omega)
  have i1 : ixN n (i : Int) = some i := by rw [ixN_nat, if_pos (by omega)]
  have hS := w_S (show i < 4611686018427387904 by omega)
  have ih := l25_0 hn hb k (i + 1) (by omega)
  cases i with
  | zero =>
   have hs : L25_0 n ((n : Nat) : Int) row ((0 : Nat) : Int) = some (.inr ((0 + 1 : Nat) : Int)) := by
    have e0 : (((0 : Nat) : Int) == 0) = true := rfl
    simp only [L25_0, hd, cond_true, i1, hx, bsm, e0, hS]
   rw [runL_next (step := fun s => L25_0 n ((n : Nat) : Int) row s) hs]
   rcases ih with h | ⟨h1, h2⟩
   ·exact .inl h
   ·exact .inr ⟨h1, fun j y x h3 => h2 j y x (by omega)⟩
  | succ i =>
   have hy : row[i]? = some (row[i]'(by omega)) := geg _
   generalize row[i]'(by omega) = y at hy
   have e0 : (((i + 1 : Nat) : Int) == 0) = false := beqF' (by omega)
   have e1 : IntKind.wrap .i64 (((i + 1 : Nat) : Int) - 1) = (i : Int) := by rw [w_id (by omega)]; omega
   have i2 : ixN n (i : Int) = some i := by rw [ixN_nat, if_pos (by omega)]
   have nx : okE y x → L25_0 n ((n : Nat) : Int) row ((i + 1 : Nat) : Int) = some (.inr ((i + 1 + 1 : Nat) : Int)) →
     ((∃ a b c d e, runL (fun s => L25_0 n ((n : Nat) : Int) row s) ((i + 1 : Nat) : Int) = some (.k0 a b c d e)) ∧ ∃ j y x, row[j]? = some y ∧ row[j + 1]? = some x ∧ ¬ okE y x) ∨
     (runL (fun s => L25_0 n ((n : Nat) : Int) row s) ((i + 1 : Nat) : Int) = some .k1 ∧ ∀ j y x, i + 1 ≤ j + 1 → row[j]? = some y → row[j + 1]? = some x → okE y x) := by
    intro hok hs
    rw [runL_next (step := fun s => L25_0 n ((n : Nat) : Int) row s) hs]
    rcases ih with h | ⟨h1, h2⟩
    ·exact .inl h
    ·refine .inr ⟨h1, fun j y' x' h3 h4 h5 => ?_⟩
     by_cases e : j = i
     ·subst e
      rw [hy] at h4; rw [hx] at h5
      cases h4; cases h5
      exact hok
     ·exact h2 j y' x' (by omega) h4 h5
   by_cases c1 : x.frm < y.til
   ·refine .inl ⟨⟨x.frm, x.til, x.text, y.frm, y.til, runL_done (step := fun s => L25_0 n ((n : Nat) : Int) row s) ?_⟩, i, y, x, hy, hx, fun h => by have := h.1; omega⟩
    simp only [L25_0, hd, cond_true, i1, hx, bsm, e0, cond_false, e1, i2, hy, decide_eq_true c1]
   ·by_cases c2 : x.frm = y.frm
    ·by_cases c3 : x.til = y.til
     ·by_cases c4 : x.frm = x.til
      ·refine .inl ⟨⟨x.frm, x.til, x.text, y.frm, y.til, runL_done (step := fun s => L25_0 n ((n : Nat) : Int) row s) ?_⟩, i, y, x, hy, hx, fun h => h.2 ⟨c2, c3, c4⟩⟩
       have c2' : (x.frm == y.frm) = true := by rw [c2]; exact beq_self_eq_true _
       have c3' : (x.til == y.til) = true := by rw [c3]; exact beq_self_eq_true _
       have c4' : (x.frm == x.til) = true := by rw [c4]; exact beq_self_eq_true _
       simp only [L25_0, hd, cond_true, i1, hx, bsm, e0, cond_false, e1, i2, hy, decide_eq_false c1, c2', c3', c4', Bool.and_self]
      ·refine nx ⟨by omega, fun h => c4 h.2.2⟩ ?_
       have c2' : (x.frm == y.frm) = true := by rw [c2]; exact beq_self_eq_true _
       have c3' : (x.til == y.til) = true := by rw [c3]; exact beq_self_eq_true _
       simp only [L25_0, hd, cond_true, i1, hx, bsm, e0, cond_false, e1, i2, hy, decide_eq_false c1, c2', c3', beqF' c4, Bool.and_self, hS]
     ·refine nx ⟨by omega, fun h => c3 h.2.1⟩ ?_
      simp only [L25_0, hd, cond_true, i1, hx, bsm, e0, cond_false, e1, i2, hy, decide_eq_false c1, beqF' c3, Bool.and_false, Bool.false_and, hS]
    ·refine nx ⟨by omega, fun h => c2 h.1⟩ ?_
     simp only [L25_0, hd, cond_true, i1, hx, bsm, e0, cond_false, e1, i2, hy, decide_eq_false c1, beqF' c2, Bool.false_and, hS]
theorem q55 (Nf : Nat) (l : List EditD) (h20 : l.length ≤ 20) (gn : Nat) : F55 Nf gn l.length ((l.length : Nat) : Int) l = some (.k0 [] (srt l)) := by
 have hl := srt_len l
 have k2 : runL (fun s => L55_1 Nf gn l.length ((l.length : Nat) : Int) s.1 s.2.1 s.2.2) ((20 : Int), ([] : List EditD), srt l) = some (.k0 20 [] (srt l)) :=
  runL_done (by simp only [L55_1, decide_eq_false (show ¬ (20 : Int) < ((l.length : Nat) : Int) by omega), cond_false])
 unfold F55
 by_cases he : l.length = 20
 ·have e1 : IntKind.wrap .i64 (20 + 20) = 40 := by decide
  have k1 : runL (fun s => L55_2 l.length ((l.length : Nat) : Int) s.1 s.2.1 s.2.2) ((0 : Int), (20 : Int), l) = some (.k0 20 40 (srt l)) := by
   rw [runL_next (s' := ((20 : Int), (40 : Int), srt l)) (by
    have q := q65 l (by omega)
    have e20 : ((l.length : Nat) : Int) = 20 := by omega
    rw [e20] at q
    simp only [L55_2, decide_eq_true (show (20 : Int) ≤ ((l.length : Nat) : Int) by omega), cond_true, q, bsm, e1])]
   exact runL_done (by simp only [L55_2, decide_eq_false (show ¬ (40 : Int) ≤ ((l.length : Nat) : Int) by omega), cond_false])
  have k3 : F65_2 l.length 20 ((l.length : Nat) : Int) (srt l) = some (srt l) := by
   unfold F65_2
   have e2 : IntKind.wrap .i64 (20 + 1) = 21 := by decide
   rw [e2, runL_done (step := fun s : Int × List EditD => L65_1_2 l.length 20 ((l.length : Nat) : Int) s.1 s.2) (s := ((21 : Int), srt l)) (e := E_L65_1_2.k0 (srt l)) (by simp only [L65_1_2, decide_eq_false (show ¬ (21 : Int) < ((l.length : Nat) : Int) by omega), cond_false])]
   rfl
  rw [k1]
  simp only [bsm, k3, k2]
 ·have k1 : runL (fun s => L55_2 l.length ((l.length : Nat) : Int) s.1 s.2.1 s.2.2) ((0 : Int), (20 : Int), l) = some (.k0 0 20 l) :=
   runL_done (by simp only [L55_2, decide_eq_false (show ¬ (20 : Int) ≤ ((l.length : Nat) : Int) by omega), cond_false])
  rw [k1]
  simp only [bsm, q65 l (by omega), k2]
theorem q25l (Nf : Nat) (l : List EditD) (h20 : l.length ≤ 20) : (F25 Nf l = some (.k0 [] 110) ∧ ∃ j y x, (srt l)[j]? = some y ∧ (srt l)[j + 1]? = some x ∧ ¬ okE y x) ∨ (F25 Nf l = some (.k0 (srt l) 0) ∧ ∀ (j : Nat) (y x : EditD), (srt l)[j]? = some y → (srt l)[j + 1]? = some x → okE y x) := by
 have hl := srt_len l
 have hc : clOk l.length 32 = true := by unfold clOk limit47; exact decide_eq_true ⟨by omega, by omega⟩
 have h43 : F43 Nf (gnz l) l.length l = some (.k0 [] (srt l)) := by unfold F43; rw [q55 Nf l h20]; rfl
 have e0 : ((0 : Nat) : Int) = 0 := rfl
 have h := l25_0 (row := srt l) (n := l.length) hl.symm (by omega) l.length 0 (by omega)
 rw [e0] at h
 unfold F25
 rw [hc, h43]
 simp only [cond_true, bsm]
 rcases h with ⟨⟨a, b, c, d, e, h⟩, hx⟩ | ⟨h1, h2⟩
 ·have k3 : runL (fun s => L25_1 l.length (srt l)) () = some (.k0 a b c d e) := runL_done (by simp only [L25_1, h, bsm])
  refine .inl ⟨?_, hx⟩
  rw [k3]
  rfl
 ·have k3 : runL (fun s => L25_1 l.length (srt l)) () = some .k1 := runL_done (by simp only [L25_1, h1, bsm])
  refine .inr ⟨?_, fun j y x h3 h4 => h2 j y x (by omega) h3 h4⟩
  rw [k3]
  simp only [bsm, decide_eq_true (show l.length ≤ (srt l).length by omega), cond_true]
  rw [tol (by omega)]
def apl (A : List UInt8) : Nat → List EditD → List UInt8
 | at_, [] => A.drop at_
 | at_, e :: s => (A.take e.frm.toNat).drop at_ ++ e.text.data.toList ++ apl A e.til.toNat s
def rgE (n : Nat) (d : EditD) : Prop := 0 ≤ d.frm ∧ d.frm ≤ d.til ∧ d.til ≤ (n : Int)
theorem q41 (d : EditD) (n : Nat) : (F41 d (n : Int) = some true ∧ ¬ rgE n d) ∨ (F41 d (n : Int) = some false ∧ rgE n d) := by
 unfold F41
 by_cases h1 : d.frm < 0
 ·rw [decide_eq_true h1]; exact .inl ⟨rfl, fun h => by unfold rgE at h; omega⟩
 rw [decide_eq_false h1]
 by_cases h2 : d.til < d.frm
 ·rw [decide_eq_true h2]; exact .inl ⟨rfl, fun h => by unfold rgE at h; omega⟩
 rw [decide_eq_false h2]
 by_cases h3 : d.til > (n : Int)
 ·rw [decide_eq_true h3]; exact .inl ⟨rfl, fun h => by unfold rgE at h; omega⟩
 rw [decide_eq_false h3]
 exact .inr ⟨rfl, by omega, by omega, by omega⟩
theorem l54 (l : List EditD) (n : Nat) (hl : l.length ≤ 1000) : ∀ (k i : Nat), i + k = l.length →
  (∃ j : Nat, runL (fun s => L54_0 l (n : Int) (l.length : Int) s) (i : Int) = some (.k0 (j : Int))) ∧ (∃ d ∈ l, ¬ rgE n d) ∨
  (runL (fun s => L54_0 l (n : Int) (l.length : Int) s) (i : Int) = some .k1 ∧ ∀ j d, i ≤ j → l[j]? = some d → rgE n d)
 | 0, i, hi => by
  obtain rfl : i = l.length := by omega
  refine .inr ⟨runL_done (by simp [L54_0]), fun j d h1 h2 => ?_⟩
  have := (gei.1 h2).1
  omega
 | k + 1, i, hi => by
  have hx : l[i]? = some (l[i]'(by omega)) := geg _
  generalize l[i]'(by omega) = x at hx
  have hd : decide ((i : Int) < (l.length : Int)) = true := decide_eq_true (by omega)
  rcases q41 x n with ⟨h, hn⟩ | ⟨h, hr⟩
  ·refine .inl ⟨⟨i, ?_⟩, x, mog hx, hn⟩
   exact runL_done (step := fun s => L54_0 l (n : Int) (l.length : Int) s) (by simp only [L54_0, hd, cond_true, getI_nat, hx, bsm, h])
  ·have hs : L54_0 l (n : Int) (l.length : Int) (i : Int) = some (.inr ((i + 1 : Nat) : Int)) := by simp only [L54_0, hd, cond_true, getI_nat, hx, bsm, h, cond_false, w_S (show i < 4611686018427387904 by omega)]
   rw [runL_next (step := fun s => L54_0 l (n : Int) (l.length : Int) s) hs]
   rcases l54 l n hl k (i + 1) (by omega) with h2 | ⟨h2, h3⟩
   ·exact .inl h2
   ·refine .inr ⟨h2, fun j d h4 h5 => ?_⟩
    by_cases e : j = i
    ·subst e; rw [hx] at h5; cases h5; exact hr
    ·exact h3 j d (by omega) h5
theorem q24l (l : List EditD) (n : Nat) (hl : l.length ≤ 1000) : (F24 (n : Int) l = some false ∧ ∃ d ∈ l, ¬ rgE n d) ∨ (F24 (n : Int) l = some true ∧ ∀ d ∈ l, rgE n d) := by
 have e0 : ((0 : Nat) : Int) = 0 := rfl
 have h := l54 l n hl l.length 0 (by omega)
 rw [e0] at h
 unfold F24 F40 F54
 rcases h with ⟨⟨j, h⟩, hx⟩ | ⟨h1, h2⟩
 ·refine .inl ⟨?_, hx⟩
  rw [h]
  simp only [bsm, decide_eq_true (show (j : Int) ≥ 0 by omega), Bool.not_true]
 ·right
  rw [h1]
  refine ⟨rfl, fun d hd => ?_⟩
  obtain ⟨j, hj⟩ := List.getElem?_of_mem hd
  exact h2 j d (by omega) hj
theorem ex_ints (a : ByteArray) {i j : Nat} : (a.extract (Int.toNat (i : Int)) (Int.toNat (j : Int))).data.toList = (a.data.toList.take j).drop i := by rw [ex_list]; rfl
abbrev ints (l : List UInt8) : List Int := l.map fun b => ((b.toNat : Nat) : Int)
theorem l13 {a : ByteArray} (ha : a.size ≤ 70000) {s : List EditD} (h20 : s.length ≤ 20) (hr : ∀ d ∈ s, rgE a.size d) (hx : ∀ d ∈ s, d.text.size ≤ 3000) (hc : ∀ (j : Nat) (y x : EditD), s[j]? = some y → s[j + 1]? = some x → okE y x) :
  ∀ (k i at_ gen len : Nat) (c : Bool) (row : List Int) (acc : List UInt8), i + k = s.length → (∀ x, s[i]? = some x → (at_ : Int) ≤ x.frm) → at_ ≤ a.size → len = acc.length → len ≤ at_ + 3000 * i → len ≤ row.length → row.take len = ints acc →
  ∃ at' c' gen' len' row' acc', runL (fun z => L13_0 a s (s.length : Int) z.1 z.2.1 z.2.2.1 z.2.2.2.1 z.2.2.2.2.1 z.2.2.2.2.2.1 z.2.2.2.2.2.2) ((at_ : Int), (i : Int), c, gen, len, (len : Int), row) = some (.k0 ((at' : Nat) : Int) c' gen' len' ((len' : Nat) : Int) row') ∧
   at' ≤ a.size ∧ len' = acc'.length ∧ len' ≤ at' + 3000 * s.length ∧ len' ≤ row'.length ∧ row'.take len' = ints acc' ∧ acc' ++ a.data.toList.drop at' = acc ++ apl a.data.toList at_ (s.drop i)
 | 0, i, at_, gen, len, c, row, acc, hi, _, h1, h2, h3, h4, h5 => by
  obtain rfl : i = s.length := by omega
  refine ⟨at_, c, gen, len, row, acc, runL_done ?_, h1, h2, h3, h4, h5, ?_⟩
  ·simp only [L13_0, decide_eq_false (show ¬ (s.length : Int) < (s.length : Int) by omega), cond_false]
  ·rw [List.drop_length]; rfl
 | k + 1, i, at_, gen, len, c, row, acc, hi, h0, h1, h2, h3, h4, h5 => by
  have hxx : s[i]? = some (s[i]'(by omega)) := geg _
  have hd : s.drop i = s[i]'(by omega) :: s.drop (i + 1) := List.drop_eq_getElem_cons (by omega)
  generalize s[i]'(by omega) = x at hxx hd
  have hmem := mog hxx
  obtain ⟨r1, r2, r3⟩ := hr x hmem
  have r0 := h0 x hxx
  have rx := hx x hmem
  obtain ⟨f, hf⟩ : ∃ f : Nat, x.frm = (f : Int) := ⟨x.frm.toNat, by omega⟩
  obtain ⟨u, hu⟩ : ∃ u : Nat, x.til = (u : Int) := ⟨x.til.toNat, by omega⟩
  have x1 := ex_ints a (i := at_) (j := f)
  have n1 : (a.extract (Int.toNat (at_ : Int)) (Int.toNat (f : Int))).size = f - at_ := by rw [← len_d, x1, List.length_drop, List.length_take, len_d]; omega
  have s1 : sl_ok (at_ : Int) (f : Int) a.size = true := decide_eq_true ⟨by omega, by omega, by omega⟩
  obtain ⟨g1, l1, u1, u2, u3⟩ := q26_4 (a.extract (Int.toNat (at_ : Int)) (Int.toNat (f : Int))) c (gen := gen) (len := len) (lo := (len : Int)) (l := row) h4 (by omega) (by omega) (by omega)
  have w1 : IntKind.wrap .i64 ((len : Int) + ((a.extract (Int.toNat (at_ : Int)) (Int.toNat (f : Int))).size : Int)) = ((len + (a.extract (Int.toNat (at_ : Int)) (Int.toNat (f : Int))).size : Nat) : Int) := by rw [w_id (by omega)]; omega
  obtain ⟨g2, l2, v1, v2, v3⟩ := q26_2 x true (gen := g1) (len := len + (a.extract (Int.toNat (at_ : Int)) (Int.toNat (f : Int))).size) (lo := ((len + (a.extract (Int.toNat (at_ : Int)) (Int.toNat (f : Int))).size : Nat) : Int)) (l := l1) u2 (by omega) (by omega) (by omega)
  have w2 : IntKind.wrap .i64 (((len + (a.extract (Int.toNat (at_ : Int)) (Int.toNat (f : Int))).size : Nat) : Int) + (x.text.size : Int)) = ((len + (a.extract (Int.toNat (at_ : Int)) (Int.toNat (f : Int))).size + x.text.size : Nat) : Int) := by rw [w_id (by omega)]; omega
  have hstep : L13_0 a s (s.length : Int) (at_ : Int) (i : Int) c gen len (len : Int) row = some (.inr ((u : Int), ((i + 1 : Nat) : Int), true, g2, len + (a.extract (Int.toNat (at_ : Int)) (Int.toNat (f : Int))).size + x.text.size, ((len + (a.extract (Int.toNat (at_ : Int)) (Int.toNat (f : Int))).size + x.text.size : Nat) : Int), l2)) := by
   simp only [L13_0, decide_eq_true (show (i : Int) < (s.length : Int) by omega), cond_true, getI_nat, hxx, bsm, hf, hu, s1, u1, w1, v1, w2, w_S (show i < 4611686018427387904 by omega)]
  have hacc : l2.take (len + (a.extract (Int.toNat (at_ : Int)) (Int.toNat (f : Int))).size + x.text.size) = ints (acc ++ (a.data.toList.take f).drop at_ ++ x.text.data.toList) := by
   rw [v3, u3, h5]
   simp only [sbytes, x1, List.map_append]
  obtain ⟨at', c', gen', len', row', acc', k1, k2, k3, k4, k5, k6, k7⟩ := l13 ha h20 hr hx hc k (i + 1) u g2 (len + (a.extract (Int.toNat (at_ : Int)) (Int.toNat (f : Int))).size + x.text.size) true l2 (acc ++ (a.data.toList.take f).drop at_ ++ x.text.data.toList) (by omega)
   (fun y hy => by have := (hc i x y hxx hy).1; omega) (by omega)
   (by simp only [lap, ← x1, len_d]; omega) (by omega) v2 hacc
  refine ⟨at', c', gen', len', row', acc', ?_, k2, k3, k4, k5, k6, ?_⟩
  ·rw [runL_next (s' := ((u : Int), ((i + 1 : Nat) : Int), true, g2, len + (a.extract (Int.toNat (at_ : Int)) (Int.toNat (f : Int))).size + x.text.size, ((len + (a.extract (Int.toNat (at_ : Int)) (Int.toNat (f : Int))).size + x.text.size : Nat) : Int), l2)) hstep]
   exact k1
  ·rw [k7, hd]
   simp only [apl, hf, hu, Int.toNat_natCast, List.append_assoc]
theorem q13l (Nf : Nat) {a : ByteArray} (ha : a.size ≤ 70000) {l : List EditD} (h20 : l.length ≤ 20) (hx : ∀ d ∈ l, d.text.size ≤ 3000) :
  (∃ e : Int, e ≠ 0 ∧ F13 Nf a l = some (.k0 (⟨([] : List UInt8).toArray⟩ : ByteArray) e) ∧ (e = 4 ∧ (∃ d ∈ l, ¬ rgE a.size d) ∨ e = 110 ∧ (∀ d ∈ l, rgE a.size d) ∧ F25 Nf l = some (.k0 [] 110) ∧ ∃ j y x, (srt l)[j]? = some y ∧ (srt l)[j + 1]? = some x ∧ ¬ okE y x)) ∨
  (F13 Nf a l = some (.k0 ⟨(apl a.data.toList 0 (srt l)).toArray⟩ 0) ∧ F25 Nf l = some (.k0 (srt l) 0) ∧ (∀ d ∈ l, rgE a.size d) ∧ ∀ (j : Nat) (y x : EditD), (srt l)[j]? = some y → (srt l)[j + 1]? = some x → okE y x) := by
 have h00 : ((0 : Int) != 0) = false := rfl
 have h110 : ((110 : Int) != 0) = true := rfl
 unfold F13
 rw [decide_eq_false (show ¬ (a.size : Int) > 1048576 by omega)]
 simp only [cond_false]
 rcases q24l l a.size (by omega) with ⟨h, hn⟩ | ⟨h, hr⟩
 ·exact .inl ⟨4, by decide, by rw [h]; rfl, .inl ⟨rfl, hn⟩⟩
 rw [h]
 simp only [bsm, cond_true]
 rcases q25l Nf l h20 with ⟨h25, hn⟩ | ⟨h25, hok⟩
 ·exact .inl ⟨110, by decide, by rw [h25]; rfl, .inr ⟨rfl, hr, h25, hn⟩⟩
 right
 refine ⟨?_, h25, hr, hok⟩
 rw [h25]
 simp only [bsm, h00, cond_false]
 have hp := srt_perm l
 have hl := srt_len l
 obtain ⟨at', c', gen', len', row', acc', k1, k2, k3, k4, k5, k6, k7⟩ := l13 ha (s := srt l) (by omega) (fun d hd => hr d (hp.mem_iff.1 hd)) (fun d hd => hx d (hp.mem_iff.1 hd)) hok (srt l).length 0 0 0 0 false [] [] (by omega)
  (fun x hxx => by have := (hr x (hp.mem_iff.1 (mog hxx))).1; omega) (by omega) rfl (by omega) (Nat.le_refl _) rfl
 have e0 : ((0 : Nat) : Int) = 0 := rfl
 rw [e0] at k1
 rw [List.drop_zero, List.nil_append] at k7
 have s2 : sl_ok (at' : Int) (a.size : Int) a.size = true := decide_eq_true ⟨by omega, by omega, by omega⟩
 have x2 : (a.extract (Int.toNat (at' : Int)) (Int.toNat (a.size : Int))).data.toList = a.data.toList.drop at' := by
  rw [ex_list, Int.toNat_natCast, Int.toNat_natCast, tol (by rw [len_d]; exact Nat.le_refl _)]
 have n2 : (a.extract (Int.toNat (at' : Int)) (Int.toNat (a.size : Int))).size = a.size - at' := by rw [← len_d, x2, List.length_drop, len_d]
 obtain ⟨g3, l3, y1, y2, y3⟩ := q26_5 (a.extract (Int.toNat (at' : Int)) (Int.toNat (a.size : Int))) c' (gen := gen') (len := len') (lo := (len' : Int)) (l := row') k5 (by omega) (by omega) (by omega)
 have w3 : IntKind.wrap .i64 ((len' : Int) + ((a.extract (Int.toNat (at' : Int)) (Int.toNat (a.size : Int))).size : Int)) = (len' : Int) + (a.size - at' : Nat) := by rw [n2, w_id (by omega)]
 rw [k1]
 simp only [bsm, s2, cond_true, y1, w3, decide_eq_false (show ¬ (len' : Int) + ((a.size - at' : Nat) : Int) > 1048576 by omega), cond_false]
 have key : l3.take (len' + (a.extract (Int.toNat (at' : Int)) (Int.toNat (a.size : Int))).size) = ints (apl a.data.toList 0 (srt l)) := by
  rw [y3, k6, ← k7]
  simp only [sbytes, x2, List.map_append]
 generalize hL : len' + (a.extract (Int.toNat (at' : Int)) (Int.toNat (a.size : Int))).size = len at key y2 ⊢
 unfold F27
 by_cases h0 : 0 < len
 ·have hu : usOk len l3.length = true := decide_eq_true ⟨y2, by omega⟩
  rw [decide_eq_true h0, hu, key]
  simp only [cond_true, bstr_sb, bsm]
 ·rw [decide_eq_false h0]
  simp only [cond_false, bsm]
  have hz : len = 0 := by omega
  rw [hz, List.take_zero] at key
  have := List.map_eq_nil_iff.1 key.symm
  rw [this]
  rfl
theorem lt_next {n : Nat} {y x : EditD} (h : okE y x) (hy : rgE n y) (hx : rgE n x) : lt y x := by
 obtain ⟨h1, h2⟩ := h
 obtain ⟨y1, y2, y3⟩ := hy
 obtain ⟨x1, x2, x3⟩ := hx
 unfold lt
 omega
theorem q14 (a : ByteArray) (l : List EditD) : ∃ v, F14 a l = some v ∧ (v = false → a.size ≤ 3000 ∧ l.length ≤ 20 ∧ ∀ d ∈ l, d.text.size ≤ 3000) := by
 unfold F14
 by_cases c1 : (a.size : Int) > 3000
 ·rw [decide_eq_true c1]; exact ⟨true, rfl, fun e => by cases e⟩
 rw [decide_eq_false c1]
 by_cases c2 : (l.length : Int) > 20
 ·rw [decide_eq_true c2]; exact ⟨true, rfl, fun e => by cases e⟩
 rw [decide_eq_false c2]
 simp only [cond_false]
 have key := loop_list (step := fun s => L14_0 l s) (l := l) (fun _ d => !decide ((d.text.size : Int) > 3000)) (bad := E_L14_0.k0) (fin := .k1) (fun i x hx => by
  have hi : i < l.length := (gei.1 hx).1
  simp only [L14_0, getI_nat, hx, bsm, decide_eq_true (show (i : Int) < (l.length : Int) by omega), cond_true, w_S (show i < 4611686018427387904 by omega)]
  cases decide ((x.text.size : Int) > 3000) <;> rfl) (by simp [L14_0])
 rw [key]
 cases hc : allF (fun _ (d : EditD) => !decide ((d.text.size : Int) > 3000)) 0 l with
 | false => exact ⟨true, rfl, fun e => by cases e⟩
 | true =>
  refine ⟨false, rfl, fun _ => ⟨by omega, by omega, fun d hd => ?_⟩⟩
  obtain ⟨j, hj⟩ := List.getElem?_of_mem hd
  have := (allF_iff _ _).1 hc j d hj
  simp at this
  omega
def ov (a b : EditD) : Prop := (a.frm = a.til ∧ b.frm = b.til ∧ a.frm = b.frm) ∨ (a.frm < b.til ∧ b.frm < a.til)
instance (a b : EditD) : Decidable (ov a b) := by unfold ov; exact inferInstance
theorem ov_symm {a b : EditD} (h : ¬ ov a b) : ¬ ov b a := by unfold ov at h ⊢; omega
def NoC (l : List EditD) : Prop := l.Pairwise (fun a b => ¬ ov a b)
def Ch (s : List EditD) : Prop := ∀ (j : Nat) (y x : EditD), s[j]? = some y → s[j + 1]? = some x → okE y x
def Rg (n : Nat) (s : List EditD) : Prop := ∀ d ∈ s, rgE n d
def ap_ (y x : EditD) : Prop := y.til ≤ x.frm ∧ lt y x
theorem ch_pw {n : Nat} : ∀ (s : List EditD), Ch s → Rg n s → s.Pairwise ap_
 | [], _, _ => List.Pairwise.nil
 | [a], _, _ => by simp
 | a :: b :: s, h, hr => by
  have ih := ch_pw (b :: s) (fun j y x h1 h2 => h (j + 1) y x (by simpa using h1) (by simpa using h2)) (fun d hd => hr d (mcm _ hd))
  have hok := h 0 a b rfl rfl
  have ra := hr a (by simp)
  have rb := hr b (by simp)
  have hab : ap_ a b := ⟨hok.1, lt_next hok ra rb⟩
  refine List.pairwise_cons.2 ⟨fun z hz => ?_, ih⟩
  rcases List.mem_cons.1 hz with rfl | hz
  ·exact hab
  ·have := (List.pairwise_cons.1 ih).1 z hz
   obtain ⟨r1, r2, r3⟩ := rb
   unfold ap_ lt at hab this ⊢
   omega
theorem pw_noc {n : Nat} {s : List EditD} (h : s.Pairwise ap_) (hr : Rg n s) : NoC s := by
 refine h.imp_of_mem (fun {y x} hy hx hyx => ?_)
 obtain ⟨y1, y2, y3⟩ := hr y hy
 obtain ⟨x1, x2, x3⟩ := hr x hx
 unfold ap_ lt at hyx
 unfold ov
 omega
theorem noc_ch {n : Nat} {s : List EditD} (h : s.Pairwise (fun a b => ¬ lt b a)) (hn : NoC s) (hr : Rg n s) : Ch s := by
 intro j y x h1 h2
 obtain ⟨g1, e1⟩ := gei.1 h1
 obtain ⟨g2, e2⟩ := gei.1 h2
 have a1 := List.pairwise_iff_getElem.1 h j (j + 1) g1 g2 (by omega)
 have a2 := List.pairwise_iff_getElem.1 hn j (j + 1) g1 g2 (by omega)
 rw [e1, e2] at a1 a2
 obtain ⟨y1, y2, y3⟩ := hr y (mog h1)
 obtain ⟨x1, x2, x3⟩ := hr x (mog h2)
 unfold lt at a1
 unfold ov at a2
 unfold okE
 omega
theorem pw_lt {s : List EditD} (h : s.Pairwise ap_) : s.Pairwise lt := h.imp (fun h => h.2)
theorem noc_perm {l s : List EditD} (h : List.Perm l s) (hn : NoC l) : NoC s := (h.pairwise_iff (fun h => ov_symm h)).1 hn
theorem rg_perm {n : Nat} {l s : List EditD} (h : List.Perm l s) (hr : Rg n l) : Rg n s := fun d hd => hr d (h.mem_iff.2 hd)
theorem uniq : ∀ (s t : List EditD), List.Perm s t → s.Pairwise (fun a b => ¬ lt b a) → t.Pairwise lt → s = t
 | [], t, h, _, _ => (List.nil_perm.1 h).symm
 | x :: s, [], h, _, _ => absurd h.length_eq (by simp)
 | x :: s, y :: t, h, hs, ht => by
  rw [List.pairwise_cons] at hs ht
  by_cases e : x = y
  ·subst e
   rw [uniq s t ((List.perm_cons x).1 h) hs.2 ht.2]
  ·exfalso
   have h1 : y ∈ s := by
    have := h.mem_iff.2 (List.mem_cons_self (a := y) (l := t))
    rcases List.mem_cons.1 this with h | h
    ·exact absurd h.symm e
    ·exact h
   have h2 : x ∈ t := by
    have := h.mem_iff.1 (List.mem_cons_self (a := x) (l := s))
    rcases List.mem_cons.1 this with h | h
    ·exact absurd h e
    ·exact h
   exact hs.1 y h1 (ht.1 x h2)
theorem srt_ch {n : Nat} {l : List EditD} (hr : Rg n l) (hn : NoC l) : Ch (srt l) :=
 noc_ch (srt_so l) (noc_perm (srt_perm l).symm hn) (rg_perm (srt_perm l).symm hr)
theorem srt_noc {n : Nat} {l : List EditD} (hr : Rg n l) (hc : Ch (srt l)) : NoC l :=
 noc_perm (srt_perm l) (pw_noc (ch_pw (srt l) hc (rg_perm (srt_perm l).symm hr)) (rg_perm (srt_perm l).symm hr))
theorem srt_id {n : Nat} {s : List EditD} (hr : Rg n s) (hc : Ch s) : srt s = s :=
 uniq _ _ (srt_perm s) (srt_so s) (pw_lt (ch_pw s hc hr))
theorem srt_eq {n : Nat} {l m : List EditD} (h : List.Perm l m) (hr : Rg n l) (hn : NoC l) : srt m = srt l :=
 uniq _ _ ((srt_perm m).trans (h.symm.trans (srt_perm l).symm)) (srt_so m) (pw_lt (ch_pw (n := n) _ (srt_ch hr hn) (rg_perm (srt_perm l).symm hr)))
def pIns (i : Nat) (d : EditD) : Bool := decide (d.frm = (i : Int) ∧ d.til = (i : Int))
def pLas (i : Nat) (d : EditD) : Bool := decide (d.frm = (i : Int) ∧ (i : Int) < d.til)
def pCut (i : Nat) (d : EditD) : Bool := decide (d.frm ≤ (i : Int) ∧ (i : Int) < d.til)
def tx (l : List EditD) : List UInt8 := l.flatMap fun d => d.text.data.toList
def Wi (A : List UInt8) (l : List EditD) (i : Nat) : List UInt8 := tx (l.filter (pIns i)) ++ tx (l.filter (pLas i)) ++ bif l.any (pCut i) then [] else (A.drop i).take 1
def WL (A : List UInt8) (l : List EditD) : Nat → Nat → List UInt8
 | 0, _ => []
 | k + 1, i => Wi A l i ++ WL A l k (i + 1)
theorem wl_congr {A : List UInt8} {l l' : List EditD} : ∀ (k i : Nat), (∀ j, i ≤ j → Wi A l j = Wi A l' j) → WL A l k i = WL A l' k i
 | 0, _, _ => rfl
 | k + 1, i, h => by
  simp only [WL]
  rw [h i (Nat.le_refl _), wl_congr k (i + 1) (fun j hj => h j (by omega))]
theorem wl_skip {A : List UInt8} {l : List EditD} : ∀ (j k i : Nat), (∀ t, i ≤ t → t < i + j → Wi A l t = []) → WL A l (j + k) i = WL A l k (i + j)
 | 0, k, i, _ => by rw [Nat.zero_add, Nat.add_zero]
 | j + 1, k, i, h => by
  rw [show j + 1 + k = (j + k) + 1 by omega]
  simp only [WL]
  rw [h i (Nat.le_refl _) (by omega), List.nil_append, wl_skip j k (i + 1) (fun t h1 h2 => h t (by omega) (by omega))]
  congr 1
  omega
theorem filt_no {p : EditD → Bool} {l : List EditD} (h : ∀ d ∈ l, p d = false) : l.filter p = [] := List.filter_eq_nil_iff.2 (fun d hd e => by rw [h d hd] at e; cases e)
theorem any_no {p : EditD → Bool} {l : List EditD} (h : ∀ d ∈ l, p d = false) : l.any p = false := List.any_eq_false.2 (fun d hd e => by rw [h d hd] at e; cases e)
theorem wi_far {A : List UInt8} {l : List EditD} {i : Nat} (h : ∀ d ∈ l, (i : Int) < d.frm) : Wi A l i = (A.drop i).take 1 := by
 unfold Wi
 rw [filt_no (p := pIns i) (fun d hd => decide_eq_false (by have := h d hd; omega)), filt_no (p := pLas i) (fun d hd => decide_eq_false (by have := h d hd; omega)), any_no (p := pCut i) (fun d hd => decide_eq_false (by have := h d hd; omega))]
 rfl
theorem wi_past {A : List UInt8} {e : EditD} {l : List EditD} {i : Nat} (h : e.frm ≤ e.til ∧ e.til ≤ (i : Int) ∧ e.frm < (i : Int)) : Wi A (e :: l) i = Wi A l i := by
 have h1 : pIns i e = false := decide_eq_false (by omega)
 have h2 : pLas i e = false := decide_eq_false (by omega)
 have h3 : pCut i e = false := decide_eq_false (by omega)
 unfold Wi
 simp only [List.filter_cons, h1, h2, List.any_cons, h3, Bool.false_or]
 rfl
theorem apl_wl (A : List UInt8) : ∀ (k at_ : Nat) (s : List EditD), at_ + k = A.length + 1 → s.Pairwise ap_ → Rg A.length s → (∀ d ∈ s, (at_ : Int) ≤ d.frm) → apl A at_ s = WL A s k at_
 | 0, at_, s, hk, hs, hr, ha => by
  cases s with
  | nil => simp only [apl, WL]; exact List.drop_of_length_le (by omega)
  | cons e s =>
   obtain ⟨r1, r2, r3⟩ := hr e (by simp)
   have := ha e (by simp)
   omega
 | k + 1, at_, [], hk, hs, hr, ha => by
  have ih := apl_wl A k (at_ + 1) [] (by omega) hs hr (by simp)
  simp only [apl] at ih
  simp only [apl, WL]
  rw [wi_far (by simp), ← ih]
  conv => lhs; rw [← List.take_append_drop 1 (A.drop at_), List.drop_drop]
 | k + 1, at_, e :: s, hk, hs, hr, ha => by
  obtain ⟨r1, r2, r3⟩ := hr e (by simp)
  have hae := ha e (by simp)
  have hp := List.pairwise_cons.1 hs
  have hrs : Rg A.length s := fun d hd => hr d (mcm _ hd)
  obtain ⟨f, hf⟩ : ∃ f : Nat, e.frm = (f : Int) := ⟨e.frm.toNat, by omega⟩
  obtain ⟨u, hu⟩ : ∃ u : Nat, e.til = (u : Int) := ⟨e.til.toNat, by omega⟩
  by_cases c1 : (at_ : Int) < e.frm
  ·have hfar : ∀ d ∈ e :: s, (at_ : Int) < d.frm := by
    intro d hd
    rcases List.mem_cons.1 hd with rfl | hd
    ·exact c1
    ·have := hp.1 d hd
     unfold ap_ at this
     omega
   have ih := apl_wl A k (at_ + 1) (e :: s) (by omega) hs hr (fun d hd => by have := hfar d hd; omega)
   simp only [WL]
   rw [wi_far hfar, ← ih]
   simp only [apl, hf, Int.toNat_natCast]
   have : (A.take f).drop at_ = (A.drop at_).take 1 ++ (A.take f).drop (at_ + 1) := by
    rw [← List.take_append_drop 1 ((A.take f).drop at_), List.drop_drop, List.drop_take, List.take_take, Nat.min_eq_left (by omega)]
   rw [this]
   simp only [List.append_assoc]
  ·have hfe : f = at_ := by omega
   by_cases c2 : e.frm = e.til
   ·have hue : u = at_ := by omega
    have ih := apl_wl A (k + 1) at_ s hk hp.2 hrs (fun d hd => by have := hp.1 d hd; unfold ap_ at this; omega)
    have h0 : Wi A (e :: s) at_ = e.text.data.toList ++ Wi A s at_ := by
     have h1 : pIns at_ e = true := decide_eq_true (by omega)
     have h2 : pLas at_ e = false := decide_eq_false (by omega)
     have h3 : pCut at_ e = false := decide_eq_false (by omega)
     unfold Wi
     simp only [List.filter_cons, h1, h2, List.any_cons, h3, Bool.false_or, if_true, tx, List.flatMap_cons, List.append_assoc]
     rfl
    simp only [WL] at ih ⊢
    rw [h0, wl_congr k (at_ + 1) (fun j hj => wi_past (by omega)), List.append_assoc, ← ih]
    simp only [apl, hf, hu, Int.toNat_natCast, hfe, hue]
    rw [List.drop_take, Nat.sub_self, List.take_zero, List.nil_append]
   ·have hfu : f < u := by omega
    have ih := apl_wl A (A.length + 1 - u) u s (by omega) hp.2 hrs (fun d hd => by have := hp.1 d hd; unfold ap_ at this; omega)
    have hno : ∀ t : Nat, at_ ≤ t → t < u → ∀ d ∈ s, (t : Int) < d.frm := fun t h1 h2 d hd => by have := hp.1 d hd; unfold ap_ at this; omega
    have h0 : Wi A (e :: s) at_ = e.text.data.toList := by
     have h1 : pIns at_ e = false := decide_eq_false (by omega)
     have h2 : pLas at_ e = true := decide_eq_true (by omega)
     have h3 : pCut at_ e = true := decide_eq_true (by omega)
     have hn := hno at_ (Nat.le_refl _) (by omega)
     unfold Wi
     simp only [List.filter_cons, h1, h2, List.any_cons, h3, Bool.true_or, if_true]
     rw [filt_no (p := pIns at_) (fun d hd => decide_eq_false (by have := hn d hd; omega)), filt_no (p := pLas at_) (fun d hd => decide_eq_false (by have := hn d hd; omega))]
     simp [tx]
    have hsk : ∀ t, at_ + 1 ≤ t → t < at_ + 1 + (u - at_ - 1) → Wi A (e :: s) t = [] := by
     intro t g1 g2
     have h1 : pIns t e = false := decide_eq_false (by omega)
     have h2 : pLas t e = false := decide_eq_false (by omega)
     have h3 : pCut t e = true := decide_eq_true (by omega)
     have hn := hno t (by omega) (by omega)
     unfold Wi
     simp only [List.filter_cons, h1, h2, List.any_cons, h3, Bool.true_or]
     rw [if_neg (by simp), if_neg (by simp)]
     rw [filt_no (p := pIns t) (fun d hd => decide_eq_false (by have := hn d hd; omega)), filt_no (p := pLas t) (fun d hd => decide_eq_false (by have := hn d hd; omega))]
     simp [tx]
    simp only [WL]
    rw [h0, show k = (u - at_ - 1) + (A.length + 1 - u) by omega, wl_skip _ _ _ hsk, show at_ + 1 + (u - at_ - 1) = u by omega, wl_congr (A.length + 1 - u) u (l := e :: s) (l' := s) (fun j hj => wi_past (by omega)), ← ih]
    simp only [apl, hf, hu, Int.toNat_natCast, hfe]
    rw [List.drop_take, Nat.sub_self, List.take_zero, List.nil_append]
termination_by k _ s => (k, s.length)
theorem one_at {p : EditD → Bool} {l : List EditD} (hn : NoC l) (hp : ∀ a b, p a = true → p b = true → ov a b) : (l.filter p).length ≤ 1 := by
 have h := List.Pairwise.filter p hn
 have hm : ∀ d ∈ l.filter p, p d = true := fun d hd => (List.mem_filter.1 hd).2
 revert h hm
 cases l.filter p with
 | nil => intro _ _; simp
 | cons a r =>
  cases r with
  | nil => intro _ _; simp
  | cons b r =>
   intro h hm
   exact absurd (hp a b (hm a (by simp)) (hm b (by simp))) ((List.pairwise_cons.1 h).1 b (by simp))
theorem perm1 : ∀ {x y : List EditD}, List.Perm x y → x.length ≤ 1 → x = y
 | [], y, h, _ => (List.nil_perm.1 h).symm
 | [a], y, h, _ => (List.singleton_perm.1 h)
 | a :: b :: r, y, _, h => absurd h (by simp)
theorem wi_perm {A : List UInt8} {l s : List EditD} (h : List.Perm l s) (hn : NoC l) (i : Nat) : Wi A l i = Wi A s i := by
 unfold Wi
 rw [perm1 (h.filter (pIns i)) (one_at hn (fun a b h1 h2 => by have h1 := of_decide_eq_true h1; have h2 := of_decide_eq_true h2; unfold ov; omega)),
  perm1 (h.filter (pLas i)) (one_at hn (fun a b h1 h2 => by have h1 := of_decide_eq_true h1; have h2 := of_decide_eq_true h2; unfold ov; omega))]
 have : l.any (pCut i) = s.any (pCut i) := by
  rw [Bool.eq_iff_iff, List.any_eq_true, List.any_eq_true]
  exact ⟨fun ⟨d, h1, h2⟩ => ⟨d, h.mem_iff.1 h1, h2⟩, fun ⟨d, h1, h2⟩ => ⟨d, h.mem_iff.2 h1, h2⟩⟩
 rw [this]
theorem wl_perm {A : List UInt8} {l s : List EditD} (h : List.Perm l s) (hn : NoC l) (k i : Nat) : WL A l k i = WL A s k i := wl_congr k i (fun j _ => wi_perm h hn j)
theorem apl_app (B x : List UInt8) : ∀ (o : List EditD) (at_ : Nat), at_ ≤ B.length → Rg B.length o → apl (B ++ x) at_ o = apl B at_ o ++ x
 | [], at_, h, _ => by simp only [apl]; rw [List.drop_append_of_le_length h]
 | e :: o, at_, h, hr => by
  obtain ⟨r1, r2, r3⟩ := hr e (by simp)
  simp only [apl]
  rw [apl_app B x o _ (by omega) (fun d hd => hr d (mcm _ hd)), List.take_append_of_le_length (by omega)]
  simp only [List.append_assoc]
theorem apl_snoc (B t : List UInt8) (e : EditD) (h1 : e.frm = (B.length : Int)) (h2 : e.til = ((B ++ t).length : Int)) : ∀ (o : List EditD) (at_ : Nat), at_ ≤ B.length → Rg B.length o → apl (B ++ t) at_ (o ++ [e]) = apl B at_ o ++ e.text.data.toList
 | [], at_, h, _ => by
  simp only [List.nil_append, apl, h1, h2, Int.toNat_natCast, List.take_left]
  rw [List.drop_of_length_le (Nat.le_refl _), List.append_nil]
 | d :: o, at_, h, hr => by
  obtain ⟨r1, r2, r3⟩ := hr d (by simp)
  simp only [List.cons_append, apl]
  rw [apl_snoc B t e h1 h2 o _ (by omega) (fun d hd => hr d (mcm _ hd)), List.take_append_of_le_length (by omega)]
  simp only [List.append_assoc]
theorem apl_last (B : List UInt8) (e e' : EditD) (y : List UInt8) (h1 : e'.frm = e.frm) (h2 : e.til = (B.length : Int)) (h3 : e'.til = e.til) (h4 : e'.text.data.toList = e.text.data.toList ++ y) : ∀ (o : List EditD) (at_ : Nat), apl B at_ (o ++ [e']) = apl B at_ (o ++ [e]) ++ y
 | [], at_ => by
  simp only [List.nil_append, apl, h1, h2, h3, h4, Int.toNat_natCast]
  rw [List.drop_of_length_le (Nat.le_refl _)]
  simp only [List.append_assoc, List.append_nil, List.nil_append]
 | d :: o, at_ => by
  simp only [List.cons_append, apl]
  rw [apl_last B e e' y h1 h2 h3 h4 o]
  simp only [List.append_assoc]
structure Inv (A : List UInt8) (at_ : Nat) (acc : List UInt8) (out : List EditD) : Prop where
 ch : Ch out
 rg : Rg acc.length out
 sz : ∀ d ∈ out, d.text.size ≤ at_
 ap : apl acc 0 out = A.take at_
theorem ch_snoc {o : List EditD} {e : EditD} (h : Ch o) (hl : ∀ y, o.getLast? = some y → okE y e) : Ch (o ++ [e]) := by
 intro j y x h1 h2
 by_cases c : j + 1 < o.length
 ·rw [gal (by omega)] at h1 h2
  exact h j y x h1 h2
 ·have hb := (gei.1 h2).1
  rw [lap, List.length_singleton] at hb
  rw [gar (by omega), show j + 1 - o.length = 0 by omega] at h2
  rw [gal (by omega)] at h1
  have hx : e = x := by simpa using h2
  rw [← hx]
  refine hl y ?_
  rw [List.getLast?_eq_getElem?, show o.length - 1 = j by omega]
  exact h1
theorem take_mid {A : List UInt8} {i j : Nat} (h : i ≤ j) : A.take i ++ (A.take j).drop i = A.take j := by
 have : A.take i = (A.take j).take i := by rw [List.take_take, Nat.min_eq_left h]
 rw [this, List.take_append_drop]
theorem inv_mid {A acc : List UInt8} {at_ f : Nat} {out : List EditD} (h : Inv A at_ acc out) (h1 : at_ ≤ f) : Inv A f (acc ++ (A.take f).drop at_) out := by
 refine ⟨h.ch, fun d hd => ?_, fun d hd => Nat.le_trans (h.sz d hd) h1, ?_⟩
 ·obtain ⟨r1, r2, r3⟩ := h.rg d hd
  exact ⟨r1, r2, by rw [lap]; omega⟩
 ·rw [apl_app _ _ _ _ (by omega) h.rg, h.ap, take_mid h1]
theorem inv_push {A acc t : List UInt8} {f u : Nat} {out : List EditD} {e : EditD} (h : Inv A f acc out) (h1 : f ≤ u) (h2 : u ≤ A.length) (e1 : e.frm = (acc.length : Int)) (e2 : e.til = ((acc.length + t.length : Nat) : Int)) (e3 : e.text.data.toList = (A.take u).drop f)
  (hl : ∀ y, out.getLast? = some y → ¬ (t = [] ∧ y.frm = e.frm ∧ y.til = e.til)) : Inv A u (acc ++ t) (out ++ [e]) := by
 have hz : t.length = 0 → t = [] := fun h => List.eq_nil_of_length_eq_zero h
 have hs : e.text.size = u - f := by rw [← len_d, e3, List.length_drop, List.length_take]; omega
 refine ⟨ch_snoc h.ch (fun y hy => ?_), fun d hd => ?_, fun d hd => ?_, ?_⟩
 ·obtain ⟨r1, r2, r3⟩ := h.rg y (List.mem_of_getLast? hy)
  refine ⟨by omega, fun hh => hl y hy ⟨hz (by omega), by omega, by omega⟩⟩
 ·rcases List.mem_append.1 hd with hd | hd
  ·obtain ⟨r1, r2, r3⟩ := h.rg d hd
   exact ⟨r1, r2, by rw [lap]; omega⟩
  ·have : d = e := by simpa using hd
   subst this
   exact ⟨by omega, by omega, by rw [lap]; omega⟩
 ·rcases List.mem_append.1 hd with hd | hd
  ·exact Nat.le_trans (h.sz d hd) h1
  ·have : d = e := by simpa using hd
   subst this
   omega
 ·rw [apl_snoc acc t e e1 (by rw [e2, lap]) out 0 (by omega) h.rg, h.ap, e3, take_mid h1]
theorem inv_more {A acc : List UInt8} {f u : Nat} {out : List EditD} {e e' : EditD} (h : Inv A f acc (out ++ [e])) (h1 : f ≤ u) (h2 : u ≤ A.length) (e1 : e'.frm = e.frm) (e2 : e'.til = e.til) (e3 : e'.text.data.toList = e.text.data.toList ++ (A.take u).drop f)
  (e4 : e.til = (acc.length : Int)) : Inv A u acc (out ++ [e']) := by
 have hse := h.sz e (by simp)
 have hs : e'.text.size = e.text.size + (u - f) := by rw [← len_d, e3, lap, len_d, List.length_drop, List.length_take]; omega
 have hr := h.rg e (by simp)
 refine ⟨?_, fun d hd => ?_, fun d hd => ?_, ?_⟩
 ·refine ch_snoc (fun j y x a b => ?_) (fun y hy => ?_)
  ·have hb := (gei.1 b).1
   exact h.ch j y x (by rw [gal (by omega)]; exact a) (by rw [gal (by omega)]; exact b)
  ·have hne : 0 < out.length := by cases out with | nil => simp at hy | cons a o => simp
   rw [List.getLast?_eq_getElem?] at hy
   have := h.ch (out.length - 1) y e (by rw [gal (by omega)]; exact hy) (by rw [show out.length - 1 + 1 = out.length by omega, gar (Nat.le_refl _)]; simp)
   unfold okE at this ⊢
   rw [e1, e2]
   exact this
 ·rcases List.mem_append.1 hd with hd | hd
  ·exact h.rg d (List.mem_append.2 (.inl hd))
  ·have : d = e' := by simpa using hd
   subst this
   unfold rgE at hr ⊢
   rw [e1, e2]
   exact hr
 ·rcases List.mem_append.1 hd with hd | hd
  ·exact Nat.le_trans (h.sz d (List.mem_append.2 (.inl hd))) h1
  ·have : d = e' := by simpa using hd
   subst this
   omega
 ·rw [apl_last acc e e' _ e1 e4 e2 e3 out 0, h.ap, take_mid h1]
theorem inv_nil (A : List UInt8) : Inv A 0 [] [] := ⟨fun j y x h => by simp at h, fun d hd => by simp at hd, fun d hd => by simp at hd, rfl⟩
theorem inv_end {A acc : List UInt8} {at_ : Nat} {out : List EditD} (h : Inv A at_ acc out) : apl (acc ++ A.drop at_) 0 out = A := by
 rw [apl_app _ _ _ _ (by omega) h.rg, h.ap, List.take_append_drop]
instance (n : Nat) (d : EditD) : Decidable (rgE n d) := by unfold rgE; exact inferInstance
instance (n : Nat) (l : List EditD) : Decidable (Rg n l) := by unfold Rg; exact inferInstance
instance (l : List EditD) : Decidable (NoC l) := by unfold NoC; exact inferInstance
theorem q13x (Nf : Nat) {a : ByteArray} (ha : a.size ≤ 70000) {l : List EditD} (h20 : l.length ≤ 20) (hx : ∀ d ∈ l, d.text.size ≤ 3000) :
  (¬ Rg a.size l ∧ F13 Nf a l = some (.k0 (⟨([] : List UInt8).toArray⟩ : ByteArray) 4)) ∨
  (Rg a.size l ∧ ¬ NoC l ∧ F13 Nf a l = some (.k0 (⟨([] : List UInt8).toArray⟩ : ByteArray) 110)) ∨
  (Rg a.size l ∧ NoC l ∧ F13 Nf a l = some (.k0 ⟨(apl a.data.toList 0 (srt l)).toArray⟩ 0) ∧ F25 Nf l = some (.k0 (srt l) 0)) := by
 rcases q13l Nf ha h20 hx with ⟨e, he, h, ⟨rfl, d, hd, hn⟩ | ⟨rfl, hr, _, j, y, x, h1, h2, h3⟩⟩ | ⟨h, h25, hr, hok⟩
 ·exact .inl ⟨fun hr => hn (hr d hd), h⟩
 ·exact .inr (.inl ⟨hr, fun hn => h3 (srt_ch hr hn j y x h1 h2), h⟩)
 ·exact .inr (.inr ⟨hr, srt_noc hr hok, h, h25⟩)
theorem q19 (n : Nat) (l : List EditD) (h20 : l.length ≤ 20) : F19 (n : Int) l = some (decide (Rg n l)) := by
 unfold F19
 have key := loop_list (step := fun s => L19_0 (n : Int) l s) (l := l) (fun _ d => decide (rgE n d)) (bad := E_L19_0.k0) (fin := .k1) (fun i x hx => by
  have hi : i < l.length := (gei.1 hx).1
  simp only [L19_0, getI_nat, hx, bsm, decide_eq_true (show (i : Int) < (l.length : Int) by omega), cond_true, w_S (show i < 4611686018427387904 by omega)]
  by_cases c1 : x.frm < 0
  ·rw [decide_eq_true c1, decide_eq_false (show ¬ rgE n x by unfold rgE; omega)]; rfl
  rw [decide_eq_false c1]
  by_cases c2 : x.til < x.frm
  ·rw [decide_eq_true c2, decide_eq_false (show ¬ rgE n x by unfold rgE; omega)]; rfl
  rw [decide_eq_false c2]
  by_cases c3 : x.til > (n : Int)
  ·rw [decide_eq_true c3, decide_eq_false (show ¬ rgE n x by unfold rgE; omega)]; rfl
  rw [decide_eq_false c3, decide_eq_true (show rgE n x by unfold rgE; omega)]; rfl) (by simp [L19_0])
 rw [key]
 cases hc : allF (fun _ (d : EditD) => decide (rgE n d)) 0 l with
 | false =>
  have : ¬ Rg n l := fun hr => by
   have : allF (fun _ (d : EditD) => decide (rgE n d)) 0 l = true := (allF_iff _ _).2 (fun j d hj => decide_eq_true (hr d (mog hj)))
   rw [this] at hc; cases hc
  rw [decide_eq_false this]; rfl
 | true =>
  have : Rg n l := fun d hd => by
   obtain ⟨j, hj⟩ := List.getElem?_of_mem hd
   exact of_decide_eq_true ((allF_iff _ _).1 hc j d hj)
  rw [decide_eq_true this]; rfl
theorem q33 (a b : EditD) : F33 a b = some (decide (ov a b)) := by
 unfold F33
 by_cases c1 : a.frm = a.til
 ·have e1 : (a.frm == a.til) = true := by rw [c1]; exact beq_self_eq_true _
  by_cases c2 : b.frm = b.til
  ·have e2 : (b.frm == b.til) = true := by rw [c2]; exact beq_self_eq_true _
   rw [e1, e2]
   simp only [cond_true]
   congr 1
   by_cases c3 : a.frm = b.frm
   ·rw [decide_eq_true (show ov a b by unfold ov; omega), c3]; exact beq_self_eq_true _
   ·rw [decide_eq_false (show ¬ ov a b by unfold ov; omega)]; exact beqF' c3
  ·rw [e1, beqF' c2]
   simp only [cond_true, cond_false]
   by_cases c3 : b.frm < a.frm
   ·rw [decide_eq_true c3]
    simp only [cond_true]
    congr 1
    rw [decide_eq_decide]
    unfold ov; omega
   ·rw [decide_eq_false c3, decide_eq_false (show ¬ ov a b by unfold ov; omega)]; rfl
 ·by_cases c2 : b.frm = b.til
  ·have e2 : (b.frm == b.til) = true := by rw [c2]; exact beq_self_eq_true _
   rw [beqF' c1, e2]
   simp only [cond_true, cond_false]
   by_cases c3 : a.frm < b.frm
   ·rw [decide_eq_true c3]
    simp only [cond_true]
    congr 1
    rw [decide_eq_decide]
    unfold ov; omega
   ·rw [decide_eq_false c3, decide_eq_false (show ¬ ov a b by unfold ov; omega)]; rfl
  ·rw [beqF' c1, beqF' c2]
   simp only [cond_false]
   by_cases c3 : a.frm < b.til
   ·rw [decide_eq_true c3]
    simp only [cond_true]
    congr 1
    rw [decide_eq_decide]
    unfold ov; omega
   ·rw [decide_eq_false c3, decide_eq_false (show ¬ ov a b by unfold ov; omega)]; rfl
theorem l20_0 (l : List EditD) (i : Nat) (x : EditD) (hx : l[i]? = some x) (hb : l.length ≤ 1000) : ∀ (k j : Nat), j + k = i →
  (runL (fun s => L20_0_2 l (i : Int) s) (j : Int) = some .k0 ∧ ∃ t y, t < i ∧ l[t]? = some y ∧ ov x y) ∨
  (runL (fun s => L20_0_2 l (i : Int) s) (j : Int) = some .k1 ∧ ∀ t y, j ≤ t → t < i → l[t]? = some y → ¬ ov x y)
 | 0, j, h => by
  obtain rfl : j = i := by omega
  exact .inr ⟨runL_done (by simp [L20_0_2]), fun t y h1 h2 => by omega⟩
 | k + 1, j, h => by
  have hi : i < l.length := (gei.1 hx).1
  have hy : l[j]? = some (l[j]'(by omega)) := geg _
  generalize l[j]'(by omega) = y at hy
  have hd : decide ((j : Int) < (i : Int)) = true := decide_eq_true (by omega)
  by_cases c : ov x y
  ·exact .inl ⟨runL_done (step := fun s => L20_0_2 l (i : Int) s) (by simp only [L20_0_2, hd, cond_true, getI_nat, hx, hy, bsm, q33, decide_eq_true c]), j, y, by omega, hy, c⟩
  ·have hs : L20_0_2 l (i : Int) (j : Int) = some (.inr ((j + 1 : Nat) : Int)) := by simp only [L20_0_2, hd, cond_true, getI_nat, hx, hy, bsm, q33, decide_eq_false c, cond_false, w_S (show j < 4611686018427387904 by omega)]
   rw [runL_next (step := fun s => L20_0_2 l (i : Int) s) hs]
   rcases l20_0 l i x hx hb k (j + 1) (by omega) with h1 | ⟨h1, h2⟩
   ·exact .inl h1
   ·refine .inr ⟨h1, fun t z h3 h4 h5 => ?_⟩
    by_cases e : t = j
    ·subst e; rw [hy] at h5; cases h5; exact c
    ·exact h2 t z (by omega) h4 h5
theorem l20_1 (l : List EditD) (hb : l.length ≤ 1000) : ∀ (k i : Nat), i + k = l.length →
  (runL (fun s => L20_1 l s) (i : Int) = some .k0 ∧ ∃ (s t : Nat) (x y : EditD), t < s ∧ l[s]? = some x ∧ l[t]? = some y ∧ ov x y) ∨
  (runL (fun s => L20_1 l s) (i : Int) = some .k1 ∧ ∀ (s t : Nat) (x y : EditD), i ≤ s → t < s → l[s]? = some x → l[t]? = some y → ¬ ov x y)
 | 0, i, h => by
  obtain rfl : i = l.length := by omega
  refine .inr ⟨runL_done (by simp [L20_1]), fun s t x y h1 h2 h3 => ?_⟩
  have := (gei.1 h3).1
  omega
 | k + 1, i, h => by
  have hx : l[i]? = some (l[i]'(by omega)) := geg _
  generalize l[i]'(by omega) = x at hx
  have hd : decide ((i : Int) < (l.length : Int)) = true := decide_eq_true (by omega)
  have e0 : ((0 : Nat) : Int) = 0 := rfl
  have hin := l20_0 l i x hx hb i 0 (by omega)
  rw [e0] at hin
  rcases hin with ⟨h1, t, y, h2, h3, h4⟩ | ⟨h1, h2⟩
  ·exact .inl ⟨runL_done (step := fun s => L20_1 l s) (by simp only [L20_1, hd, cond_true, h1, bsm]), i, t, x, y, h2, hx, h3, h4⟩
  ·have hs : L20_1 l (i : Int) = some (.inr ((i + 1 : Nat) : Int)) := by simp only [L20_1, hd, cond_true, h1, bsm, w_S (show i < 4611686018427387904 by omega)]
   rw [runL_next (step := fun s => L20_1 l s) hs]
   rcases l20_1 l hb k (i + 1) (by omega) with h3 | ⟨h3, h4⟩
   ·exact .inl h3
   ·refine .inr ⟨h3, fun s t z y g1 g2 g3 g4 => ?_⟩
    by_cases e : s = i
    ·subst e; rw [hx] at g3; cases g3; exact h2 t y (by omega) g2 g4
    ·exact h4 s t z y (by omega) g2 g3 g4
theorem q20 (l : List EditD) (h20 : l.length ≤ 20) : F20 l = some (!decide (NoC l)) := by
 have e0 : ((0 : Nat) : Int) = 0 := rfl
 have h := l20_1 l (by omega) l.length 0 (by omega)
 rw [e0] at h
 unfold F20
 rcases h with ⟨h1, s, t, x, y, h2, h3, h4, h5⟩ | ⟨h1, h2⟩
 ·have : ¬ NoC l := fun hn => by
   obtain ⟨g1, e1⟩ := gei.1 h3
   obtain ⟨g2, e2⟩ := gei.1 h4
   have := List.pairwise_iff_getElem.1 hn t s g2 g1 h2
   rw [e1, e2] at this
   exact ov_symm this h5
  rw [h1, decide_eq_false this]; rfl
 ·have : NoC l := List.pairwise_iff_getElem.2 (fun t s g1 g2 h => ov_symm (h2 s t _ _ (by omega) h (geg g2) (geg g1)))
  rw [h1, decide_eq_true this]; rfl
theorem ba_app (a b : ByteArray) : (a ++ b).data.toList = a.data.toList ++ b.data.toList := by simp
theorem ba_len (a b : ByteArray) : (a ++ b).size = a.size + b.size := by rw [← len_d, ba_app, lap, len_d, len_d]
theorem o2_ {a b c j : Nat} (h : a ≤ b + 3000) (h2 : b ≤ c + 3000 * j) : a ≤ c + 3000 * (j + 1) := by rw [Nat.mul_add, Nat.mul_one, ← Nat.add_assoc]; exact Nat.le_trans h (Nat.add_le_add_right h2 3000)
theorem o3_ {a b j : Nat} (h : a ≤ b + 3000) (h2 : b ≤ 3000 * j) : a ≤ 3000 * (j + 1) := by rw [Nat.mul_add, Nat.mul_one]; exact Nat.le_trans h (Nat.add_le_add_right h2 3000)
theorem l7_2 (l : List EditD) (i B : Nat) (hB : B ≤ 1000000000) (h20 : l.length ≤ 20) (hx : ∀ d ∈ l, d.text.size ≤ 3000) : ∀ (k j : Nat) (w q : ByteArray) (c : Bool), j + k = l.length → w.size ≤ B + 3000 * j → q.size ≤ 3000 * j →
  ∃ w' q' : ByteArray, runL (fun s => L7_2_4 l (i : Int) s.1 s.2.1 s.2.2.1 s.2.2.2) (w, c, q, (j : Int)) = some (.k0 w' (c || (l.drop j).any (pCut i)) q') ∧
   w'.data.toList = w.data.toList ++ tx ((l.drop j).filter (pIns i)) ∧ q'.data.toList = q.data.toList ++ tx ((l.drop j).filter (pLas i)) ∧ w'.size ≤ w.size + 3000 * k ∧ q'.size ≤ q.size + 3000 * k
 | 0, j, w, q, c, hj, hw, hq => by
  obtain rfl : j = l.length := by omega
  refine ⟨w, q, runL_done ?_, ?_, ?_, by omega, by omega⟩
  ·simp [L7_2_4]
  ·simp [tx]
  ·simp [tx]
 | k + 1, j, w, q, c, hj, hw, hq => by
  have hxx : l[j]? = some (l[j]'(by omega)) := geg _
  have hdr : l.drop j = l[j]'(by omega) :: l.drop (j + 1) := List.drop_eq_getElem_cons (by omega)
  generalize l[j]'(by omega) = x at hxx hdr
  have ht := hx x (mog hxx)
  have hd : decide ((j : Int) < (l.length : Int)) = true := decide_eq_true (by omega)
  have hS := w_S (show j < 4611686018427387904 by omega)
  have z1 : decide (w.size + x.text.size ≤ 9223372036854775807) = true := decide_eq_true (by omega)
  have z2 : decide (q.size + x.text.size ≤ 9223372036854775807) = true := decide_eq_true (by omega)
  have go : ∀ (w1 q1 : ByteArray), (w1.data.toList = w.data.toList ++ bif pIns i x then x.text.data.toList else []) → (q1.data.toList = q.data.toList ++ bif pLas i x then x.text.data.toList else []) → w1.size ≤ w.size + 3000 → q1.size ≤ q.size + 3000 →
    L7_2_4 l (i : Int) w c q (j : Int) = some (.inr (w1, (c || pCut i x), q1, ((j + 1 : Nat) : Int))) →
    ∃ w' q' : ByteArray, runL (fun s => L7_2_4 l (i : Int) s.1 s.2.1 s.2.2.1 s.2.2.2) (w, c, q, (j : Int)) = some (.k0 w' (c || (l.drop j).any (pCut i)) q') ∧
     w'.data.toList = w.data.toList ++ tx ((l.drop j).filter (pIns i)) ∧ q'.data.toList = q.data.toList ++ tx ((l.drop j).filter (pLas i)) ∧ w'.size ≤ w.size + 3000 * (k + 1) ∧ q'.size ≤ q.size + 3000 * (k + 1) := by
   intro w1 q1 e1 e2 b1 b2 hs
   have o1 : j + 1 + k = l.length := by omega
   have o2 : w1.size ≤ B + 3000 * (j + 1) := o2_ b1 hw
   have o3 : q1.size ≤ 3000 * (j + 1) := o3_ b2 hq
   obtain ⟨w', q', r1, r2, r3, r4, r5⟩ := l7_2 l i B hB h20 hx k (j + 1) w1 q1 (c || pCut i x) o1 o2 o3
   refine ⟨w', q', ?_, ?_, ?_, by omega, by omega⟩
   ·rw [runL_next (s' := (w1, (c || pCut i x), q1, ((j + 1 : Nat) : Int))) hs, hdr, List.any_cons, ← Bool.or_assoc]
    exact r1
   ·rw [r2, e1, hdr, List.filter_cons, List.append_assoc]
    cases pIns i x <;> simp [tx]
   ·rw [r3, e2, hdr, List.filter_cons, List.append_assoc]
    cases pLas i x <;> simp [tx]
  have ct : ∀ {b : Bool}, pCut i x = b → (bif c then true else b) = (c || pCut i x) := by intro b h; rw [h]; cases c <;> rfl
  by_cases c1 : x.frm = (i : Int)
  ·have f1 : (x.frm == (i : Int)) = true := by rw [c1]; exact beq_self_eq_true _
   have l1 : decide (x.frm ≤ (i : Int)) = true := decide_eq_true (by omega)
   by_cases c2 : x.til = (i : Int)
   ·have f2 : (x.til == (i : Int)) = true := by rw [c2]; exact beq_self_eq_true _
    have p1 : pIns i x = true := decide_eq_true (by omega)
    have p2 : pLas i x = false := decide_eq_false (by omega)
    have p3 : pCut i x = false := decide_eq_false (by omega)
    refine go (w ++ x.text) q (by rw [ba_app, p1]; rfl) (by rw [p2]; simp) (by rw [ba_len]; omega) (by omega) ?_
    simp only [L7_2_4, hd, cond_true, getI_nat, hxx, bsm, f1, f2, z1, decide_eq_false (show ¬ x.til > (i : Int) by omega), cond_false, l1, decide_eq_false (show ¬ (i : Int) < x.til by omega), hS, p3]
    cases c <;> rfl
   ·have p1 : pIns i x = false := decide_eq_false (by omega)
    by_cases c3 : x.til > (i : Int)
    ·have p2 : pLas i x = true := decide_eq_true (by omega)
     have p3 : pCut i x = true := decide_eq_true (by omega)
     refine go w (q ++ x.text) (by rw [p1]; simp) (by rw [ba_app, p2]; rfl) (by omega) (by rw [ba_len]; omega) ?_
     simp only [L7_2_4, hd, cond_true, getI_nat, hxx, bsm, f1, beqF' c2, z2, decide_eq_true c3, cond_false, l1, decide_eq_true (show (i : Int) < x.til by omega), hS, p3]
     cases c <;> rfl
    ·have p2 : pLas i x = false := decide_eq_false (by omega)
     have p3 : pCut i x = false := decide_eq_false (by omega)
     refine go w q (by rw [p1]; simp) (by rw [p2]; simp) (by omega) (by omega) ?_
     simp only [L7_2_4, hd, cond_true, getI_nat, hxx, bsm, f1, beqF' c2, decide_eq_false c3, cond_false, l1, decide_eq_false (show ¬ (i : Int) < x.til by omega), hS, p3]
     cases c <;> rfl
  ·have p1 : pIns i x = false := decide_eq_false (by omega)
   have p2 : pLas i x = false := decide_eq_false (by omega)
   refine go w q (by rw [p1]; simp) (by rw [p2]; simp) (by omega) (by omega) ?_
   by_cases c2 : x.frm ≤ (i : Int)
   ·by_cases c3 : (i : Int) < x.til
    ·have p3 : pCut i x = true := decide_eq_true (by omega)
     simp only [L7_2_4, hd, cond_true, getI_nat, hxx, bsm, beqF' c1, cond_false, decide_eq_true c2, decide_eq_true c3, hS, p3]
     cases c <;> rfl
    ·have p3 : pCut i x = false := decide_eq_false (by omega)
     simp only [L7_2_4, hd, cond_true, getI_nat, hxx, bsm, beqF' c1, cond_false, decide_eq_true c2, decide_eq_false c3, hS, p3]
     cases c <;> rfl
   ·have p3 : pCut i x = false := decide_eq_false (by omega)
    simp only [L7_2_4, hd, cond_true, getI_nat, hxx, bsm, beqF' c1, cond_false, decide_eq_false c2, hS, p3]
    cases c <;> rfl
theorem l7_3 {a : ByteArray} (ha : a.size ≤ 3000) (l : List EditD) (h20 : l.length ≤ 20) (hx : ∀ d ∈ l, d.text.size ≤ 3000) : ∀ (k i : Nat) (w : ByteArray), i + k = a.size + 1 → w.size ≤ 130000 * i →
  ∃ w' : ByteArray, runL (fun s => L7_3_2 a l s.1 s.2) (w, (i : Int)) = some (.k0 w') ∧ w'.data.toList = w.data.toList ++ WL a.data.toList l k i
 | 0, i, w, hi, hw => by
  refine ⟨w, runL_done ?_, by simp [WL]⟩
  simp only [L7_3_2, decide_eq_false (show ¬ (i : Int) ≤ (a.size : Int) by omega), cond_false]
 | k + 1, i, w, hi, hw => by
  have e0 : ((0 : Nat) : Int) = 0 := rfl
  obtain ⟨w1, q1, r1, r2, r3, r4, r5⟩ := l7_2 l i (130000 * i) (by omega) h20 hx l.length 0 w (⟨([] : List UInt8).toArray⟩ : ByteArray) false (by omega) (by omega) (Nat.zero_le _)
  rw [e0] at r1
  rw [List.drop_zero] at r1 r2 r3
  rw [Bool.false_or] at r1
  have hq : q1.data.toList = tx (l.filter (pLas i)) := by rw [r3]; rfl
  have hS := w_S (show i < 4611686018427387904 by omega)
  have z1 : decide (w1.size + q1.size ≤ 9223372036854775807) = true := decide_eq_true (by have : (⟨([] : List UInt8).toArray⟩ : ByteArray).size = 0 := rfl; omega)
  have hle : decide ((i : Int) ≤ (a.size : Int)) = true := decide_eq_true (by omega)
  have bz : (⟨([] : List UInt8).toArray⟩ : ByteArray).size = 0 := rfl
  have go : ∀ w2 : ByteArray, w2.data.toList = w.data.toList ++ Wi a.data.toList l i → L7_3_2 a l w (i : Int) = some (.inr (w2, ((i + 1 : Nat) : Int))) → w2.size ≤ 130000 * (i + 1) →
    ∃ w' : ByteArray, runL (fun s => L7_3_2 a l s.1 s.2) (w, (i : Int)) = some (.k0 w') ∧ w'.data.toList = w.data.toList ++ WL a.data.toList l (k + 1) i := by
   intro w2 e hs hb
   obtain ⟨w', g1, g2⟩ := l7_3 ha l h20 hx k (i + 1) w2 (by omega) hb
   exact ⟨w', by rw [runL_next (s' := (w2, ((i + 1 : Nat) : Int))) hs]; exact g1, by rw [g2, e]; simp only [WL, List.append_assoc]⟩
  by_cases c1 : (i : Int) < (a.size : Int)
  ·cases hc : l.any (pCut i) with
   | true =>
    rw [hc] at r1
    refine go (w1 ++ q1) ?_ ?_ (by rw [ba_len]; omega)
    ·rw [ba_app, r2, hq]
     unfold Wi
     rw [hc]
     simp only [cond_true, List.append_nil, List.append_assoc]
    ·simp only [L7_3_2, hle, cond_true, r1, bsm, z1, decide_eq_true c1, hS]
   | false =>
    rw [hc] at r1
    have s1 : sl_ok (i : Int) ((i + 1 : Nat) : Int) a.size = true := decide_eq_true ⟨by omega, by omega, by omega⟩
    have x1 := ex_ints a (i := i) (j := i + 1)
    have n1 : (a.extract (Int.toNat (i : Int)) (Int.toNat ((i + 1 : Nat) : Int))).size = 1 := by rw [← len_d, x1, List.length_drop, List.length_take, len_d]; omega
    have z2 : decide ((w1 ++ q1).size + (a.extract (Int.toNat (i : Int)) (Int.toNat ((i + 1 : Nat) : Int))).size ≤ 9223372036854775807) = true := decide_eq_true (by rw [n1, ba_len]; omega)
    refine go ((w1 ++ q1) ++ a.extract (Int.toNat (i : Int)) (Int.toNat ((i + 1 : Nat) : Int))) ?_ ?_ (by rw [ba_len, n1, ba_len]; omega)
    ·rw [ba_app, ba_app, r2, hq, x1]
     unfold Wi
     rw [hc]
     have : (a.data.toList.take (i + 1)).drop i = (a.data.toList.drop i).take 1 := by rw [List.drop_take]; congr 1; omega
     rw [this]
     simp only [cond_false, List.append_assoc]
    ·simp only [L7_3_2, hle, cond_true, r1, bsm, z1, decide_eq_true c1, hS, cond_false, s1, z2]
  ·refine go (w1 ++ q1) ?_ ?_ (by rw [ba_len]; omega)
   ·rw [ba_app, r2, hq]
    unfold Wi
    rw [List.drop_of_length_le (by rw [len_d]; omega), List.take_nil]
    cases l.any (pCut i) <;> simp
   ·simp only [L7_3_2, hle, cond_true, r1, bsm, z1, decide_eq_false c1, cond_false, hS]
theorem put1 {row : List EditD} {len : Nat} (e : EditD) (hl : len ≤ row.length) :
  (len + 1 ≤ row.length → (splice row len [e]).take (len + 1) = row.take len ++ [e] ∧ len + 1 ≤ (splice row len [e]).length) ∧
  ((row.take len ++ [e]).take (len + 1) = row.take len ++ [e] ∧ len + 1 ≤ (row.take len ++ [e]).length) := by
 refine ⟨fun h => ?_, ?_, ?_⟩
 ·obtain ⟨h1, h2⟩ := splice_app (l := row) (y := [e]) (n := len) h
  exact ⟨h1, by rw [h2]; exact h⟩
 ·exact tol (by simp; omega)
 ·simp; omega
theorem ap1 {len : Nat} {row : List EditD} (h : len ≤ row.length) (hb : len ≤ 1000) : apOk len 1 row.length 32 = true := decide_eq_true ⟨h, by unfold limit47; omega, by unfold limit47; omega⟩
theorem l7_1 (l : List EditD) (h20 : l.length ≤ 20) : ∀ (k gen : Nat) (row : List EditD), k ≤ l.length → row.take (l.length - k) = (l.drop k).reverse → l.length - k ≤ row.length →
  ∃ g' row', runL (fun s => L7_1_2 l s.1 s.2.1 s.2.2.1 s.2.2.2) (gen, l.length - k, ((k : Nat) : Int) - 1, row) = some (.k0 g' l.length row') ∧ row'.take l.length = l.reverse ∧ l.length ≤ row'.length
 | 0, gen, row, hk, hr, hl => by
  rw [Nat.sub_zero] at hr hl ⊢
  rw [List.drop_zero] at hr
  exact ⟨gen, row, runL_done (by simp [L7_1_2]), hr, hl⟩
 | k + 1, gen, row, hk, hr, hl => by
  have hx : l[k]? = some (l[k]'(by omega)) := geg _
  have hdr : l.drop k = l[k]'(by omega) :: l.drop (k + 1) := List.drop_eq_getElem_cons (by omega)
  generalize l[k]'(by omega) = x at hx hdr
  have e1 : (((k + 1 : Nat) : Int) - 1) = (k : Int) := by omega
  have e2 : IntKind.wrap .i64 ((k : Int) - 1) = (k : Int) - 1 := w_id (by omega)
  have e3 : l.length - (k + 1) + 1 = l.length - k := by omega
  obtain ⟨p1, p2⟩ := put1 (row := row) (⟨x.frm, x.til, x.text⟩ : EditD) hl
  rw [e3] at p1 p2
  have go : ∀ g' row', L7_1_2 l gen (l.length - (k + 1)) (k : Int) row = some (.inr (g', l.length - k, (k : Int) - 1, row')) → row'.take (l.length - k) = row.take (l.length - (k + 1)) ++ [(⟨x.frm, x.til, x.text⟩ : EditD)] → l.length - k ≤ row'.length →
    ∃ g' row', runL (fun s => L7_1_2 l s.1 s.2.1 s.2.2.1 s.2.2.2) (gen, l.length - (k + 1), (((k + 1 : Nat) : Int) - 1), row) = some (.k0 g' l.length row') ∧ row'.take l.length = l.reverse ∧ l.length ≤ row'.length := by
   intro g1 row1 hs h1 h2
   rw [hr] at h1
   obtain ⟨g', row', r1, r2, r3⟩ := l7_1 l h20 k g1 row1 (by omega) (by rw [h1, hdr, List.reverse_cons]) h2
   exact ⟨g', row', by rw [e1, runL_next (s' := (g1, l.length - k, (k : Int) - 1, row1)) hs]; exact r1, r2, r3⟩
  by_cases hc : l.length - k ≤ row.length
  ·refine go gen (splice row (l.length - (k + 1)) [(⟨x.frm, x.til, x.text⟩ : EditD)]) ?_ (p1 hc).1 (p1 hc).2
   simp only [L7_1_2, decide_eq_true (show (k : Int) ≥ 0 by omega), cond_true, getI_nat, hx, bsm, ap1 hl (by omega), e3, decide_eq_true hc, e2]
  ·refine go (gen + 1) (row.take (l.length - (k + 1)) ++ [(⟨x.frm, x.til, x.text⟩ : EditD)]) ?_ p2.1 p2.2
   simp only [L7_1_2, decide_eq_true (show (k : Int) ≥ 0 by omega), cond_true, getI_nat, hx, bsm, ap1 hl (by omega), e3, decide_eq_false hc, cond_false, e2]
theorem l7_0 (u : List EditD) (hb : u.length ≤ 1000) {n : Nat} (hr : Rg n u) (hc : Ch u) : ∀ (k i : Nat), i + 1 + k = u.length + 1 → runL (fun s => L7_0_2 u s) ((i + 1 : Nat) : Int) = some .k1
 | 0, i, h => runL_done (by simp only [L7_0_2, decide_eq_false (show ¬ ((i + 1 : Nat) : Int) < (u.length : Int) by omega), cond_false])
 | k + 1, i, h => by
  by_cases hd : i + 1 < u.length
  ·have hy : u[i]? = some (u[i]'(by omega)) := geg _
   generalize u[i]'(by omega) = y at hy
   have hx : u[i + 1]? = some (u[i + 1]'hd) := geg _
   generalize u[i + 1]'hd = x at hx
   have h1 := (hc i y x hy hx).1
   obtain ⟨r1, r2, r3⟩ := hr y (mog hy)
   have e1 : IntKind.wrap .i64 (((i + 1 : Nat) : Int) - 1) = (i : Int) := by rw [w_id (by omega)]; omega
   have hs : L7_0_2 u ((i + 1 : Nat) : Int) = some (.inr ((i + 1 + 1 : Nat) : Int)) := by
    simp only [L7_0_2, decide_eq_true (show ((i + 1 : Nat) : Int) < (u.length : Int) by omega), cond_true, getI_nat, hx, e1, hy, bsm, decide_eq_false (show ¬ x.frm < y.frm by omega), cond_false, w_S (show i + 1 < 4611686018427387904 by omega)]
   rw [runL_next (step := fun s => L7_0_2 u s) hs]
   exact l7_0 u hb hr hc k (i + 1) (by omega)
  ·exact runL_done (by simp only [L7_0_2, decide_eq_false (show ¬ ((i + 1 : Nat) : Int) < (u.length : Int) by omega), cond_false])
theorem l7_4 (l row : List EditD) (hb : l.length ≤ 1000) (hr : ∀ (i : Nat) (x : EditD), l[i]? = some x → row[i]? = some x) : runL (fun s => L7_4_2 l l.length row s) 0 = some .k1 := by
 have key := loop_list (step := fun s => L7_4_2 l l.length row s) (l := l) (fun _ _ => true) (bad := E_L7_4_2.k0) (fin := .k1) (fun i x hx => by
  have hi : i < l.length := (gei.1 hx).1
  have i1 : ixN l.length (i : Int) = some i := by rw [ixN_nat, if_pos hi]
  simp only [L7_4_2, getI_nat, hx, i1, hr i x hx, bsm, decide_eq_true (show (i : Int) < (l.length : Int) by omega), cond_true, w_S (show i < 4611686018427387904 by omega), beq_self_eq_true, ba_self, Bool.and_self, Bool.not_true, cond_false]) (by simp [L7_4_2])
 have hall : allF (fun _ (_ : EditD) => true) 0 l = true := (allF_iff _ _).2 (fun _ _ _ => rfl)
 rw [hall] at key
 exact key
theorem take_set {row : List EditD} {n : Nat} (e : EditD) (h : n + 1 ≤ row.length) : (row.set n e).take (n + 1) = row.take n ++ [e] := by
 rw [List.take_set, List.take_succ_eq_append_getElem (by omega)]
 rw [List.set_append_right _ _ (by simp; omega)]
 simp
 have : n - min n row.length = 0 := by omega
 rw [this]
 rfl
theorem l18 {a : ByteArray} (ha : a.size ≤ 3000) {s : List EditD} (h20 : s.length ≤ 20) (hr : Rg a.size s) (hx : ∀ d ∈ s, d.text.size ≤ 3000) (hp : s.Pairwise ap_) :
  ∀ (k i at_ gen len : Nat) (by_ : Int) (row : List EditD) (acc : List UInt8), i + k = s.length → (∀ x, s[i]? = some x → (at_ : Int) ≤ x.frm) → at_ ≤ a.size → len ≤ row.length → len ≤ i → (acc.length : Int) = at_ + by_ → acc.length ≤ at_ + 3000 * i → Inv a.data.toList at_ acc (row.take len) →
  ∃ gen' len' row' at' acc', runL (fun z => L18_0 a s (s.length : Int) z.1 z.2.1 z.2.2.1 z.2.2.2.1 z.2.2.2.2) (gen, len, by_, (i : Int), row) = some (.k0 gen' len' row') ∧
   len' ≤ row'.length ∧ len' ≤ s.length ∧ at' ≤ a.size ∧ acc'.length ≤ at' + 3000 * s.length ∧ Inv a.data.toList at' acc' (row'.take len') ∧ acc' ++ a.data.toList.drop at' = acc ++ apl a.data.toList at_ (s.drop i)
 | 0, i, at_, gen, len, by_, row, acc, hi, h0, h1, h2, h3, h4, h5, h6 => by
  obtain rfl : i = s.length := by omega
  refine ⟨gen, len, row, at_, acc, runL_done ?_, h2, h3, h1, h5, h6, ?_⟩
  ·simp only [L18_0, decide_eq_false (show ¬ (s.length : Int) < (s.length : Int) by omega), cond_false]
  ·rw [List.drop_length]; rfl
 | k + 1, i, at_, gen, len, by_, row, acc, hi, h0, h1, h2, h3, h4, h5, h6 => by
  have hxx : s[i]? = some (s[i]'(by omega)) := geg _
  have hd : s.drop i = s[i]'(by omega) :: s.drop (i + 1) := List.drop_eq_getElem_cons (by omega)
  generalize s[i]'(by omega) = x at hxx hd
  have hmem := mog hxx
  obtain ⟨r1, r2, r3⟩ := hr x hmem
  have r0 := h0 x hxx
  have rx := hx x hmem
  obtain ⟨f, hf⟩ : ∃ f : Nat, x.frm = (f : Int) := ⟨x.frm.toNat, by omega⟩
  obtain ⟨u, hu⟩ : ∃ u : Nat, x.til = (u : Int) := ⟨x.til.toNat, by omega⟩
  have hlt : decide ((i : Int) < (s.length : Int)) = true := decide_eq_true (by omega)
  have hS := w_S (show i < 4611686018427387904 by omega)
  have x1 := ex_ints a (i := f) (j := u)
  have s1 : sl_ok (f : Int) (u : Int) a.size = true := decide_eq_true ⟨by omega, by omega, by omega⟩
  have n1 : (a.extract (Int.toNat (f : Int)) (Int.toNat (u : Int))).size = u - f := by rw [← len_d, x1, List.length_drop, List.length_take, len_d]; omega
  have hm := inv_mid h6 (f := f) (by omega)
  have hml : (acc ++ (a.data.toList.take f).drop at_).length = acc.length + (f - at_) := by
   rw [lap, List.length_drop, List.length_take, len_d]; omega
  have w1 : IntKind.wrap .i64 ((f : Int) + by_) = ((acc ++ (a.data.toList.take f).drop at_).length : Int) := by rw [w_id (by omega)]; omega
  have hap : apl a.data.toList at_ (s.drop i) = (a.data.toList.take f).drop at_ ++ x.text.data.toList ++ apl a.data.toList u (s.drop (i + 1)) := by
   rw [hd]
   simp only [apl, hf, hu, Int.toNat_natCast]
  generalize hA : acc ++ (a.data.toList.take f).drop at_ = acc1 at hm hml w1
  have w2 : IntKind.wrap .i64 ((acc1.length : Int) + (x.text.size : Int)) = ((acc1.length + x.text.data.toList.length : Nat) : Int) := by rw [w_id (by omega), len_d]; omega
  have w3 : IntKind.wrap .i64 (by_ + IntKind.wrap .i64 ((x.text.size : Int) - IntKind.wrap .i64 ((u : Int) - (f : Int)))) = by_ + (x.text.size : Int) - ((u : Int) - (f : Int)) := by
   rw [w_id (x := (u : Int) - (f : Int)) (by omega), w_id (x := (x.text.size : Int) - _) (by omega), w_id (by omega)]; omega
  have go : ∀ g' len1 row1, L18_0 a s (s.length : Int) gen len by_ (i : Int) row = some (.inr (g', len1, by_ + (x.text.size : Int) - ((u : Int) - (f : Int)), ((i + 1 : Nat) : Int), row1)) → len1 ≤ row1.length → len1 ≤ i + 1 → Inv a.data.toList u (acc1 ++ x.text.data.toList) (row1.take len1) →
    ∃ gen' len' row' at' acc', runL (fun z => L18_0 a s (s.length : Int) z.1 z.2.1 z.2.2.1 z.2.2.2.1 z.2.2.2.2) (gen, len, by_, (i : Int), row) = some (.k0 gen' len' row') ∧
     len' ≤ row'.length ∧ len' ≤ s.length ∧ at' ≤ a.size ∧ acc'.length ≤ at' + 3000 * s.length ∧ Inv a.data.toList at' acc' (row'.take len') ∧ acc' ++ a.data.toList.drop at' = acc ++ apl a.data.toList at_ (s.drop i) := by
   intro g1 len1 row1 hs g2 g3 g4
   obtain ⟨gen', len', row', at', acc', k1, k2, k3, k4, k5, k6, k7⟩ := l18 ha h20 hr hx hp k (i + 1) u g1 len1 (by_ + (x.text.size : Int) - ((u : Int) - (f : Int))) row1 (acc1 ++ x.text.data.toList) (by omega)
    (fun y hy => by
     have hyb := (gei.1 hy)
     have hxb := (gei.1 hxx)
     obtain ⟨hy1, hy2⟩ := hyb
     obtain ⟨hx1, hx2⟩ := hxb
     have := List.pairwise_iff_getElem.1 hp i (i + 1) hx1 hy1 (by omega)
     rw [hx2, hy2] at this
     have := this.1
     omega) (by omega) g2 g3 (by rw [lap, len_d]; omega) (by rw [lap, len_d]; omega) g4
   refine ⟨gen', len', row', at', acc', ?_, k2, k3, k4, k5, k6, ?_⟩
   ·rw [runL_next (s' := (g1, len1, by_ + (x.text.size : Int) - ((u : Int) - (f : Int)), ((i + 1 : Nat) : Int), row1)) hs]
    exact k1
   ·rw [k7, hap, ← hA]
    simp only [List.append_assoc]
  have push : (∀ y, (row.take len).getLast? = some y → ¬ (x.text.data.toList = [] ∧ y.frm = (acc1.length : Int) ∧ y.til = ((acc1.length + x.text.data.toList.length : Nat) : Int))) →
    Inv a.data.toList u (acc1 ++ x.text.data.toList) (row.take len ++ [(⟨(acc1.length : Int), ((acc1.length + x.text.data.toList.length : Nat) : Int), a.extract (Int.toNat (f : Int)) (Int.toNat (u : Int))⟩ : EditD)]) :=
   fun hl => inv_push hm (by omega) (by rw [len_d]; omega) rfl rfl x1 hl
  obtain ⟨p1, p2⟩ := put1 (row := row) (⟨(acc1.length : Int), ((acc1.length + x.text.data.toList.length : Nat) : Int), a.extract (Int.toNat (f : Int)) (Int.toNat (u : Int))⟩ : EditD) h2
  by_cases cl : 0 < len
  ·have hgt : decide (((len : Nat) : Int) > 0) = true := decide_eq_true (by omega)
   have i1 : IntKind.wrap .i64 (((len : Nat) : Int) - 1) = ((len - 1 : Nat) : Int) := by rw [w_id (by omega)]; omega
   have i2 : ixN len ((len - 1 : Nat) : Int) = some (len - 1) := by rw [ixN_nat, if_pos (by omega)]
   have hy : row[len - 1]? = some (row[len - 1]'(by omega)) := geg _
   generalize row[len - 1]'(by omega) = y at hy
   have hlast : (row.take len).getLast? = some y := by
    rw [List.getLast?_eq_getElem?, List.length_take, Nat.min_eq_left h2, List.getElem?_take, if_pos (by omega), hy]
   by_cases ct : x.text.data.toList = []
   ·have hz : (x.text.toList == (⟨([] : List UInt8).toArray⟩ : ByteArray).toList) = true := by
     rw [bytes_list]
     refine decide_eq_true ?_
     have h1 : x.text = (⟨x.text.data.toList.toArray⟩ : ByteArray) := rfl
     rw [h1, ct]
    have tz : x.text.data.toList.length = 0 := by rw [ct]; rfl
    by_cases cs : y.frm = (acc1.length : Int) ∧ y.til = ((acc1.length + x.text.data.toList.length : Nat) : Int)
    ·-- put together with the last
     have q1 : (y.frm == (acc1.length : Int)) = true := by rw [cs.1]; exact beq_self_eq_true _
     have q2 : (y.til == ((acc1.length + x.text.data.toList.length : Nat) : Int)) = true := by rw [cs.2]; exact beq_self_eq_true _
     have hrow : row.take len = row.take (len - 1) ++ [y] := by
      have h := List.take_succ_eq_append_getElem (l := row) (i := len - 1) (show len - 1 < row.length by omega)
      rw [show len - 1 + 1 = len by omega] at h
      rw [h]
      obtain ⟨_, hh⟩ := gei.1 hy
      rw [hh]
     have hsz := h6.sz y (by rw [hrow]; simp)
     have z1 : decide (y.text.size + (a.extract (Int.toNat (f : Int)) (Int.toNat (u : Int))).size ≤ 9223372036854775807) = true := decide_eq_true (by omega)
     have hm2 := hm
     rw [hrow] at hm2
     have hmore := inv_more (e' := (⟨y.frm, y.til, y.text ++ a.extract (Int.toNat (f : Int)) (Int.toNat (u : Int))⟩ : EditD)) hm2 (show f ≤ u by omega) (by rw [len_d]; omega) rfl rfl (by show (y.text ++ _).data.toList = _; rw [ba_app, x1]) (by rw [cs.2, tz, Nat.add_zero])
     refine go gen len (row.set (len - 1) ⟨y.frm, y.til, y.text ++ a.extract (Int.toNat (f : Int)) (Int.toNat (u : Int))⟩) ?_ (by rw [List.length_set]; exact h2) (by omega) ?_
     ·simp only [L18_0, hlt, cond_true, getI_nat, hxx, bsm, hf, hu, s1, hgt, hz, i1, i2, hy, w1, w2, q1, q2, Bool.and_self, z1, w3, hS]
     ·have := take_set (row := row) (n := len - 1) (⟨y.frm, y.til, y.text ++ a.extract (Int.toNat (f : Int)) (Int.toNat (u : Int))⟩ : EditD) (by omega)
      rw [show len - 1 + 1 = len by omega] at this
      rw [this, ct, List.append_nil]
      exact hmore
    ·have hq : ((y.frm == (acc1.length : Int)) && ((y.til == ((acc1.length + x.text.data.toList.length : Nat) : Int)) && true)) = false := by
      by_cases c1 : y.frm = (acc1.length : Int)
      ·rw [beqF' (a := y.til) (fun h => cs ⟨c1, h⟩)]; simp
      ·rw [beqF' c1]; rfl
     have hpu := push (fun y' hy' h => by rw [hlast] at hy'; cases hy'; exact cs ⟨h.2.1, h.2.2⟩)
     by_cases hc : len + 1 ≤ row.length
     ·refine go gen (len + 1) _ ?_ (p1 hc).2 (by omega) (by rw [(p1 hc).1]; exact hpu)
      simp only [L18_0, hlt, cond_true, getI_nat, hxx, bsm, hf, hu, s1, hgt, hz, i1, i2, hy, w1, w2, hq, cond_false, ap1 h2 (by omega), decide_eq_true hc, w3, hS]
     ·refine go (gen + 1) (len + 1) _ ?_ p2.2 (by omega) (by rw [p2.1]; exact hpu)
      simp only [L18_0, hlt, cond_true, getI_nat, hxx, bsm, hf, hu, s1, hgt, hz, i1, i2, hy, w1, w2, hq, cond_false, ap1 h2 (by omega), decide_eq_false hc, w3, hS]
   ·have hz : (x.text.toList == (⟨([] : List UInt8).toArray⟩ : ByteArray).toList) = false := by
     rw [bytes_list]
     refine decide_eq_false (fun h => ct ?_)
     rw [h]
    have hpu := push (fun y' hy' h => ct h.1)
    by_cases hc : len + 1 ≤ row.length
    ·refine go gen (len + 1) _ ?_ (p1 hc).2 (by omega) (by rw [(p1 hc).1]; exact hpu)
     simp only [L18_0, hlt, cond_true, getI_nat, hxx, bsm, hf, hu, s1, hgt, hz, w1, w2, cond_false, ap1 h2 (by omega), decide_eq_true hc, w3, hS]
    ·refine go (gen + 1) (len + 1) _ ?_ p2.2 (by omega) (by rw [p2.1]; exact hpu)
     simp only [L18_0, hlt, cond_true, getI_nat, hxx, bsm, hf, hu, s1, hgt, hz, w1, w2, cond_false, ap1 h2 (by omega), decide_eq_false hc, w3, hS]
  ·have hgt : decide (((len : Nat) : Int) > 0) = false := decide_eq_false (by omega)
   have hnil : row.take len = [] := by rw [show len = 0 by omega, List.take_zero]
   have hpu := push (fun y' hy' h => by rw [hnil] at hy'; simp at hy')
   by_cases hc : len + 1 ≤ row.length
   ·refine go gen (len + 1) _ ?_ (p1 hc).2 (by omega) (by rw [(p1 hc).1]; exact hpu)
    simp only [L18_0, hlt, cond_true, getI_nat, hxx, bsm, hf, hu, s1, hgt, w1, w2, cond_false, ap1 h2 (by omega), decide_eq_true hc, w3, hS]
   ·refine go (gen + 1) (len + 1) _ ?_ p2.2 (by omega) (by rw [p2.1]; exact hpu)
    simp only [L18_0, hlt, cond_true, getI_nat, hxx, bsm, hf, hu, s1, hgt, w1, w2, cond_false, ap1 h2 (by omega), decide_eq_false hc, w3, hS]
theorem law7 (Nf : Nat) (a : ByteArray) (l : List EditD) : F7 Nf a l = some true := by
 obtain ⟨v, h14, hv⟩ := q14 a l
 unfold F7
 rw [h14]
 simp only [bsm]
 cases v with
 | true => rfl
 | false =>
  obtain ⟨ha, h20, hx⟩ := hv rfl
  have c1 : nilOk l.length 32 = true := decide_eq_true ⟨by unfold limit47; omega, by unfold limit47; omega⟩
  have c2 : apOk l.length 1 l.length 32 = true := ap1 (Nat.le_refl _) (by omega)
  have c3 : decide (l.length + 1 ≤ l.length) = false := decide_eq_false (by omega)
  have ht : l.take l.length = l := tol (Nat.le_refl _)
  have hlen : (l ++ [(⟨0, 0, (⟨([122, 122] : List UInt8).toArray⟩ : ByteArray)⟩ : EditD)]).length = l.length + 1 := by simp
  have c4 : slOk (l.length : Int) (l.length + 1) (l ++ [(⟨0, 0, (⟨([122, 122] : List UInt8).toArray⟩ : ByteArray)⟩ : EditD)]).length = true := by rw [hlen]; exact decide_eq_true ⟨by omega, by omega, by omega⟩
  have c5 : decide (Int.toNat (l.length : Int) ≤ (l ++ [(⟨0, 0, (⟨([122, 122] : List UInt8).toArray⟩ : ByteArray)⟩ : EditD)]).length) = true := by rw [hlen]; exact decide_eq_true (by omega)
  have hm : (l ++ [(⟨0, 0, (⟨([122, 122] : List UInt8).toArray⟩ : ByteArray)⟩ : EditD)]).take l.length = l := List.take_left
  have c6 : slOk (IntKind.wrap .i64 (((Int.toNat (l.length : Int) : Nat) : Int) + 1)) (Int.toNat (l.length : Int)) (l ++ [(⟨0, 0, (⟨([122, 122] : List UInt8).toArray⟩ : ByteArray)⟩ : EditD)]).length = true := by
   rw [hlen, w_id (by omega)]; exact decide_eq_true ⟨by omega, by omega, by omega⟩
  have c7 : ixN (Int.toNat (IntKind.wrap .i64 ((((Int.toNat (l.length : Int)) : Nat) : Int) + 1))) (((Int.toNat (l.length : Int)) : Nat) : Int) = some l.length := by
   rw [w_id (by omega), Int.toNat_natCast, ixN_nat, if_pos (by omega)]
  have c8 : (l ++ [(⟨0, 0, (⟨([122, 122] : List UInt8).toArray⟩ : ByteArray)⟩ : EditD)])[l.length]? = some (⟨0, 0, (⟨([122, 122] : List UInt8).toArray⟩ : ByteArray)⟩ : EditD) := by
   rw [gar (Nat.le_refl _)]; simp
  have c9 : runL (fun s => L7_4_2 l (Int.toNat (l.length : Int)) (l ++ [(⟨0, 0, (⟨([122, 122] : List UInt8).toArray⟩ : ByteArray)⟩ : EditD)]) s) 0 = some .k1 := by
   rw [Int.toNat_natCast]
   exact l7_4 l _ (by omega) (fun i x hi => by rw [gal (gei.1 hi).1]; exact hi)
  have hm' : (l ++ [(⟨0, 0, (⟨([122, 122] : List UInt8).toArray⟩ : ByteArray)⟩ : EditD)]).take (Int.toNat (l.length : Int)) = l := by rw [Int.toNat_natCast]; exact hm
  have b0 : ((⟨([] : List UInt8).toArray⟩ : ByteArray).toList == (⟨([] : List UInt8).toArray⟩ : ByteArray).toList) = true := beq_self_eq_true _
  have h00 : ((0 : Int) != 0) = false := rfl
  simp only [cond_false, c1, c2, c3, cond_true, ht, c4, c5, hm']
  rcases q13x Nf (a := a) (by omega) h20 hx with ⟨hr, h13⟩ | ⟨hr, hn, h13⟩ | ⟨hr, hn, h13, h25⟩
  ·have h18 : F18 Nf a l = some (.k0 [] 4) := by unfold F18; rw [h13]; rfl
   rw [h13, h18]
   simp only [bsm, c9, c6, c7, c8, cond_true, beq_self_eq_true, Bool.not_true, cond_false, q19 a.size l h20, decide_eq_false hr, b0, List.length_nil, F9]
   rfl
  ·have h18 : F18 Nf a l = some (.k0 [] 110) := by unfold F18; rw [h13]; rfl
   rw [h13, h18]
   simp only [bsm, c9, c6, c7, c8, cond_true, beq_self_eq_true, Bool.not_true, cond_false, q19 a.size l h20, decide_eq_true hr, q20 l h20, decide_eq_false hn, Bool.not_false, b0, List.length_nil, F9]
   rfl
  ·have hA : a.data.toList.length = a.size := len_d a
   have hp := srt_perm l
   have hl := srt_len l
   have hrs : Rg a.size (srt l) := rg_perm hp.symm hr
   have hch : Ch (srt l) := srt_ch hr hn
   have hpw := ch_pw (srt l) hch hrs
   have hxs : ∀ d ∈ srt l, d.text.size ≤ 3000 := fun d hd => hx d (hp.mem_iff.1 hd)
   obtain ⟨g', len', row', at', acc', u1, u2, u3, u4, u5, u6, u7⟩ := l18 ha (s := srt l) (by omega) hrs hxs hpw (srt l).length 0 0 0 0 0 [] [] (by omega)
    (fun x hxx => by have := (hrs x (mog hxx)).1; omega) (by omega) (Nat.le_refl _) (Nat.le_refl _) rfl (Nat.zero_le _) (inv_nil _)
   have e0 : ((0 : Nat) : Int) = 0 := rfl
   rw [e0] at u1
   rw [List.drop_zero, List.nil_append] at u7
   have h18 : F18 Nf a l = some (.k0 (row'.take len') 0) := by
    unfold F18
    rw [h13]
    simp only [bsm, h00, cond_false, h25, u1, decide_eq_true u2, cond_true]
   obtain ⟨w', w1, w2⟩ := l7_3 ha l h20 hx (a.size + 1) 0 (⟨([] : List UInt8).toArray⟩ : ByteArray) (by omega) (Nat.zero_le _)
   rw [e0] at w1
   have hw : w'.data.toList = apl a.data.toList 0 (srt l) := by
    rw [w2, apl_wl a.data.toList (a.size + 1) 0 (srt l) (by omega) hpw (by rw [hA]; exact hrs) (fun d hd => by have := (hrs d hd).1; omega), wl_perm hp.symm hn]
    rfl
   have hw' : w' = ⟨(apl a.data.toList 0 (srt l)).toArray⟩ := by rw [← hw]
   obtain ⟨g2, row2, t1, t2, t3⟩ := l7_1 l h20 l.length 0 [] (Nat.le_refl _) (by simp) (by omega)
   rw [Nat.sub_self] at t1
   have hrp : List.Perm l l.reverse := (List.reverse_perm l).symm
   have h13r : F13 Nf a l.reverse = some (.k0 ⟨(apl a.data.toList 0 (srt l)).toArray⟩ 0) := by
    rcases q13x Nf (a := a) (by omega) (l := l.reverse) (by rw [List.length_reverse]; exact h20) (fun d hd => hx d (List.mem_reverse.1 hd)) with ⟨h, _⟩ | ⟨_, h, _⟩ | ⟨_, _, h, _⟩
    ·exact absurd (rg_perm hrp hr) h
    ·exact absurd (noc_perm hrp hn) h
    ·rw [h, srt_eq hrp hr hn]
   have hwl : IntKind.wrap .i64 ((l.length : Int) - 1) = (l.length : Int) - 1 := w_id (by omega)
   have hnl : (apl a.data.toList 0 (srt l)).length = acc'.length + (a.size - at') := by rw [← u7, lap, List.length_drop, hA]
   have hul : (row'.take len').length = len' := by rw [List.length_take]; omega
   have hrg : Rg (apl a.data.toList 0 (srt l)).length (row'.take len') := fun d hd => by
    obtain ⟨r1, r2, r3⟩ := u6.rg d hd
    exact ⟨r1, r2, by omega⟩
   have hsz : (⟨(apl a.data.toList 0 (srt l)).toArray⟩ : ByteArray).size = (apl a.data.toList 0 (srt l)).length := by rw [← len_d]
   have hun : NoC (row'.take len') := pw_noc (ch_pw _ u6.ch hrg) hrg
   have h13u : F13 Nf (⟨(apl a.data.toList 0 (srt l)).toArray⟩ : ByteArray) (row'.take len') = some (.k0 a 0) := by
    rcases q13x Nf (a := (⟨(apl a.data.toList 0 (srt l)).toArray⟩ : ByteArray)) (by rw [hsz, hnl]; omega) (l := row'.take len') (by omega) (fun d hd => Nat.le_trans (u6.sz d hd) (by omega)) with ⟨h, _⟩ | ⟨_, h, _⟩ | ⟨_, _, h, _⟩
    ·exact absurd (by rw [hsz]; exact hrg) h
    ·exact absurd hun h
    ·rw [h, srt_id hrg u6.ch]
     have hend := inv_end u6
     rw [u7] at hend
     have : (⟨(apl a.data.toList 0 (srt l)).toArray⟩ : ByteArray).data.toList = apl a.data.toList 0 (srt l) := rfl
     rw [this, hend]
   have h70 := l7_0 (row'.take len') (by omega) hrg u6.ch (row'.take len').length 0 (by omega)
   have e1 : ((0 + 1 : Nat) : Int) = 1 := rfl
   rw [e1] at h70
   rw [h13, h18]
   simp only [bsm, c9, c6, c7, c8, cond_true, beq_self_eq_true, Bool.not_true, cond_false, q19 a.size l h20, decide_eq_true hr, q20 l h20, decide_eq_true hn, w1, hwl, t1, decide_eq_true t3, t2, h13r, hw', h00, hul, decide_eq_false (show ¬ (len' : Int) > (l.length : Int) by omega), h70, h13u, F9]
end Go.Proofs.Tryd
