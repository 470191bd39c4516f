/- SpanLines, SpanPlaces: the next line end in a text. Plain data alone. -/
import Derived.Test.YthpmanlglbfcdaaDoorH31
import Derived.Test.YthpmanlglbfcdaaDoorVE
open Option renaming bind_some → bsm
open List renaming getElem?_eq_getElem → geg
namespace Go.Proofs.Tryd
set_option linter.unusedSimpArgs false
set_option linter.unusedVariables false
open Go Go.Vs
theorem len_d (a : ByteArray) : a.data.toList.length = a.size := by rw [Array.length_toList]; rfl
theorem ex_list (s : ByteArray) (i j : Nat) : (s.extract i j).data.toList = (s.data.toList.take j).drop i := by
 simp [List.drop_take]
theorem ix_cases (c : UInt8) : ∀ l : List UInt8, (Go.Lib.indexByte l c = -1 ∧ c ∉ l) ∨ ∃ p r, l = p ++ c :: r ∧ c ∉ p ∧ Go.Lib.indexByte l c = (p.length : Int)
 | [] => .inl ⟨rfl, by simp⟩
 | b :: l => by
  unfold Go.Lib.indexByte
  by_cases hb : b = c
  ·subst hb
   exact .inr ⟨[], l, rfl, by simp, by simp⟩
  ·have hb' : (b == c) = false := by simpa using hb
   rw [hb']
   rcases ix_cases c l with ⟨h1, h2⟩ | ⟨p, r, h1, h2, h3⟩
   ·rw [h1]
    refine .inl ⟨rfl, ?_⟩
    simp only [List.mem_cons, not_or]
    exact ⟨fun h => hb h.symm, h2⟩
   ·rw [h3]
    refine .inr ⟨b :: p, r, by rw [h1]; rfl, ?_, ?_⟩
    ·simp only [List.mem_cons, not_or]
     exact ⟨fun h => hb h.symm, h2⟩
    ·have : ((p.length : Int) == -1) = false := by simp
     simp only [this, Bool.false_eq_true, if_false, List.length_cons]
     omega
theorem q30 (s : ByteArray) : (F30 s = some (-1) ∧ (10 : UInt8) ∉ s.data.toList) ∨ ∃ p r, s.data.toList = p ++ 10 :: r ∧ (10 : UInt8) ∉ p ∧ F30 s = some (p.length : Int) := by
 unfold F30 F48
 by_cases he : (⟨([10] : List UInt8).toArray⟩ : ByteArray) = s
 ·subst he
  refine .inr ⟨[], [], rfl, by simp, ?_⟩
  rw [bytes_list, decide_eq_true rfl]
  rfl
 ·rw [bytes_list, decide_eq_false he]
  have g0 : getI (⟨([10] : List UInt8).toArray⟩ : ByteArray).data.toList 0 = some (10 : UInt8) := rfl
  have e1 : (Int.toNat (((10 : UInt8).toNat : Nat) : Int)).toUInt8 = 10 := by decide
  simp only [cond_false, g0, bsm, F59, e1, Go.Lib.firstIdx_eq]
  rcases ix_cases 10 s.data.toList with ⟨h1, h2⟩ | ⟨p, r, h1, h2, h3⟩
  ·exact .inl ⟨by rw [h1], h2⟩
  ·exact .inr ⟨p, r, h1, h2, by rw [h3]⟩
theorem q17 (a : ByteArray) : F17 a = some ((a.data.toList.count 10 : Nat) : Int) := by
 have g0 : getI (⟨([10] : List UInt8).toArray⟩ : ByteArray).data.toList 0 = some (10 : UInt8) := rfl
 have e1 : (Int.toNat (((10 : UInt8).toNat : Nat) : Int)).toUInt8 = 10 := by decide
 unfold F17
 simp only [g0, bsm, e1]
theorem cutE {s : ByteArray} {p r : List UInt8} (h : s.data.toList = p ++ 10 :: r) (hb : s.size ≤ 2000000) :
  IntKind.wrap .i64 ((p.length : Int) + 0) = (p.length : Int) ∧ IntKind.wrap .i64 ((p.length : Int) + 1) = ((p.length + 1 : Nat) : Int) ∧ sl_ok 0 (p.length : Int) s.size = true ∧ sl_ok ((p.length + 1 : Nat) : Int) (s.size : Int) s.size = true ∧
  (s.extract (Int.toNat 0) (Int.toNat (p.length : Int))).data.toList = p ∧ (s.extract (Int.toNat ((p.length + 1 : Nat) : Int)) (Int.toNat (s.size : Int))).data.toList = r ∧ s.size = p.length + 1 + r.length := by
 have hl : s.size = p.length + 1 + r.length := by rw [← len_d, h]; simp; omega
 refine ⟨w_id (by omega), by rw [w_id (by omega)]; omega, decide_eq_true ⟨by omega, by omega, by omega⟩, decide_eq_true ⟨by omega, by omega, by omega⟩, ?_, ?_, hl⟩
 ·rw [ex_list, h, Int.toNat_natCast]
  simp
 ·rw [ex_list, h, Int.toNat_natCast, Int.toNat_natCast]
  rw [List.take_of_length_le (by simp; omega)]
  rw [List.drop_append]
  simp
def lnO (A : List UInt8) : Nat → Nat
 | 0 => 1
 | k + 1 => bif A[k]? == some 10 then lnO A k + 1 else lnO A k
def lst (A : List UInt8) : Nat → Int
 | 0 => -1
 | k + 1 => bif A[k]? == some 10 then (k : Int) else lst A k
theorem lst_le (A : List UInt8) : ∀ k, -1 ≤ lst A k ∧ lst A k < (k : Int)
 | 0 => ⟨Int.le_refl _, show (-1 : Int) < 0 by decide⟩
 | k + 1 => by
  have := lst_le A k
  simp only [lst]
  cases A[k]? == some 10 <;> simp only [cond_true, cond_false] <;> omega
theorem lnO_le (A : List UInt8) : ∀ k, 1 ≤ lnO A k ∧ lnO A k ≤ k + 1
 | 0 => ⟨Nat.le_refl _, Nat.le_refl _⟩
 | k + 1 => by
  have := lnO_le A k
  simp only [lnO]
  cases A[k]? == some 10 <;> simp only [cond_true, cond_false] <;> omega
theorem lnO_cnt (A : List UInt8) : ∀ k, k ≤ A.length → (A.take k).count 10 + 1 = lnO A k
 | 0, _ => by simp [lnO]
 | k + 1, h => by
  have ih := lnO_cnt A k (by omega)
  have hx : A[k]? = some (A[k]'(by omega)) := geg _
  rw [List.take_succ_eq_append_getElem (by omega), List.count_append]
  simp only [lnO, hx]
  generalize A[k]'(by omega) = x
  by_cases e : x = 10
  ·subst e
   simp
   omega
  ·have : (some x == some (10 : UInt8)) = false := by simpa using e
   have hz : List.count 10 [x] = 0 := List.count_eq_zero.2 (by simpa using fun h => e h.symm)
   rw [this, hz]
   simpa using ih
theorem mono (A : List UInt8) (s : Nat) : ∀ j, lnO A s ≤ lnO A (s + j) ∧ (lnO A s = lnO A (s + j) → lst A s = lst A (s + j))
 | 0 => ⟨Nat.le_refl _, fun _ => rfl⟩
 | j + 1 => by
  obtain ⟨h1, h2⟩ := mono A s j
  have e : s + (j + 1) = (s + j) + 1 := by omega
  rw [e]
  simp only [lnO, lst]
  cases A[s + j]? == some 10 <;> simp only [cond_true, cond_false]
  ·exact ⟨h1, h2⟩
  ·exact ⟨by omega, fun h => by omega⟩
theorem seg (A : List UInt8) (s : Nat) : ∀ j, (∀ t, s ≤ t → t < s + j → A[t]? ≠ some 10) → lnO A (s + j) = lnO A s ∧ lst A (s + j) = lst A s
 | 0, _ => ⟨rfl, rfl⟩
 | j + 1, h => by
  obtain ⟨h1, h2⟩ := seg A s j (fun t g1 g2 => h t g1 (by omega))
  have e : s + (j + 1) = (s + j) + 1 := by omega
  have hf : (A[s + j]? == some 10) = false := by simpa using h (s + j) (by omega) (by omega)
  rw [e]
  simp only [lnO, lst, hf, cond_false]
  exact ⟨h1, h2⟩
theorem inj {A : List UInt8} {m n : Nat} (h1 : lnO A m = lnO A n) (h2 : (m : Int) - lst A m = (n : Int) - lst A n) : m = n := by
 by_cases h : m ≤ n
 ·obtain ⟨j, rfl⟩ : ∃ j, n = m + j := ⟨n - m, by omega⟩
  have := (mono A m j).2 h1
  omega
 ·obtain ⟨j, rfl⟩ : ∃ j, m = n + j := ⟨m - n, by omega⟩
  have := (mono A n j).2 h1.symm
  omega
theorem u8_10 (x : UInt8) : (((x.toNat : Nat) : Int) == 10) = (some x == some (10 : UInt8)) := by
 by_cases h : x = 10
 ·subst h; rfl
 ·have h1 : (some x == some (10 : UInt8)) = false := by simpa using h
  rw [h1]
  have : ¬ x.toNat = 10 := fun e => h (UInt8.toNat_inj.1 e)
  simpa using fun e => this (by omega)
theorem l39 (a : ByteArray) : ∀ k : Nat, k ≤ a.size → k ≤ 2000000 → runL (fun s => L39_0 a s) ((k : Int) - 1) = some (.k0 (lst a.data.toList k)) ∨ (runL (fun s => L39_0 a s) ((k : Int) - 1) = some .k1 ∧ lst a.data.toList k = -1)
 | 0, _, _ => by
  have h : L39_0 a (((0 : Nat) : Int) - 1) = some (.inl .k1) := rfl
  exact .inr ⟨runL_done (step := fun s => L39_0 a s) h, rfl⟩
 | k + 1, h, hb => by
  have hx : a.data.toList[k]? = some (a.data.toList[k]'(by rw [len_d]; omega)) := geg _
  generalize a.data.toList[k]'(by rw [len_d]; omega) = x at hx
  have e1 : (((k + 1 : Nat) : Int) - 1) = (k : Int) := by omega
  have e2 : IntKind.wrap .i64 ((k : Int) - 1) = (k : Int) - 1 := w_id (by omega)
  rw [e1]
  simp only [lst, hx]
  cases hc : (some x == some (10 : UInt8)) with
  | true =>
   have hs : L39_0 a (k : Int) = some (.inl (.k0 (k : Int))) := by
    simp only [L39_0, decide_eq_true (show (k : Int) ≥ 0 by omega), cond_true, getI_nat, hx, bsm, u8_10, hc]
   exact .inl (runL_done (step := fun s => L39_0 a s) hs)
  | false =>
   have hs : L39_0 a (k : Int) = some (.inr ((k : Int) - 1)) := by
    simp only [L39_0, decide_eq_true (show (k : Int) ≥ 0 by omega), cond_true, getI_nat, hx, bsm, u8_10, hc, cond_false, e2]
   rw [runL_next (step := fun s => L39_0 a s) hs]
   exact l39 a k (by omega) (by omega)
theorem q23 (a : ByteArray) (h : a.size ≤ 2000000) : F23 a = some (lst a.data.toList a.size) := by
 have e2 : IntKind.wrap .i64 ((a.size : Int) - 1) = (a.size : Int) - 1 := w_id (by omega)
 unfold F23 F39
 rw [e2]
 rcases l39 a a.size (Nat.le_refl _) h with g | ⟨g, g2⟩
 ·rw [g]; rfl
 ·rw [g, g2]; rfl
theorem take_same {A : List UInt8} {n : Nat} : ∀ k, k ≤ n → lst (A.take n) k = lst A k
 | 0, _ => rfl
 | k + 1, h => by
  simp only [lst]
  rw [take_same k (by omega), List.getElem?_take, if_pos (by omega)]
theorem q10 {a : ByteArray} (ha : a.size ≤ 5000) (n : Nat) (h : n ≤ a.size) : F10 a (n : Int) = some (.k0 (lnO a.data.toList n : Nat) ((n : Int) - lst a.data.toList n) 0) := by
 have x1 : (a.extract (Int.toNat 0) (Int.toNat (n : Int))).data.toList = a.data.toList.take n := by rw [ex_list]; rfl
 have n1 : (a.extract (Int.toNat 0) (Int.toNat (n : Int))).size = n := by rw [← len_d, x1, List.length_take, len_d]; omega
 have s1 : sl_ok 0 (n : Int) a.size = true := decide_eq_true ⟨by omega, by omega, by omega⟩
 have hc := lnO_cnt a.data.toList n (by rw [len_d]; exact h)
 have hl := lst_le a.data.toList n
 have hn := lnO_le a.data.toList n
 have w1 : IntKind.wrap .i64 (((((a.data.toList.take n).count 10 : Nat)) : Int) + 1) = ((lnO a.data.toList n : Nat) : Int) := by rw [w_id (by omega)]; omega
 have w2 : IntKind.wrap .i64 ((n : Int) - lst a.data.toList n) = (n : Int) - lst a.data.toList n := w_id (by omega)
 unfold F10
 rw [decide_eq_false (show ¬ (a.size : Int) > 1048576 by omega), decide_eq_false (show ¬ (n : Int) < 0 by omega), decide_eq_false (show ¬ (n : Int) > (a.size : Int) by omega), s1]
 simp only [cond_false, cond_true, q17, q23 _ (show (a.extract (Int.toNat 0) (Int.toNat (n : Int))).size ≤ 2000000 by omega), bsm, x1, n1, w1, take_same n (Nat.le_refl _), w2]
theorem q10_no {a : ByteArray} (ha : a.size ≤ 5000) (n : Int) (h : n < 0 ∨ n > (a.size : Int)) : F10 a n = some (.k0 0 0 4) := by
 unfold F10
 rw [decide_eq_false (show ¬ (a.size : Int) > 1048576 by omega)]
 by_cases h1 : n < 0
 ·rw [decide_eq_true h1]; rfl
 ·rw [decide_eq_false h1, decide_eq_true (show n > (a.size : Int) by omega)]; rfl
theorem y11_3 {line : ByteArray} {f x : Nat} (p q : Int) (hf : f ≤ 10000) (hx : x ≤ 10000) (hl : line.size ≤ 10000) :
  Y28_0_11 line p q (x : Int) (f : Int) = some (if ((x + 1 : Nat) : Int) = p then (if 1 ≤ q ∧ q ≤ (line.size : Int) + 1 then .k0 ((f : Int) + q - 1) 0 else .k0 0 4) else .k1) := by
 have e1 : IntKind.wrap .i64 ((f : Int) + (line.size : Int)) = (f : Int) + line.size := w_id (by omega)
 have e2 : IntKind.wrap .i64 (IntKind.wrap .i64 ((f : Int) + (line.size : Int) - (f : Int)) + 1) = (line.size : Int) + 1 := by rw [w_id (x := (f : Int) + (line.size : Int) - (f : Int)) (by omega), w_id (by omega)]; omega
 unfold Y28_0_11 Y11_0_3
 rw [w_S (show x < 4611686018427387904 by omega), e1, e2]
 by_cases c1 : ((x + 1 : Nat) : Int) = p
 ·rw [if_pos c1, c1]
  simp only [beq_self_eq_true, cond_true]
  by_cases c2 : q < 1
  ·rw [decide_eq_true c2, if_neg (by omega)]; rfl
  ·rw [decide_eq_false c2]
   by_cases c3 : q > (line.size : Int) + 1
   ·rw [decide_eq_true c3, if_neg (by omega)]; rfl
   ·have e3 : IntKind.wrap .i64 (IntKind.wrap .i64 ((f : Int) + q) - 1) = (f : Int) + q - 1 := by rw [w_id (x := (f : Int) + q) (by omega), w_id (by omega)]
    rw [decide_eq_false c3, if_pos (by omega), e3]; rfl
 ·have : (((x + 1 : Nat) : Int) == p) = false := by simpa using c1
  rw [if_neg c1, this]; rfl
theorem y11_4 {line : ByteArray} {f x : Nat} (p q : Int) (hf : f ≤ 10000) (hx : x ≤ 10000) (hl : line.size ≤ 10000) :
  Y28_0_12 line p q (x : Int) (f : Int) = some (if ((x + 1 : Nat) : Int) = p then (if 1 ≤ q ∧ q ≤ (line.size : Int) + 1 then .k0 ((f : Int) + q - 1) 0 else .k0 0 4) else .k1) := by
 have e1 : IntKind.wrap .i64 ((f : Int) + (line.size : Int)) = (f : Int) + line.size := w_id (by omega)
 have e2 : IntKind.wrap .i64 (IntKind.wrap .i64 ((f : Int) + (line.size : Int) - (f : Int)) + 1) = (line.size : Int) + 1 := by rw [w_id (x := (f : Int) + (line.size : Int) - (f : Int)) (by omega), w_id (by omega)]; omega
 unfold Y28_0_12 Y11_0_4
 rw [w_S (show x < 4611686018427387904 by omega), e1, e2]
 by_cases c1 : ((x + 1 : Nat) : Int) = p
 ·rw [if_pos c1, c1]
  simp only [beq_self_eq_true, cond_true]
  by_cases c2 : q < 1
  ·rw [decide_eq_true c2, if_neg (by omega)]; rfl
  ·rw [decide_eq_false c2]
   by_cases c3 : q > (line.size : Int) + 1
   ·rw [decide_eq_true c3, if_neg (by omega)]; rfl
   ·have e3 : IntKind.wrap .i64 (IntKind.wrap .i64 ((f : Int) + q) - 1) = (f : Int) + q - 1 := by rw [w_id (x := (f : Int) + q) (by omega), w_id (by omega)]
    rw [decide_eq_false c3, if_pos (by omega), e3]; rfl
 ·have : (((x + 1 : Nat) : Int) == p) = false := by simpa using c1
  rw [if_neg c1, this]; rfl
structure Beg (A : List UInt8) (x f : Nat) (r : ByteArray) : Prop where
 rest : r.data.toList = A.drop f
 le : f ≤ A.length
 ln : lnO A f = x + 1
 ls : lst A f = (f : Int) - 1
 ahead : ∀ i, i < f → lnO A i ≤ x
def Ans (A : List UInt8) (p q : Int) (n e : Int) : Prop :=
 (e = 0 ∧ ∃ m : Nat, n = (m : Int) ∧ m ≤ A.length ∧ ((lnO A m : Nat) : Int) = p ∧ (m : Int) - lst A m = q) ∨ (e = 4 ∧ n = 0 ∧ ∀ m : Nat, m ≤ A.length → ¬ (((lnO A m : Nat) : Int) = p ∧ (m : Int) - lst A m = q))
theorem in_line {A : List UInt8} {x f : Nat} {r : ByteArray} {p s : List UInt8} (h : Beg A x f r) (hr : r.data.toList = p ++ s) (hp : (10 : UInt8) ∉ p) : ∀ j, j ≤ p.length → lnO A (f + j) = x + 1 ∧ lst A (f + j) = (f : Int) - 1 := by
 intro j hj
 have := seg A f j (fun t h1 h2 hh => by
  have e : A[t]? = p[t - f]? := by
   have : (A.drop f)[t - f]? = A[t]? := by rw [List.getElem?_drop]; congr 1; omega
   rw [← this, ← h.rest, hr, List.getElem?_append_left (by omega)]
  rw [e] at hh
  exact hp (List.mem_of_getElem? hh))
 rw [this.1, this.2]
 exact ⟨h.ln, h.ls⟩
theorem line_ans {A : List UInt8} {x f : Nat} {r : ByteArray} {l s : List UInt8} {p q : Int} (h : Beg A x f r) (hr : r.data.toList = l ++ s) (hl : (10 : UInt8) ∉ l) (hs : s = [] ∨ ∃ s', s = 10 :: s') (hp : ((x + 1 : Nat) : Int) = p) :
  Ans A p q (if 1 ≤ q ∧ q ≤ (l.length : Int) + 1 then (f : Int) + q - 1 else 0) (if 1 ≤ q ∧ q ≤ (l.length : Int) + 1 then 0 else 4) := by
 have hlen : (A.drop f).length = l.length + s.length := by rw [← h.rest, hr, List.length_append]
 rw [List.length_drop] at hlen
 have hle := h.le
 by_cases c : 1 ≤ q ∧ q ≤ (l.length : Int) + 1
 ·rw [if_pos c, if_pos c]
  obtain ⟨j, hj⟩ : ∃ j : Nat, q = (j : Int) + 1 := ⟨(q - 1).toNat, by omega⟩
  obtain ⟨g1, g2⟩ := in_line h hr hl j (by omega)
  exact .inl ⟨rfl, f + j, by omega, by omega, by rw [g1]; exact hp, by rw [g2]; omega⟩
 ·rw [if_neg c, if_neg c]
  refine .inr ⟨rfl, rfl, fun m hm hh => ?_⟩
  by_cases c1 : m < f
  ·have := h.ahead m c1; omega
  ·by_cases c2 : m ≤ f + l.length
   ·obtain ⟨g1, g2⟩ := in_line h hr hl (m - f) (by omega)
    rw [show f + (m - f) = m by omega] at g1 g2
    omega
   ·rcases hs with rfl | ⟨s', rfl⟩
    ·simp at hlen; omega
    ·have hnl : A[f + l.length]? = some 10 := by
      have : (A.drop f)[l.length]? = A[f + l.length]? := by rw [List.getElem?_drop]
      rw [← this, ← h.rest, hr, List.getElem?_append_right (Nat.le_refl _)]; simp
     obtain ⟨g1, g2⟩ := in_line h hr hl l.length (Nat.le_refl _)
     have g3 : lnO A (f + l.length + 1) = x + 1 + 1 := by simp only [lnO, hnl]; rw [g1]; rfl
     have g4 := (mono A (f + l.length + 1) (m - (f + l.length + 1))).1
     rw [show f + l.length + 1 + (m - (f + l.length + 1)) = m by omega] at g4
     omega
theorem next_beg {A : List UInt8} {x f : Nat} {r r' : ByteArray} {l s : List UInt8} (h : Beg A x f r) (hr : r.data.toList = l ++ 10 :: s) (hl : (10 : UInt8) ∉ l) (hr' : r'.data.toList = s) : Beg A (x + 1) (f + l.length + 1) r' := by
 have hlen : (A.drop f).length = l.length + (s.length + 1) := by rw [← h.rest, hr, List.length_append, List.length_cons]
 rw [List.length_drop] at hlen
 have hnl : A[f + l.length]? = some 10 := by
  have : (A.drop f)[l.length]? = A[f + l.length]? := by rw [List.getElem?_drop]
  rw [← this, ← h.rest, hr, List.getElem?_append_right (Nat.le_refl _)]; simp
 obtain ⟨g1, g2⟩ := in_line h hr hl l.length (Nat.le_refl _)
 refine ⟨?_, by omega, ?_, ?_, fun i hi => ?_⟩
 ·have : A.drop (f + l.length + 1) = (A.drop f).drop (l.length + 1) := by rw [List.drop_drop]; congr 1
  rw [this, ← h.rest, hr, hr', List.drop_append]
  simp
 ·simp only [lnO, hnl]; rw [g1]; rfl
 ·simp only [lst, hnl]
  show ((f + l.length : Nat) : Int) = _
  omega
 ·by_cases c1 : i < f
  ·have := h.ahead i c1; omega
  ·obtain ⟨g3, _⟩ := in_line h hr hl (i - f) (by omega)
   rw [show f + (i - f) = i by omega] at g3
   omega
theorem l57_3 {a : ByteArray} (ha : a.size ≤ 5000) (p q : Int) : ∀ (n : Nat) (r : ByteArray) (x f : Nat), r.size ≤ n → x ≤ f → Beg a.data.toList x f r →
  (∃ n e z1 z2 z3 z4, runL (fun s => L57_0_3 p q s.1 s.2.1 s.2.2) ((x : Int), (f : Int), r) = some (.k1 n e z1 z2 z3 z4) ∧ Ans a.data.toList p q n e) ∨
  (∃ x' f' r', runL (fun s => L57_0_3 p q s.1 s.2.1 s.2.2) ((x : Int), (f : Int), r) = some (.k0 ((x' : Nat) : Int) ((f' : Nat) : Int) r') ∧ x' ≤ f' ∧ Beg a.data.toList x' f' r' ∧ (10 : UInt8) ∉ r'.data.toList ∧ (p < ((x + 1 : Nat) : Int) ∨ ((x' : Nat) : Int) < p)) := by
 intro n
 have hA : a.data.toList.length = a.size := len_d a
 induction n with
 | zero =>
  intro r x f hr hx h
  rcases q30 r with ⟨h1, h2⟩ | ⟨l, s, h1, h2, h3⟩
  ·by_cases c : p < ((x + 1 : Nat) : Int)
   ·exact .inr ⟨x, f, r, runL_done (by simp only [L57_0_3, h1, bsm]; rfl), hx, h, h2, .inl c⟩
   ·exact .inr ⟨x, f, r, runL_done (by simp only [L57_0_3, h1, bsm]; rfl), hx, h, h2, .inr (by omega)⟩
  ·have : r.size = l.length + 1 + s.length := by rw [← len_d, h1]; simp; omega
   omega
 | succ n ih =>
  intro r x f hr hx h
  have hrs : r.size ≤ a.size := by rw [← len_d, h.rest, List.length_drop]; omega
  have hfa := h.le
  rcases q30 r with ⟨h1, h2⟩ | ⟨l, s, h1, h2, h3⟩
  ·by_cases c : p < ((x + 1 : Nat) : Int)
   ·exact .inr ⟨x, f, r, runL_done (by simp only [L57_0_3, h1, bsm]; rfl), hx, h, h2, .inl c⟩
   ·exact .inr ⟨x, f, r, runL_done (by simp only [L57_0_3, h1, bsm]; rfl), hx, h, h2, .inr (by omega)⟩
  ·obtain ⟨w0, w1, s1, s2, x1, x2, x3⟩ := cutE h1 (by omega)
   have n1 : (r.extract (Int.toNat 0) (Int.toNat (l.length : Int))).size = l.length := by rw [← len_d, x1]
   have hy := y11_3 (line := r.extract (Int.toNat 0) (Int.toNat (l.length : Int))) (f := f) (x := x) p q (by omega) (by omega) (by omega)
   rw [n1] at hy
   by_cases c : ((x + 1 : Nat) : Int) = p
   ·left
    rw [if_pos c] at hy
    have hans := line_ans (q := q) h h1 h2 (.inr ⟨s, rfl⟩) c
    by_cases c2 : 1 ≤ q ∧ q ≤ (l.length : Int) + 1
    ·rw [if_pos c2] at hy
     rw [if_pos c2, if_pos c2] at hans
     exact ⟨_, _, _, _, _, _, runL_done (by simp only [L57_0_3, h3, bsm, decide_eq_false (show ¬ (l.length : Int) < 0 by omega), cond_false, w0, s1, cond_true, hy]; rfl), hans⟩
    ·rw [if_neg c2] at hy
     rw [if_neg c2, if_neg c2] at hans
     exact ⟨_, _, _, _, _, _, runL_done (by simp only [L57_0_3, h3, bsm, decide_eq_false (show ¬ (l.length : Int) < 0 by omega), cond_false, w0, s1, cond_true, hy]; rfl), hans⟩
   ·rw [if_neg c] at hy
    have w2 : IntKind.wrap .i64 ((f : Int) + IntKind.wrap .i64 (((r.extract (Int.toNat 0) (Int.toNat (l.length : Int))).size : Int) + 1)) = ((f + l.length + 1 : Nat) : Int) := by
     rw [n1, w1, w_id (by omega)]; omega
    have hsz : (r.extract (Int.toNat ((l.length + 1 : Nat) : Int)) (Int.toNat (r.size : Int))).size ≤ n := by rw [← len_d, x2]; omega
    have hB := next_beg h h1 h2 x2
    have hstep : runL (fun s => L57_0_3 p q s.1 s.2.1 s.2.2) ((x : Int), (f : Int), r) = runL (fun s => L57_0_3 p q s.1 s.2.1 s.2.2) (((x + 1 : Nat) : Int), ((f + l.length + 1 : Nat) : Int), r.extract (Int.toNat ((l.length + 1 : Nat) : Int)) (Int.toNat (r.size : Int))) :=
     runL_next (by simp only [L57_0_3, h3, bsm, decide_eq_false (show ¬ (l.length : Int) < 0 by omega), cond_false, w0, s1, cond_true, hy, w1, s2, w2, w_S (show x < 4611686018427387904 by omega)])
    rw [hstep]
    rcases ih _ (x + 1) (f + l.length + 1) hsz (by omega) hB with g | ⟨x', f', r', g1, g2, g3, g4, g5⟩
    ·exact .inl g
    ·exact .inr ⟨x', f', r', g1, g2, g3, g4, by omega⟩
theorem q11 {a : ByteArray} (ha : a.size ≤ 5000) (p q : Int) : ∃ n e, F11 a p q = some (.k0 n e) ∧ Ans a.data.toList p q n e := by
 have h29 : F29_3 = some .k0 := rfl
 have e0 : ((0 : Nat) : Int) = 0 := rfl
 have hA : a.data.toList.length = a.size := len_d a
 have hl := l57_3 ha p q a.size a 0 0 (Nat.le_refl _) (Nat.le_refl _) ⟨by simp, by omega, rfl, rfl, fun i hi => by omega⟩
 rw [e0] at hl
 unfold F11 F28_3 F57_3 F15
 rw [decide_eq_false (show ¬ (a.size : Int) > 1048576 by omega), h29]
 simp only [cond_false, bsm]
 rcases hl with ⟨n, e, z1, z2, z3, z4, h1, h2⟩ | ⟨x, f, r, h1, h2, h3, h4, h5⟩
 ·exact ⟨n, e, by rw [h1]; rfl, h2⟩
 ·have hfa := h3.le
  have hrs : r.size ≤ a.size := by rw [← len_d, h3.rest, List.length_drop]; omega
  have hy := y11_4 (line := r) (f := f) (x := x) p q (by omega) (by omega) (by omega)
  have hr0 : r.data.toList = r.data.toList ++ [] := by simp
  rw [h1]
  simp only [bsm]
  by_cases c : ((x + 1 : Nat) : Int) = p
  ·rw [if_pos c] at hy
   have hans := line_ans (q := q) h3 hr0 h4 (.inl rfl) c
   rw [len_d] at hans
   by_cases c2 : 1 ≤ q ∧ q ≤ (r.size : Int) + 1
   ·rw [if_pos c2] at hy
    rw [if_pos c2, if_pos c2] at hans
    exact ⟨_, _, by rw [hy]; rfl, hans⟩
   ·rw [if_neg c2] at hy
    rw [if_neg c2, if_neg c2] at hans
    exact ⟨_, _, by rw [hy]; rfl, hans⟩
  ·rw [if_neg c] at hy
   refine ⟨0, 4, by rw [hy]; rfl, .inr ⟨rfl, rfl, fun m hm hh => ?_⟩⟩
   have hm1 := lnO_le a.data.toList m
   have hup : lnO a.data.toList m ≤ x + 1 := by
    by_cases c1 : m < f
    ·have := h3.ahead m c1; omega
    ·have hrl : r.data.toList.length = a.size - f := by rw [h3.rest, List.length_drop, hA]
     obtain ⟨g3, _⟩ := in_line h3 hr0 h4 (m - f) (by omega)
     rw [show f + (m - f) = m by omega] at g3
     omega
   omega
theorem l3_1 {a : ByteArray} (ha : a.size ≤ 5000) {n : Nat} (hn : n ≤ a.size) : ∀ (k i : Nat), i + k = n →
  runL (fun s => L3_1 a (n : Int) s.1 s.2.1 s.2.2) (((lnO a.data.toList i : Nat) : Int), (i : Int) - lst a.data.toList i, (i : Int)) = some (.k0 ((lnO a.data.toList n : Nat) : Int) ((n : Int) - lst a.data.toList n))
 | 0, i, h => by
  obtain rfl : i = n := by omega
  exact runL_done (by simp only [L3_1, decide_eq_false (show ¬ (i : Int) < (i : Int) by omega), cond_false])
 | k + 1, i, h => by
  have hA : a.data.toList.length = a.size := len_d a
  have hx : a.data.toList[i]? = some (a.data.toList[i]'(by omega)) := geg _
  generalize a.data.toList[i]'(by omega) = x at hx
  have hl := lst_le a.data.toList i
  have hm := lnO_le a.data.toList i
  have hS := w_S (show i < 4611686018427387904 by omega)
  have w1 := w_S (show lnO a.data.toList i < 4611686018427387904 by omega)
  have w2 : IntKind.wrap .i64 ((i : Int) - lst a.data.toList i + 1) = (i : Int) - lst a.data.toList i + 1 := w_id (by omega)
  have ih := l3_1 ha hn k (i + 1) (by omega)
  simp only [lnO, lst, hx] at ih
  cases hc : (some x == some (10 : UInt8)) with
  | true =>
   rw [hc] at ih
   simp only [cond_true] at ih
   rw [show (((i + 1 : Nat) : Int) - (i : Int)) = 1 by omega] at ih
   rw [runL_next (s' := (((lnO a.data.toList i + 1 : Nat) : Int), 1, ((i + 1 : Nat) : Int))) (by
    simp only [L3_1, decide_eq_true (show (i : Int) < (n : Int) by omega), cond_true, getI_nat, hx, bsm, u8_10, hc, hS, w1])]
   exact ih
  | false =>
   rw [hc] at ih
   simp only [cond_false] at ih
   rw [show (((i + 1 : Nat) : Int) - lst a.data.toList i) = (i : Int) - lst a.data.toList i + 1 by omega] at ih
   rw [runL_next (s' := (((lnO a.data.toList i : Nat) : Int), (i : Int) - lst a.data.toList i + 1, ((i + 1 : Nat) : Int))) (by
    simp only [L3_1, decide_eq_true (show (i : Int) < (n : Int) by omega), cond_true, getI_nat, hx, bsm, u8_10, hc, cond_false, hS, w2])]
   exact ih
theorem l3_0 {a : ByteArray} (ha : a.size ≤ 5000) {p q : Int} (h : ∀ m : Nat, m ≤ a.size → ¬ (((lnO a.data.toList m : Nat) : Int) = p ∧ (m : Int) - lst a.data.toList m = q)) : ∀ (k i : Nat), i + k = a.size + 1 →
  runL (fun s => L3_0 a p q s) (i : Int) = some .k1
 | 0, i, hi => runL_done (by simp only [L3_0, decide_eq_false (show ¬ (i : Int) ≤ (a.size : Int) by omega), cond_false])
 | k + 1, i, hi => by
  have hno := h i (by omega)
  have hne : ((((lnO a.data.toList i : Nat) : Int) == p) && (((i : Int) - lst a.data.toList i == q) && true)) = false := by
   by_cases c1 : ((lnO a.data.toList i : Nat) : Int) = p
   ·have c2 : ¬ (i : Int) - lst a.data.toList i = q := fun c2 => hno ⟨c1, c2⟩
    have : ((i : Int) - lst a.data.toList i == q) = false := by simpa using c2
    rw [this]; simp
   ·have : (((lnO a.data.toList i : Nat) : Int) == p) = false := by simpa using c1
    rw [this]; rfl
  have hs : L3_0 a p q (i : Int) = some (.inr ((i + 1 : Nat) : Int)) := by
   simp only [L3_0, decide_eq_true (show (i : Int) ≤ (a.size : Int) by omega), cond_true, q10 ha i (by omega), bsm, hne, cond_false, w_S (show i < 4611686018427387904 by omega)]
  rw [runL_next (step := fun s => L3_0 a p q s) hs]
  exact l3_0 ha h k (i + 1) (by omega)
theorem ans4 {a : ByteArray} (ha : a.size ≤ 5000) (p q : Int) : (F11 a p q = some (.k0 0 4) ∧ runL (fun s => L3_0 a p q s) 0 = some .k1) ∨ ∃ n : Nat, F11 a p q = some (.k0 (n : Int) 0) ∧ F10 a (n : Int) = some (.k0 p q 0) := by
 have hA : a.data.toList.length = a.size := len_d a
 have e0 : ((0 : Nat) : Int) = 0 := rfl
 obtain ⟨n, e, h1, h2⟩ := q11 ha p q
 rcases h2 with ⟨rfl, m, rfl, g1, g2, g3⟩ | ⟨rfl, rfl, g⟩
 ·exact .inr ⟨m, h1, by rw [q10 ha m (by omega), g2, g3]⟩
 ·have := l3_0 ha (p := p) (q := q) (fun m hm => g m (by omega)) (a.size + 1) 0 (by omega)
  rw [e0] at this
  exact .inl ⟨h1, this⟩
theorem ans_own {a : ByteArray} (ha : a.size ≤ 5000) {n : Nat} (hn : n ≤ a.size) : F11 a ((lnO a.data.toList n : Nat) : Int) ((n : Int) - lst a.data.toList n) = some (.k0 (n : Int) 0) := by
 have hA : a.data.toList.length = a.size := len_d a
 obtain ⟨x, e, h1, h2⟩ := q11 ha ((lnO a.data.toList n : Nat) : Int) ((n : Int) - lst a.data.toList n)
 rcases h2 with ⟨rfl, m, rfl, g1, g2, g3⟩ | ⟨rfl, rfl, g⟩
 ·rw [h1, inj (show lnO a.data.toList m = lnO a.data.toList n by omega) g3]
 ·exact absurd ⟨rfl, rfl⟩ (g n (by omega))
theorem law3 (a : ByteArray) (n p q : Int) : F3 a n p q = some true := by
 unfold F3
 by_cases ha : (a.size : Int) > 5000
 ·rw [decide_eq_true ha]; rfl
 rw [decide_eq_false ha]
 have ha' : a.size ≤ 5000 := by omega
 have n4 : ((4 : Int) != 4) = false := rfl
 have n40 : ((4 : Int) != 0) = true := rfl
 have n00 : ((0 : Int) != 0) = false := rfl
 have z0 : (!(((0 : Int) == 0) && (((0 : Int) == 0) && true))) = false := rfl
 simp only [cond_false]
 by_cases c1 : n < 0
 ·rw [q10_no ha' n (.inl c1), decide_eq_true c1]
  simp only [bsm, cond_true, z0, cond_false, n4]
  rcases ans4 ha' p q with ⟨h1, h2⟩ | ⟨m, h1, h2⟩
  ·simp only [h1, h2, bsm, n40, cond_true, n00, n4, cond_false, F9]
  ·simp only [h1, h2, bsm, n00, cond_true, cond_false, beq_self_eq_true, Bool.and_self, F9]
 ·by_cases c2 : n > (a.size : Int)
  ·rw [q10_no ha' n (.inr c2), decide_eq_false c1, decide_eq_true c2]
   simp only [bsm, cond_true, z0, cond_false, n4]
   rcases ans4 ha' p q with ⟨h1, h2⟩ | ⟨m, h1, h2⟩
   ·simp only [h1, h2, bsm, n40, cond_true, n00, n4, cond_false, F9]
   ·simp only [h1, h2, bsm, n00, cond_true, cond_false, beq_self_eq_true, Bool.and_self, F9]
  ·obtain ⟨k, rfl⟩ : ∃ k : Nat, n = (k : Int) := ⟨n.toNat, by omega⟩
   have e0 : ((0 : Nat) : Int) = 0 := rfl
   have hl := l3_1 ha' (n := k) (by omega) k 0 (by omega)
   have hl' : runL (fun s => L3_1 a (k : Int) s.1 s.2.1 s.2.2) (1, 1, 0) = some (.k0 ((lnO a.data.toList k : Nat) : Int) ((k : Int) - lst a.data.toList k)) := hl
   rw [q10 ha' k (by omega), decide_eq_false c1, decide_eq_false c2]
   simp only [bsm, cond_true, cond_false, hl', ans_own ha' (show k ≤ a.size by omega), beq_self_eq_true, Bool.and_self, Bool.not_true, n00, bne_self_eq_false]
   rcases ans4 ha' p q with ⟨h1, h2⟩ | ⟨m, h1, h2⟩
   ·simp only [h1, h2, bsm, n40, cond_true, n00, n4, cond_false, F9]
   ·simp only [h1, h2, bsm, n00, cond_true, cond_false, beq_self_eq_true, Bool.and_self, F9]
end Go.Proofs.Tryd
