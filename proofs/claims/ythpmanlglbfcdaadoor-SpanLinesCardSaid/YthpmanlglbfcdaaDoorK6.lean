/- SpanLines, SpanPlaces: the next line end in a text. Plain data alone. -/
import Derived.Test.YthpmanlglbfcdaaDoorH62
import Derived.Test.YthpmanlglbfcdaaDoorVE
open Option renaming bind_some → bsm
namespace Go.Proofs.Tryd
set_option linter.unusedSimpArgs false
set_option linter.unusedVariables false
open Go Go.Vs
theorem len_d (a : ByteArray) : a.data.toList.length = a.size := by rw [Array.length_toList]; rfl
theorem ba_app (a b : ByteArray) : (a ++ b).data.toList = a.data.toList ++ b.data.toList := by simp
theorem ba_len (a b : ByteArray) : (a ++ b).size = a.size + b.size := by rw [← len_d, ba_app, List.length_append, len_d, len_d]
theorem ba_ext {a b : ByteArray} (h : a.data.toList = b.data.toList) : a = b := by
 have h1 : a = (⟨a.data.toList.toArray⟩ : ByteArray) := rfl
 rw [h1, h]
theorem ex_list (s : ByteArray) (i j : Nat) : (s.extract i j).data.toList = (s.data.toList.take j).drop i := by
 simp [List.drop_take]
theorem ix_cases (c : UInt8) : ∀ l : List UInt8, (Go.Lib.indexByte l c = -1 ∧ c ∉ l) ∨ ∃ p r, l = p ++ c :: r ∧ c ∉ p ∧ Go.Lib.indexByte l c = (p.length : Int)
 | [] => .inl ⟨rfl, by simp⟩
 | b :: l => by
  unfold Go.Lib.indexByte
  by_cases hb : b = c
  ·subst hb
   exact .inr ⟨[], l, rfl, by simp, by simp⟩
  ·have hb' : (b == c) = false := by simpa using hb
   rw [hb']
   rcases ix_cases c l with ⟨h1, h2⟩ | ⟨p, r, h1, h2, h3⟩
   ·rw [h1]
    refine .inl ⟨rfl, ?_⟩
    simp only [List.mem_cons, not_or]
    exact ⟨fun h => hb h.symm, h2⟩
   ·rw [h3]
    refine .inr ⟨b :: p, r, by rw [h1]; rfl, ?_, ?_⟩
    ·simp only [List.mem_cons, not_or]
     exact ⟨fun h => hb h.symm, h2⟩
    ·have : ((p.length : Int) == -1) = false := by simp
     simp only [this, Bool.false_eq_true, if_false, List.length_cons]
     omega
theorem q30 (s : ByteArray) : (F30 s = some (-1) ∧ (10 : UInt8) ∉ s.data.toList) ∨ ∃ p r, s.data.toList = p ++ 10 :: r ∧ (10 : UInt8) ∉ p ∧ F30 s = some (p.length : Int) := by
 unfold F30 F48
 by_cases he : (⟨([10] : List UInt8).toArray⟩ : ByteArray) = s
 ·subst he
  refine .inr ⟨[], [], rfl, by simp, ?_⟩
  rw [bytes_list, decide_eq_true rfl]
  rfl
 ·rw [bytes_list, decide_eq_false he]
  have g0 : getI (⟨([10] : List UInt8).toArray⟩ : ByteArray).data.toList 0 = some (10 : UInt8) := rfl
  have e1 : (Int.toNat (((10 : UInt8).toNat : Nat) : Int)).toUInt8 = 10 := by decide
  simp only [cond_false, g0, bsm, F59, e1, Go.Lib.firstIdx_eq]
  rcases ix_cases 10 s.data.toList with ⟨h1, h2⟩ | ⟨p, r, h1, h2, h3⟩
  ·exact .inl ⟨by rw [h1], h2⟩
  ·exact .inr ⟨p, r, h1, h2, by rw [h3]⟩
theorem q17 (a : ByteArray) : F17 a = some ((a.data.toList.count 10 : Nat) : Int) := by
 have g0 : getI (⟨([10] : List UInt8).toArray⟩ : ByteArray).data.toList 0 = some (10 : UInt8) := rfl
 have e1 : (Int.toNat (((10 : UInt8).toNat : Nat) : Int)).toUInt8 = 10 := by decide
 unfold F17
 simp only [g0, bsm, e1]
theorem cutE {s : ByteArray} {p r : List UInt8} (h : s.data.toList = p ++ 10 :: r) (hb : s.size ≤ 2000000) :
  IntKind.wrap .i64 ((p.length : Int) + 0) = (p.length : Int) ∧ IntKind.wrap .i64 ((p.length : Int) + 1) = ((p.length + 1 : Nat) : Int) ∧ sl_ok 0 (p.length : Int) s.size = true ∧ sl_ok ((p.length + 1 : Nat) : Int) (s.size : Int) s.size = true ∧
  (s.extract (Int.toNat 0) (Int.toNat (p.length : Int))).data.toList = p ∧ (s.extract (Int.toNat ((p.length + 1 : Nat) : Int)) (Int.toNat (s.size : Int))).data.toList = r ∧ s.size = p.length + 1 + r.length := by
 have hl : s.size = p.length + 1 + r.length := by rw [← len_d, h]; simp; omega
 refine ⟨w_id (by omega), by rw [w_id (by omega)]; omega, decide_eq_true ⟨by omega, by omega, by omega⟩, decide_eq_true ⟨by omega, by omega, by omega⟩, ?_, ?_, hl⟩
 ·rw [ex_list, h, Int.toNat_natCast]
  simp
 ·rw [ex_list, h, Int.toNat_natCast, Int.toNat_natCast]
  rw [List.take_of_length_le (by simp; omega)]
  rw [List.drop_append]
  simp
def nxt (o line : List UInt8) (ln : Nat) : List UInt8 := (bif decide (0 < ln) then o ++ [10] else o) ++ line
def At6 (o : ByteArray) (ln f : Nat) : Prop := (ln = 0 ∧ f = 0 ∧ o.size = 0) ∨ (0 < ln ∧ f = o.size + 1)
theorem q16 {s : ByteArray} (h : (10 : UInt8) ∉ s.data.toList) : F16 s = some false := by
 unfold F16
 rcases q30 s with ⟨h1, _⟩ | ⟨p, r, h1, h2, h3⟩
 ·rw [h1]; rfl
 ·exact absurd (by rw [h1]; simp) h
theorem y6_3 {o line : ByteArray} {ln f : Nat} (h : At6 o ln f) (hn : (10 : UInt8) ∉ line.data.toList) (ho : o.size ≤ 10000) (hl : line.size ≤ 10000) (hk : ln ≤ 10000) :
  ∃ o', Y28_0_7 line o (ln : Int) (f : Int) = some (.k1 o') ∧ o'.data.toList = nxt o.data.toList line.data.toList ln := by
 have e1 : IntKind.wrap .i64 ((f : Int) + (line.size : Int)) = (f : Int) + line.size := w_id (by unfold At6 at h; omega)
 have b1 : (⟨([10] : List UInt8).toArray⟩ : ByteArray).size = 1 := rfl
 unfold Y28_0_7 Y6_0_3
 rcases h with ⟨rfl, rfl, h3⟩ | ⟨h1, rfl⟩
 ·have c1 : decide ((((0 : Nat) : Int)) > 0) = false := rfl
  have c2 : ((((0 : Nat) : Int)) != (o.size : Int)) = false := by rw [h3]; rfl
  have c3 : decide (o.size + line.size ≤ 9223372036854775807) = true := decide_eq_true (by omega)
  refine ⟨o ++ line, ?_, by rw [ba_app]; rfl⟩
  simp only [e1, c1, c2, c3, cond_false, cond_true, bne_self_eq_false, q16 hn, bsm]
 ·have c1 : decide ((ln : Int) > 0) = true := decide_eq_true (by omega)
  have c0 : decide (o.size + (⟨([10] : List UInt8).toArray⟩ : ByteArray).size ≤ 9223372036854775807) = true := decide_eq_true (by omega)
  have c2 : (((o.size + 1 : Nat) : Int) != ((o ++ (⟨([10] : List UInt8).toArray⟩ : ByteArray)).size : Int)) = false := by rw [ba_len, b1]; exact bne_self_eq_false _
  have c3 : decide ((o ++ (⟨([10] : List UInt8).toArray⟩ : ByteArray)).size + line.size ≤ 9223372036854775807) = true := decide_eq_true (by rw [ba_len]; omega)
  refine ⟨(o ++ (⟨([10] : List UInt8).toArray⟩ : ByteArray)) ++ line, ?_, ?_⟩
  ·simp only [e1, c0, c1, c2, c3, cond_false, cond_true, bne_self_eq_false, q16 hn, bsm]
  ·rw [ba_app, ba_app]; unfold nxt; rw [decide_eq_true h1]; rfl
theorem y6_4 {o line : ByteArray} {ln f : Nat} (h : At6 o ln f) (hn : (10 : UInt8) ∉ line.data.toList) (ho : o.size ≤ 10000) (hl : line.size ≤ 10000) (hk : ln ≤ 10000) :
  ∃ o', Y28_0_8 line o (ln : Int) (f : Int) = some (.k1 o') ∧ o'.data.toList = nxt o.data.toList line.data.toList ln := by
 have e1 : IntKind.wrap .i64 ((f : Int) + (line.size : Int)) = (f : Int) + line.size := w_id (by unfold At6 at h; omega)
 have b1 : (⟨([10] : List UInt8).toArray⟩ : ByteArray).size = 1 := rfl
 unfold Y28_0_8 Y6_0_4
 rcases h with ⟨rfl, rfl, h3⟩ | ⟨h1, rfl⟩
 ·have c1 : decide ((((0 : Nat) : Int)) > 0) = false := rfl
  have c2 : ((((0 : Nat) : Int)) != (o.size : Int)) = false := by rw [h3]; rfl
  have c3 : decide (o.size + line.size ≤ 9223372036854775807) = true := decide_eq_true (by omega)
  refine ⟨o ++ line, ?_, by rw [ba_app]; rfl⟩
  simp only [e1, c1, c2, c3, cond_false, cond_true, bne_self_eq_false, q16 hn, bsm]
 ·have c1 : decide ((ln : Int) > 0) = true := decide_eq_true (by omega)
  have c0 : decide (o.size + (⟨([10] : List UInt8).toArray⟩ : ByteArray).size ≤ 9223372036854775807) = true := decide_eq_true (by omega)
  have c2 : (((o.size + 1 : Nat) : Int) != ((o ++ (⟨([10] : List UInt8).toArray⟩ : ByteArray)).size : Int)) = false := by rw [ba_len, b1]; exact bne_self_eq_false _
  have c3 : decide ((o ++ (⟨([10] : List UInt8).toArray⟩ : ByteArray)).size + line.size ≤ 9223372036854775807) = true := decide_eq_true (by rw [ba_len]; omega)
  refine ⟨(o ++ (⟨([10] : List UInt8).toArray⟩ : ByteArray)) ++ line, ?_, ?_⟩
  ·simp only [e1, c0, c1, c2, c3, cond_false, cond_true, bne_self_eq_false, q16 hn, bsm]
  ·rw [ba_app, ba_app]; unfold nxt; rw [decide_eq_true h1]; rfl
structure Ln (a o r : ByteArray) (ln f : Nat) : Prop where
 at6 : At6 o ln f
 txt : a.data.toList = nxt o.data.toList r.data.toList ln
 cnt : a.data.toList.count 10 = ln + r.data.toList.count 10
theorem nxt_nxt {o p r : List UInt8} {ln : Nat} : nxt o (p ++ 10 :: r) ln = nxt (nxt o p ln) r (ln + 1) := by
 unfold nxt
 rw [decide_eq_true (show 0 < ln + 1 by omega)]
 simp
theorem ln_len {a o r : ByteArray} {ln f : Nat} (h : Ln a o r ln f) : o.size + r.size ≤ a.size ∧ ln ≤ a.size := by
 have h1 := congrArg List.length h.txt
 unfold nxt at h1
 have h2 := h.cnt
 have h3 : a.data.toList.count 10 ≤ a.data.toList.length := List.count_le_length
 rw [len_d] at h3 h1
 constructor
 ·cases hd : decide (0 < ln) <;> rw [hd] at h1 <;> simp [len_d] at h1 <;> omega
 ·omega
theorem l57_2 {a : ByteArray} (ha : a.size ≤ 5000) : ∀ (n : Nat) (o r : ByteArray) (ln f : Nat), r.size ≤ n → Ln a o r ln f →
  ∃ o' ln' f' r', runL (fun s => L57_0_2 s.1 s.2.1 s.2.2.1 s.2.2.2) (o, (ln : Int), (f : Int), r) = some (.k0 o' ((ln' : Nat) : Int) ((f' : Nat) : Int) r') ∧ Ln a o' r' ln' f' ∧ (10 : UInt8) ∉ r'.data.toList := by
 intro n
 induction n with
 | zero =>
  intro o r ln f hr h
  rcases q30 r with ⟨h1, h2⟩ | ⟨p, q, h1, h2, h3⟩
  ·exact ⟨o, ln, f, r, runL_done (by simp only [L57_0_2, h1, bsm]; rfl), h, h2⟩
  ·have : r.size = p.length + 1 + q.length := by rw [← len_d, h1]; simp; omega
   omega
 | succ n ih =>
  intro o r ln f hr h
  rcases q30 r with ⟨h1, h2⟩ | ⟨p, q, h1, h2, h3⟩
  ·exact ⟨o, ln, f, r, runL_done (by simp only [L57_0_2, h1, bsm]; rfl), h, h2⟩
  ·obtain ⟨b1, b2⟩ := ln_len h
   obtain ⟨w0, w1, s1, s2, x1, x2, x3⟩ := cutE h1 (by omega)
   have n1 : (r.extract (Int.toNat 0) (Int.toNat (p.length : Int))).size = p.length := by rw [← len_d, x1]
   obtain ⟨o', y1, y2⟩ := y6_3 (line := r.extract (Int.toNat 0) (Int.toNat (p.length : Int))) h.at6 (by rw [x1]; exact h2) (by omega) (by omega) (by omega)
   have hf : f ≤ 5001 := by have := h.at6; unfold At6 at this; omega
   have w2 : IntKind.wrap .i64 ((f : Int) + IntKind.wrap .i64 (((r.extract (Int.toNat 0) (Int.toNat (p.length : Int))).size : Int) + 1)) = ((f + p.length + 1 : Nat) : Int) := by
    rw [n1, w1, w_id (by omega)]; omega
   have ho' : o'.size = f + p.length := by
    rw [← len_d, y2, x1]; unfold nxt
    rcases h.at6 with ⟨rfl, rfl, h6⟩ | ⟨h5, rfl⟩
    ·rw [List.length_append]; simp [len_d, h6]
    ·rw [decide_eq_true h5]; simp [len_d]; omega
   have hL : Ln a o' (r.extract (Int.toNat ((p.length + 1 : Nat) : Int)) (Int.toNat (r.size : Int))) (ln + 1) (f + p.length + 1) := by
    refine ⟨.inr ⟨by omega, by omega⟩, ?_, ?_⟩
    ·rw [h.txt, y2, x1, x2, h1, nxt_nxt]
    ·rw [h.cnt, h1, x2, List.count_append, List.count_cons_self, List.count_eq_zero.2 h2]; omega
   have hsz : (r.extract (Int.toNat ((p.length + 1 : Nat) : Int)) (Int.toNat (r.size : Int))).size ≤ n := by rw [← len_d, x2]; omega
   obtain ⟨o2, ln2, f2, r2, k1, k2, k3⟩ := ih o' _ (ln + 1) (f + p.length + 1) hsz hL
   refine ⟨o2, ln2, f2, r2, ?_, k2, k3⟩
   rw [runL_next (s' := (o', ((ln + 1 : Nat) : Int), ((f + p.length + 1 : Nat) : Int), r.extract (Int.toNat ((p.length + 1 : Nat) : Int)) (Int.toNat (r.size : Int)))) (by
    simp only [L57_0_2, h3, bsm, decide_eq_false (show ¬ (p.length : Int) < 0 by omega), cond_false, w0, s1, cond_true, y1, w1, s2, w2, w_S (show ln < 4611686018427387904 by omega)])]
   exact k1
theorem l57 (lv : Int) : ∀ (n : Nat) (r : ByteArray) (x y : Int), r.size ≤ n → n ≤ 5000 → ∃ e, runL (fun s => L57_0 lv s.1 s.2.1 s.2.2) (x, y, r) = some e := by
 intro n
 induction n with
 | zero =>
  intro r x y hr hn
  rcases q30 r with ⟨h1, h2⟩ | ⟨p, q, h1, h2, h3⟩
  ·exact ⟨_, runL_done (e := E_L57_0.k0 x y r) (by simp only [L57_0, h1, bsm]; rfl)⟩
  ·have : r.size = p.length + 1 + q.length := by rw [← len_d, h1]; simp; omega
   omega
 | succ n ih =>
  intro r x y hr hn
  rcases q30 r with ⟨h1, h2⟩ | ⟨p, q, h1, h2, h3⟩
  ·exact ⟨_, runL_done (e := E_L57_0.k0 x y r) (by simp only [L57_0, h1, bsm]; rfl)⟩
  ·obtain ⟨w0, w1, s1, s2, x1, x2, x3⟩ := cutE h1 (by omega)
   have hsz : (r.extract (Int.toNat ((p.length + 1 : Nat) : Int)) (Int.toNat (r.size : Int))).size ≤ n := by rw [← len_d, x2]; omega
   cases hc : (x == lv) with
   | true =>
    have hy : Y28_0_3 lv x = some .k0 := by unfold Y28_0_3 Y6_1_3; rw [hc]; rfl
    exact ⟨_, runL_done (e := E_L57_0.k1 x y r) (by simp only [L57_0, h3, bsm, decide_eq_false (show ¬ (p.length : Int) < 0 by omega), cond_false, w0, s1, cond_true, hy])⟩
   | false =>
    have hy : Y28_0_3 lv x = some .k1 := by unfold Y28_0_3 Y6_1_3; rw [hc]; rfl
    obtain ⟨e, he⟩ := ih (r.extract (Int.toNat ((p.length + 1 : Nat) : Int)) (Int.toNat (r.size : Int))) (IntKind.wrap .i64 (x + 1)) (IntKind.wrap .i64 (y + IntKind.wrap .i64 (((r.extract (Int.toNat 0) (Int.toNat (p.length : Int))).size : Int) + 1))) hsz (by omega)
    refine ⟨e, ?_⟩
    rw [runL_next (s' := (IntKind.wrap .i64 (x + 1), IntKind.wrap .i64 (y + IntKind.wrap .i64 (((r.extract (Int.toNat 0) (Int.toNat (p.length : Int))).size : Int) + 1)), r.extract (Int.toNat ((p.length + 1 : Nat) : Int)) (Int.toNat (r.size : Int)))) (by
     simp only [L57_0, h3, bsm, decide_eq_false (show ¬ (p.length : Int) < 0 by omega), cond_false, w0, s1, cond_true, hy, w1, s2])]
    exact he
theorem q28 (lv : Int) (a : ByteArray) (ha : a.size ≤ 5000) : ∃ e, F28 a lv = some e := by
 have h29 : F29 = some .k0 := rfl
 have hy : ∀ x, ∃ e, Y28_0_5 lv x = some e := fun x => by
  unfold Y28_0_5 Y6_1_4
  cases x == lv <;> exact ⟨_, rfl⟩
 obtain ⟨e, he⟩ := l57 lv a.size a 0 0 (Nat.le_refl _) ha
 unfold F28 F57
 rw [h29]
 simp only [bsm]
 rw [he]
 cases e with
 | k1 x y z => exact ⟨_, rfl⟩
 | k0 x y z =>
  obtain ⟨e, he⟩ := hy x
  simp only [bsm]
  rw [he]
  cases e <;> exact ⟨_, rfl⟩
theorem q28_2 (a : ByteArray) (ha : a.size ≤ 5000) : ∃ z1 z2 z3 z4, F28_2 a = some (.k1 a (((a.data.toList.count 10 : Nat) : Int) + 1) z1 z2 z3 z4) := by
 have h29 : F29_2 = some .k0 := rfl
 have e0 : ((0 : Nat) : Int) = 0 := rfl
 obtain ⟨o, ln, f, r, k1, k2, k3⟩ := l57_2 ha a.size (⟨([] : List UInt8).toArray⟩ : ByteArray) a 0 0 (Nat.le_refl _) ⟨.inl ⟨rfl, rfl, rfl⟩, rfl, by omega⟩
 rw [e0] at k1
 obtain ⟨b1, b2⟩ := ln_len k2
 obtain ⟨o', y1, y2⟩ := y6_4 (line := r) k2.at6 k3 (by omega) (by omega) (by omega)
 have ho : o' = a := ba_ext (by rw [y2, k2.txt])
 have hc : a.data.toList.count 10 = ln := by rw [k2.cnt, List.count_eq_zero.2 k3]; omega
 unfold F28_2 F57_2
 rw [h29]
 simp only [bsm, k1, y1, w_S (show ln < 4611686018427387904 by omega), ho, hc]
 exact ⟨_, _, _, _, rfl⟩
theorem law6 (a : ByteArray) (lv : Int) : F6 a lv = some true := by
 unfold F6
 by_cases ha : (a.size : Int) > 5000
 ·rw [decide_eq_true ha]; rfl
 rw [decide_eq_false ha]
 have ha' : a.size ≤ 5000 := by omega
 obtain ⟨e, he⟩ := q28 lv a ha'
 obtain ⟨z1, z2, z3, z4, h2⟩ := q28_2 a ha'
 have hcnt : a.data.toList.count 10 ≤ a.size := by rw [← len_d]; exact List.count_le_length
 have w1 : IntKind.wrap .i64 (((a.data.toList.count 10 : Nat) : Int) + 1) = ((a.data.toList.count 10 : Nat) : Int) + 1 := w_id (by omega)
 simp only [cond_false, F15, bsm]
 rw [he]
 cases e <;> simp only [bsm, h2, beq_self_eq_true, cond_true, q17, w1, F9]
end Go.Proofs.Tryd
