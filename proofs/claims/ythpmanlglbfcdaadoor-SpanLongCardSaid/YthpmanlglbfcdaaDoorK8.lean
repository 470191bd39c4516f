/- SpanLong: one edit at the beginning of a long text. Plain data alone. -/
import Derived.Test.YthpmanlglbfcdaaDoorH82
import Derived.Test.YthpmanlglbfcdaaDoorVE
open Option renaming bind_some → bsm
namespace Go.Proofs.Tryd
set_option linter.unusedSimpArgs false
set_option linter.unusedVariables false
open Go Go.Vs
theorem len_d (a : ByteArray) : a.data.toList.length = a.size := by rw [Array.length_toList]; rfl
theorem ex_list (s : ByteArray) (i j : Nat) : (s.extract i j).data.toList = (s.data.toList.take j).drop i := by
 simp [List.drop_take]
section
variable {a b : ByteArray}
theorem sb_len (s : ByteArray) : (sbytes s).length = s.size := by unfold sbytes; rw [List.length_map, len_d]
theorem splice_app {α : Type} {l y : List α} {n : Nat} (h : n + y.length ≤ l.length) : (splice l n y).take (n + y.length) = l.take n ++ y ∧ (splice l n y).length = l.length := by
 unfold splice
 refine ⟨?_, by simp; omega⟩
 have : (l.take n ++ y).length = n + y.length := by simp; omega
 rw [← this, List.take_left]
theorem q26_4 (s : ByteArray) (c : Bool) {gen len : Nat} {lo : Int} {l : List Int} (hl : len ≤ l.length) (hlo : 0 ≤ lo ∧ lo + s.size ≤ 1048576) (hlen : len ≤ 2000000) (hs : s.size ≤ 2000000) :
  ∃ g' l', F26_4 s c gen len lo l = some (.k0 true g' (len + s.size) l') ∧ len + s.size ≤ l'.length ∧ l'.take (len + s.size) = l.take len ++ sbytes s := by
 have e1 : IntKind.wrap .i64 (lo + (s.size : Int)) = lo + s.size := w_id (by omega)
 have h52 : F52_2 c = some true := by cases c <;> rfl
 have hap : apOk len (sbytes s).length l.length 1 = true := by rw [sb_len]; exact decide_eq_true ⟨hl, by unfold limit47; omega, by unfold limit47; omega⟩
 unfold F26_4 F37_4
 rw [e1, decide_eq_true (by omega), h52]
 simp only [cond_true, bsm, hap]
 by_cases hc : len + (sbytes s).length ≤ l.length
 ·obtain ⟨s1, s2⟩ := splice_app hc
  rw [decide_eq_true hc]
  rw [sb_len] at hc s1 ⊢
  exact ⟨_, _, rfl, by rw [s2]; exact hc, s1⟩
 ·rw [decide_eq_false hc]
  rw [sb_len]
  refine ⟨_, _, rfl, by simp [sb_len]; omega, ?_⟩
  exact List.take_of_length_le (by simp [sb_len]; omega)
theorem q26_5 (s : ByteArray) (c : Bool) {gen len : Nat} {lo : Int} {l : List Int} (hl : len ≤ l.length) (hlo : 0 ≤ lo ∧ lo + s.size ≤ 1048576) (hlen : len ≤ 2000000) (hs : s.size ≤ 2000000) :
  ∃ g' l', F26_5 s c gen len lo l = some (.k0 true g' (len + s.size) l') ∧ len + s.size ≤ l'.length ∧ l'.take (len + s.size) = l.take len ++ sbytes s := by
 have e1 : IntKind.wrap .i64 (lo + (s.size : Int)) = lo + s.size := w_id (by omega)
 have h52 : F52_4 c = some true := by cases c <;> rfl
 have hap : apOk len (sbytes s).length l.length 1 = true := by rw [sb_len]; exact decide_eq_true ⟨hl, by unfold limit47; omega, by unfold limit47; omega⟩
 unfold F26_5 F37_5
 rw [e1, decide_eq_true (by omega), h52]
 simp only [cond_true, bsm, hap]
 by_cases hc : len + (sbytes s).length ≤ l.length
 ·obtain ⟨s1, s2⟩ := splice_app hc
  rw [decide_eq_true hc]
  rw [sb_len] at hc s1 ⊢
  exact ⟨_, _, rfl, by rw [s2]; exact hc, s1⟩
 ·rw [decide_eq_false hc]
  rw [sb_len]
  refine ⟨_, _, rfl, by simp [sb_len]; omega, ?_⟩
  exact List.take_of_length_le (by simp [sb_len]; omega)
theorem q26_2 (d : EditD) (c : Bool) {gen len : Nat} {lo : Int} {l : List Int} (hl : len ≤ l.length) (hlo : 0 ≤ lo ∧ lo + d.text.size ≤ 1048576) (hlen : len ≤ 2000000) (hs : d.text.size ≤ 2000000) :
  ∃ g' l', F26_2 d c gen len lo l = some (.k0 true g' (len + d.text.size) l') ∧ len + d.text.size ≤ l'.length ∧ l'.take (len + d.text.size) = l.take len ++ sbytes d.text := by
 have e1 : IntKind.wrap .i64 (lo + (d.text.size : Int)) = lo + d.text.size := w_id (by omega)
 have h52 : F52_2 c = some true := by cases c <;> rfl
 have hap : apOk len (sbytes d.text).length l.length 1 = true := by rw [sb_len]; exact decide_eq_true ⟨hl, by unfold limit47; omega, by unfold limit47; omega⟩
 unfold F26_2 F37_2
 rw [e1, decide_eq_true (by omega), h52]
 simp only [cond_true, bsm, hap]
 by_cases hc : len + (sbytes d.text).length ≤ l.length
 ·obtain ⟨s1, s2⟩ := splice_app hc
  rw [decide_eq_true hc]
  rw [sb_len] at hc s1 ⊢
  exact ⟨_, _, rfl, by rw [s2]; exact hc, s1⟩
 ·rw [decide_eq_false hc]
  rw [sb_len]
  refine ⟨_, _, rfl, by simp [sb_len]; omega, ?_⟩
  exact List.take_of_length_le (by simp [sb_len]; omega)
theorem q24 {a : Int} {d : EditD} (h0 : 0 ≤ d.frm) (h1 : d.frm ≤ d.til) (h2 : d.til ≤ a) : F24 a [d] = some true := by
 have h41 : F41 d a = some false := by
  unfold F41
  rw [decide_eq_false (by omega), decide_eq_false (by omega), decide_eq_false (by omega)]
  rfl
 have g0 : getI [d] 0 = some d := rfl
 have e1 : IntKind.wrap .i64 (0 + 1) = 1 := by decide
 have k1 : L54_0 [d] a ((([d] : List EditD).length : Nat) : Int) 0 = some (.inr 1) := by
  simp only [L54_0, g0, bsm, h41, cond_false, e1]
  rfl
 have k2 : L54_0 [d] a ((([d] : List EditD).length : Nat) : Int) 1 = some (.inl .k1) := rfl
 unfold F24 F40 F54
 rw [runL_next (step := fun s => L54_0 [d] a ((([d] : List EditD).length : Nat) : Int) s) k1, runL_done (step := fun s => L54_0 [d] a ((([d] : List EditD).length : Nat) : Int) s) k2]
 rfl
theorem q25 (Nf : Nat) (d : EditD) : F25 Nf [d] = some (.k0 [d] 0) := by
 have h65 : F65_2 1 0 1 [d] = some [d] := by
  unfold F65_2
  have e1 : IntKind.wrap .i64 (0 + 1) = 1 := by decide
  rw [e1]
  have : runL (fun s => L65_1_2 1 0 1 s.1 s.2) ((1 : Int), [d]) = some (.k0 [d]) := runL_done rfl
  rw [this]
  rfl
 have h55 : F55 Nf (gnz [d]) 1 ((1 : Nat) : Int) [d] = some (.k0 [] [d]) := by
  unfold F55
  have k1 : runL (fun s => L55_2 1 ((1 : Nat) : Int) s.1 s.2.1 s.2.2) ((0 : Int), (20 : Int), [d]) = some (.k0 0 20 [d]) := runL_done rfl
  have k2 : runL (fun s => L55_1 Nf (gnz [d]) 1 ((1 : Nat) : Int) s.1 s.2.1 s.2.2) ((20 : Int), ([] : List EditD), [d]) = some (.k0 20 [] [d]) := runL_done rfl
  have h65' : F65_2 1 0 ((1 : Nat) : Int) [d] = some [d] := h65
  rw [k1]
  simp only [bsm, h65', k2]
 have h43 : F43 Nf (gnz [d]) 1 [d] = some (.k0 [] [d]) := by unfold F43; rw [h55]; rfl
 have k0 : L25_0 1 ((1 : Nat) : Int) [d] 0 = some (.inr 1) := by
  have e1 : IntKind.wrap .i64 (0 + 1) = 1 := by decide
  have i0 : ixN 1 0 = some 0 := rfl
  have g0 : ([d] : List EditD)[0]? = some d := rfl
  simp only [L25_0, i0, g0, bsm, e1, beq_self_eq_true, cond_true]
  rfl
 have k1 : L25_0 1 ((1 : Nat) : Int) [d] 1 = some (.inl .k1) := rfl
 have k2 : runL (fun s => L25_0 1 ((1 : Nat) : Int) [d] s) 0 = some .k1 := by rw [runL_next k0]; exact runL_done k1
 have k3 : runL (fun s => L25_1 1 [d]) () = some .k1 := runL_done (by simp only [L25_1, k2, bsm])
 have hc : clOk ([d] : List EditD).length 32 = true := by unfold clOk limit47; exact decide_eq_true ⟨by simp, by simp⟩
 unfold F25
 rw [hc]
 simp only [cond_true]
 show (F43 Nf (gnz [d]) 1 [d]).bind _ = _
 rw [h43]
 simp only [bsm]
 show (runL (fun s => L25_1 1 [d]) ()).bind _ = _
 rw [k3]
 rfl
theorem ix_cases (c : UInt8) : ∀ l : List UInt8, (Go.Lib.indexByte l c = -1 ∧ c ∉ l) ∨ ∃ p r, l = p ++ c :: r ∧ c ∉ p ∧ Go.Lib.indexByte l c = (p.length : Int)
 | [] => .inl ⟨rfl, by simp⟩
 | b :: l => by
  unfold Go.Lib.indexByte
  by_cases hb : b = c
  ·subst hb
   exact .inr ⟨[], l, rfl, by simp, by simp⟩
  ·have hb' : (b == c) = false := by simpa using hb
   rw [hb']
   rcases ix_cases c l with ⟨h1, h2⟩ | ⟨p, r, h1, h2, h3⟩
   ·rw [h1]
    refine .inl ⟨rfl, ?_⟩
    simp only [List.mem_cons, not_or]
    exact ⟨fun h => hb h.symm, h2⟩
   ·rw [h3]
    refine .inr ⟨b :: p, r, by rw [h1]; rfl, ?_, ?_⟩
    ·simp only [List.mem_cons, not_or]
     exact ⟨fun h => hb h.symm, h2⟩
    ·have : ((p.length : Int) == -1) = false := by simp
     simp only [this, Bool.false_eq_true, if_false, List.length_cons]
     omega
theorem q30 (s : ByteArray) : (F30 s = some (-1) ∧ (10 : UInt8) ∉ s.data.toList) ∨ ∃ p r, s.data.toList = p ++ 10 :: r ∧ (10 : UInt8) ∉ p ∧ F30 s = some (p.length : Int) := by
 unfold F30 F48
 by_cases he : (⟨([10] : List UInt8).toArray⟩ : ByteArray) = s
 ·subst he
  refine .inr ⟨[], [], rfl, by simp, ?_⟩
  rw [bytes_list, decide_eq_true rfl]
  rfl
 ·rw [bytes_list, decide_eq_false he]
  have g0 : getI (⟨([10] : List UInt8).toArray⟩ : ByteArray).data.toList 0 = some (10 : UInt8) := rfl
  have e1 : (Int.toNat (((10 : UInt8).toNat : Nat) : Int)).toUInt8 = 10 := by decide
  simp only [cond_false, g0, bsm, F59, e1, Go.Lib.firstIdx_eq]
  rcases ix_cases 10 s.data.toList with ⟨h1, h2⟩ | ⟨p, r, h1, h2, h3⟩
  ·exact .inl ⟨by rw [h1], h2⟩
  ·exact .inr ⟨p, r, h1, h2, by rw [h3]⟩
theorem q17 (a : ByteArray) : F17 a = some ((a.data.toList.count 10 : Nat) : Int) := by
 have g0 : getI (⟨([10] : List UInt8).toArray⟩ : ByteArray).data.toList 0 = some (10 : UInt8) := rfl
 have e1 : (Int.toNat (((10 : UInt8).toNat : Nat) : Int)).toUInt8 = 10 := by decide
 unfold F17
 simp only [g0, bsm, e1]
theorem cutE {s : ByteArray} {p r : List UInt8} (h : s.data.toList = p ++ 10 :: r) (hb : s.size ≤ 2000000) :
  IntKind.wrap .i64 ((p.length : Int) + 0) = (p.length : Int) ∧ sl_ok 0 (p.length : Int) s.size = true ∧ (s.extract (Int.toNat 0) (Int.toNat (p.length : Int))).data.toList = p ∧ s.size = p.length + 1 + r.length := by
 have hl : s.size = p.length + 1 + r.length := by rw [← len_d, h]; simp; omega
 refine ⟨w_id (by omega), decide_eq_true ⟨by omega, by omega, by omega⟩, ?_, hl⟩
 rw [ex_list, h, Int.toNat_natCast]
 simp
end
theorem bstr_len (l : List Int) : (bstr l).size = l.length := by rw [← len_d]; unfold bstr; simp
theorem rep_len (s : ByteArray) (n : Int) : (repS s n).size = n.toNat * s.size := by
 rw [← len_d, ← len_d s]
 show (Lib.repeatL s.data.toList n.toNat).toArray.toList.length = _
 rw [List.toList_toArray, Lib.repeatL_length]
theorem q10l (a : ByteArray) : ∃ x y e, F10_2 a = some (.k0 x y e) ∧ e = if a.size > 1048576 then 3 else 0 := by
 unfold F10_2
 by_cases c : a.size > 1048576
 ·rw [decide_eq_true (show (a.size : Int) > 1048576 by omega), if_pos c]
  exact ⟨0, 0, 3, rfl, rfl⟩
 ·have z : (a.extract (Int.toNat 0) (Int.toNat 0)).size = 0 := by rw [← len_d, ex_list]; simp
  have w0 : IntKind.wrap .i64 (((0 : Nat) : Int) - 1) = -1 := by decide
  have h39 : F23 (a.extract (Int.toNat 0) (Int.toNat 0)) = some (-1) := by
   have h : L39_0 (a.extract (Int.toNat 0) (Int.toNat 0)) (-1) = some (.inl .k1) := rfl
   unfold F23 F39
   rw [z, w0, runL_done (step := fun s => L39_0 (a.extract (Int.toNat 0) (Int.toNat 0)) s) h]
   rfl
  have s0 : sl_ok 0 0 a.size = true := decide_eq_true ⟨by omega, by omega, by omega⟩
  rw [decide_eq_false (show ¬ (a.size : Int) > 1048576 by omega), decide_eq_false (show ¬ 0 > (a.size : Int) by omega), if_neg c, s0, q17, h39]
  exact ⟨_, _, 0, rfl, rfl⟩
theorem y11l {n : Nat} (h : n ≤ 2000000) : Y11_0 (IntKind.wrap .i64 (0 + (n : Int))) = some 0 ∧ Y11_0_2 (IntKind.wrap .i64 (0 + (n : Int))) = some 0 := by
 have e1 : IntKind.wrap .i64 (0 + (n : Int)) = (n : Int) := by rw [w_id (by omega)]; omega
 have e2 : IntKind.wrap .i64 (IntKind.wrap .i64 ((n : Int) - 0) + 1) = (n : Int) + 1 := by rw [w_id (x := (n : Int) - 0) (by omega), w_id (by omega)]; omega
 unfold Y11_0 Y11_0_2
 rw [e1, e2, decide_eq_false (show ¬ 1 > (n : Int) + 1 by omega)]
 exact ⟨rfl, rfl⟩
theorem q11l (a : ByteArray) : F11_2 a = some (if a.size > 1048576 then 3 else 0) := by
 unfold F11_2
 by_cases c : a.size > 1048576
 ·rw [decide_eq_true (show (a.size : Int) > 1048576 by omega), if_pos c]
  rfl
 ·rw [decide_eq_false (show ¬ (a.size : Int) > 1048576 by omega), if_neg c]
  have h29 : F29_4 = some .k0 := rfl
  unfold F28_4 F57_4
  simp only [cond_false, F15, bsm, h29]
  rcases q30 a with ⟨h1, h2⟩ | ⟨p, r, h1, h2, h3⟩
  ·have hs : L57_0_4 a = some (.inl .k0) := by simp only [L57_0_4, h1, bsm]; rfl
   rw [runL_done (step := fun s => L57_0_4 a) hs]
   simp only [bsm, Y28_0_2, (y11l (n := a.size) (by omega)).2]
  ·obtain ⟨w0, s1, x1, x3⟩ := cutE h1 (by omega)
   have n1 : (a.extract (Int.toNat 0) (Int.toNat (p.length : Int))).size = p.length := by rw [← len_d, x1]
   have hs : ∃ z, L57_0_4 a = some (.inl (.k1 0 z)) := by
    simp only [L57_0_4, h3, bsm, decide_eq_false (show ¬ (p.length : Int) < 0 by omega), cond_false, w0, s1, cond_true, Y28_0, n1, (y11l (n := p.length) (by omega)).1]
    exact ⟨_, rfl⟩
   obtain ⟨z, hs⟩ := hs
   rw [runL_done (step := fun s => L57_0_4 a) hs]
   rfl
theorem q26_5o (s : ByteArray) (c : Bool) {gen len : Nat} {lo : Int} {l : List Int} (hlo : 0 ≤ lo ∧ lo ≤ 2000000) (hs : s.size ≤ 2000000) (h : lo + s.size > 1048576) : F26_5 s c gen len lo l = some (.k0 c gen len l) := by
 have e1 : IntKind.wrap .i64 (lo + (s.size : Int)) = lo + s.size := w_id (by omega)
 unfold F26_5
 rw [e1, decide_eq_false (by omega)]
 rfl
theorem q13g (Nf : Nat) {a y : ByteArray} (ha : a.size ≤ 1048576) (hy : y.size ≤ 3) : (a.size + y.size ≤ 1048576 → ∃ t, F13 Nf a [(⟨0, 0, y⟩ : EditD)] = some (.k0 t 0) ∧ t.size = a.size + y.size) ∧
  (a.size + y.size > 1048576 → F13 Nf a [(⟨0, 0, y⟩ : EditD)] = some (.k0 (⟨([] : List UInt8).toArray⟩ : ByteArray) 3)) := by
 have s1 : sl_ok 0 0 a.size = true := decide_eq_true ⟨by omega, by omega, by omega⟩
 have s2 : sl_ok 0 (a.size : Int) a.size = true := decide_eq_true ⟨by omega, by omega, by omega⟩
 have n1 : (a.extract (Int.toNat 0) (Int.toNat 0)).size = 0 := by rw [← len_d, ex_list]; simp
 have n2 : (a.extract (Int.toNat 0) (Int.toNat (a.size : Int))).size = a.size := by rw [← len_d, ex_list, Int.toNat_natCast, List.length_drop, List.length_take, len_d]; omega
 obtain ⟨g1, l1, u1, u2, u3⟩ := q26_4 (a.extract (Int.toNat 0) (Int.toNat 0)) false (gen := 0) (len := 0) (lo := 0) (l := []) (Nat.le_refl _) (by rw [n1]; omega) (by omega) (by omega)
 have w1 : IntKind.wrap .i64 (0 + ((a.extract (Int.toNat 0) (Int.toNat 0)).size : Int)) = 0 := by rw [n1]; decide
 rw [n1] at u1 u2
 obtain ⟨g2, l2, v1, v2, v3⟩ := q26_2 (⟨0, 0, y⟩ : EditD) true (gen := g1) (len := 0 + 0) (lo := 0) (l := l1) u2 (by show (0 : Int) ≤ 0 ∧ (0 : Int) + (y.size : Int) ≤ 1048576; omega) (by omega) (by show y.size ≤ 2000000; omega)
 have hv2 : 0 + 0 + y.size ≤ l2.length := v2
 have w2 : IntKind.wrap .i64 (0 + (y.size : Int)) = (y.size : Int) := by rw [w_id (by omega)]; omega
 have g0 : getI [(⟨0, 0, y⟩ : EditD)] 0 = some (⟨0, 0, y⟩ : EditD) := rfl
 have e1 : IntKind.wrap .i64 (0 + 1) = 1 := by decide
 have hdt : decide ((0 : Int) < ((([(⟨0, 0, y⟩ : EditD)] : List EditD).length : Nat) : Int)) = true := rfl
 have k1 : L13_0 a [(⟨0, 0, y⟩ : EditD)] ((([(⟨0, 0, y⟩ : EditD)] : List EditD).length : Nat) : Int) 0 0 false 0 0 0 [] = some (.inr (0, 1, true, g2, 0 + 0 + y.size, (y.size : Int), l2)) := by
  unfold L13_0
  simp only [hdt, cond_true, g0, bsm, s1, u1, w1, v1, w2, e1]
 have k2 : L13_0 a [(⟨0, 0, y⟩ : EditD)] ((([(⟨0, 0, y⟩ : EditD)] : List EditD).length : Nat) : Int) 0 1 true g2 (0 + 0 + y.size) (y.size : Int) l2 = some (.inl (.k0 0 true g2 (0 + 0 + y.size) (y.size : Int) l2)) := rfl
 have k3 : runL (fun s => L13_0 a [(⟨0, 0, y⟩ : EditD)] ((([(⟨0, 0, y⟩ : EditD)] : List EditD).length : Nat) : Int) s.1 s.2.1 s.2.2.1 s.2.2.2.1 s.2.2.2.2.1 s.2.2.2.2.2.1 s.2.2.2.2.2.2) (0, 0, false, 0, 0, 0, []) =
   some (.k0 0 true g2 (0 + 0 + y.size) (y.size : Int) l2) := by
  rw [runL_next (s' := ((0 : Int), (1 : Int), true, g2, 0 + 0 + y.size, (y.size : Int), l2)) k1]
  exact runL_done k2
 have h24 : F24 (a.size : Int) [(⟨0, 0, y⟩ : EditD)] = some true := q24 (by show (0 : Int) ≤ 0; omega) (by show (0 : Int) ≤ 0; omega) (by show (0 : Int) ≤ a.size; omega)
 have h00 : ((0 : Int) != 0) = false := rfl
 have w3 : IntKind.wrap .i64 ((y.size : Int) + ((a.extract (Int.toNat 0) (Int.toNat (a.size : Int))).size : Int)) = (y.size : Int) + a.size := by rw [n2, w_id (by omega)]
 refine ⟨fun h => ?_, fun h => ?_⟩
 ·obtain ⟨g3, l3, y1, y2, y3⟩ := q26_5 (a.extract (Int.toNat 0) (Int.toNat (a.size : Int))) true (gen := g2) (len := 0 + 0 + y.size) (lo := (y.size : Int)) (l := l2) hv2 (by rw [n2]; omega) (by omega) (by omega)
  rw [n2] at y1 y2 y3
  unfold F13
  rw [decide_eq_false (by omega), h24]
  simp only [cond_false, cond_true, bsm, q25, h00, k3, s2, y1, w3, decide_eq_false (show ¬ (y.size : Int) + (a.size : Int) > 1048576 by omega)]
  generalize hL : 0 + 0 + y.size + a.size = len at y2 ⊢
  unfold F27
  by_cases h0 : 0 < len
  ·have hu : usOk len l3.length = true := decide_eq_true ⟨y2, by omega⟩
   rw [decide_eq_true h0, hu]
   refine ⟨_, rfl, ?_⟩
   rw [bstr_len, List.length_take]
   omega
  ·rw [decide_eq_false h0]
   exact ⟨_, rfl, by show 0 = _; omega⟩
 ·have y1 := q26_5o (a.extract (Int.toNat 0) (Int.toNat (a.size : Int))) true (gen := g2) (len := 0 + 0 + y.size) (lo := (y.size : Int)) (l := l2) (by omega) (by omega) (by rw [n2]; omega)
  unfold F13
  rw [decide_eq_false (by omega), h24]
  simp only [cond_false, cond_true, bsm, q25, h00, k3, s2, y1, w3, decide_eq_true (show (y.size : Int) + (a.size : Int) > 1048576 by omega)]
theorem law8 (Nf : Nat) (m p : Int) : F8 Nf m p = some true := by
 unfold F8
 by_cases c1 : m < 0
 ·rw [decide_eq_true c1]; rfl
 rw [decide_eq_false c1]
 by_cases c2 : m > 3
 ·rw [decide_eq_true c2]; rfl
 rw [decide_eq_false c2]
 by_cases c3 : p < 0
 ·rw [decide_eq_true c3]; rfl
 rw [decide_eq_false c3]
 by_cases c4 : p > 3
 ·rw [decide_eq_true c4]; rfl
 rw [decide_eq_false c4]
 have e1 : IntKind.wrap .i64 (1048575 + m) = 1048575 + m := w_id (by omega)
 have z1 : (⟨([120] : List UInt8).toArray⟩ : ByteArray).size = 1 := rfl
 have z2 : (⟨([121] : List UInt8).toArray⟩ : ByteArray).size = 1 := rfl
 have o1 : rpOk (⟨([120] : List UInt8).toArray⟩ : ByteArray) (1048575 + m) = true := by
  unfold rpOk; rw [z1]; exact decide_eq_true ⟨by omega, by omega, by omega⟩
 have o2 : rpOk (⟨([121] : List UInt8).toArray⟩ : ByteArray) p = true := by
  unfold rpOk; rw [z2]; exact decide_eq_true ⟨by omega, by omega, by omega⟩
 have ra := rep_len (⟨([120] : List UInt8).toArray⟩ : ByteArray) (1048575 + m)
 have ry := rep_len (⟨([121] : List UInt8).toArray⟩ : ByteArray) p
 rw [z1, Nat.mul_one] at ra
 rw [z2, Nat.mul_one] at ry
 simp only [cond_false, e1, F21, o1, o2, cond_true, bsm]
 generalize repS (⟨([120] : List UInt8).toArray⟩ : ByteArray) (1048575 + m) = a at ra ⊢
 generalize repS (⟨([121] : List UInt8).toArray⟩ : ByteArray) p = y at ry ⊢
 obtain ⟨x6, y6, e6, h10, he⟩ := q10l a
 have h11 := q11l a
 by_cases d1 : m > 1
 ·have hb : a.size > 1048576 := by omega
  rw [if_pos hb] at he h11
  have h13 : F13 Nf a [(⟨0, 0, y⟩ : EditD)] = some (.k0 (⟨([] : List UInt8).toArray⟩ : ByteArray) 3) := by
   unfold F13
   rw [decide_eq_true (show (a.size : Int) > 1048576 by omega)]; rfl
  rw [h10, h11, h13, decide_eq_true d1, he]
  simp only [bsm, beq_self_eq_true, cond_true, F9]
 ·have hb : ¬ a.size > 1048576 := by omega
  rw [if_neg hb] at he h11
  have b1 : m + p > 1 → a.size + y.size > 1048576 := fun _ => by omega
  have b2 : ¬ m + p > 1 → a.size + y.size ≤ 1048576 := fun _ => by omega
  have b3 : a.size ≤ 1048576 := by omega
  have b4 : y.size ≤ 3 := by omega
  have b5 : ∀ t : ByteArray, t.size = a.size + y.size → (((t.size : Nat) : Int) == (a.size : Int) + p) = true := fun t ht => by
   rw [show ((t.size : Nat) : Int) = (a.size : Int) + p by omega]; exact beq_self_eq_true _
  have e2 : IntKind.wrap .i64 (m + p) = m + p := w_id (by omega)
  have e3 : IntKind.wrap .i64 ((a.size : Int) + p) = (a.size : Int) + p := w_id (by omega)
  obtain ⟨k1, k2⟩ := q13g Nf (a := a) (y := y) b3 b4
  rw [h10, h11, decide_eq_false d1, he, e2]
  by_cases d2 : m + p > 1
  ·rw [k2 (b1 d2), decide_eq_true d2]
   simp only [bsm, cond_false, beq_self_eq_true, cond_true, F9]
  ·obtain ⟨t, h13, ht⟩ := k1 (b2 d2)
   rw [h13, decide_eq_false d2]
   simp only [bsm, cond_false, beq_self_eq_true, cond_true, e3, b5 t ht, F9]
end Go.Proofs.Tryd
