/- SpanDiff: the law is true of any two texts. Plain data alone. -/
import Derived.Test.YthpmanlglbfcdaaDoorH52
import Derived.Test.YthpmanlglbfcdaaDoorVE
open Option renaming bind_some → bsm
open List renaming getElem?_eq_some_iff → gei, getElem?_eq_getElem → geg, mem_of_getElem? → mog, take_of_length_le → tol, getElem?_append_right → gar, length_append → lap, length_cons → lcn
namespace Go.Proofs.Tryd
set_option linter.unusedSimpArgs false
set_option linter.unusedVariables false
open Go Go.Vs
section
variable {a b : ByteArray}
theorem len_d (a : ByteArray) : a.data.toList.length = a.size := by rw [Array.length_toList]; rfl
theorem ex_list (s : ByteArray) (i j : Nat) : (s.extract i j).data.toList = (s.data.toList.take j).drop i := by
 simp [List.drop_take]
theorem sb_len (s : ByteArray) : (sbytes s).length = s.size := by unfold sbytes; rw [List.length_map, len_d]
theorem bstr_sb (l : List UInt8) : bstr (l.map fun b => ((b.toNat : Nat) : Int)) = ⟨l.toArray⟩ := by
 unfold bstr
 congr 2
 rw [List.map_map]
 conv => rhs; rw [← List.map_id l]
 refine List.map_congr_left (fun x _ => ?_)
 simp
theorem splice_app {α : Type} {l y : List α} {n : Nat} (h : n + y.length ≤ l.length) : (splice l n y).take (n + y.length) = l.take n ++ y ∧ (splice l n y).length = l.length := by
 unfold splice
 refine ⟨?_, by simp; omega⟩
 have : (l.take n ++ y).length = n + y.length := by simp; omega
 rw [← this, List.take_left]
theorem q26_4 (s : ByteArray) (c : Bool) {gen len : Nat} {lo : Int} {l : List Int} (hl : len ≤ l.length) (hlo : 0 ≤ lo ∧ lo + s.size ≤ 1048576) (hlen : len ≤ 2000000) (hs : s.size ≤ 2000000) :
  ∃ g' l', F26_4 s c gen len lo l = some (.k0 true g' (len + s.size) l') ∧ len + s.size ≤ l'.length ∧ l'.take (len + s.size) = l.take len ++ sbytes s := by
 have e1 : IntKind.wrap .i64 (lo + (s.size : Int)) = lo + s.size := w_id (by omega)
 have h52 : F52_2 c = some true := by cases c <;> rfl
 have hap : apOk len (sbytes s).length l.length 1 = true := by rw [sb_len]; exact decide_eq_true ⟨hl, by unfold limit47; omega, by unfold limit47; omega⟩
 unfold F26_4 F37_4
 rw [e1, decide_eq_true (by omega), h52]
 simp only [cond_true, bsm, hap]
 by_cases hc : len + (sbytes s).length ≤ l.length
 ·obtain ⟨s1, s2⟩ := splice_app hc
  rw [decide_eq_true hc]
  rw [sb_len] at hc s1 ⊢
  exact ⟨_, _, rfl, by rw [s2]; exact hc, s1⟩
 ·rw [decide_eq_false hc]
  rw [sb_len]
  refine ⟨_, _, rfl, by simp [sb_len]; omega, ?_⟩
  exact tol (by simp [sb_len]; omega)
theorem q26_5 (s : ByteArray) (c : Bool) {gen len : Nat} {lo : Int} {l : List Int} (hl : len ≤ l.length) (hlo : 0 ≤ lo ∧ lo + s.size ≤ 1048576) (hlen : len ≤ 2000000) (hs : s.size ≤ 2000000) :
  ∃ g' l', F26_5 s c gen len lo l = some (.k0 true g' (len + s.size) l') ∧ len + s.size ≤ l'.length ∧ l'.take (len + s.size) = l.take len ++ sbytes s := by
 have e1 : IntKind.wrap .i64 (lo + (s.size : Int)) = lo + s.size := w_id (by omega)
 have h52 : F52_4 c = some true := by cases c <;> rfl
 have hap : apOk len (sbytes s).length l.length 1 = true := by rw [sb_len]; exact decide_eq_true ⟨hl, by unfold limit47; omega, by unfold limit47; omega⟩
 unfold F26_5 F37_5
 rw [e1, decide_eq_true (by omega), h52]
 simp only [cond_true, bsm, hap]
 by_cases hc : len + (sbytes s).length ≤ l.length
 ·obtain ⟨s1, s2⟩ := splice_app hc
  rw [decide_eq_true hc]
  rw [sb_len] at hc s1 ⊢
  exact ⟨_, _, rfl, by rw [s2]; exact hc, s1⟩
 ·rw [decide_eq_false hc]
  rw [sb_len]
  refine ⟨_, _, rfl, by simp [sb_len]; omega, ?_⟩
  exact tol (by simp [sb_len]; omega)
theorem q26_2 (d : EditD) (c : Bool) {gen len : Nat} {lo : Int} {l : List Int} (hl : len ≤ l.length) (hlo : 0 ≤ lo ∧ lo + d.text.size ≤ 1048576) (hlen : len ≤ 2000000) (hs : d.text.size ≤ 2000000) :
  ∃ g' l', F26_2 d c gen len lo l = some (.k0 true g' (len + d.text.size) l') ∧ len + d.text.size ≤ l'.length ∧ l'.take (len + d.text.size) = l.take len ++ sbytes d.text := by
 have e1 : IntKind.wrap .i64 (lo + (d.text.size : Int)) = lo + d.text.size := w_id (by omega)
 have h52 : F52_2 c = some true := by cases c <;> rfl
 have hap : apOk len (sbytes d.text).length l.length 1 = true := by rw [sb_len]; exact decide_eq_true ⟨hl, by unfold limit47; omega, by unfold limit47; omega⟩
 unfold F26_2 F37_2
 rw [e1, decide_eq_true (by omega), h52]
 simp only [cond_true, bsm, hap]
 by_cases hc : len + (sbytes d.text).length ≤ l.length
 ·obtain ⟨s1, s2⟩ := splice_app hc
  rw [decide_eq_true hc]
  rw [sb_len] at hc s1 ⊢
  exact ⟨_, _, rfl, by rw [s2]; exact hc, s1⟩
 ·rw [decide_eq_false hc]
  rw [sb_len]
  refine ⟨_, _, rfl, by simp [sb_len]; omega, ?_⟩
  exact tol (by simp [sb_len]; omega)
end
section
variable {a b : ByteArray}
theorem q24 {a : Int} {d : EditD} (h0 : 0 ≤ d.frm) (h1 : d.frm ≤ d.til) (h2 : d.til ≤ a) : F24 a [d] = some true := by
 have h41 : F41 d a = some false := by
  unfold F41
  rw [decide_eq_false (by omega), decide_eq_false (by omega), decide_eq_false (by omega)]
  rfl
 have g0 : getI [d] 0 = some d := rfl
 have e1 : IntKind.wrap .i64 (0 + 1) = 1 := by decide
 have k1 : L54_0 [d] a ((([d] : List EditD).length : Nat) : Int) 0 = some (.inr 1) := by
  simp only [L54_0, g0, bsm, h41, cond_false, e1]
  rfl
 have k2 : L54_0 [d] a ((([d] : List EditD).length : Nat) : Int) 1 = some (.inl .k1) := rfl
 unfold F24 F40 F54
 rw [runL_next (step := fun s => L54_0 [d] a ((([d] : List EditD).length : Nat) : Int) s) k1, runL_done (step := fun s => L54_0 [d] a ((([d] : List EditD).length : Nat) : Int) s) k2]
 rfl
theorem q25 (Nf : Nat) (d : EditD) : F25 Nf [d] = some (.k0 [d] 0) := by
 have h65 : F65_2 1 0 1 [d] = some [d] := by
  unfold F65_2
  have e1 : IntKind.wrap .i64 (0 + 1) = 1 := by decide
  rw [e1]
  have : runL (fun s => L65_1_2 1 0 1 s.1 s.2) ((1 : Int), [d]) = some (.k0 [d]) := runL_done rfl
  rw [this]
  rfl
 have h55 : F55 Nf (gnz [d]) 1 ((1 : Nat) : Int) [d] = some (.k0 [] [d]) := by
  unfold F55
  have k1 : runL (fun s => L55_2 1 ((1 : Nat) : Int) s.1 s.2.1 s.2.2) ((0 : Int), (20 : Int), [d]) = some (.k0 0 20 [d]) := runL_done rfl
  have k2 : runL (fun s => L55_1 Nf (gnz [d]) 1 ((1 : Nat) : Int) s.1 s.2.1 s.2.2) ((20 : Int), ([] : List EditD), [d]) = some (.k0 20 [] [d]) := runL_done rfl
  have h65' : F65_2 1 0 ((1 : Nat) : Int) [d] = some [d] := h65
  rw [k1]
  simp only [bsm, h65', k2]
 have h43 : F43 Nf (gnz [d]) 1 [d] = some (.k0 [] [d]) := by unfold F43; rw [h55]; rfl
 have k0 : L25_0 1 ((1 : Nat) : Int) [d] 0 = some (.inr 1) := by
  have e1 : IntKind.wrap .i64 (0 + 1) = 1 := by decide
  have i0 : ixN 1 0 = some 0 := rfl
  have g0 : ([d] : List EditD)[0]? = some d := rfl
  simp only [L25_0, i0, g0, bsm, e1, beq_self_eq_true, cond_true]
  rfl
 have k1 : L25_0 1 ((1 : Nat) : Int) [d] 1 = some (.inl .k1) := rfl
 have k2 : runL (fun s => L25_0 1 ((1 : Nat) : Int) [d] s) 0 = some .k1 := by rw [runL_next k0]; exact runL_done k1
 have k3 : runL (fun s => L25_1 1 [d]) () = some .k1 := runL_done (by simp only [L25_1, k2, bsm])
 have hc : clOk ([d] : List EditD).length 32 = true := by unfold clOk limit47; exact decide_eq_true ⟨by simp, by simp⟩
 unfold F25
 rw [hc]
 simp only [cond_true]
 show (F43 Nf (gnz [d]) 1 [d]).bind _ = _
 rw [h43]
 simp only [bsm]
 show (runL (fun s => L25_1 1 [d]) ()).bind _ = _
 rw [k3]
 rfl
theorem q13 (Nf : Nat) (x : ByteArray) (ha : a.size ≤ 70000) (hd : x.size ≤ 3000) {n k : Nat} (hn : n ≤ k) (hk : k ≤ a.size) :
  F13 Nf a [(⟨(n : Int), (k : Int), x⟩ : EditD)] = some (.k0 ⟨(a.data.toList.take n ++ x.data.toList ++ a.data.toList.drop k).toArray⟩ 0) := by
 have s1 : sl_ok 0 (n : Int) a.size = true := decide_eq_true ⟨by omega, by omega, by omega⟩
 have s2 : sl_ok (k : Int) (a.size : Int) a.size = true := decide_eq_true ⟨by omega, by omega, by omega⟩
 have x1 : (a.extract (Int.toNat 0) (Int.toNat (n : Int))).data.toList = a.data.toList.take n := by rw [ex_list]; rfl
 have x2 : (a.extract (Int.toNat (k : Int)) (Int.toNat (a.size : Int))).data.toList = a.data.toList.drop k := by
  rw [ex_list, Int.toNat_natCast, Int.toNat_natCast, tol (by rw [len_d]; exact Nat.le_refl _)]
 have n1 : (a.extract (Int.toNat 0) (Int.toNat (n : Int))).size = n := by rw [← len_d, x1, List.length_take, len_d]; omega
 have n2 : (a.extract (Int.toNat (k : Int)) (Int.toNat (a.size : Int))).size = a.size - k := by rw [← len_d, x2, List.length_drop, len_d]
 obtain ⟨g1, l1, u1, u2, u3⟩ := q26_4 (a.extract (Int.toNat 0) (Int.toNat (n : Int))) false (gen := 0) (len := 0) (lo := 0) (l := []) (Nat.le_refl _) (by omega) (by omega) (by omega)
 have w1 : IntKind.wrap .i64 (0 + ((a.extract (Int.toNat 0) (Int.toNat (n : Int))).size : Int)) = (n : Int) := by rw [w_id (by omega)]; omega
 obtain ⟨g2, l2, v1, v2, v3⟩ := q26_2 (⟨(n : Int), (k : Int), x⟩ : EditD) true (gen := g1) (len := 0 + (a.extract (Int.toNat 0) (Int.toNat (n : Int))).size) (lo := (n : Int)) (l := l1) u2 (by show 0 ≤ (n : Int) ∧ (n : Int) + (x.size : Int) ≤ 1048576; omega) (by omega) (by show x.size ≤ 2000000; omega)
 have w2 : IntKind.wrap .i64 ((n : Int) + (x.size : Int)) = (n : Int) + x.size := w_id (by omega)
 have hv2 : 0 + (a.extract (Int.toNat 0) (Int.toNat (n : Int))).size + x.size ≤ l2.length := v2
 obtain ⟨g3, l3, y1, y2, y3⟩ := q26_5 (a.extract (Int.toNat (k : Int)) (Int.toNat (a.size : Int))) true (gen := g2) (len := 0 + (a.extract (Int.toNat 0) (Int.toNat (n : Int))).size + x.size) (lo := (n : Int) + x.size) (l := l2) hv2 (by omega) (by omega) (by omega)
 have w3 : IntKind.wrap .i64 ((n : Int) + (x.size : Int) + ((a.extract (Int.toNat (k : Int)) (Int.toNat (a.size : Int))).size : Int)) = (n : Int) + x.size + (a.size - k : Nat) := by rw [n2, w_id (by omega)]
 have g0 : getI [(⟨(n : Int), (k : Int), x⟩ : EditD)] 0 = some (⟨(n : Int), (k : Int), x⟩ : EditD) := rfl
 have e1 : IntKind.wrap .i64 (0 + 1) = 1 := by decide
 have hdt : decide ((0 : Int) < ((([(⟨(n : Int), (k : Int), x⟩ : EditD)] : List EditD).length : Nat) : Int)) = true := rfl
 have k1 : L13_0 a [(⟨(n : Int), (k : Int), x⟩ : EditD)] ((([(⟨(n : Int), (k : Int), x⟩ : EditD)] : List EditD).length : Nat) : Int) 0 0 false 0 0 0 [] = some (.inr ((k : Int), 1, true, g2, 0 + (a.extract (Int.toNat 0) (Int.toNat (n : Int))).size + x.size, (n : Int) + x.size, l2)) := by
  unfold L13_0
  simp only [hdt, cond_true, g0, bsm, s1, u1, w1, v1, w2, e1]
 have k2 : L13_0 a [(⟨(n : Int), (k : Int), x⟩ : EditD)] ((([(⟨(n : Int), (k : Int), x⟩ : EditD)] : List EditD).length : Nat) : Int) (k : Int) 1 true g2 (0 + (a.extract (Int.toNat 0) (Int.toNat (n : Int))).size + x.size) ((n : Int) + x.size) l2 = some (.inl (.k0 (k : Int) true g2 (0 + (a.extract (Int.toNat 0) (Int.toNat (n : Int))).size + x.size) ((n : Int) + x.size) l2)) := rfl
 have k3 : runL (fun s => L13_0 a [(⟨(n : Int), (k : Int), x⟩ : EditD)] ((([(⟨(n : Int), (k : Int), x⟩ : EditD)] : List EditD).length : Nat) : Int) s.1 s.2.1 s.2.2.1 s.2.2.2.1 s.2.2.2.2.1 s.2.2.2.2.2.1 s.2.2.2.2.2.2) (0, 0, false, 0, 0, 0, []) =
   some (.k0 (k : Int) true g2 (0 + (a.extract (Int.toNat 0) (Int.toNat (n : Int))).size + x.size) ((n : Int) + x.size) l2) := by
  rw [runL_next (s' := ((k : Int), 1, true, g2, 0 + (a.extract (Int.toNat 0) (Int.toNat (n : Int))).size + x.size, (n : Int) + (x.size : Int), l2)) k1]
  exact runL_done k2
 have h24 : F24 (a.size : Int) [(⟨(n : Int), (k : Int), x⟩ : EditD)] = some true := q24 (by show (0 : Int) ≤ n; omega) (by show (n : Int) ≤ k; omega) (by show (k : Int) ≤ a.size; omega)
 have h00 : ((0 : Int) != 0) = false := rfl
 unfold F13
 rw [decide_eq_false (by omega), h24]
 simp only [cond_false, cond_true, bsm, q25, h00, k3, s2, y1, w3, decide_eq_false (show ¬ (n : Int) + (x.size : Int) + ((a.size - k : Nat) : Int) > 1048576 by omega)]
 have key : l3.take (0 + (a.extract (Int.toNat 0) (Int.toNat (n : Int))).size + x.size + (a.extract (Int.toNat (k : Int)) (Int.toNat (a.size : Int))).size) = (a.data.toList.take n ++ x.data.toList ++ a.data.toList.drop k).map fun b => ((b.toNat : Nat) : Int) := by
  rw [y3]
  have v3' : l2.take (0 + (a.extract (Int.toNat 0) (Int.toNat (n : Int))).size + x.size) = _ := v3
  rw [v3', u3]
  simp only [List.take_nil, List.nil_append, sbytes, x1, x2, List.map_append]
 generalize hL : 0 + (a.extract (Int.toNat 0) (Int.toNat (n : Int))).size + x.size + (a.extract (Int.toNat (k : Int)) (Int.toNat (a.size : Int))).size = len at key y2 ⊢
 unfold F27
 by_cases h0 : 0 < len
 ·have hu : usOk len l3.length = true := decide_eq_true ⟨y2, by omega⟩
  rw [decide_eq_true h0, hu, key]
  simp only [cond_true, bstr_sb, bsm]
 ·rw [decide_eq_false h0]
  simp only [cond_false, bsm]
  have hz : len = 0 := by omega
  rw [hz, List.take_zero] at key
  have := List.map_eq_nil_iff.1 key.symm
  rw [this]
  rfl
end
section
variable {a b : ByteArray}
end
theorem bneT {a b : Int} (h : ¬ a = b) : (a != b) = true := by simp [h]
def lt (x y : EditD) : Prop := x.frm < y.frm ∨ x.frm = y.frm ∧ x.til < y.til
instance (x y : EditD) : Decidable (lt x y) := by unfold lt; exact inferInstance
theorem q46 (x y : EditD) : F46 x y = some (if x.frm < y.frm then -1 else if x.frm > y.frm then 1 else 0) := by
 have h : ∀ z : EditD, F56 z = some false := fun z => by unfold F56; simp
 unfold F46
 rw [h, h]
 simp only [bsm, cond_false]
 by_cases h1 : x.frm < y.frm
 ·rw [decide_eq_true h1, if_pos h1]; rfl
 ·rw [decide_eq_false h1, if_neg h1]
  by_cases h2 : x.frm > y.frm
  ·rw [decide_eq_true h2, if_pos h2]; rfl
  ·rw [decide_eq_false h2, if_neg h2]; rfl
theorem q46_2 (x y : EditD) : F46_2 x y = some (if x.til < y.til then -1 else if x.til > y.til then 1 else 0) := by
 have h : ∀ z : EditD, F56_2 z = some false := fun z => by unfold F56_2; simp
 unfold F46_2
 rw [h, h]
 simp only [bsm, cond_false]
 by_cases h1 : x.til < y.til
 ·rw [decide_eq_true h1, if_pos h1]; rfl
 ·rw [decide_eq_false h1, if_neg h1]
  by_cases h2 : x.til > y.til
  ·rw [decide_eq_true h2, if_pos h2]; rfl
  ·rw [decide_eq_false h2, if_neg h2]; rfl
theorem q45 (a b : Int) : F45 [a, b] = some (if a ≠ 0 then a else b) := by
 have g0 : getI [a, b] 0 = some a := rfl
 have g1 : getI [a, b] 1 = some b := rfl
 have w0 : IntKind.wrap .i64 (0 + 1) = 1 := by decide
 have w1 : IntKind.wrap .i64 (1 + 1) = 2 := by decide
 have d0 : decide ((0 : Int) < ((([a, b] : List Int).length : Nat) : Int)) = true := rfl
 have d1 : decide ((1 : Int) < ((([a, b] : List Int).length : Nat) : Int)) = true := rfl
 have k0 : L45_0 [a, b] ((([a, b] : List Int).length : Nat) : Int) 0 = some (if a ≠ 0 then .inl (.k0 a) else .inr 1) := by
  simp only [L45_0, d0, cond_true, g0, bsm, w0]
  by_cases h : a = 0
  ·rw [if_neg (by simpa using h), h]; rfl
  ·rw [if_pos h, bneT h]; rfl
 have k1 : L45_0 [a, b] ((([a, b] : List Int).length : Nat) : Int) 1 = some (if b ≠ 0 then .inl (.k0 b) else .inr 2) := by
  simp only [L45_0, d1, cond_true, g1, bsm, w1]
  by_cases h : b = 0
  ·rw [if_neg (by simpa using h), h]; rfl
  ·rw [if_pos h, bneT h]; rfl
 have k2 : L45_0 [a, b] ((([a, b] : List Int).length : Nat) : Int) 2 = some (.inl .k1) := rfl
 unfold F45
 by_cases h : a = 0
 ·rw [if_neg (by simpa using h)] at k0
  rw [if_neg (by simpa using h)]
  rw [runL_next (step := fun s => L45_0 [a, b] ((([a, b] : List Int).length : Nat) : Int) s) k0]
  by_cases h' : b = 0
  ·rw [if_neg (by simpa using h')] at k1
   rw [runL_next (step := fun s => L45_0 [a, b] ((([a, b] : List Int).length : Nat) : Int) s) k1, runL_done (step := fun s => L45_0 [a, b] ((([a, b] : List Int).length : Nat) : Int) s) k2, h']
   rfl
  ·rw [if_pos h'] at k1
   rw [runL_done (step := fun s => L45_0 [a, b] ((([a, b] : List Int).length : Nat) : Int) s) k1]
   rfl
 ·rw [if_pos h] at k0
  rw [if_pos h, runL_done (step := fun s => L45_0 [a, b] ((([a, b] : List Int).length : Nat) : Int) s) k0]
  rfl
theorem q44 (x y : EditD) : ∃ c, F44 x y = some c ∧ decide (c < 0) = decide (lt x y) := by
 unfold F44
 rw [q46, q46_2]
 simp only [bsm, q45]
 refine ⟨_, rfl, ?_⟩
 rw [decide_eq_decide]
 unfold lt
 by_cases h1 : x.frm < y.frm
 ·rw [if_pos h1]; simp; omega
 ·rw [if_neg h1]
  by_cases h2 : x.frm > y.frm
  ·rw [if_pos h2]; simp; omega
  ·rw [if_neg h2]
   by_cases h3 : x.til < y.til
   ·rw [if_pos h3]; simp; omega
   ·rw [if_neg h3]
    by_cases h4 : x.til > y.til
    ·rw [if_pos h4]; simp; omega
    ·rw [if_neg h4]; simp; omega
def insR (x : EditD) : List EditD → List EditD
 | [] => [x]
 | y :: r => if lt x y then y :: insR x r else x :: y :: r
def isR : List EditD → List EditD → List EditD
 | [], r => r
 | x :: l, r => isR l (insR x r)
theorem insR_len (x : EditD) : ∀ r, (insR x r).length = r.length + 1
 | [] => rfl
 | y :: r => by
  simp only [insR]
  split
  ·simp only [lcn, insR_len x r]
  ·rfl
theorem l65_0 : ∀ (r : List EditD) (x : EditD) (s : List EditD) (n : Nat), n = r.length + 1 + s.length → n ≤ 1000 →
  runL (fun s => L65_0_3 n 0 s.1 s.2) ((r.length : Int), r.reverse ++ x :: s) = some (.k0 ((insR x r).reverse ++ s))
 | [], x, s, n, hn, hb => by
  refine runL_done ?_
  simp [L65_0_3, insR]
 | y :: r, x, s, n, hn, hb => by
  simp only [lcn] at hn
  obtain ⟨c, c1, c2⟩ := q44 x y
  have hrow : (y :: r).reverse ++ x :: s = r.reverse ++ y :: x :: s := by simp
  have hrl : r.reverse.length = r.length := List.length_reverse
  have g1 : (r.reverse ++ y :: x :: s)[r.length + 1]? = some x := by rw [gar (by omega)]; simp
  have g0 : (r.reverse ++ y :: x :: s)[r.length]? = some y := by rw [gar (by omega)]; simp
  have i1 : ixN n (((r.length + 1 : Nat)) : Int) = some (r.length + 1) := by rw [ixN_nat, if_pos (by omega)]
  have e1 : IntKind.wrap .i64 (((r.length + 1 : Nat) : Int) - 1) = ((r.length : Nat) : Int) := by rw [w_id (by omega)]; omega
  have i0 : ixN n ((r.length : Nat) : Int) = some r.length := by rw [ixN_nat, if_pos (by omega)]
  have s1 : (r.reverse ++ y :: x :: s).set (r.length + 1) y = r.reverse ++ y :: y :: s := by
   rw [List.set_append_right _ _ (by omega), hrl, Nat.add_sub_cancel_left]; rfl
  have s2 : (r.reverse ++ y :: y :: s).set r.length x = r.reverse ++ x :: y :: s := by
   rw [List.set_append_right _ _ (by omega), hrl, Nat.sub_self]; rfl
  have g2 : (r.reverse ++ y :: y :: s)[r.length]? = some y := by rw [gar (by omega)]; simp
  have hd : decide (((r.length + 1 : Nat) : Int) > 0) = true := decide_eq_true (by omega)
  rw [hrow]
  show runL (fun s => L65_0_3 n 0 s.1 s.2) (((r.length + 1 : Nat) : Int), r.reverse ++ y :: x :: s) = _
  by_cases hlt : lt x y
  ·rw [decide_eq_true hlt] at c2
   rw [runL_next (s' := (((r.length : Nat) : Int), r.reverse ++ x :: y :: s)) (by
    simp only [L65_0_3, hd, cond_true, i1, g1, bsm, e1, i0, g0, c1, c2, s1, g2, s2])]
   rw [l65_0 r x (y :: s) n (by simp only [lcn]; omega) hb]
   simp only [insR, if_pos hlt, List.reverse_cons, List.append_assoc, List.cons_append, List.nil_append]
  ·rw [decide_eq_false hlt] at c2
   refine runL_done ?_
   simp only [L65_0_3, hd, cond_true, i1, g1, bsm, e1, i0, g0, c1, c2, cond_false, insR, if_neg hlt, List.reverse_cons, List.append_assoc, List.cons_append, List.nil_append]
theorem l65_1 : ∀ (s r : List EditD) (n : Nat), n = r.length + s.length → n ≤ 1000 → 1 ≤ r.length →
  runL (fun s => L65_1_2 n 0 (n : Int) s.1 s.2) ((r.length : Int), r.reverse ++ s) = some (.k0 (isR s r).reverse)
 | [], r, n, hn, hb, h1 => by
  simp only [List.length_nil, Nat.add_zero] at hn
  refine runL_done ?_
  simp only [L65_1_2, decide_eq_false (show ¬ (r.length : Int) < (n : Int) by omega), cond_false, isR, List.append_nil]
 | x :: s, r, n, hn, hb, h1 => by
  simp only [lcn] at hn
  have hin := insR_len x r
  rw [runL_next (s' := (((r.length + 1 : Nat) : Int), (insR x r).reverse ++ s)) (by
   simp only [L65_1_2, decide_eq_true (show (r.length : Int) < (n : Int) by omega), cond_true, l65_0 r x s n (by omega) hb, bsm, w_S (show r.length < 4611686018427387904 by omega)])]
  have := l65_1 s (insR x r) n (by omega) hb (by omega)
  rw [hin] at this
  exact this
def srt (l : List EditD) : List EditD := (isR l []).reverse
theorem q65 (l : List EditD) (hb : l.length ≤ 1000) : F65_2 l.length 0 (l.length : Int) l = some (srt l) := by
 unfold F65_2
 have e1 : IntKind.wrap .i64 (0 + 1) = 1 := by decide
 rw [e1]
 cases l with
 | nil =>
  have : runL (fun s => L65_1_2 ([] : List EditD).length 0 ((([] : List EditD).length : Nat) : Int) s.1 s.2) ((1 : Int), ([] : List EditD)) = some (.k0 []) := runL_done rfl
  rw [this]
  rfl
 | cons x l =>
  have := l65_1 l [x] (x :: l).length (by simp only [lcn, List.length_nil]; omega) hb (Nat.le_refl _)
  have h2 : runL (fun s => L65_1_2 (x :: l).length 0 ((x :: l).length : Int) s.1 s.2) ((1 : Int), x :: l) = some (.k0 (isR l [x]).reverse) := this
  rw [h2]
  rfl
theorem beqF' {a b : Int} (h : ¬ a = b) : (a == b) = false := by simp [h]
theorem insR_perm (x : EditD) : ∀ r, List.Perm (insR x r) (x :: r)
 | [] => List.Perm.refl _
 | y :: r => by
  simp only [insR]
  split
  ·exact ((insR_perm x r).cons y).trans (List.Perm.swap x y r)
  ·exact List.Perm.refl _
theorem isR_perm : ∀ (l r : List EditD), List.Perm (isR l r) (l ++ r)
 | [], r => List.Perm.refl _
 | x :: l, r => by
  simp only [isR]
  refine (isR_perm l (insR x r)).trans ?_
  refine ((insR_perm x r).append_left l).trans ?_
  exact List.perm_middle
theorem srt_perm (l : List EditD) : List.Perm (srt l) l := by
 unfold srt
 exact (List.reverse_perm _).trans (by simpa using isR_perm l [])
theorem srt_len (l : List EditD) : (srt l).length = l.length := (srt_perm l).length_eq
def okE (y x : EditD) : Prop := y.til ≤ x.frm ∧ ¬ (x.frm = y.frm ∧ x.til = y.til ∧ x.frm = x.til)
theorem l25_0 {row : List EditD} {n : Nat} (hn : n = row.length) (hb : n ≤ 1000) : ∀ (k i : Nat), i + k = n →
  (∃ a b c d e, runL (fun s => L25_0 n ((n : Nat) : Int) row s) (i : Int) = some (.k0 a b c d e)) ∨
  (runL (fun s => L25_0 n ((n : Nat) : Int) row s) (i : Int) = some .k1 ∧ ∀ j y x, i ≤ j + 1 → row[j]? = some y → row[j + 1]? = some x → okE y x)
 | 0, i, hi => by
  obtain rfl : i = n := by omega
  refine .inr ⟨runL_done (by simp [L25_0]), fun j y x h1 h2 h3 => ?_⟩
  have := (gei.1 h3).1
  omega
 | k + 1, i, hi => by
  have hx : row[i]? = some (row[i]'(by omega)) := geg _
  generalize row[i]'(by omega) = x at hx
  have hd : decide ((i : Int) < ((n : Nat) : Int)) = true := decide_eq_true (by omega)
  have i1 : ixN n (i : Int) = some i := by rw [ixN_nat, if_pos (by omega)]
  have hS := w_S (show i < 4611686018427387904 by omega)
  have ih := l25_0 hn hb k (i + 1) (by omega)
  cases i with
  | zero =>
   have hs : L25_0 n ((n : Nat) : Int) row ((0 : Nat) : Int) = some (.inr ((0 + 1 : Nat) : Int)) := by
    have e0 : (((0 : Nat) : Int) == 0) = true := rfl
    simp only [L25_0, hd, cond_true, i1, hx, bsm, e0, hS]
   rw [runL_next (step := fun s => L25_0 n ((n : Nat) : Int) row s) hs]
   rcases ih with h | ⟨h1, h2⟩
   ·exact .inl h
   ·exact .inr ⟨h1, fun j y x h3 => h2 j y x (by omega)⟩
  | succ i =>
   have hy : row[i]? = some (row[i]'(by omega)) := geg _
   generalize row[i]'(by omega) = y at hy
   have e0 : (((i + 1 : Nat) : Int) == 0) = false := beqF' (by omega)
   have e1 : IntKind.wrap .i64 (((i + 1 : Nat) : Int) - 1) = (i : Int) := by rw [w_id (by omega)]; omega
   have i2 : ixN n (i : Int) = some i := by rw [ixN_nat, if_pos (by omega)]
   have nx : okE y x → L25_0 n ((n : Nat) : Int) row ((i + 1 : Nat) : Int) = some (.inr ((i + 1 + 1 : Nat) : Int)) →
     (∃ a b c d e, runL (fun s => L25_0 n ((n : Nat) : Int) row s) ((i + 1 : Nat) : Int) = some (.k0 a b c d e)) ∨
     (runL (fun s => L25_0 n ((n : Nat) : Int) row s) ((i + 1 : Nat) : Int) = some .k1 ∧ ∀ j y x, i + 1 ≤ j + 1 → row[j]? = some y → row[j + 1]? = some x → okE y x) := by
    intro hok hs
    rw [runL_next (step := fun s => L25_0 n ((n : Nat) : Int) row s) hs]
    rcases ih with h | ⟨h1, h2⟩
    ·exact .inl h
    ·refine .inr ⟨h1, fun j y' x' h3 h4 h5 => ?_⟩
     by_cases e : j = i
     ·subst e
      rw [hy] at h4; rw [hx] at h5
      cases h4; cases h5
      exact hok
     ·exact h2 j y' x' (by omega) h4 h5
   by_cases c1 : x.frm < y.til
   ·refine .inl ⟨x.frm, x.til, x.text, y.frm, y.til, runL_done (step := fun s => L25_0 n ((n : Nat) : Int) row s) ?_⟩
    simp only [L25_0, hd, cond_true, i1, hx, bsm, e0, cond_false, e1, i2, hy, decide_eq_true c1]
   ·by_cases c2 : x.frm = y.frm
    ·by_cases c3 : x.til = y.til
     ·by_cases c4 : x.frm = x.til
      ·refine .inl ⟨x.frm, x.til, x.text, y.frm, y.til, runL_done (step := fun s => L25_0 n ((n : Nat) : Int) row s) ?_⟩
       have c2' : (x.frm == y.frm) = true := by rw [c2]; exact beq_self_eq_true _
       have c3' : (x.til == y.til) = true := by rw [c3]; exact beq_self_eq_true _
       have c4' : (x.frm == x.til) = true := by rw [c4]; exact beq_self_eq_true _
       simp only [L25_0, hd, cond_true, i1, hx, bsm, e0, cond_false, e1, i2, hy, decide_eq_false c1, c2', c3', c4', Bool.and_self]
      ·refine nx ⟨by omega, fun h => c4 h.2.2⟩ ?_
       have c2' : (x.frm == y.frm) = true := by rw [c2]; exact beq_self_eq_true _
       have c3' : (x.til == y.til) = true := by rw [c3]; exact beq_self_eq_true _
       simp only [L25_0, hd, cond_true, i1, hx, bsm, e0, cond_false, e1, i2, hy, decide_eq_false c1, c2', c3', beqF' c4, Bool.and_self, hS]
     ·refine nx ⟨by omega, fun h => c3 h.2.1⟩ ?_
      simp only [L25_0, hd, cond_true, i1, hx, bsm, e0, cond_false, e1, i2, hy, decide_eq_false c1, beqF' c3, Bool.and_false, Bool.false_and, hS]
    ·refine nx ⟨by omega, fun h => c2 h.1⟩ ?_
     simp only [L25_0, hd, cond_true, i1, hx, bsm, e0, cond_false, e1, i2, hy, decide_eq_false c1, beqF' c2, Bool.false_and, hS]
theorem q55 (Nf : Nat) (l : List EditD) (h20 : l.length ≤ 20) (gn : Nat) : F55 Nf gn l.length ((l.length : Nat) : Int) l = some (.k0 [] (srt l)) := by
 have hl := srt_len l
 have k2 : runL (fun s => L55_1 Nf gn l.length ((l.length : Nat) : Int) s.1 s.2.1 s.2.2) ((20 : Int), ([] : List EditD), srt l) = some (.k0 20 [] (srt l)) :=
  runL_done (by simp only [L55_1, decide_eq_false (show ¬ (20 : Int) < ((l.length : Nat) : Int) by omega), cond_false])
 unfold F55
 by_cases he : l.length = 20
 ·have e1 : IntKind.wrap .i64 (20 + 20) = 40 := by decide
  have k1 : runL (fun s => L55_2 l.length ((l.length : Nat) : Int) s.1 s.2.1 s.2.2) ((0 : Int), (20 : Int), l) = some (.k0 20 40 (srt l)) := by
   rw [runL_next (s' := ((20 : Int), (40 : Int), srt l)) (by
    have q := q65 l (by omega)
    have e20 : ((l.length : Nat) : Int) = 20 := by omega
    rw [e20] at q
    simp only [L55_2, decide_eq_true (show (20 : Int) ≤ ((l.length : Nat) : Int) by omega), cond_true, q, bsm, e1])]
   exact runL_done (by simp only [L55_2, decide_eq_false (show ¬ (40 : Int) ≤ ((l.length : Nat) : Int) by omega), cond_false])
  have k3 : F65_2 l.length 20 ((l.length : Nat) : Int) (srt l) = some (srt l) := by
   unfold F65_2
   have e2 : IntKind.wrap .i64 (20 + 1) = 21 := by decide
   rw [e2, runL_done (step := fun s : Int × List EditD => L65_1_2 l.length 20 ((l.length : Nat) : Int) s.1 s.2) (s := ((21 : Int), srt l)) (e := E_L65_1_2.k0 (srt l)) (by simp only [L65_1_2, decide_eq_false (show ¬ (21 : Int) < ((l.length : Nat) : Int) by omega), cond_false])]
   rfl
  rw [k1]
  simp only [bsm, k3, k2]
 ·have k1 : runL (fun s => L55_2 l.length ((l.length : Nat) : Int) s.1 s.2.1 s.2.2) ((0 : Int), (20 : Int), l) = some (.k0 0 20 l) :=
   runL_done (by simp only [L55_2, decide_eq_false (show ¬ (20 : Int) ≤ ((l.length : Nat) : Int) by omega), cond_false])
  rw [k1]
  simp only [bsm, q65 l (by omega), k2]
theorem q25l (Nf : Nat) (l : List EditD) (h20 : l.length ≤ 20) : F25 Nf l = some (.k0 [] 110) ∨ (F25 Nf l = some (.k0 (srt l) 0) ∧ ∀ (j : Nat) (y x : EditD), (srt l)[j]? = some y → (srt l)[j + 1]? = some x → okE y x) := by
 have hl := srt_len l
 have hc : clOk l.length 32 = true := by unfold clOk limit47; exact decide_eq_true ⟨by omega, by omega⟩
 have h43 : F43 Nf (gnz l) l.length l = some (.k0 [] (srt l)) := by unfold F43; rw [q55 Nf l h20]; rfl
 have e0 : ((0 : Nat) : Int) = 0 := rfl
 have h := l25_0 (row := srt l) (n := l.length) hl.symm (by omega) l.length 0 (by omega)
 rw [e0] at h
 unfold F25
 rw [hc, h43]
 simp only [cond_true, bsm]
 rcases h with ⟨a, b, c, d, e, h⟩ | ⟨h1, h2⟩
 ·have k3 : runL (fun s => L25_1 l.length (srt l)) () = some (.k0 a b c d e) := runL_done (by simp only [L25_1, h, bsm])
  left
  rw [k3]
  rfl
 ·have k3 : runL (fun s => L25_1 l.length (srt l)) () = some .k1 := runL_done (by simp only [L25_1, h1, bsm])
  refine .inr ⟨?_, fun j y x h3 h4 => h2 j y x (by omega) h3 h4⟩
  rw [k3]
  simp only [bsm, decide_eq_true (show l.length ≤ (srt l).length by omega), cond_true]
  rw [tol (by omega)]
def apl (A : List UInt8) : Nat → List EditD → List UInt8
 | at_, [] => A.drop at_
 | at_, e :: s => (A.take e.frm.toNat).drop at_ ++ e.text.data.toList ++ apl A e.til.toNat s
def rgE (n : Nat) (d : EditD) : Prop := 0 ≤ d.frm ∧ d.frm ≤ d.til ∧ d.til ≤ (n : Int)
theorem q41 (d : EditD) (n : Nat) : (F41 d (n : Int) = some true) ∨ (F41 d (n : Int) = some false ∧ rgE n d) := by
 unfold F41
 by_cases h1 : d.frm < 0
 ·rw [decide_eq_true h1]; exact .inl rfl
 rw [decide_eq_false h1]
 by_cases h2 : d.til < d.frm
 ·rw [decide_eq_true h2]; exact .inl rfl
 rw [decide_eq_false h2]
 by_cases h3 : d.til > (n : Int)
 ·rw [decide_eq_true h3]; exact .inl rfl
 rw [decide_eq_false h3]
 exact .inr ⟨rfl, by omega, by omega, by omega⟩
theorem l54 (l : List EditD) (n : Nat) (hl : l.length ≤ 1000) : ∀ (k i : Nat), i + k = l.length →
  (∃ j : Nat, runL (fun s => L54_0 l (n : Int) (l.length : Int) s) (i : Int) = some (.k0 (j : Int))) ∨
  (runL (fun s => L54_0 l (n : Int) (l.length : Int) s) (i : Int) = some .k1 ∧ ∀ j d, i ≤ j → l[j]? = some d → rgE n d)
 | 0, i, hi => by
  obtain rfl : i = l.length := by omega
  refine .inr ⟨runL_done (by simp [L54_0]), fun j d h1 h2 => ?_⟩
  have := (gei.1 h2).1
  omega
 | k + 1, i, hi => by
  have hx : l[i]? = some (l[i]'(by omega)) := geg _
  generalize l[i]'(by omega) = x at hx
  have hd : decide ((i : Int) < (l.length : Int)) = true := decide_eq_true (by omega)
  rcases q41 x n with h | ⟨h, hr⟩
  ·exact .inl ⟨i, runL_done (step := fun s => L54_0 l (n : Int) (l.length : Int) s) (by simp only [L54_0, hd, cond_true, getI_nat, hx, bsm, h])⟩
  ·have hs : L54_0 l (n : Int) (l.length : Int) (i : Int) = some (.inr ((i + 1 : Nat) : Int)) := by simp only [L54_0, hd, cond_true, getI_nat, hx, bsm, h, cond_false, w_S (show i < 4611686018427387904 by omega)]
   rw [runL_next (step := fun s => L54_0 l (n : Int) (l.length : Int) s) hs]
   rcases l54 l n hl k (i + 1) (by omega) with h2 | ⟨h2, h3⟩
   ·exact .inl h2
   ·refine .inr ⟨h2, fun j d h4 h5 => ?_⟩
    by_cases e : j = i
    ·subst e; rw [hx] at h5; cases h5; exact hr
    ·exact h3 j d (by omega) h5
theorem q24l (l : List EditD) (n : Nat) (hl : l.length ≤ 1000) : F24 (n : Int) l = some false ∨ (F24 (n : Int) l = some true ∧ ∀ d ∈ l, rgE n d) := by
 have e0 : ((0 : Nat) : Int) = 0 := rfl
 have h := l54 l n hl l.length 0 (by omega)
 rw [e0] at h
 unfold F24 F40 F54
 rcases h with ⟨j, h⟩ | ⟨h1, h2⟩
 ·left
  rw [h]
  simp only [bsm, decide_eq_true (show (j : Int) ≥ 0 by omega), Bool.not_true]
 ·right
  rw [h1]
  refine ⟨rfl, fun d hd => ?_⟩
  obtain ⟨j, hj⟩ := List.getElem?_of_mem hd
  exact h2 j d (by omega) hj
theorem ex_ints (a : ByteArray) {i j : Nat} : (a.extract (Int.toNat (i : Int)) (Int.toNat (j : Int))).data.toList = (a.data.toList.take j).drop i := by rw [ex_list]; rfl
abbrev ints (l : List UInt8) : List Int := l.map fun b => ((b.toNat : Nat) : Int)
theorem l13 {a : ByteArray} (ha : a.size ≤ 70000) {s : List EditD} (h20 : s.length ≤ 20) (hr : ∀ d ∈ s, rgE a.size d) (hx : ∀ d ∈ s, d.text.size ≤ 3000) (hc : ∀ (j : Nat) (y x : EditD), s[j]? = some y → s[j + 1]? = some x → okE y x) :
  ∀ (k i at_ gen len : Nat) (c : Bool) (row : List Int) (acc : List UInt8), i + k = s.length → (∀ x, s[i]? = some x → (at_ : Int) ≤ x.frm) → at_ ≤ a.size → len = acc.length → len ≤ at_ + 3000 * i → len ≤ row.length → row.take len = ints acc →
  ∃ at' c' gen' len' row' acc', runL (fun z => L13_0 a s (s.length : Int) z.1 z.2.1 z.2.2.1 z.2.2.2.1 z.2.2.2.2.1 z.2.2.2.2.2.1 z.2.2.2.2.2.2) ((at_ : Int), (i : Int), c, gen, len, (len : Int), row) = some (.k0 ((at' : Nat) : Int) c' gen' len' ((len' : Nat) : Int) row') ∧
   at' ≤ a.size ∧ len' = acc'.length ∧ len' ≤ at' + 3000 * s.length ∧ len' ≤ row'.length ∧ row'.take len' = ints acc' ∧ acc' ++ a.data.toList.drop at' = acc ++ apl a.data.toList at_ (s.drop i)
 | 0, i, at_, gen, len, c, row, acc, hi, _, h1, h2, h3, h4, h5 => by
  obtain rfl : i = s.length := by omega
  refine ⟨at_, c, gen, len, row, acc, runL_done ?_, h1, h2, h3, h4, h5, ?_⟩
  ·simp only [L13_0, decide_eq_false (show ¬ (s.length : Int) < (s.length : Int) by omega), cond_false]
  ·rw [List.drop_length]; rfl
 | k + 1, i, at_, gen, len, c, row, acc, hi, h0, h1, h2, h3, h4, h5 => by
  have hxx : s[i]? = some (s[i]'(by omega)) := geg _
  have hd : s.drop i = s[i]'(by omega) :: s.drop (i + 1) := List.drop_eq_getElem_cons (by omega)
  generalize s[i]'(by omega) = x at hxx hd
  have hmem := mog hxx
  obtain ⟨r1, r2, r3⟩ := hr x hmem
  have r0 := h0 x hxx
  have rx := hx x hmem
  obtain ⟨f, hf⟩ : ∃ f : Nat, x.frm = (f : Int) := ⟨x.frm.toNat, by omega⟩
  obtain ⟨u, hu⟩ : ∃ u : Nat, x.til = (u : Int) := ⟨x.til.toNat, by omega⟩
  have x1 := ex_ints a (i := at_) (j := f)
  have n1 : (a.extract (Int.toNat (at_ : Int)) (Int.toNat (f : Int))).size = f - at_ := by rw [← len_d, x1, List.length_drop, List.length_take, len_d]; omega
  have s1 : sl_ok (at_ : Int) (f : Int) a.size = true := decide_eq_true ⟨by omega, by omega, by omega⟩
  obtain ⟨g1, l1, u1, u2, u3⟩ := q26_4 (a.extract (Int.toNat (at_ : Int)) (Int.toNat (f : Int))) c (gen := gen) (len := len) (lo := (len : Int)) (l := row) h4 (by omega) (by omega) (by omega)
  have w1 : IntKind.wrap .i64 ((len : Int) + ((a.extract (Int.toNat (at_ : Int)) (Int.toNat (f : Int))).size : Int)) = ((len + (a.extract (Int.toNat (at_ : Int)) (Int.toNat (f : Int))).size : Nat) : Int) := by rw [w_id (by omega)]; omega
  obtain ⟨g2, l2, v1, v2, v3⟩ := q26_2 x true (gen := g1) (len := len + (a.extract (Int.toNat (at_ : Int)) (Int.toNat (f : Int))).size) (lo := ((len + (a.extract (Int.toNat (at_ : Int)) (Int.toNat (f : Int))).size : Nat) : Int)) (l := l1) u2 (by omega) (by omega) (by omega)
  have w2 : IntKind.wrap .i64 (((len + (a.extract (Int.toNat (at_ : Int)) (Int.toNat (f : Int))).size : Nat) : Int) + (x.text.size : Int)) = ((len + (a.extract (Int.toNat (at_ : Int)) (Int.toNat (f : Int))).size + x.text.size : Nat) : Int) := by rw [w_id (by omega)]; omega
  have hstep : L13_0 a s (s.length : Int) (at_ : Int) (i : Int) c gen len (len : Int) row = some (.inr ((u : Int), ((i + 1 : Nat) : Int), true, g2, len + (a.extract (Int.toNat (at_ : Int)) (Int.toNat (f : Int))).size + x.text.size, ((len + (a.extract (Int.toNat (at_ : Int)) (Int.toNat (f : Int))).size + x.text.size : Nat) : Int), l2)) := by
   simp only [L13_0, decide_eq_true (show (i : Int) < (s.length : Int) by omega), cond_true, getI_nat, hxx, bsm, hf, hu, s1, u1, w1, v1, w2, w_S (show i < 4611686018427387904 by omega)]
  have hacc : l2.take (len + (a.extract (Int.toNat (at_ : Int)) (Int.toNat (f : Int))).size + x.text.size) = ints (acc ++ (a.data.toList.take f).drop at_ ++ x.text.data.toList) := by
   rw [v3, u3, h5]
   simp only [sbytes, x1, List.map_append]
  obtain ⟨at', c', gen', len', row', acc', k1, k2, k3, k4, k5, k6, k7⟩ := l13 ha h20 hr hx hc k (i + 1) u g2 (len + (a.extract (Int.toNat (at_ : Int)) (Int.toNat (f : Int))).size + x.text.size) true l2 (acc ++ (a.data.toList.take f).drop at_ ++ x.text.data.toList) (by omega)
   (fun y hy => by have := (hc i x y hxx hy).1; omega) (by omega)
   (by simp only [lap, ← x1, len_d]; omega) (by omega) v2 hacc
  refine ⟨at', c', gen', len', row', acc', ?_, k2, k3, k4, k5, k6, ?_⟩
  ·rw [runL_next (s' := ((u : Int), ((i + 1 : Nat) : Int), true, g2, len + (a.extract (Int.toNat (at_ : Int)) (Int.toNat (f : Int))).size + x.text.size, ((len + (a.extract (Int.toNat (at_ : Int)) (Int.toNat (f : Int))).size + x.text.size : Nat) : Int), l2)) hstep]
   exact k1
  ·rw [k7, hd]
   simp only [apl, hf, hu, Int.toNat_natCast, List.append_assoc]
theorem q13l (Nf : Nat) {a : ByteArray} (ha : a.size ≤ 70000) {l : List EditD} (h20 : l.length ≤ 20) (hx : ∀ d ∈ l, d.text.size ≤ 3000) :
  (∃ e : Int, e ≠ 0 ∧ F13 Nf a l = some (.k0 (⟨([] : List UInt8).toArray⟩ : ByteArray) e)) ∨
  (F13 Nf a l = some (.k0 ⟨(apl a.data.toList 0 (srt l)).toArray⟩ 0) ∧ (∀ d ∈ l, rgE a.size d) ∧ ∀ (j : Nat) (y x : EditD), (srt l)[j]? = some y → (srt l)[j + 1]? = some x → okE y x) := by
 have h00 : ((0 : Int) != 0) = false := rfl
 have h110 : ((110 : Int) != 0) = true := rfl
 unfold F13
 rw [decide_eq_false (show ¬ (a.size : Int) > 1048576 by omega)]
 simp only [cond_false]
 rcases q24l l a.size (by omega) with h | ⟨h, hr⟩
 ·exact .inl ⟨4, by decide, by rw [h]; rfl⟩
 rw [h]
 simp only [bsm, cond_true]
 rcases q25l Nf l h20 with h25 | ⟨h25, hok⟩
 ·exact .inl ⟨110, by decide, by rw [h25]; rfl⟩
 right
 refine ⟨?_, hr, hok⟩
 rw [h25]
 simp only [bsm, h00, cond_false]
 have hp := srt_perm l
 have hl := srt_len l
 obtain ⟨at', c', gen', len', row', acc', k1, k2, k3, k4, k5, k6, k7⟩ := l13 ha (s := srt l) (by omega) (fun d hd => hr d (hp.mem_iff.1 hd)) (fun d hd => hx d (hp.mem_iff.1 hd)) hok (srt l).length 0 0 0 0 false [] [] (by omega)
  (fun x hxx => by have := (hr x (hp.mem_iff.1 (mog hxx))).1; omega) (by omega) rfl (by omega) (Nat.le_refl _) rfl
 have e0 : ((0 : Nat) : Int) = 0 := rfl
 rw [e0] at k1
 rw [List.drop_zero, List.nil_append] at k7
 have s2 : sl_ok (at' : Int) (a.size : Int) a.size = true := decide_eq_true ⟨by omega, by omega, by omega⟩
 have x2 : (a.extract (Int.toNat (at' : Int)) (Int.toNat (a.size : Int))).data.toList = a.data.toList.drop at' := by
  rw [ex_list, Int.toNat_natCast, Int.toNat_natCast, tol (by rw [len_d]; exact Nat.le_refl _)]
 have n2 : (a.extract (Int.toNat (at' : Int)) (Int.toNat (a.size : Int))).size = a.size - at' := by rw [← len_d, x2, List.length_drop, len_d]
 obtain ⟨g3, l3, y1, y2, y3⟩ := q26_5 (a.extract (Int.toNat (at' : Int)) (Int.toNat (a.size : Int))) c' (gen := gen') (len := len') (lo := (len' : Int)) (l := row') k5 (by omega) (by omega) (by omega)
 have w3 : IntKind.wrap .i64 ((len' : Int) + ((a.extract (Int.toNat (at' : Int)) (Int.toNat (a.size : Int))).size : Int)) = (len' : Int) + (a.size - at' : Nat) := by rw [n2, w_id (by omega)]
 rw [k1]
 simp only [bsm, s2, cond_true, y1, w3, decide_eq_false (show ¬ (len' : Int) + ((a.size - at' : Nat) : Int) > 1048576 by omega), cond_false]
 have key : l3.take (len' + (a.extract (Int.toNat (at' : Int)) (Int.toNat (a.size : Int))).size) = ints (apl a.data.toList 0 (srt l)) := by
  rw [y3, k6, ← k7]
  simp only [sbytes, x2, List.map_append]
 generalize hL : len' + (a.extract (Int.toNat (at' : Int)) (Int.toNat (a.size : Int))).size = len at key y2 ⊢
 unfold F27
 by_cases h0 : 0 < len
 ·have hu : usOk len l3.length = true := decide_eq_true ⟨y2, by omega⟩
  rw [decide_eq_true h0, hu, key]
  simp only [cond_true, bstr_sb, bsm]
 ·rw [decide_eq_false h0]
  simp only [cond_false, bsm]
  have hz : len = 0 := by omega
  rw [hz, List.take_zero] at key
  have := List.map_eq_nil_iff.1 key.symm
  rw [this]
  rfl
def und : List EditD → List Bool → List EditD
 | x :: l, d :: ds => bif d then und l ds else x :: und l ds
 | _, _ => []
theorem und_mem : ∀ (l : List EditD) (d : List Bool) (x : EditD), x ∈ und l d ↔ ∃ k : Nat, l[k]? = some x ∧ d[k]? = some false
 | [], d, x => by simp [und]
 | y :: l, [], x => by simp [und]
 | y :: l, e :: d, x => by
  have ih := und_mem l d x
  constructor
  ·intro h
   cases e with
   | true =>
    obtain ⟨k, k1, k2⟩ := ih.1 (by simpa [und] using h)
    exact ⟨k + 1, by simpa using k1, by simpa using k2⟩
   | false =>
    simp only [und, cond_false, List.mem_cons] at h
    rcases h with rfl | h
    ·exact ⟨0, rfl, rfl⟩
    ·obtain ⟨k, k1, k2⟩ := ih.1 h
     exact ⟨k + 1, by simpa using k1, by simpa using k2⟩
  ·rintro ⟨k, k1, k2⟩
   cases k with
   | zero =>
    simp only [List.getElem?_cons_zero, Option.some.injEq] at k1 k2
    subst k1 k2
    simp [und]
   | succ k =>
    have := ih.2 ⟨k, by simpa using k1, by simpa using k2⟩
    cases e <;> simp [und, this]
theorem und_set : ∀ (l : List EditD) (d : List Bool) (b : Nat) (x : EditD), l[b]? = some x → d[b]? = some false → List.Perm (und l d) (x :: und l (d.set b true))
 | [], d, b, x, h, _ => by simp at h
 | y :: l, [], b, x, _, h => by simp at h
 | y :: l, e :: d, 0, x, h1, h2 => by
  simp only [List.getElem?_cons_zero, Option.some.injEq] at h1 h2
  subst h1 h2
  simp [und]
 | y :: l, e :: d, b + 1, x, h1, h2 => by
  have ih := und_set l d b x (by simpa using h1) (by simpa using h2)
  cases e with
  | true => simpa [und] using ih
  | false =>
   simp only [und, cond_false, List.set_cons_succ]
   exact (ih.cons y).trans (List.Perm.swap x y _)
def Best (l : List EditD) (d : List Bool) (i : Nat) (v : Int) : Prop :=
 (v = -1 ∧ ∀ j, j < i → d[j]? = some true) ∨ ∃ (b : Nat) (x : EditD), v = (b : Int) ∧ l[b]? = some x ∧ d[b]? = some false ∧ ∀ (j : Nat) (y : EditD), j < i → l[j]? = some y → d[j]? = some false → ¬ lt x y
theorem l5_0 (l : List EditD) (d : List Bool) (hd : d.length = l.length) (hb : l.length ≤ 1000) : ∀ (k i : Nat) (v : Int), i + k = l.length → Best l d i v →
  ∃ w, runL (fun s => L5_0_2 l l.length d s.1 s.2) (v, (i : Int)) = some (.k0 w) ∧ Best l d l.length w
 | 0, i, v, hi, h => by
  obtain rfl : i = l.length := by omega
  exact ⟨v, runL_done (by simp [L5_0_2]), h⟩
 | k + 1, i, v, hi, h => by
  have hx : l[i]? = some (l[i]'(by omega)) := geg _
  have hdi : d[i]? = some (d[i]'(by omega)) := geg _
  generalize l[i]'(by omega) = x at hx
  generalize d[i]'(by omega) = e at hdi
  have hlt : decide ((i : Int) < (l.length : Int)) = true := decide_eq_true (by omega)
  have i1 : ixN l.length (i : Int) = some i := by rw [ixN_nat, if_pos (by omega)]
  have hS := w_S (show i < 4611686018427387904 by omega)
  have go : ∀ v', L5_0_2 l l.length d v (i : Int) = some (.inr (v', ((i + 1 : Nat) : Int))) → Best l d (i + 1) v' → ∃ w, runL (fun s => L5_0_2 l l.length d s.1 s.2) (v, (i : Int)) = some (.k0 w) ∧ Best l d l.length w := by
   intro v' hs hb'
   obtain ⟨w, w1, w2⟩ := l5_0 l d hd hb k (i + 1) v' (by omega) hb'
   exact ⟨w, by rw [runL_next (s' := (v', ((i + 1 : Nat) : Int))) hs]; exact w1, w2⟩
  cases e with
  | true =>
   refine go v (by simp only [L5_0_2, hlt, cond_true, i1, bsm, hdi, hS]) ?_
   rcases h with ⟨h1, h2⟩ | ⟨b, y, h1, h2, h3, h4⟩
   ·refine .inl ⟨h1, fun j hj => ?_⟩
    by_cases ej : j = i
    ·rw [ej]; exact hdi
    ·exact h2 j (by omega)
   ·refine .inr ⟨b, y, h1, h2, h3, fun j z hj hz hz2 => ?_⟩
    by_cases ej : j = i
    ·rw [ej, hdi] at hz2; cases hz2
    ·exact h4 j z (by omega) hz hz2
  | false =>
   rcases h with ⟨h1, h2⟩ | ⟨b, y, h1, h2, h3, h4⟩
   ·refine go (i : Int) (by rw [h1]; simp only [L5_0_2, hlt, cond_true, cond_false, i1, bsm, hdi, hS, decide_eq_true (show (-1 : Int) < 0 by omega)]) ?_
    refine .inr ⟨i, x, rfl, hx, hdi, fun j z hj hz hz2 => ?_⟩
    by_cases ej : j = i
    ·rw [ej, hx] at hz; cases hz; unfold lt; omega
    ·rw [h2 j (by omega)] at hz2; cases hz2
   ·subst h1
    have hneg : decide (((b : Nat) : Int) < 0) = false := decide_eq_false (by omega)
    by_cases hl : lt y x
    ·refine go (i : Int) ?_ (.inr ⟨i, x, rfl, hx, hdi, fun j z hj hz hz2 => ?_⟩)
     ·simp only [L5_0_2, hlt, cond_true, cond_false, i1, bsm, hdi, hneg, getI_nat, hx, h2, hS]
      unfold lt at hl
      by_cases c1 : x.frm > y.frm
      ·rw [decide_eq_true c1]; rfl
      ·have c2 : x.frm = y.frm := by omega
       rw [decide_eq_false c1, c2, decide_eq_true (show x.til > y.til by omega)]
       simp
     ·by_cases ej : j = i
      ·rw [ej, hx] at hz; cases hz; unfold lt; omega
      ·have := h4 j z (by omega) hz hz2
       unfold lt at hl this ⊢; omega
    ·refine go (b : Int) ?_ (.inr ⟨b, y, rfl, h2, h3, fun j z hj hz hz2 => ?_⟩)
     ·simp only [L5_0_2, hlt, cond_true, cond_false, i1, bsm, hdi, hneg, getI_nat, hx, h2, hS]
      unfold lt at hl
      by_cases c1 : x.frm = y.frm
      ·rw [decide_eq_false (show ¬ x.frm > y.frm by omega), c1, decide_eq_false (show ¬ x.til > y.til by omega)]
       simp
      ·rw [decide_eq_false (show ¬ x.frm > y.frm by omega), beqF' c1]
       simp
     ·by_cases ej : j = i
      ·rw [ej, hx] at hz; cases hz; exact hl
      ·exact h4 j z (by omega) hz hz2
def start (n : Nat) : List EditD → Nat
 | [] => n
 | e :: _ => e.frm.toNat
def mid (A : List UInt8) : List EditD → List UInt8
 | [] => []
 | e :: q => e.text.data.toList ++ (A.take (start A.length q)).drop e.til.toNat ++ mid A q
def now (A : List UInt8) (q : List EditD) : List UInt8 := A.take (start A.length q) ++ mid A q
theorem apl_now (A : List UInt8) : ∀ (s : List EditD) (at_ : Nat), apl A at_ s = (A.take (start A.length s)).drop at_ ++ mid A s
 | [], at_ => by simp [apl, start, mid]
 | e :: s, at_ => by simp only [apl, mid, apl_now A s, start, List.append_assoc]
theorem now_all (A : List UInt8) (s : List EditD) : now A s = apl A 0 s := by rw [apl_now]; rfl
theorem lt_next {n : Nat} {y x : EditD} (h : okE y x) (hy : rgE n y) (hx : rgE n x) : lt y x := by
 obtain ⟨h1, h2⟩ := h
 obtain ⟨y1, y2, y3⟩ := hy
 obtain ⟨x1, x2, x3⟩ := hx
 unfold lt
 omega
theorem strict : ∀ (s : List EditD), (∀ (j : Nat) (y x : EditD), s[j]? = some y → s[j + 1]? = some x → lt y x) → s.Pairwise lt
 | [], _ => List.Pairwise.nil
 | [a], _ => by simp
 | a :: b :: s, h => by
  have ih := strict (b :: s) (fun j y x h1 h2 => h (j + 1) y x (by simpa using h1) (by simpa using h2))
  have hab := h 0 a b rfl rfl
  refine List.pairwise_cons.2 ⟨fun z hz => ?_, ih⟩
  rcases List.mem_cons.1 hz with rfl | hz
  ·exact hab
  ·have := (List.pairwise_cons.1 ih).1 z hz
   unfold lt at hab this ⊢; omega
theorem q14 (a : ByteArray) (l : List EditD) : ∃ v, F14 a l = some v ∧ (v = false → a.size ≤ 3000 ∧ l.length ≤ 20 ∧ ∀ d ∈ l, d.text.size ≤ 3000) := by
 unfold F14
 by_cases c1 : (a.size : Int) > 3000
 ·rw [decide_eq_true c1]; exact ⟨true, rfl, fun e => by cases e⟩
 rw [decide_eq_false c1]
 by_cases c2 : (l.length : Int) > 20
 ·rw [decide_eq_true c2]; exact ⟨true, rfl, fun e => by cases e⟩
 rw [decide_eq_false c2]
 simp only [cond_false]
 have key := loop_list (step := fun s => L14_0 l s) (l := l) (fun _ d => !decide ((d.text.size : Int) > 3000)) (bad := E_L14_0.k0) (fin := .k1) (fun i x hx => by
  have hi : i < l.length := (gei.1 hx).1
  simp only [L14_0, getI_nat, hx, bsm, decide_eq_true (show (i : Int) < (l.length : Int) by omega), cond_true, w_S (show i < 4611686018427387904 by omega)]
  cases decide ((x.text.size : Int) > 3000) <;> rfl) (by simp [L14_0])
 rw [key]
 cases hc : allF (fun _ (d : EditD) => !decide ((d.text.size : Int) > 3000)) 0 l with
 | false => exact ⟨true, rfl, fun e => by cases e⟩
 | true =>
  refine ⟨false, rfl, fun _ => ⟨by omega, by omega, fun d hd => ?_⟩⟩
  obtain ⟨j, hj⟩ := List.getElem?_of_mem hd
  have := (allF_iff _ _).1 hc j d hj
  simp at this
  omega
theorem l5_1 (Nf : Nat) {a : ByteArray} {l : List EditD} (ha : a.size ≤ 3000) (h20 : l.length ≤ 20) (hx : ∀ d ∈ l, d.text.size ≤ 3000) (hr : ∀ d ∈ l, rgE a.size d)
  (hok : ∀ (j : Nat) (y x : EditD), (srt l)[j]? = some y → (srt l)[j + 1]? = some x → okE y x) : ∀ (k i : Nat) (t : ByteArray) (d : List Bool) (p q : List EditD), i + k = l.length → srt l = p ++ q → q.length = i → d.length = l.length →
  List.Perm (und l d) p → t.data.toList = now a.data.toList q → t.size ≤ 3000 + 3000 * i →
  ∃ d', runL (fun s => L5_1 Nf l l.length s.1 s.2.1 s.2.2) (t, (i : Int), d) = some (.k1 ⟨(apl a.data.toList 0 (srt l)).toArray⟩ d')
 | 0, i, t, d, p, q, hi, hs, hq, hd, hu, ht, hz => by
  have hlen := srt_len l
  rw [hs, lap] at hlen
  have hp : p = [] := List.eq_nil_of_length_eq_zero (by omega)
  subst hp
  rw [List.nil_append] at hs
  have he : t = ⟨(apl a.data.toList 0 (srt l)).toArray⟩ := by
   rw [hs, ← now_all, ← ht]
  refine ⟨d, runL_done ?_⟩
  simp only [L5_1, decide_eq_false (show ¬ (i : Int) < (l.length : Int) by omega), cond_false]
  rw [← he]
 | k + 1, i, t, d, p, q, hi, hs, hq, hd, hu, ht, hz => by
  have hlen := srt_len l
  have hpm := srt_perm l
  rw [hs, lap] at hlen
  have hA : a.data.toList.length = a.size := len_d a
  have hpne : p ≠ [] := fun e => by rw [e] at hlen; simp at hlen; omega
  obtain ⟨p', e, rfl⟩ : ∃ p' e, p = p' ++ [e] := ⟨p.dropLast, p.getLast hpne, (List.dropLast_concat_getLast hpne).symm⟩
  have hse : srt l = p' ++ e :: q := by rw [hs]; simp
  have hall : ∀ z, z ∈ srt l → z ∈ l := fun z hz => hpm.mem_iff.1 hz
  have hrs : ∀ z, z ∈ srt l → rgE a.size z := fun z hz => hr z (hall z hz)
  have hst : (srt l).Pairwise lt := strict (srt l) (fun j y x h1 h2 => lt_next (hok j y x h1 h2) (hrs y (mog h1)) (hrs x (mog h2)))
  have heS : e ∈ srt l := by rw [hse]; simp
  obtain ⟨r1, r2, r3⟩ := hrs e heS
  have het := hx e (hall e heS)
  have e0 : ((0 : Nat) : Int) = 0 := rfl
  obtain ⟨w, w1, w2⟩ := l5_0 l d hd (by omega) l.length 0 (-1) (by omega) (.inl ⟨rfl, fun j hj => by omega⟩)
  rw [e0] at w1
  have heu : e ∈ und l d := hu.mem_iff.2 (by simp)
  obtain ⟨je, je1, je2⟩ := (und_mem l d e).1 heu
  have hje : je < l.length := (gei.1 je1).1
  rcases w2 with ⟨_, h2⟩ | ⟨b, x, rfl, hb1, hb2, hb3⟩
  ·rw [h2 je hje] at je2; cases je2
  have hxe : x = e := by
   have hxp := hu.mem_iff.1 ((und_mem l d x).2 ⟨b, hb1, hb2⟩)
   rcases List.mem_append.1 hxp with h | h
   ·exfalso
    rw [hse, List.pairwise_append] at hst
    exact hb3 je e hje je1 je2 (hst.2.2 x h e (by simp))
   ·simpa using h
  subst hxe
  have hbl : b < l.length := (gei.1 hb1).1
  obtain ⟨f, hf⟩ : ∃ f : Nat, x.frm = (f : Int) := ⟨x.frm.toNat, by omega⟩
  obtain ⟨u, huu⟩ : ∃ u : Nat, x.til = (u : Int) := ⟨x.til.toNat, by omega⟩
  have hus : u ≤ start a.data.toList.length q := by
   cases q with
   | nil => simp only [start]; omega
   | cons y q =>
    have h1 : (srt l)[p'.length]? = some x := by rw [hse, gar (Nat.le_refl _)]; simp
    have h2 : (srt l)[p'.length + 1]? = some y := by rw [hse, gar (by omega)]; simp
    have := (hok p'.length x y h1 h2).1
    simp only [start]
    omega
  have hsl : start a.data.toList.length q ≤ a.data.toList.length := by
   cases q with
   | nil => exact Nat.le_refl _
   | cons y q =>
    have := hrs y (by rw [hse]; simp)
    obtain ⟨y1, y2, y3⟩ := this
    simp only [start]
    omega
  have htl : t.size = start a.data.toList.length q + (mid a.data.toList q).length := by
   rw [← len_d, ht]; unfold now
   rw [lap, List.length_take]; omega
  have h13 := q13 (a := t) Nf x.text (by omega) het (n := f) (k := u) (by omega) (by omega)
  have hxeq : (⟨x.frm, x.til, x.text⟩ : EditD) = ⟨(f : Int), (u : Int), x.text⟩ := by rw [hf, huu]
  have hnew : t.data.toList.take f ++ x.text.data.toList ++ t.data.toList.drop u = now a.data.toList (x :: q) := by
   rw [ht]
   unfold now
   have m1 : mid a.data.toList (x :: q) = x.text.data.toList ++ (a.data.toList.take (start a.data.toList.length q)).drop x.til.toNat ++ mid a.data.toList q := rfl
   have m2 : start a.data.toList.length (x :: q) = x.frm.toNat := rfl
   rw [m1, m2, hf, huu, Int.toNat_natCast, Int.toNat_natCast]
   rw [List.take_append_of_le_length (by rw [List.length_take]; omega), List.drop_append_of_le_length (by rw [List.length_take]; omega), List.take_take, Nat.min_eq_left (show f ≤ start a.data.toList.length q by omega)]
   simp only [List.append_assoc]
  rw [hnew] at h13
  have i1 : ixN l.length (b : Int) = some b := by rw [ixN_nat, if_pos hbl]
  have h00 : ((0 : Int) != 0) = false := rfl
  have hstep : L5_1 Nf l l.length t (i : Int) d = some (.inr (⟨(now a.data.toList (x :: q)).toArray⟩, ((i + 1 : Nat) : Int), d.set b true)) := by
   simp only [L5_1, decide_eq_true (show (i : Int) < (l.length : Int) by omega), cond_true, w1, bsm, i1, hb2, getI_nat, hb1, hxeq, h13, h00, cond_false, w_S (show i < 4611686018427387904 by omega)]
  rw [runL_next (s' := ((⟨(now a.data.toList (x :: q)).toArray⟩ : ByteArray), ((i + 1 : Nat) : Int), d.set b true)) hstep]
  have hu2 : List.Perm (und l (d.set b true)) p' := by
   have h1 := (und_set l d b x hb1 hb2).symm.trans (hu.trans (List.perm_append_comm (l₁ := p') (l₂ := [x])))
   exact (List.perm_cons x).1 (by simpa using h1)
  have hsz : (now a.data.toList (x :: q)).length ≤ 3000 + 3000 * (i + 1) := by
   rw [← hnew]
   simp only [lap, List.length_take, List.length_drop, len_d]
   omega
  refine l5_1 Nf ha h20 hx hr hok k (i + 1) _ (d.set b true) p' (x :: q) (by omega) hse (by simp [hq]) (by simpa using hd) hu2 (by simp) ?_
  show (now a.data.toList (x :: q)).toArray.size ≤ _
  simpa using hsz
theorem law5 (Nf : Nat) (a : ByteArray) (l : List EditD) : F5 Nf a l = some true := by
 obtain ⟨v, h14, hv⟩ := q14 a l
 unfold F5
 rw [h14]
 simp only [bsm]
 cases v with
 | true => rfl
 | false =>
  obtain ⟨ha, h20, hx⟩ := hv rfl
  simp only [cond_false]
  rcases q13l Nf (a := a) (by omega) h20 hx with ⟨e, he, h⟩ | ⟨h, hr, hok⟩
  ·have hne : (e != 0) = true := bneT he
   rw [h]
   simp only [bsm, hne, cond_true, beq_self_eq_true, F9]
  ·have h00 : ((0 : Int) != 0) = false := rfl
   have hmk : mkOk (l.length : Int) 1 = true := by unfold mkOk limit47; exact decide_eq_true (by omega)
   have hund : ∀ l : List EditD, und l (List.replicate l.length false) = l := by
    intro l
    induction l with
    | nil => rfl
    | cons x l ih => simp only [lcn, List.replicate_succ, und, cond_false, ih]
   have e0 : ((0 : Nat) : Int) = 0 := rfl
   obtain ⟨d', hl⟩ := l5_1 Nf ha h20 hx hr hok l.length 0 a (List.replicate l.length false) (srt l) [] (by omega) (by simp) rfl (by simp) (by rw [hund]; exact (srt_perm l).symm) (by simp only [now, start, mid, List.append_nil, List.take_length]) (by omega)
   rw [e0] at hl
   rw [h]
   simp only [bsm, h00, cond_false, hmk, cond_true, Int.toNat_natCast, hl, beq_self_eq_true, F9]
end Go.Proofs.Tryd
