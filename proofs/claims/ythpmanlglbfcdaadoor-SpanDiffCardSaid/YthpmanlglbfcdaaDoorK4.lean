/- SpanDiff: the law is true of any two texts. Plain data alone. -/
import Derived.Test.YthpmanlglbfcdaaDoorH42
import Derived.Test.YthpmanlglbfcdaaDoorVE
open Option renaming bind_some → bsm
open List renaming take_of_length_le → tol
namespace Go.Proofs.Tryd
set_option linter.unusedSimpArgs false
set_option linter.unusedVariables false
open Go Go.Vs
theorem ba_self (s : ByteArray) : (s == s) = true := by
 rw [beq_toListBytes]; exact beq_self_eq_true _
def ext (c : Nat → Bool) : Nat → Nat → Nat
 | 0, i => i
 | k + 1, i => bif c i then ext c k (i + 1) else i
theorem ext_le (c : Nat → Bool) : ∀ (k i : Nat), i ≤ ext c k i ∧ ext c k i ≤ i + k ∧ ∀ t, i ≤ t → t < ext c k i → c t = true
 | 0, i => ⟨Nat.le_refl _, Nat.le_refl _, fun t h1 h2 => absurd h2 (by simp only [ext]; omega)⟩
 | k + 1, i => by
  simp only [ext]
  cases hc : c i with
  | false => exact ⟨Nat.le_refl _, by simp only [cond_false]; omega, fun t h1 h2 => absurd h2 (by simp only [cond_false]; omega)⟩
  | true =>
   obtain ⟨h1, h2, h3⟩ := ext_le c k (i + 1)
   simp only [cond_true]
   refine ⟨by omega, by omega, fun t g1 g2 => ?_⟩
   by_cases e : t = i
   ·rw [e]; exact hc
   ·exact h3 t (by omega) g2
theorem loop_ext {E : Type} {step : Int → Option (E ⊕ Int)} {fin : Int → E} (c : Nat → Bool) {N : Nat} (h : ∀ i : Nat, i ≤ N → step (i : Int) = some (bif decide (i < N) && c i then .inr ((i + 1 : Nat) : Int) else .inl (fin (i : Int)))) :
  ∀ (k i : Nat), i + k = N → runL step (i : Int) = some (fin ((ext c k i : Nat) : Int))
 | 0, i, hi => by
  have := h i (by omega)
  rw [decide_eq_false (by omega)] at this
  exact runL_done this
 | k + 1, i, hi => by
  have hs := h i (by omega)
  rw [decide_eq_true (show i < N by omega), Bool.true_and] at hs
  simp only [ext]
  cases hc : c i with
  | false => rw [hc] at hs; exact runL_done hs
  | true =>
   rw [hc] at hs
   rw [runL_next hs]
   exact loop_ext c h k (i + 1) (by omega)
section
variable {a b : ByteArray}
def by_ (a : ByteArray) (i : Nat) : UInt8 := (a.data.toList[i]?).getD 0
theorem len_d (a : ByteArray) : a.data.toList.length = a.size := by rw [Array.length_toList]; rfl
theorem at_d {a : ByteArray} {i : Nat} (h : i < a.size) : a.data.toList[i]? = some (by_ a i) := by
 unfold by_
 rw [List.getElem?_eq_getElem (by rw [len_d]; exact h)]
 rfl
theorem u8_eq (x y : UInt8) : (((x.toNat : Nat) : Int) == ((y.toNat : Nat) : Int)) = decide (x = y) := by
 by_cases h : x = y
 ·subst h; simp
 ·rw [decide_eq_false h]
  have : ¬ x.toNat = y.toNat := fun e => h (UInt8.toNat_inj.1 e)
  simpa using fun e => this (by omega)
def nO (a b : ByteArray) : Nat := ext (fun i => decide (by_ a i = by_ b i)) (min a.size b.size) 0
def mO (a b : ByteArray) (n : Nat) : Nat := ext (fun i => decide (by_ a (a.size - 1 - i) = by_ b (b.size - 1 - i))) (min (a.size - n) (b.size - n)) 0
theorem nO_le : nO a b ≤ a.size ∧ nO a b ≤ b.size := by
 have := (ext_le (fun i => decide (by_ a i = by_ b i)) (min a.size b.size) 0).2.1
 unfold nO
 omega
theorem mO_le (n : Nat) : mO a b n ≤ a.size - n ∧ mO a b n ≤ b.size - n := by
 have := (ext_le (fun i => decide (by_ a (a.size - 1 - i) = by_ b (b.size - 1 - i))) (min (a.size - n) (b.size - n)) 0).2.1
 unfold mO
 omega
theorem l12_1 (ha : a.size ≤ 3000) (hb : b.size ≤ 3000) : runL (fun s => L12_1 a b s) 0 = some (.k0 ((nO a b : Nat) : Int)) := by
 refine loop_ext (step := fun s => L12_1 a b s) (fin := fun v => E_L12_1.k0 v) (fun i => decide (by_ a i = by_ b i)) (N := min a.size b.size) (fun i hi => ?_) (min a.size b.size) 0 (by omega)
 simp only [L12_1]
 by_cases h1 : i < a.size
 ·by_cases h2 : i < b.size
  ·simp only [decide_eq_true (show (i : Int) < (a.size : Int) by omega), decide_eq_true (show (i : Int) < (b.size : Int) by omega), decide_eq_true (show i < min a.size b.size by omega), cond_true, getI_nat, at_d h1, at_d h2, bsm, u8_eq, Bool.true_and, w_S (show i < 4611686018427387904 by omega)]
   cases decide (by_ a i = by_ b i) <;> rfl
  ·simp only [decide_eq_true (show (i : Int) < (a.size : Int) by omega), decide_eq_false (show ¬ (i : Int) < (b.size : Int) by omega), decide_eq_false (show ¬ i < min a.size b.size by omega), cond_true, cond_false, Bool.false_and]
 ·simp only [decide_eq_false (show ¬ (i : Int) < (a.size : Int) by omega), decide_eq_false (show ¬ i < min a.size b.size by omega), cond_false, Bool.false_and]
theorem l12_0 (ha : a.size ≤ 3000) (hb : b.size ≤ 3000) {n : Nat} (h1 : n ≤ a.size) (h2 : n ≤ b.size) : runL (fun s => L12_0 a b (n : Int) s) 0 = some (.k0 ((mO a b n : Nat) : Int)) := by
 refine loop_ext (step := fun s => L12_0 a b (n : Int) s) (fin := fun v => E_L12_0.k0 v) (fun i => decide (by_ a (a.size - 1 - i) = by_ b (b.size - 1 - i))) (N := min (a.size - n) (b.size - n)) (fun i hi => ?_) (min (a.size - n) (b.size - n)) 0 (by omega)
 have e1 : IntKind.wrap .i64 ((a.size : Int) - (n : Int)) = (a.size : Int) - n := w_id (by omega)
 have e2 : IntKind.wrap .i64 ((b.size : Int) - (n : Int)) = (b.size : Int) - n := w_id (by omega)
 simp only [L12_0, e1, e2]
 by_cases g1 : i < a.size - n
 ·by_cases g2 : i < b.size - n
  ·have f1 : IntKind.wrap .i64 (IntKind.wrap .i64 ((a.size : Int) - 1) - (i : Int)) = ((a.size - 1 - i : Nat) : Int) := by
    rw [w_id (x := (a.size : Int) - 1) (by omega), w_id (by omega)]; omega
   have f2 : IntKind.wrap .i64 (IntKind.wrap .i64 ((b.size : Int) - 1) - (i : Int)) = ((b.size - 1 - i : Nat) : Int) := by
    rw [w_id (x := (b.size : Int) - 1) (by omega), w_id (by omega)]; omega
   simp only [decide_eq_true (show (i : Int) < (a.size : Int) - n by omega), decide_eq_true (show (i : Int) < (b.size : Int) - n by omega), decide_eq_true (show i < min (a.size - n) (b.size - n) by omega), cond_true, f1, f2, getI_nat, at_d (show a.size - 1 - i < a.size by omega), at_d (show b.size - 1 - i < b.size by omega), bsm, u8_eq, Bool.true_and, w_S (show i < 4611686018427387904 by omega)]
   cases decide (by_ a (a.size - 1 - i) = by_ b (b.size - 1 - i)) <;> rfl
  ·simp only [decide_eq_true (show (i : Int) < (a.size : Int) - n by omega), decide_eq_false (show ¬ (i : Int) < (b.size : Int) - n by omega), decide_eq_false (show ¬ i < min (a.size - n) (b.size - n) by omega), cond_true, cond_false, Bool.false_and]
 ·simp only [decide_eq_false (show ¬ (i : Int) < (a.size : Int) - n by omega), decide_eq_false (show ¬ i < min (a.size - n) (b.size - n) by omega), cond_false, Bool.false_and]
theorem l4_1 (ha : a.size ≤ 3000) (hb : b.size ≤ 3000) : runL (fun s => L4_1 a b s) 0 = some (.k0 ((nO a b : Nat) : Int)) := by
 refine loop_ext (step := fun s => L4_1 a b s) (fin := fun v => E_L4_1.k0 v) (fun i => decide (by_ a i = by_ b i)) (N := min a.size b.size) (fun i hi => ?_) (min a.size b.size) 0 (by omega)
 simp only [L4_1]
 by_cases h1 : i < a.size
 ·by_cases h2 : i < b.size
  ·simp only [decide_eq_true (show (i : Int) < (a.size : Int) by omega), decide_eq_true (show (i : Int) < (b.size : Int) by omega), decide_eq_true (show i < min a.size b.size by omega), cond_true, getI_nat, at_d h1, at_d h2, bsm, u8_eq, Bool.true_and, w_S (show i < 4611686018427387904 by omega)]
   cases decide (by_ a i = by_ b i) <;> rfl
  ·simp only [decide_eq_true (show (i : Int) < (a.size : Int) by omega), decide_eq_false (show ¬ (i : Int) < (b.size : Int) by omega), decide_eq_false (show ¬ i < min a.size b.size by omega), cond_true, cond_false, Bool.false_and]
 ·simp only [decide_eq_false (show ¬ (i : Int) < (a.size : Int) by omega), decide_eq_false (show ¬ i < min a.size b.size by omega), cond_false, Bool.false_and]
theorem l4_0 (ha : a.size ≤ 3000) (hb : b.size ≤ 3000) {n : Nat} (h1 : n ≤ a.size) (h2 : n ≤ b.size) : runL (fun s => L4_0 a b (n : Int) s) 0 = some (.k0 ((mO a b n : Nat) : Int)) := by
 refine loop_ext (step := fun s => L4_0 a b (n : Int) s) (fin := fun v => E_L4_0.k0 v) (fun i => decide (by_ a (a.size - 1 - i) = by_ b (b.size - 1 - i))) (N := min (a.size - n) (b.size - n)) (fun i hi => ?_) (min (a.size - n) (b.size - n)) 0 (by omega)
 have e1 : IntKind.wrap .i64 ((a.size : Int) - (n : Int)) = (a.size : Int) - n := w_id (by omega)
 have e2 : IntKind.wrap .i64 ((b.size : Int) - (n : Int)) = (b.size : Int) - n := w_id (by omega)
 simp only [L4_0, e1, e2]
 by_cases g1 : i < a.size - n
 ·by_cases g2 : i < b.size - n
  ·have f1 : IntKind.wrap .i64 (IntKind.wrap .i64 ((a.size : Int) - 1) - (i : Int)) = ((a.size - 1 - i : Nat) : Int) := by
    rw [w_id (x := (a.size : Int) - 1) (by omega), w_id (by omega)]; omega
   have f2 : IntKind.wrap .i64 (IntKind.wrap .i64 ((b.size : Int) - 1) - (i : Int)) = ((b.size - 1 - i : Nat) : Int) := by
    rw [w_id (x := (b.size : Int) - 1) (by omega), w_id (by omega)]; omega
   simp only [decide_eq_true (show (i : Int) < (a.size : Int) - n by omega), decide_eq_true (show (i : Int) < (b.size : Int) - n by omega), decide_eq_true (show i < min (a.size - n) (b.size - n) by omega), cond_true, f1, f2, getI_nat, at_d (show a.size - 1 - i < a.size by omega), at_d (show b.size - 1 - i < b.size by omega), bsm, u8_eq, Bool.true_and, w_S (show i < 4611686018427387904 by omega)]
   cases decide (by_ a (a.size - 1 - i) = by_ b (b.size - 1 - i)) <;> rfl
  ·simp only [decide_eq_true (show (i : Int) < (a.size : Int) - n by omega), decide_eq_false (show ¬ (i : Int) < (b.size : Int) - n by omega), decide_eq_false (show ¬ i < min (a.size - n) (b.size - n) by omega), cond_true, cond_false, Bool.false_and]
 ·simp only [decide_eq_false (show ¬ (i : Int) < (a.size : Int) - n by omega), decide_eq_false (show ¬ i < min (a.size - n) (b.size - n) by omega), cond_false, Bool.false_and]
theorem same_front {n : Nat} (h1 : n ≤ a.size) (h2 : n ≤ b.size) (h : ∀ t, t < n → by_ a t = by_ b t) : a.data.toList.take n = b.data.toList.take n := by
 refine List.ext_getElem? fun i => ?_
 rw [List.getElem?_take, List.getElem?_take]
 by_cases hi : i < n
 ·rw [if_pos hi, if_pos hi, at_d (by omega), at_d (by omega), h i hi]
 ·rw [if_neg hi, if_neg hi]
theorem same_back {m : Nat} (h1 : m ≤ a.size) (h2 : m ≤ b.size) (h : ∀ t, t < m → by_ a (a.size - 1 - t) = by_ b (b.size - 1 - t)) : a.data.toList.drop (a.size - m) = b.data.toList.drop (b.size - m) := by
 refine List.ext_getElem? fun i => ?_
 rw [List.getElem?_drop, List.getElem?_drop]
 by_cases hi : i < m
 ·rw [at_d (by omega), at_d (by omega)]
  have := h (m - 1 - i) (by omega)
  rw [show a.size - 1 - (m - 1 - i) = a.size - m + i by omega, show b.size - 1 - (m - 1 - i) = b.size - m + i by omega] at this
  rw [this]
 ·rw [List.getElem?_eq_none (by rw [len_d]; omega), List.getElem?_eq_none (by rw [len_d]; omega)]
theorem ex_list (s : ByteArray) (i j : Nat) : (s.extract i j).data.toList = (s.data.toList.take j).drop i := by
 simp [List.drop_take]
theorem sb_len (s : ByteArray) : (sbytes s).length = s.size := by unfold sbytes; rw [List.length_map, len_d]
theorem bstr_sb (l : List UInt8) : bstr (l.map fun b => ((b.toNat : Nat) : Int)) = ⟨l.toArray⟩ := by
 unfold bstr
 congr 2
 rw [List.map_map]
 conv => rhs; rw [← List.map_id l]
 refine List.map_congr_left (fun x _ => ?_)
 simp
theorem splice_app {α : Type} {l y : List α} {n : Nat} (h : n + y.length ≤ l.length) : (splice l n y).take (n + y.length) = l.take n ++ y ∧ (splice l n y).length = l.length := by
 unfold splice
 refine ⟨?_, by simp; omega⟩
 have : (l.take n ++ y).length = n + y.length := by simp; omega
 rw [← this, List.take_left]
theorem q26_4 (s : ByteArray) (c : Bool) {gen len : Nat} {lo : Int} {l : List Int} (hl : len ≤ l.length) (hlo : 0 ≤ lo ∧ lo + s.size ≤ 1048576) (hlen : len ≤ 20000) (hs : s.size ≤ 3000) :
  ∃ g' l', F26_4 s c gen len lo l = some (.k0 true g' (len + s.size) l') ∧ len + s.size ≤ l'.length ∧ l'.take (len + s.size) = l.take len ++ sbytes s := by
 have e1 : IntKind.wrap .i64 (lo + (s.size : Int)) = lo + s.size := w_id (by omega)
 have h52 : F52_2 c = some true := by cases c <;> rfl
 have hap : apOk len (sbytes s).length l.length 1 = true := by rw [sb_len]; exact decide_eq_true ⟨hl, by unfold limit47; omega, by unfold limit47; omega⟩
 unfold F26_4 F37_4
 rw [e1, decide_eq_true (by omega), h52]
 simp only [cond_true, bsm, hap]
 by_cases hc : len + (sbytes s).length ≤ l.length
 ·obtain ⟨s1, s2⟩ := splice_app hc
  rw [decide_eq_true hc]
  rw [sb_len] at hc s1 ⊢
  exact ⟨_, _, rfl, by rw [s2]; exact hc, s1⟩
 ·rw [decide_eq_false hc]
  rw [sb_len]
  refine ⟨_, _, rfl, by simp [sb_len]; omega, ?_⟩
  exact tol (by simp [sb_len]; omega)
theorem q26_5 (s : ByteArray) (c : Bool) {gen len : Nat} {lo : Int} {l : List Int} (hl : len ≤ l.length) (hlo : 0 ≤ lo ∧ lo + s.size ≤ 1048576) (hlen : len ≤ 20000) (hs : s.size ≤ 3000) :
  ∃ g' l', F26_5 s c gen len lo l = some (.k0 true g' (len + s.size) l') ∧ len + s.size ≤ l'.length ∧ l'.take (len + s.size) = l.take len ++ sbytes s := by
 have e1 : IntKind.wrap .i64 (lo + (s.size : Int)) = lo + s.size := w_id (by omega)
 have h52 : F52_4 c = some true := by cases c <;> rfl
 have hap : apOk len (sbytes s).length l.length 1 = true := by rw [sb_len]; exact decide_eq_true ⟨hl, by unfold limit47; omega, by unfold limit47; omega⟩
 unfold F26_5 F37_5
 rw [e1, decide_eq_true (by omega), h52]
 simp only [cond_true, bsm, hap]
 by_cases hc : len + (sbytes s).length ≤ l.length
 ·obtain ⟨s1, s2⟩ := splice_app hc
  rw [decide_eq_true hc]
  rw [sb_len] at hc s1 ⊢
  exact ⟨_, _, rfl, by rw [s2]; exact hc, s1⟩
 ·rw [decide_eq_false hc]
  rw [sb_len]
  refine ⟨_, _, rfl, by simp [sb_len]; omega, ?_⟩
  exact tol (by simp [sb_len]; omega)
theorem q26_2 (d : EditD) (c : Bool) {gen len : Nat} {lo : Int} {l : List Int} (hl : len ≤ l.length) (hlo : 0 ≤ lo ∧ lo + d.text.size ≤ 1048576) (hlen : len ≤ 20000) (hs : d.text.size ≤ 3000) :
  ∃ g' l', F26_2 d c gen len lo l = some (.k0 true g' (len + d.text.size) l') ∧ len + d.text.size ≤ l'.length ∧ l'.take (len + d.text.size) = l.take len ++ sbytes d.text := by
 have e1 : IntKind.wrap .i64 (lo + (d.text.size : Int)) = lo + d.text.size := w_id (by omega)
 have h52 : F52_2 c = some true := by cases c <;> rfl
 have hap : apOk len (sbytes d.text).length l.length 1 = true := by rw [sb_len]; exact decide_eq_true ⟨hl, by unfold limit47; omega, by unfold limit47; omega⟩
 unfold F26_2 F37_2
 rw [e1, decide_eq_true (by omega), h52]
 simp only [cond_true, bsm, hap]
 by_cases hc : len + (sbytes d.text).length ≤ l.length
 ·obtain ⟨s1, s2⟩ := splice_app hc
  rw [decide_eq_true hc]
  rw [sb_len] at hc s1 ⊢
  exact ⟨_, _, rfl, by rw [s2]; exact hc, s1⟩
 ·rw [decide_eq_false hc]
  rw [sb_len]
  refine ⟨_, _, rfl, by simp [sb_len]; omega, ?_⟩
  exact tol (by simp [sb_len]; omega)
end
section
variable {a b : ByteArray}
theorem q24 {a : Int} {d : EditD} (h0 : 0 ≤ d.frm) (h1 : d.frm ≤ d.til) (h2 : d.til ≤ a) : F24 a [d] = some true := by
 have h41 : F41 d a = some false := by
  unfold F41
  rw [decide_eq_false (by omega), decide_eq_false (by omega), decide_eq_false (by omega)]
  rfl
 have g0 : getI [d] 0 = some d := rfl
 have e1 : IntKind.wrap .i64 (0 + 1) = 1 := by decide
 have k1 : L54_0 [d] a ((([d] : List EditD).length : Nat) : Int) 0 = some (.inr 1) := by
  simp only [L54_0, g0, bsm, h41, cond_false, e1]
  rfl
 have k2 : L54_0 [d] a ((([d] : List EditD).length : Nat) : Int) 1 = some (.inl .k1) := rfl
 unfold F24 F40 F54
 rw [runL_next (step := fun s => L54_0 [d] a ((([d] : List EditD).length : Nat) : Int) s) k1, runL_done (step := fun s => L54_0 [d] a ((([d] : List EditD).length : Nat) : Int) s) k2]
 rfl
theorem q25 (Nf : Nat) (d : EditD) : F25 Nf [d] = some (.k0 [d] 0) := by
 have h65 : F65_2 1 0 1 [d] = some [d] := by
  unfold F65_2
  have e1 : IntKind.wrap .i64 (0 + 1) = 1 := by decide
  rw [e1]
  have : runL (fun s => L65_1_2 1 0 1 s.1 s.2) ((1 : Int), [d]) = some (.k0 [d]) := runL_done rfl
  rw [this]
  rfl
 have h55 : F55 Nf (gnz [d]) 1 ((1 : Nat) : Int) [d] = some (.k0 [] [d]) := by
  unfold F55
  have k1 : runL (fun s => L55_2 1 ((1 : Nat) : Int) s.1 s.2.1 s.2.2) ((0 : Int), (20 : Int), [d]) = some (.k0 0 20 [d]) := runL_done rfl
  have k2 : runL (fun s => L55_1 Nf (gnz [d]) 1 ((1 : Nat) : Int) s.1 s.2.1 s.2.2) ((20 : Int), ([] : List EditD), [d]) = some (.k0 20 [] [d]) := runL_done rfl
  have h65' : F65_2 1 0 ((1 : Nat) : Int) [d] = some [d] := h65
  rw [k1]
  simp only [bsm, h65', k2]
 have h43 : F43 Nf (gnz [d]) 1 [d] = some (.k0 [] [d]) := by unfold F43; rw [h55]; rfl
 have k0 : L25_0 1 ((1 : Nat) : Int) [d] 0 = some (.inr 1) := by
  have e1 : IntKind.wrap .i64 (0 + 1) = 1 := by decide
  have i0 : ixN 1 0 = some 0 := rfl
  have g0 : ([d] : List EditD)[0]? = some d := rfl
  simp only [L25_0, i0, g0, bsm, e1, beq_self_eq_true, cond_true]
  rfl
 have k1 : L25_0 1 ((1 : Nat) : Int) [d] 1 = some (.inl .k1) := rfl
 have k2 : runL (fun s => L25_0 1 ((1 : Nat) : Int) [d] s) 0 = some .k1 := by rw [runL_next k0]; exact runL_done k1
 have k3 : runL (fun s => L25_1 1 [d]) () = some .k1 := runL_done (by simp only [L25_1, k2, bsm])
 have hc : clOk ([d] : List EditD).length 32 = true := by unfold clOk limit47; exact decide_eq_true ⟨by simp, by simp⟩
 unfold F25
 rw [hc]
 simp only [cond_true]
 show (F43 Nf (gnz [d]) 1 [d]).bind _ = _
 rw [h43]
 simp only [bsm]
 show (runL (fun s => L25_1 1 [d]) ()).bind _ = _
 rw [k3]
 rfl
theorem q13 (Nf : Nat) (x : ByteArray) (ha : a.size ≤ 3000) (hd : x.size ≤ 3000) {n k : Nat} (hn : n ≤ k) (hk : k ≤ a.size) :
  F13 Nf a [(⟨(n : Int), (k : Int), x⟩ : EditD)] = some (.k0 ⟨(a.data.toList.take n ++ x.data.toList ++ a.data.toList.drop k).toArray⟩ 0) := by
 have s1 : sl_ok 0 (n : Int) a.size = true := decide_eq_true ⟨by omega, by omega, by omega⟩
 have s2 : sl_ok (k : Int) (a.size : Int) a.size = true := decide_eq_true ⟨by omega, by omega, by omega⟩
 have x1 : (a.extract (Int.toNat 0) (Int.toNat (n : Int))).data.toList = a.data.toList.take n := by rw [ex_list]; rfl
 have x2 : (a.extract (Int.toNat (k : Int)) (Int.toNat (a.size : Int))).data.toList = a.data.toList.drop k := by
  rw [ex_list, Int.toNat_natCast, Int.toNat_natCast, tol (by rw [len_d]; exact Nat.le_refl _)]
 have n1 : (a.extract (Int.toNat 0) (Int.toNat (n : Int))).size = n := by rw [← len_d, x1, List.length_take, len_d]; omega
 have n2 : (a.extract (Int.toNat (k : Int)) (Int.toNat (a.size : Int))).size = a.size - k := by rw [← len_d, x2, List.length_drop, len_d]
 obtain ⟨g1, l1, u1, u2, u3⟩ := q26_4 (a.extract (Int.toNat 0) (Int.toNat (n : Int))) false (gen := 0) (len := 0) (lo := 0) (l := []) (Nat.le_refl _) (by omega) (by omega) (by omega)
 have w1 : IntKind.wrap .i64 (0 + ((a.extract (Int.toNat 0) (Int.toNat (n : Int))).size : Int)) = (n : Int) := by rw [w_id (by omega)]; omega
 obtain ⟨g2, l2, v1, v2, v3⟩ := q26_2 (⟨(n : Int), (k : Int), x⟩ : EditD) true (gen := g1) (len := 0 + (a.extract (Int.toNat 0) (Int.toNat (n : Int))).size) (lo := (n : Int)) (l := l1) u2 (by show 0 ≤ (n : Int) ∧ (n : Int) + (x.size : Int) ≤ 1048576; omega) (by omega) hd
 have w2 : IntKind.wrap .i64 ((n : Int) + (x.size : Int)) = (n : Int) + x.size := w_id (by omega)
 have hv2 : 0 + (a.extract (Int.toNat 0) (Int.toNat (n : Int))).size + x.size ≤ l2.length := v2
 obtain ⟨g3, l3, y1, y2, y3⟩ := q26_5 (a.extract (Int.toNat (k : Int)) (Int.toNat (a.size : Int))) true (gen := g2) (len := 0 + (a.extract (Int.toNat 0) (Int.toNat (n : Int))).size + x.size) (lo := (n : Int) + x.size) (l := l2) hv2 (by omega) (by omega) (by omega)
 have w3 : IntKind.wrap .i64 ((n : Int) + (x.size : Int) + ((a.extract (Int.toNat (k : Int)) (Int.toNat (a.size : Int))).size : Int)) = (n : Int) + x.size + (a.size - k : Nat) := by rw [n2, w_id (by omega)]
 have g0 : getI [(⟨(n : Int), (k : Int), x⟩ : EditD)] 0 = some (⟨(n : Int), (k : Int), x⟩ : EditD) := rfl
 have e1 : IntKind.wrap .i64 (0 + 1) = 1 := by decide
 have hdt : decide ((0 : Int) < ((([(⟨(n : Int), (k : Int), x⟩ : EditD)] : List EditD).length : Nat) : Int)) = true := rfl
 have k1 : L13_0 a [(⟨(n : Int), (k : Int), x⟩ : EditD)] ((([(⟨(n : Int), (k : Int), x⟩ : EditD)] : List EditD).length : Nat) : Int) 0 0 false 0 0 0 [] = some (.inr ((k : Int), 1, true, g2, 0 + (a.extract (Int.toNat 0) (Int.toNat (n : Int))).size + x.size, (n : Int) + x.size, l2)) := by
  unfold L13_0
  simp only [hdt, cond_true, g0, bsm, s1, u1, w1, v1, w2, e1]
 have k2 : L13_0 a [(⟨(n : Int), (k : Int), x⟩ : EditD)] ((([(⟨(n : Int), (k : Int), x⟩ : EditD)] : List EditD).length : Nat) : Int) (k : Int) 1 true g2 (0 + (a.extract (Int.toNat 0) (Int.toNat (n : Int))).size + x.size) ((n : Int) + x.size) l2 = some (.inl (.k0 (k : Int) true g2 (0 + (a.extract (Int.toNat 0) (Int.toNat (n : Int))).size + x.size) ((n : Int) + x.size) l2)) := rfl
 have k3 : runL (fun s => L13_0 a [(⟨(n : Int), (k : Int), x⟩ : EditD)] ((([(⟨(n : Int), (k : Int), x⟩ : EditD)] : List EditD).length : Nat) : Int) s.1 s.2.1 s.2.2.1 s.2.2.2.1 s.2.2.2.2.1 s.2.2.2.2.2.1 s.2.2.2.2.2.2) (0, 0, false, 0, 0, 0, []) =
   some (.k0 (k : Int) true g2 (0 + (a.extract (Int.toNat 0) (Int.toNat (n : Int))).size + x.size) ((n : Int) + x.size) l2) := by
  rw [runL_next (s' := ((k : Int), 1, true, g2, 0 + (a.extract (Int.toNat 0) (Int.toNat (n : Int))).size + x.size, (n : Int) + (x.size : Int), l2)) k1]
  exact runL_done k2
 have h24 : F24 (a.size : Int) [(⟨(n : Int), (k : Int), x⟩ : EditD)] = some true := q24 (by show (0 : Int) ≤ n; omega) (by show (n : Int) ≤ k; omega) (by show (k : Int) ≤ a.size; omega)
 have h00 : ((0 : Int) != 0) = false := rfl
 unfold F13
 rw [decide_eq_false (by omega), h24]
 simp only [cond_false, cond_true, bsm, q25, h00, k3, s2, y1, w3, decide_eq_false (show ¬ (n : Int) + (x.size : Int) + ((a.size - k : Nat) : Int) > 1048576 by omega)]
 have key : l3.take (0 + (a.extract (Int.toNat 0) (Int.toNat (n : Int))).size + x.size + (a.extract (Int.toNat (k : Int)) (Int.toNat (a.size : Int))).size) = (a.data.toList.take n ++ x.data.toList ++ a.data.toList.drop k).map fun b => ((b.toNat : Nat) : Int) := by
  rw [y3]
  have v3' : l2.take (0 + (a.extract (Int.toNat 0) (Int.toNat (n : Int))).size + x.size) = _ := v3
  rw [v3', u3]
  simp only [List.take_nil, List.nil_append, sbytes, x1, x2, List.map_append]
 generalize hL : 0 + (a.extract (Int.toNat 0) (Int.toNat (n : Int))).size + x.size + (a.extract (Int.toNat (k : Int)) (Int.toNat (a.size : Int))).size = len at key y2 ⊢
 unfold F27
 by_cases h0 : 0 < len
 ·have hu : usOk len l3.length = true := decide_eq_true ⟨y2, by omega⟩
  rw [decide_eq_true h0, hu, key]
  simp only [cond_true, bstr_sb, bsm]
 ·rw [decide_eq_false h0]
  simp only [cond_false, bsm]
  have hz : len = 0 := by omega
  rw [hz, List.take_zero] at key
  have := List.map_eq_nil_iff.1 key.symm
  rw [this]
  rfl
end
section
variable {a b : ByteArray}
theorem nO_same {t : Nat} (h : t < nO a b) : by_ a t = by_ b t :=
 of_decide_eq_true ((ext_le (fun i => decide (by_ a i = by_ b i)) (min a.size b.size) 0).2.2 t (by omega) h)
theorem mO_same {n t : Nat} (h : t < mO a b n) : by_ a (a.size - 1 - t) = by_ b (b.size - 1 - t) :=
 of_decide_eq_true ((ext_le (fun i => decide (by_ a (a.size - 1 - i) = by_ b (b.size - 1 - i))) (min (a.size - n) (b.size - n)) 0).2.2 t (by omega) h)
theorem joined {n m : Nat} (h1 : n ≤ a.size) (h2 : n ≤ b.size) (h3 : m ≤ a.size - n) (h4 : m ≤ b.size - n) (hf : a.data.toList.take n = b.data.toList.take n) (hb : a.data.toList.drop (a.size - m) = b.data.toList.drop (b.size - m)) :
  (⟨(a.data.toList.take n ++ (b.extract n (b.size - m)).data.toList ++ a.data.toList.drop (a.size - m)).toArray⟩ : ByteArray) = b := by
 have e1 : b.data.toList.take n = (b.data.toList.take (b.size - m)).take n := by rw [List.take_take]; congr 1; omega
 rw [hf, hb, ex_list, e1, List.take_append_drop, List.take_append_drop]
theorem q12 (ha : a.size ≤ 3000) (hb : b.size ≤ 3000) (hne : ¬ a = b) :
  F12 a b = some (.k0 (nO a b : Nat) ((a.size - mO a b (nO a b) : Nat) : Int) (b.extract (nO a b) (b.size - mO a b (nO a b))) true) := by
 have h1 := nO_le (a := a) (b := b)
 have h2 := mO_le (a := a) (b := b) (nO a b)
 have e1 : IntKind.wrap .i64 ((a.size : Int) - ((mO a b (nO a b) : Nat) : Int)) = ((a.size - mO a b (nO a b) : Nat) : Int) := by rw [w_id (by omega)]; omega
 have e2 : IntKind.wrap .i64 ((b.size : Int) - ((mO a b (nO a b) : Nat) : Int)) = ((b.size - mO a b (nO a b) : Nat) : Int) := by rw [w_id (by omega)]; omega
 have hs : sl_ok ((nO a b : Nat) : Int) ((b.size - mO a b (nO a b) : Nat) : Int) b.size = true := decide_eq_true ⟨by omega, by omega, by omega⟩
 unfold F12
 rw [bytes_list, decide_eq_false hne]
 simp only [cond_false, l12_1 ha hb, bsm, l12_0 ha hb h1.1 h1.2, e1, e2, hs, cond_true, Int.toNat_natCast]
theorem law4 (Nf : Nat) (a b : ByteArray) : F4 Nf a b = some true := by
 unfold F4
 by_cases ha : (a.size : Int) > 3000
 ·rw [decide_eq_true ha]; rfl
 rw [decide_eq_false ha]
 simp only [cond_false]
 by_cases hb : (b.size : Int) > 3000
 ·rw [decide_eq_true hb]; rfl
 rw [decide_eq_false hb]
 simp only [cond_false]
 by_cases he : a = b
 ·have hq : F12 a b = some (.k0 0 0 (⟨([] : List UInt8).toArray⟩ : ByteArray) false) := by
   unfold F12
   rw [bytes_list, decide_eq_true he]
   rfl
  rw [hq, bytes_list, decide_eq_true he]
  simp only [bsm, cond_false, cond_true, beq_self_eq_true, ba_self, Bool.and_self, F9]
 ·have ha' : a.size ≤ 3000 := by omega
  have hb' : b.size ≤ 3000 := by omega
  have h1 := nO_le (a := a) (b := b)
  have h2 := mO_le (a := a) (b := b) (nO a b)
  have hx : (b.extract (nO a b) (b.size - mO a b (nO a b))).size ≤ 3000 := by
   rw [← len_d, ex_list, List.length_drop, List.length_take, len_d]; omega
  have hj := joined h1.1 h1.2 h2.1 h2.2 (same_front h1.1 h1.2 (fun t ht => nO_same ht)) (same_back (by omega) (by omega) (fun t ht => mO_same ht))
  have h13 := q13 Nf (b.extract (nO a b) (b.size - mO a b (nO a b))) ha' hx (n := nO a b) (k := a.size - mO a b (nO a b)) (by omega) (by omega)
  rw [hj] at h13
  have e1 : IntKind.wrap .i64 ((a.size : Int) - ((mO a b (nO a b) : Nat) : Int)) = ((a.size - mO a b (nO a b) : Nat) : Int) := by rw [w_id (by omega)]; omega
  have e2 : IntKind.wrap .i64 ((b.size : Int) - ((mO a b (nO a b) : Nat) : Int)) = ((b.size - mO a b (nO a b) : Nat) : Int) := by rw [w_id (by omega)]; omega
  have hs : sl_ok ((nO a b : Nat) : Int) ((b.size - mO a b (nO a b) : Nat) : Int) b.size = true := decide_eq_true ⟨by omega, by omega, by omega⟩
  have h00 : ((0 : Int) != 0) = false := rfl
  rw [q12 ha' hb' he]
  simp only [bsm, cond_true, bytes_list, decide_eq_false he, cond_false, h13, decide_true, Bool.not_true, h00, l4_1 ha' hb', l4_0 ha' hb' h1.1 h1.2, e1, e2, hs, Int.toNat_natCast, beq_self_eq_true, ba_self, Bool.and_self, F9]
end
end Go.Proofs.Tryd
