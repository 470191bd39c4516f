/- The lowest bit of a word: TrailingZeros64; the bits of a word in order. -/
import Derived.Test.YtbichljebmhmnaaDoor02Y
import Derived.Lib.TrailingZeros
namespace Go.Proofs.Tryd
set_option linter.unusedSimpArgs false
set_option linter.unusedVariables false
open Go Go.Vs
theorem tz40_k (w : Int) : ∀ j : Nat, j < 64 → callD prg 10 [(4, .d false), (8, .v (vi .u64 ((2 ^ j : Nat) : Int)))] 40 [vi .u64 w] =
    some ([vb (w == 0) = vb false, binA .and (vi .u64 w) (vi .u64 (IntKind.u64.wrap (0 - w))) = some (vi .u64 ((2 ^ j : Nat) : Int))], vi .i64 (j : Int))
  | 0, _ => by kernel_rfl
  | 1, _ => by kernel_rfl
  | 2, _ => by kernel_rfl
  | 3, _ => by kernel_rfl
  | 4, _ => by kernel_rfl
  | 5, _ => by kernel_rfl
  | 6, _ => by kernel_rfl
  | 7, _ => by kernel_rfl
  | 8, _ => by kernel_rfl
  | 9, _ => by kernel_rfl
  | 10, _ => by kernel_rfl
  | 11, _ => by kernel_rfl
  | 12, _ => by kernel_rfl
  | 13, _ => by kernel_rfl
  | 14, _ => by kernel_rfl
  | 15, _ => by kernel_rfl
  | 16, _ => by kernel_rfl
  | 17, _ => by kernel_rfl
  | 18, _ => by kernel_rfl
  | 19, _ => by kernel_rfl
  | 20, _ => by kernel_rfl
  | 21, _ => by kernel_rfl
  | 22, _ => by kernel_rfl
  | 23, _ => by kernel_rfl
  | 24, _ => by kernel_rfl
  | 25, _ => by kernel_rfl
  | 26, _ => by kernel_rfl
  | 27, _ => by kernel_rfl
  | 28, _ => by kernel_rfl
  | 29, _ => by kernel_rfl
  | 30, _ => by kernel_rfl
  | 31, _ => by kernel_rfl
  | 32, _ => by kernel_rfl
  | 33, _ => by kernel_rfl
  | 34, _ => by kernel_rfl
  | 35, _ => by kernel_rfl
  | 36, _ => by kernel_rfl
  | 37, _ => by kernel_rfl
  | 38, _ => by kernel_rfl
  | 39, _ => by kernel_rfl
  | 40, _ => by kernel_rfl
  | 41, _ => by kernel_rfl
  | 42, _ => by kernel_rfl
  | 43, _ => by kernel_rfl
  | 44, _ => by kernel_rfl
  | 45, _ => by kernel_rfl
  | 46, _ => by kernel_rfl
  | 47, _ => by kernel_rfl
  | 48, _ => by kernel_rfl
  | 49, _ => by kernel_rfl
  | 50, _ => by kernel_rfl
  | 51, _ => by kernel_rfl
  | 52, _ => by kernel_rfl
  | 53, _ => by kernel_rfl
  | 54, _ => by kernel_rfl
  | 55, _ => by kernel_rfl
  | 56, _ => by kernel_rfl
  | 57, _ => by kernel_rfl
  | 58, _ => by kernel_rfl
  | 59, _ => by kernel_rfl
  | 60, _ => by kernel_rfl
  | 61, _ => by kernel_rfl
  | 62, _ => by kernel_rfl
  | 63, _ => by kernel_rfl
  | _ + 64, h => absurd h (by omega)
theorem and_pred (c m : Nat) : (2 ^ c * (2 * m + 1)) &&& (2 ^ c * (2 * m + 1) - 1) = 2 ^ (c + 1) * m := by
  have hp : 0 < 2 ^ c := Nat.two_pow_pos c
  have e1 : 2 ^ c * (2 * m + 1) - 1 = 2 ^ c * (2 * m) + (2 ^ c - 1) := by rw [Nat.mul_add, Nat.mul_one]; omega
  have e2 : 2 ^ (c + 1) * m = 2 ^ c * (2 * m) := by rw [Nat.pow_succ, Nat.mul_assoc]
  apply Nat.eq_of_testBit_eq
  intro i
  rw [Nat.testBit_and, e1, Nat.testBit_two_pow_mul_add _ (by omega : 2 ^ c - 1 < 2 ^ c), e2, Nat.testBit_two_pow_mul, Nat.testBit_two_pow_mul]
  by_cases hi : i < c
  · simp [hi, show ¬ c ≤ i from by omega]
  · simp only [if_neg hi, show c ≤ i from by omega, decide_true, Bool.true_and]
    rcases Nat.eq_zero_or_pos (i - c) with h0 | h0
    · rw [h0]; simp
    · obtain ⟨k, hk⟩ : ∃ k, i - c = k + 1 := ⟨i - c - 1, by omega⟩
      rw [hk, Nat.testBit_succ, Nat.testBit_succ]
      have : (2 * m + 1) / 2 = m := by omega
      have h2 : 2 * m / 2 = m := by omega
      rw [this, h2, Bool.and_self]
/-- The lowest bit that is set. -/
def low (w : BitVec 64) : Nat := Lib.ctz 64 w.toNat
theorem low_spec (w : BitVec 64) (h : w ≠ 0#64) : ∃ m, w.toNat = 2 ^ low w * (2 * m + 1) ∧ low w < 64 := by
  have h0 : w.toNat ≠ 0 := fun e => h (BitVec.eq_of_toNat_eq (by simpa using e))
  have e : Lib.ctz 64 w.toNat = Lib.ctzFrom 64 w.toNat := by simp [Lib.ctz, h0]
  obtain ⟨m, h1, h2⟩ := Lib.ctzFrom_spec 64 w.toNat (by omega) w.isLt
  exact ⟨m, by unfold low; rw [e]; exact h1, by unfold low; rw [e]; exact h2⟩
theorem tz40 (w : BitVec 64) (hw : w ≠ 0#64) (h : List AB) : CP prg 40 [vi .u64 w.toNat] h = some (vi .i64 (low w)) := by
  have h0 : w.toNat ≠ 0 := fun e => hw (BitVec.eq_of_toNat_eq (by simpa using e))
  obtain ⟨hl, hlt⟩ := Lib.lowest_bit 64 w.toNat h0 w.isLt
  refine CP_D (tz40_k (w.toNat : Int) (low w) hlt) ?_ rfl h
  simp only [AllP]
  constructor
  · have : ((w.toNat : Int) == 0) = false := by simp; omega
    rw [this]
  · have e : IntKind.u64.wrap (0 - (w.toNat : Int)) = ((-w).toNat : Int) := by
      rw [IntKind.wrap_u64, BitVec.toNat_neg]
      have := w.isLt
      omega
    have e2 : (w &&& -w).toNat = 2 ^ low w := by
      rw [BitVec.toNat_and, BitVec.toNat_neg, Nat.mod_eq_of_lt (by have := w.isLt; omega)]
      exact hl
    have h3 := andI_n w (-w)
    unfold andI at h3
    rw [e]
    simp only [binA, binV, intOp, if_true]
    rw [show IntKind.u64.bits = 64 from rfl, h3, e2]
    rfl
/-- A word without its lowest bit. -/
def rest (w : BitVec 64) : BitVec 64 := w &&& (w - 1#64)
theorem rest_nat (w : BitVec 64) (hw : w ≠ 0#64) : ∃ m, w.toNat = 2 ^ low w * (2 * m + 1) ∧ (rest w).toNat = 2 ^ (low w + 1) * m := by
  obtain ⟨m, h1, _⟩ := low_spec w hw
  refine ⟨m, h1, ?_⟩
  have h0 : w.toNat ≠ 0 := fun e => hw (BitVec.eq_of_toNat_eq (by simpa using e))
  have e : (w - 1#64).toNat = w.toNat - 1 := by
    rw [BitVec.toNat_sub]
    have := w.isLt
    have h1 : (1#64).toNat = 1 := rfl
    rw [h1]
    omega
  unfold rest
  rw [BitVec.toNat_and, e, h1]
  exact and_pred _ _
theorem rest_lt (w : BitVec 64) (hw : w ≠ 0#64) : (rest w).toNat < w.toNat := by
  obtain ⟨m, h1, h2⟩ := rest_nat w hw
  rw [h1, h2, Nat.pow_succ, Nat.mul_assoc]
  have := Nat.two_pow_pos (low w)
  rw [Nat.mul_add (2 ^ low w)]
  omega
theorem bit_w (w : BitVec 64) (hw : w ≠ 0#64) (i : Nat) (hi : i < 64) : w.getLsbD i = (decide (i = low w) || (rest w).getLsbD i) ∧ (i ≤ low w → (rest w).getLsbD i = false) := by
  obtain ⟨m, h1, h2⟩ := rest_nat w hw
  have e1 : w.getLsbD i = w.toNat.testBit i := rfl
  have e2 : (rest w).getLsbD i = (rest w).toNat.testBit i := rfl
  rw [e1, e2, h1, h2, Nat.testBit_two_pow_mul, Nat.testBit_two_pow_mul]
  refine ⟨?_, fun h => by simp; omega⟩
  by_cases h : i < low w
  · simp [show ¬ low w ≤ i from by omega, show ¬ i = low w from by omega]; omega
  · by_cases he : i = low w
    · rw [he]; simp
    · obtain ⟨k, hk⟩ : ∃ k, i - low w = k + 1 := ⟨i - low w - 1, by omega⟩
      have hk2 : i - (low w + 1) = k := by omega
      rw [hk, hk2, Nat.testBit_succ, show (2 * m + 1) / 2 = m from by omega]
      simp [show low w ≤ i from by omega, show low w + 1 ≤ i from by omega, he]
def bits (w : BitVec 64) : List Nat := (List.range' 0 64).filter w.getLsbD
theorem bits_0 : bits 0#64 = [] := by
  unfold bits
  rw [List.filter_eq_nil_iff]
  intro i _
  simp
theorem filter_none {p : Nat → Bool} : ∀ {l : List Nat}, (∀ x ∈ l, p x = false) → l.filter p = [] := by
  intro l h
  rw [List.filter_eq_nil_iff]
  intro x hx
  simp [h x hx]
theorem bits_cons (w : BitVec 64) (hw : w ≠ 0#64) : bits w = low w :: bits (rest w) := by
  obtain ⟨m, h1, hlt⟩ := low_spec w hw
  have hsp : List.range' 0 64 = List.range' 0 (low w) ++ (low w :: List.range' (low w + 1) (63 - low w)) := by
    have e : List.range' 0 64 = List.range' 0 (low w) ++ List.range' (0 + low w) (64 - low w) := by
      rw [List.range'_append_1]
      congr 1
      omega
    rw [e, Nat.zero_add, show 64 - low w = (63 - low w) + 1 from by omega, List.range'_succ]
  have hlow : ∀ x ∈ List.range' 0 (low w), w.getLsbD x = false ∧ (rest w).getLsbD x = false := by
    intro x hx
    have hx' : x < low w := by have := List.mem_range'_1.1 hx; omega
    obtain ⟨a, b⟩ := bit_w w hw x (by omega)
    have := b (by omega)
    rw [a, this]
    simp; omega
  have hhi : ∀ x ∈ List.range' (low w + 1) (63 - low w), w.getLsbD x = (rest w).getLsbD x := by
    intro x hx
    have hx' := List.mem_range'_1.1 hx
    obtain ⟨a, b⟩ := bit_w w hw x (by omega)
    rw [a]
    simp; intro h; omega
  obtain ⟨a, b⟩ := bit_w w hw (low w) hlt
  unfold bits
  rw [hsp, List.filter_append, List.filter_append, filter_none (fun x hx => (hlow x hx).1), filter_none (fun x hx => (hlow x hx).2), List.nil_append, List.nil_append]
  rw [List.filter_cons, List.filter_cons, a, b (Nat.le_refl _)]
  simp only [decide_true, Bool.true_or, if_true, Bool.false_eq_true, if_false]
  congr 1
  exact List.filter_congr hhi
end Go.Proofs.Tryd
