/- One byte of a set: what the program and the document's answer read, and put. -/
import Derived.Test.YtbichljebmhmnaaDoor02L
namespace Go.Proofs.Tryd
set_option linter.unusedSimpArgs false
set_option linter.unusedVariables false
open Go Go.Vs
def I4.get (s : I4) : Nat → Int
  | 0 => s.a
  | 1 => s.b
  | 2 => s.c
  | _ => s.d
def I4.put (s : I4) (k : Nat) (x : Int) : I4 :=
  match k with
  | 0 => ⟨x, s.b, s.c, s.d⟩
  | 1 => ⟨s.a, x, s.c, s.d⟩
  | 2 => ⟨s.a, s.b, x, s.d⟩
  | _ => ⟨s.a, s.b, s.c, x⟩
def V4.get (s : V4) : Nat → BitVec 64
  | 0 => s.a
  | 1 => s.b
  | 2 => s.c
  | _ => s.d
def V4.putW (s : V4) (k : Nat) (x : BitVec 64) : V4 :=
  match k with
  | 0 => ⟨x, s.b, s.c, s.d⟩
  | 1 => ⟨s.a, x, s.c, s.d⟩
  | 2 => ⟨s.a, s.b, x, s.d⟩
  | _ => ⟨s.a, s.b, s.c, x⟩
theorem get_v (s : V4) (k : Nat) : (ofV s).get k = (s.get k).toNat := by
  match k with
  | 0 => rfl
  | 1 => rfl
  | 2 => rfl
  | _ + 3 => rfl
theorem put_v (s : V4) (k : Nat) (x : BitVec 64) : (ofV s).put k x.toNat = ofV (s.putW k x) := by
  match k with
  | 0 => rfl
  | 1 => rfl
  | 2 => rfl
  | _ + 3 => rfl
def has (s : V4) (b : Nat) : Bool := (s.get (b / 64)).getLsbD (b % 64)
def put (s : V4) (b : Nat) : V4 := s.putW (b / 64) (s.get (b / 64) ||| 1#64 <<< (b % 64))

/- ---------- operations on numbers ---------- -/
theorem q_quo (b : Nat) (h : b < 4611686018427387904) : binA .quo (vi .i64 b) (vi .i64 64) = some (vi .i64 ((b / 64 : Nat) : Int)) := by
  have e : IntKind.i64.wrap ((b : Int).tdiv 64) = ((b / 64 : Nat) : Int) := by
    rw [IntWalk.i64_quo b 64 (by omega)]
    rfl
  simp only [binA, binV, intOp, if_true]
  rw [if_neg (by omega), e]
  rfl
theorem q_rem (b : Nat) : binA .rem (vi .i64 b) (vi .i64 64) = some (vi .i64 ((b % 64 : Nat) : Int)) := by
  have e : (b : Int).tmod 64 = ((b % 64 : Nat) : Int) := by
    rw [Int.tmod_eq_emod_of_nonneg (by omega)]
    rfl
  simp only [binA, binV, intOp, if_true]
  rw [if_neg (by omega), e]
  rfl
theorem two_pow (c : Nat) : ((2 : Int) ^ c) = ((2 ^ c : Nat) : Int) := by simp
theorem q_shr (k : IntKind) (b c : Nat) (hb : c < k.bits) : binA .shr (vi k b) (vi .u64 c) = some (vi k ((b >>> c : Nat) : Int)) := by
  have e : min c k.bits = c := by omega
  have e2 : (b : Int).fdiv (2 ^ c) = ((b >>> c : Nat) : Int) := by
    rw [two_pow, Int.fdiv_eq_ediv_of_nonneg _ (Int.natCast_nonneg _), Nat.shiftRight_eq_div_pow, Int.natCast_ediv]
  simp only [binA, binV, shiftOp]
  rw [if_neg (by omega)]
  simp only [Int.toNat_natCast, e, e2]
  rfl
theorem q_shr' (k j : IntKind) (b c : Nat) (hb : c < k.bits) : binA .shr (vi k b) (vi j c) = some (vi k ((b >>> c : Nat) : Int)) := q_shr k b c hb
theorem q_shl (j : IntKind) (c : Nat) (hc : c < 64) : binA .shl (vi .u64 1) (vi j c) = some (vi .u64 ((1#64 <<< c).toNat : Int)) := by
  have hb : IntKind.u64.bits = 64 := rfl
  have e : min c IntKind.u64.bits = c := by rw [hb]; omega
  have e2 : IntKind.u64.wrap (1 * 2 ^ c) = ((1#64 <<< c).toNat : Int) := by
    have h1 : (2 : Nat) ^ c < 2 ^ 64 := Nat.pow_lt_pow_right (by omega) hc
    rw [IntKind.wrap_u64, two_pow, Int.one_mul, BitVec.toNat_shiftLeft, Nat.shiftLeft_eq]
    simp only [BitVec.toNat_ofNat]
    omega
  simp only [binA, binV, shiftOp]
  rw [if_neg (by omega)]
  simp only [Int.toNat_natCast, e, e2]
  rfl
theorem and63 (n : Nat) : n &&& 63 = n % 64 := Nat.and_two_pow_sub_one_eq_mod n 6
theorem q_and (b : Nat) (h : b < 256) : binA .and (vi .i64 b) (vi .i64 63) = some (vi .i64 ((b % 64 : Nat) : Int)) := by
  have e : IntKind.i64.wrap ((BitVec.ofInt 64 (b : Int) &&& BitVec.ofInt 64 63).toNat : Int) = ((b % 64 : Nat) : Int) := by
    have h1 : (BitVec.ofInt 64 (b : Int) &&& BitVec.ofInt 64 63).toNat = b % 64 := by
      rw [BitVec.toNat_and]
      have h2 : (BitVec.ofInt 64 (b : Int)).toNat = b := by simp; omega
      have h3 : (BitVec.ofInt 64 63).toNat = 63 := rfl
      rw [h2, h3, and63]
    rw [h1]
    exact IntWalk.i64_in _ (by omega)
  simp only [binA, binV, intOp, if_true]
  rw [show IntKind.i64.bits = 64 from rfl, e]
  rfl
theorem q_and8 (b : Nat) (h : b < 256) : binA .and (vi .u8 b) (vi .u8 63) = some (vi .u8 ((b % 64 : Nat) : Int)) := by
  have e : IntKind.u8.wrap ((BitVec.ofInt 8 (b : Int) &&& BitVec.ofInt 8 63).toNat : Int) = ((b % 64 : Nat) : Int) := by
    have h1 : (BitVec.ofInt 8 (b : Int) &&& BitVec.ofInt 8 63).toNat = b % 64 := by
      rw [BitVec.toNat_and]
      have h2 : (BitVec.ofInt 8 (b : Int)).toNat = b := by simp; omega
      have h3 : (BitVec.ofInt 8 63).toNat = 63 := rfl
      rw [h2, h3, and63]
    rw [h1, IntKind.wrap_u8]
    omega
  simp only [binA, binV, intOp, if_true]
  rw [show IntKind.u8.bits = 8 from rfl, e]
  rfl
theorem q_or (p q : BitVec 64) : binA .or (vi .u64 p.toNat) (vi .u64 q.toNat) = some (vi .u64 (p ||| q).toNat) := by
  have := orI_n p q
  unfold orI at this
  simp only [binA, binV, intOp, if_true]
  rw [show IntKind.u64.bits = 64 from rfl, this]
  rfl
theorem q_bit (p : BitVec 64) (j : Nat) (hj : j < 64) : p.toNat >>> j % 2 = (p.getLsbD j).toNat := by
  rw [BitVec.getLsbD, Nat.testBit]
  simp [Nat.one_and_eq_mod_two]
  rcases Nat.mod_two_eq_zero_or_one (p.toNat >>> j) with h | h <;> simp [h]
theorem q_rem2 (x : Nat) : binA .rem (vi .u64 x) (vi .u64 2) = some (vi .u64 ((x % 2 : Nat) : Int)) := by
  have e : (x : Int).tmod 2 = ((x % 2 : Nat) : Int) := by
    rw [Int.tmod_eq_emod_of_nonneg (by omega)]
    rfl
  simp only [binA, binV, intOp, if_true]
  rw [if_neg (by omega), e]
  rfl
theorem q_and1 (x : BitVec 64) : binA .and (vi .u64 x.toNat) (vi .u64 1) = some (vi .u64 ((x.toNat % 2 : Nat) : Int)) := by
  have h := andI_n x 1#64
  have e : ((x &&& 1#64).toNat : Int) = ((x.toNat % 2 : Nat) : Int) := by
    rw [BitVec.toNat_and]
    have : (1#64).toNat = 1 := rfl
    rw [this, Nat.and_one_is_mod]
  rw [e] at h
  unfold andI at h
  simp only [binA, binV, intOp, if_true]
  rw [show IntKind.u64.bits = 64 from rfl]
  have h1 : (((1#64).toNat : Nat) : Int) = 1 := rfl
  rw [h1] at h
  rw [h]
  rfl
theorem q_eq1 (b : Bool) : ((((b.toNat : Nat) : Int)) == 1) = b := by cases b <;> rfl
theorem q_addw (p : BitVec 64) (j : Nat) (hj : j < 64) (h : p.getLsbD j = false) : binA .add (vi .u64 p.toNat) (vi .u64 (1#64 <<< j).toNat) = some (vi .u64 (p ||| 1#64 <<< j).toNat) := by
  have hd : p &&& 1#64 <<< j = 0#64 := by
    apply BitVec.eq_of_getLsbD_eq
    intro i hi
    simp only [BitVec.getLsbD_and, BitVec.getLsbD_zero]
    by_cases e : i = j
    · subst e; simp [h]
    · have : (1#64 <<< j).getLsbD i = false := by
        rw [BitVec.getLsbD_shiftLeft]
        by_cases hl : i < j
        · simp [hl]
        · have : i - j ≠ 0 := by omega
          simp [this]
      simp [this]
  have hadd : p ||| 1#64 <<< j = p + 1#64 <<< j := (BitVec.add_eq_or_of_and_eq_zero _ _ hd).symm
  have e : IntKind.u64.wrap ((p.toNat : Int) + ((1#64 <<< j).toNat : Int)) = ((p ||| 1#64 <<< j).toNat : Int) := by
    rw [hadd, BitVec.toNat_add, IntKind.wrap_u64]
    omega
  simp only [binA, binV, intOp, if_true]
  rw [e]
  rfl
theorem q_add (b : Nat) (h : b < 4611686018427387904) : binA .add (vi .i64 b) (vi .i64 1) = some (vi .i64 ((b + 1 : Nat) : Int)) := by
  have e : IntKind.i64.wrap ((b : Int) + 1) = ((b + 1 : Nat) : Int) := by
    rw [IntWalk.i64_in _ (by omega)]
    omega
  simp only [binA, binV, intOp, if_true]
  rw [e]
  rfl
theorem q_conv (k : IntKind) (b : Nat) (h : b < 256) : convA .i64 (vi k b) = some (vi .i64 b) := by
  simp only [convA, idx, Option.map_some]
  rw [IntWalk.i64_in _ (by omega)]
end Go.Proofs.Tryd
