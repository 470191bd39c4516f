/- The sets of seat 02: the program as the abstract machine has it. -/
import Derived.Test.YtbichljebmhmnaaDoorIr7
import Derived.Test.YtbichljebmhmnaaDoorVD
import Derived.Test.YtbichljebmhmnaaDoorVE
import Derived.Laws.Bits64
import Derived.Lib.TrailingZeros
import Derived.Test.YtbichljebmhmnaaDoorVF
namespace Go.Proofs.Tryd
set_option linter.unusedSimpArgs false
set_option linter.unusedVariables false
open Go Go.Vs
def tab64 : List Int := [0, 1, 56, 2, 57, 49, 28, 3, 61, 58, 42, 50, 38, 29, 17, 4, 62, 47, 59, 36, 45, 43, 51, 22, 53, 39, 33, 30, 24, 18, 12, 5, 63, 55, 48, 27, 60, 41, 37, 16, 46, 35, 44, 21, 52, 32, 23, 11, 54, 26, 40, 15, 34, 20, 31, 10, 25, 14, 19, 9, 13, 8, 7, 6]
def gl02 : Nat → Option (List PV)
 | 0 => some (tab64.map fun n => .val (.int .u8 n))
 | _ => none
def frs (n : Nat) : Bool := false
def prg0 : Prg := ⟨fns, gl02, fun _ _ _ => none, frs⟩
theorem prg0_ok : PrgOk prog prg0 := ⟨fns_ok, fun _ _ _ _ _ h => by cases h⟩
structure I4 where
 a : Int
 b : Int
 c : Int
 d : Int
def wds (s : I4) : List AV := [vi .u64 s.a, vi .u64 s.b, vi .u64 s.c, vi .u64 s.d]
def setI (s : I4) : AV := .agg (wds s)
def orI (x y : Int) : Int := IntKind.u64.wrap (BitVec.ofInt 64 x ||| BitVec.ofInt 64 y).toNat
def andI (x y : Int) : Int := IntKind.u64.wrap (BitVec.ofInt 64 x &&& BitVec.ofInt 64 y).toNat
structure V4 where
 a : BitVec 64
 b : BitVec 64
 c : BitVec 64
 d : BitVec 64
instance (x y : V4) : Decidable (x = y) := by
 obtain ⟨a, b, c, d⟩ := x
 obtain ⟨e, f, g, h⟩ := y
 exact decidable_of_iff (a = e ∧ b = f ∧ c = g ∧ d = h) (by simp)
def ofV (s : V4) : I4 := ⟨s.a.toNat, s.b.toNat, s.c.toNat, s.d.toNat⟩
theorem wrap_nat (p : BitVec 64) : IntKind.u64.wrap (p.toNat : Int) = p.toNat := by
 rw [IntKind.wrap_u64]
 have := p.isLt
 omega
theorem orI_n (p q : BitVec 64) : orI p.toNat q.toNat = ((p ||| q).toNat : Int) := by
 unfold orI
 rw [show (BitVec.ofInt 64 (p.toNat : Int)) = p from by simp, show (BitVec.ofInt 64 (q.toNat : Int)) = q from by simp]
 exact wrap_nat _
theorem andI_n (p q : BitVec 64) : andI p.toNat q.toNat = ((p &&& q).toNat : Int) := by
 unfold andI
 rw [show (BitVec.ofInt 64 (p.toNat : Int)) = p from by simp, show (BitVec.ofInt 64 (q.toNat : Int)) = q from by simp]
 exact wrap_nat _
def I4.get (s : I4) : Nat → Int
 | 0 => s.a
 | 1 => s.b
 | 2 => s.c
 | _ => s.d
def I4.put (s : I4) (k : Nat) (x : Int) : I4 :=
 match k with
 | 0 => ⟨x, s.b, s.c, s.d⟩
 | 1 => ⟨s.a, x, s.c, s.d⟩
 | 2 => ⟨s.a, s.b, x, s.d⟩
 | _ => ⟨s.a, s.b, s.c, x⟩
def V4.get (s : V4) : Nat → BitVec 64
 | 0 => s.a
 | 1 => s.b
 | 2 => s.c
 | _ => s.d
def V4.putW (s : V4) (k : Nat) (x : BitVec 64) : V4 :=
 match k with
 | 0 => ⟨x, s.b, s.c, s.d⟩
 | 1 => ⟨s.a, x, s.c, s.d⟩
 | 2 => ⟨s.a, s.b, x, s.d⟩
 | _ => ⟨s.a, s.b, s.c, x⟩
theorem get_v (s : V4) (k : Nat) : (ofV s).get k = (s.get k).toNat := by
 match k with
 | 0 => rfl
 | 1 => rfl
 | 2 => rfl
 | _ + 3 => rfl
def has (s : V4) (b : Nat) : Bool := (s.get (b / 64)).getLsbD (b % 64)
def put (s : V4) (b : Nat) : V4 := s.putW (b / 64) (s.get (b / 64) ||| 1#64 <<< (b % 64))
theorem tz40_k (w : Int) : ∀ j : Nat, j < 64 → callD prg0 10 [(4, .d false), (8, .v (vi .u64 ((2 ^ j : Nat) : Int)))] 40 [vi .u64 w] =
  some ([vb (w == 0) = vb false, binA .and (vi .u64 w) (vi .u64 (IntKind.u64.wrap (0 - w))) = some (vi .u64 ((2 ^ j : Nat) : Int))], vi .i64 (j : Int))
 | 0, _ => by kernel_rfl
 | 1, _ => by kernel_rfl
 | 2, _ => by kernel_rfl
 | 3, _ => by kernel_rfl
 | 4, _ => by kernel_rfl
 | 5, _ => by kernel_rfl
 | 6, _ => by kernel_rfl
 | 7, _ => by kernel_rfl
 | 8, _ => by kernel_rfl
 | 9, _ => by kernel_rfl
 | 10, _ => by kernel_rfl
 | 11, _ => by kernel_rfl
 | 12, _ => by kernel_rfl
 | 13, _ => by kernel_rfl
 | 14, _ => by kernel_rfl
 | 15, _ => by kernel_rfl
 | 16, _ => by kernel_rfl
 | 17, _ => by kernel_rfl
 | 18, _ => by kernel_rfl
 | 19, _ => by kernel_rfl
 | 20, _ => by kernel_rfl
 | 21, _ => by kernel_rfl
 | 22, _ => by kernel_rfl
 | 23, _ => by kernel_rfl
 | 24, _ => by kernel_rfl
 | 25, _ => by kernel_rfl
 | 26, _ => by kernel_rfl
 | 27, _ => by kernel_rfl
 | 28, _ => by kernel_rfl
 | 29, _ => by kernel_rfl
 | 30, _ => by kernel_rfl
 | 31, _ => by kernel_rfl
 | 32, _ => by kernel_rfl
 | 33, _ => by kernel_rfl
 | 34, _ => by kernel_rfl
 | 35, _ => by kernel_rfl
 | 36, _ => by kernel_rfl
 | 37, _ => by kernel_rfl
 | 38, _ => by kernel_rfl
 | 39, _ => by kernel_rfl
 | 40, _ => by kernel_rfl
 | 41, _ => by kernel_rfl
 | 42, _ => by kernel_rfl
 | 43, _ => by kernel_rfl
 | 44, _ => by kernel_rfl
 | 45, _ => by kernel_rfl
 | 46, _ => by kernel_rfl
 | 47, _ => by kernel_rfl
 | 48, _ => by kernel_rfl
 | 49, _ => by kernel_rfl
 | 50, _ => by kernel_rfl
 | 51, _ => by kernel_rfl
 | 52, _ => by kernel_rfl
 | 53, _ => by kernel_rfl
 | 54, _ => by kernel_rfl
 | 55, _ => by kernel_rfl
 | 56, _ => by kernel_rfl
 | 57, _ => by kernel_rfl
 | 58, _ => by kernel_rfl
 | 59, _ => by kernel_rfl
 | 60, _ => by kernel_rfl
 | 61, _ => by kernel_rfl
 | 62, _ => by kernel_rfl
 | 63, _ => by kernel_rfl
 | _ + 64, h => absurd h (by omega)
theorem and_pred (c m : Nat) : (2 ^ c * (2 * m + 1)) &&& (2 ^ c * (2 * m + 1) - 1) = 2 ^ (c + 1) * m := by
 have hp : 0 < 2 ^ c := Nat.two_pow_pos c
 have e1 : 2 ^ c * (2 * m + 1) - 1 = 2 ^ c * (2 * m) + (2 ^ c - 1) := by rw [Nat.mul_add, Nat.mul_one]; omega
 have e2 : 2 ^ (c + 1) * m = 2 ^ c * (2 * m) := by rw [Nat.pow_succ, Nat.mul_assoc]
 apply Nat.eq_of_testBit_eq
 intro i
 rw [Nat.testBit_and, e1, Nat.testBit_two_pow_mul_add _ (by omega : 2 ^ c - 1 < 2 ^ c), e2, Nat.testBit_two_pow_mul, Nat.testBit_two_pow_mul]
 by_cases hi : i < c
 ·simp [hi, show ¬ c ≤ i from by omega]
 ·simp only [if_neg hi, show c ≤ i from by omega, decide_true, Bool.true_and]
  rcases Nat.eq_zero_or_pos (i - c) with h0 | h0
  ·rw [h0]; simp
  ·obtain ⟨k, hk⟩ : ∃ k, i - c = k + 1 := ⟨i - c - 1, by omega⟩
   rw [hk, Nat.testBit_succ, Nat.testBit_succ]
   have : (2 * m + 1) / 2 = m := by omega
   have h2 : 2 * m / 2 = m := by omega
   rw [this, h2, Bool.and_self]
def low (w : BitVec 64) : Nat := Lib.ctz 64 w.toNat
theorem low_spec (w : BitVec 64) (h : w ≠ 0#64) : ∃ m, w.toNat = 2 ^ low w * (2 * m + 1) ∧ low w < 64 := by
 have h0 : w.toNat ≠ 0 := fun e => h (BitVec.eq_of_toNat_eq (by simpa using e))
 have e : Lib.ctz 64 w.toNat = Lib.ctzFrom 64 w.toNat := by simp [Lib.ctz, h0]
 obtain ⟨m, h1, h2⟩ := Lib.ctzFrom_spec 64 w.toNat (by omega) w.isLt
 exact ⟨m, by unfold low; rw [e]; exact h1, by unfold low; rw [e]; exact h2⟩
theorem tz40 (w : BitVec 64) (hw : w ≠ 0#64) (h : List AB) : CP prg0 40 [vi .u64 w.toNat] h = some (vi .i64 (low w)) := by
 have h0 : w.toNat ≠ 0 := fun e => hw (BitVec.eq_of_toNat_eq (by simpa using e))
 obtain ⟨hl, hlt⟩ := Lib.lowest_bit 64 w.toNat h0 w.isLt
 refine CP_D (tz40_k (w.toNat : Int) (low w) hlt) ?_ rfl h
 simp only [AllP]
 constructor
 ·have : ((w.toNat : Int) == 0) = false := by simp; omega
  rw [this]
 ·have e : IntKind.u64.wrap (0 - (w.toNat : Int)) = ((-w).toNat : Int) := by
   rw [IntKind.wrap_u64, BitVec.toNat_neg]
   have := w.isLt
   omega
  have e2 : (w &&& -w).toNat = 2 ^ low w := by
   rw [BitVec.toNat_and, BitVec.toNat_neg, Nat.mod_eq_of_lt (by have := w.isLt; omega)]
   exact hl
  have h3 := andI_n w (-w)
  unfold andI at h3
  rw [e]
  simp only [binA, binV, intOp, if_true]
  rw [show IntKind.u64.bits = 64 from rfl, h3, e2]
  rfl
def rest (w : BitVec 64) : BitVec 64 := w &&& (w - 1#64)
theorem rest_nat (w : BitVec 64) (hw : w ≠ 0#64) : ∃ m, w.toNat = 2 ^ low w * (2 * m + 1) ∧ (rest w).toNat = 2 ^ (low w + 1) * m := by
 obtain ⟨m, h1, _⟩ := low_spec w hw
 refine ⟨m, h1, ?_⟩
 have h0 : w.toNat ≠ 0 := fun e => hw (BitVec.eq_of_toNat_eq (by simpa using e))
 have e : (w - 1#64).toNat = w.toNat - 1 := by
  rw [BitVec.toNat_sub]
  have := w.isLt
  have h1 : (1#64).toNat = 1 := rfl
  rw [h1]
  omega
 unfold rest
 rw [BitVec.toNat_and, e, h1]
 exact and_pred _ _
theorem rest_lt (w : BitVec 64) (hw : w ≠ 0#64) : (rest w).toNat < w.toNat := by
 obtain ⟨m, h1, h2⟩ := rest_nat w hw
 rw [h1, h2, Nat.pow_succ, Nat.mul_assoc]
 have := Nat.two_pow_pos (low w)
 rw [Nat.mul_add (2 ^ low w)]
 omega
theorem bit_w (w : BitVec 64) (hw : w ≠ 0#64) (i : Nat) (hi : i < 64) : w.getLsbD i = (decide (i = low w) || (rest w).getLsbD i) ∧ (i ≤ low w → (rest w).getLsbD i = false) := by
 obtain ⟨m, h1, h2⟩ := rest_nat w hw
 have e1 : w.getLsbD i = w.toNat.testBit i := rfl
 have e2 : (rest w).getLsbD i = (rest w).toNat.testBit i := rfl
 rw [e1, e2, h1, h2, Nat.testBit_two_pow_mul, Nat.testBit_two_pow_mul]
 refine ⟨?_, fun h => by simp; omega⟩
 by_cases h : i < low w
 ·simp [show ¬ low w ≤ i from by omega, show ¬ i = low w from by omega]; omega
 ·by_cases he : i = low w
  ·rw [he]; simp
  ·obtain ⟨k, hk⟩ : ∃ k, i - low w = k + 1 := ⟨i - low w - 1, by omega⟩
   have hk2 : i - (low w + 1) = k := by omega
   rw [hk, hk2, Nat.testBit_succ, show (2 * m + 1) / 2 = m from by omega]
   simp [show low w ≤ i from by omega, show low w + 1 ≤ i from by omega, he]
def bits (w : BitVec 64) : List Nat := (List.range' 0 64).filter w.getLsbD
theorem bits_0 : bits 0#64 = [] := by
 unfold bits
 rw [List.filter_eq_nil_iff]
 intro i _
 simp
theorem filter_none {p : Nat → Bool} : ∀ {l : List Nat}, (∀ x ∈ l, p x = false) → l.filter p = [] := by
 intro l h
 rw [List.filter_eq_nil_iff]
 intro x hx
 simp [h x hx]
theorem bits_cons (w : BitVec 64) (hw : w ≠ 0#64) : bits w = low w :: bits (rest w) := by
 obtain ⟨m, h1, hlt⟩ := low_spec w hw
 have hsp : List.range' 0 64 = List.range' 0 (low w) ++ (low w :: List.range' (low w + 1) (63 - low w)) := by
  have e : List.range' 0 64 = List.range' 0 (low w) ++ List.range' (0 + low w) (64 - low w) := by
   rw [List.range'_append_1]
   congr 1
   omega
  rw [e, Nat.zero_add, show 64 - low w = (63 - low w) + 1 from by omega, List.range'_succ]
 have hlow : ∀ x ∈ List.range' 0 (low w), w.getLsbD x = false ∧ (rest w).getLsbD x = false := by
  intro x hx
  have hx' : x < low w := by have := List.mem_range'_1.1 hx; omega
  obtain ⟨a, b⟩ := bit_w w hw x (by omega)
  have := b (by omega)
  rw [a, this]
  simp; omega
 have hhi : ∀ x ∈ List.range' (low w + 1) (63 - low w), w.getLsbD x = (rest w).getLsbD x := by
  intro x hx
  have hx' := List.mem_range'_1.1 hx
  obtain ⟨a, b⟩ := bit_w w hw x (by omega)
  rw [a]
  simp; intro h; omega
 obtain ⟨a, b⟩ := bit_w w hw (low w) hlt
 unfold bits
 rw [hsp, List.filter_append, List.filter_append, filter_none (fun x hx => (hlow x hx).1), filter_none (fun x hx => (hlow x hx).2), List.nil_append, List.nil_append]
 rw [List.filter_cons, List.filter_cons, a, b (Nat.le_refl _)]
 simp only [decide_true, Bool.true_or, if_true, Bool.false_eq_true, if_false]
 congr 1
 exact List.filter_congr hhi
inductive YR (k m : Nat) : List Nat → List AB → List AB → Bool → Prop
 | nil (h : List AB) : YR k m [] h h false
 | go (c : Nat) (l : List Nat) (h h1 e h2 : List AB) (st : Bool) (hy : callY (ev prg0) k [vi .u8 c] h = some (vb true, h1 ++ e)) (hl : h1.length = m) (ho : okT m (h1 ++ e) = true) (r : YR k m l h1 h2 st) : YR k m (c :: l) h h2 st
 | stop (c : Nat) (l : List Nat) (h h1 : List AB) (hy : callY (ev prg0) k [vi .u8 c] h = some (vb false, h1)) (hl : h1.length = m) : YR k m (c :: l) h h1 true
theorem YR_split {k m : Nat} : ∀ {l1 l2 : List Nat} {h h2 : List AB} {st : Bool}, YR k m (l1 ++ l2) h h2 st → (∃ h1, YR k m l1 h h1 false ∧ YR k m l2 h1 h2 st) ∨ (st = true ∧ YR k m l1 h h2 true)
 | [], l2, h, h2, st, r => .inl ⟨h, .nil h, r⟩
 | c :: l1, l2, h, h2, st, r => by
  cases r with
  | go _ _ _ h1 e _ _ hy hl ho r =>
   rcases YR_split r with ⟨h3, a, b⟩ | ⟨a, b⟩
   ·exact .inl ⟨h3, .go c l1 h h1 e h3 false hy hl ho a, b⟩
   ·exact .inr ⟨a, .go c l1 h h1 e h2 true hy hl ho b⟩
  | stop _ _ _ _ hy hl => exact .inr ⟨rfl, .stop c l1 h h2 hy hl⟩
theorem YR_len {k m : Nat} {l : List Nat} {h h2 : List AB} {st : Bool} (r : YR k m l h h2 st) (hh : h.length = m) : h2.length = m := by
 induction r with
 | nil h => exact hh
 | go c l h h1 e h2 st hy hl ho r ih => exact ih hl
 | stop c l h h1 hy hl => exact hl
theorem YR_ok {k m : Nat} {l : List Nat} {h h2 : List AB} (r : YR k m l h h2 false) (ho : okT m h = true) : okT m h2 = true := by
 generalize e : false = st at r
 induction r with
 | nil h => exact ho
 | go c l h h1 x h2 st hy hl hq r ih => exact ih (okT_app hl hq) e
 | stop c l h h1 hy hl => cases e
def bitsW (w : BitVec 64) (i : Nat) : List Nat := (bits w).map (64 * i + ·)
def bytesS (s : V4) : List Nat := bitsW s.a 0 ++ (bitsW s.b 1 ++ (bitsW s.c 2 ++ bitsW s.d 3))
def blv39i : List Nat := [0, 3, 4, 5, 6]
def blv39 : List Nat := [0, 5, 6]
def wdsP (s : I4) : List PV := [.val (.int .u64 s.a), .val (.int .u64 s.b), .val (.int .u64 s.c), .val (.int .u64 s.d)]
def bF39i (k : Nat) (s : I4) (i w : Int) : List AV := [.yl k, .und, .und, vi .i64 i, vi .u64 w, setI s, vi .i64 i, .und, .und, .und, .und, .und, .und, .und, .und, .und, .und, .und, .und, .und, .und, .und, .und, .und, .und, .und]
def bE39i (k : Nat) (s : I4) (i w : Int) : List AV := [.yl k, .und, .und, vi .i64 i, vi .u64 w, setI s, vi .i64 i, .und, .und, .und, vi .u64 w, vb false, .und, .und, .und, .und, .und, .und, .und, .und, .und, .und, .und, .und, .und, .und]
def bF39 (k : Nat) (s : I4) (i : Int) : List AV := [.yl k, .und, .und, .und, .und, setI s, vi .i64 i, .und, .und, .und, .und, .und, .und, .und, .und, .und, .und, .und, .und, .und, .und, .und, .und, .und, .und, .und]
def bE39 (k : Nat) (s : I4) (i : Int) : List AV := [.yl k, .und, .und, .und, .und, setI s, vi .i64 i, vb false, .und, .und, .und, .und, .und, .und, .und, .und, .und, .und, .und, .und, .und, .und, .und, .und, .und, .und]
theorem q_shl6 (i : Nat) (hi : i < 4) : binA .shl (vi .i64 i) (vi .u64 6) = some (vi .i64 ((64 * i : Nat) : Int)) := by
 match i, hi with
 | 0, _ => rfl
 | 1, _ => rfl
 | 2, _ => rfl
 | 3, _ => rfl
 | _ + 4, h => exact absurd h (by omega)
theorem q_addn (a b : Nat) (h : a + b < 4611686018427387904) : binA .add (vi .i64 a) (vi .i64 b) = some (vi .i64 ((a + b : Nat) : Int)) := by
 have e : IntKind.i64.wrap ((a : Int) + b) = ((a + b : Nat) : Int) := by
  rw [IntWalk.i64_in _ (by omega)]
  omega
 simp only [binA, binV, intOp, if_true]
 rw [e]
 rfl
theorem q_conv8 (b : Nat) (h : b < 256) : convA .u8 (vi .i64 b) = some (vi .u8 b) := by
 simp only [convA, idx, Option.map_some]
 rw [IntKind.wrap_u8, Int.emod_eq_of_lt (by omega) (by omega)]
theorem q_sub1 (w : BitVec 64) (hw : w ≠ 0#64) : binA .sub (vi .u64 w.toNat) (vi .u64 1) = some (vi .u64 (w - 1#64).toNat) := by
 have h0 : w.toNat ≠ 0 := fun e => hw (BitVec.eq_of_toNat_eq (by simpa using e))
 have e : IntKind.u64.wrap ((w.toNat : Int) - 1) = ((w - 1#64).toNat : Int) := by
  rw [IntKind.wrap_u64, BitVec.toNat_sub]
  have := w.isLt
  have h1 : (1#64).toNat = 1 := rfl
  rw [h1]
  omega
 simp only [binA, binV, intOp, if_true]
 rw [e]
 rfl
theorem q_andw (p q : BitVec 64) : binA .and (vi .u64 p.toNat) (vi .u64 q.toNat) = some (vi .u64 (p &&& q).toNat) := by
 have := andI_n p q
 unfold andI at this
 simp only [binA, binV, intOp, if_true]
 rw [show IntKind.u64.bits = 64 from rfl, this]
 rfl
theorem low_lt (w : BitVec 64) (hw : w ≠ 0#64) : low w < 64 := (low_spec w hw).elim fun _ h => h.2
theorem it3_k (s : I4) (i w b l c w1 w2 : Int) (x0 x1 x2 x3 : AB) (y0 y1 y2 y3 : AB) (e : List AB) : roundD prg0 10 [(11, .d true), (18, .v (vi .i64 b)), (20, .v (vi .i64 l)), (21, .v (vi .i64 c)), (22, .v (vi .u8 c)), (23, .r (vb true) ([y0, y1, y2, y3] ++ e)), (14, .v (vi .u64 w1)), (15, .v (vi .u64 w2)), (6000, .d true)] 4 blv39i ir39_l0 ⟨bF39i 3 s i w, [x0, x1, x2, x3]⟩ =
  some ([vb (w != 0) = vb true, binA .shl (vi .i64 i) (vi .u64 6) = some (vi .i64 b), CP prg0 40 [vi .u64 w] [x0, x1, x2, x3] = some (vi .i64 l), binA .add (vi .i64 b) (vi .i64 l) = some (vi .i64 c), convA .u8 (vi .i64 c) = some (vi .u8 c), callY (ev prg0) 3 [vi .u8 c] [x0, x1, x2, x3] = some (vb true, [y0, y1, y2, y3] ++ e),
   binA .sub (vi .u64 w) (vi .u64 1) = some (vi .u64 w1), binA .and (vi .u64 w) (vi .u64 w1) = some (vi .u64 w2), okT 4 ([y0, y1, y2, y3] ++ e) = true], .norm, ⟨bF39i 3 s i w2, [y0, y1, y2, y3]⟩) := by kernel_rfl
theorem it3_s (s : I4) (i w b l c : Int) (x0 x1 x2 x3 : AB) (y0 y1 y2 y3 : AB) : ∃ f', roundD prg0 10 [(11, .d true), (18, .v (vi .i64 b)), (20, .v (vi .i64 l)), (21, .v (vi .i64 c)), (22, .v (vi .u8 c)), (23, .r (vb false) [y0, y1, y2, y3])] 4 blv39i ir39_l0 ⟨bF39i 3 s i w, [x0, x1, x2, x3]⟩ =
  some ([vb (w != 0) = vb true, binA .shl (vi .i64 i) (vi .u64 6) = some (vi .i64 b), CP prg0 40 [vi .u64 w] [x0, x1, x2, x3] = some (vi .i64 l), binA .add (vi .i64 b) (vi .i64 l) = some (vi .i64 c), convA .u8 (vi .i64 c) = some (vi .u8 c), callY (ev prg0) 3 [vi .u8 c] [x0, x1, x2, x3] = some (vb false, [y0, y1, y2, y3])], .ret, ⟨f', [y0, y1, y2, y3]⟩) :=
 ⟨[.yl 3, .und, .und, vi .i64 i, vi .u64 w, setI s, vi .i64 i, .und, .und, .und, vi .u64 w, vb true, .und, .und, .und, .und, .yl 3, vi .i64 i, vi .i64 b, vi .u64 w, vi .i64 l, vi .i64 c, vi .u8 c, vb false, vb true, .und], by kernel_rfl⟩
theorem it3_e (s : I4) (i w : Int) (x0 x1 x2 x3 : AB) : roundD prg0 10 [(11, .d false)] 4 blv39i ir39_l0 ⟨bF39i 3 s i w, [x0, x1, x2, x3]⟩ = some ([vb (w != 0) = vb false], .brk 2, ⟨bE39i 3 s i w, [x0, x1, x2, x3]⟩) := by kernel_rfl
theorem it3_in (s : I4) (i : Nat) (hi : i < 4) : ∀ (n : Nat) (w : BitVec 64), w.toNat < n → ∀ (h h2 : List AB) (st : Bool), h.length = 4 → YR 3 4 (bitsW w i) h h2 st →
  (st = false → evH prg0 4 blv39i ir39_l0 ⟨bF39i 3 s i w.toNat, h⟩ = some (.brk 2, ⟨bE39i 3 s i 0, h2⟩)) ∧ (st = true → ∃ f', evH prg0 4 blv39i ir39_l0 ⟨bF39i 3 s i w.toNat, h⟩ = some (.ret, ⟨f', h2⟩))
 | 0, w, hn, _, _, _, _, _ => absurd hn (by omega)
 | n + 1, w, hn, h, h2, st, hm, r => by
  match h, hm with
  | [x0, x1, x2, x3], _ =>
   by_cases hw : w = 0#64
   ·subst hw
    rw [bitsW, bits_0] at r
    cases r with
    | nil =>
     refine ⟨fun _ => ?_, fun h => by cases h⟩
     exact round_brk (it3_e s i 0 x0 x1 x2 x3) (by simp [AllP])
   ·have hl := low_lt w hw
    have e : bitsW w i = (64 * i + low w) :: bitsW (rest w) i := by unfold bitsW; rw [bits_cons w hw, List.map_cons]
    have c1 : vb ((w.toNat : Int) != 0) = vb true := by
     have h0 : w.toNat ≠ 0 := fun e => hw (BitVec.eq_of_toNat_eq (by simpa using e))
     have : ((w.toNat : Int) != 0) = true := by simp; omega
     rw [this]
    rw [e] at r
    cases r with
    | go _ _ _ h1 x _ _ hy hl1 ho r =>
     match h1, hl1 with
     | [y0, y1, y2, y3], hl1 =>
      have ih := it3_in s i hi n (rest w) (by have := rest_lt w hw; omega) [y0, y1, y2, y3] h2 st hl1 r
      have hk := round_norm (it3_k s i w.toNat ((64 * i : Nat) : Int) (low w : Nat) ((64 * i + low w : Nat) : Int) ((w - 1#64).toNat : Nat) ((rest w).toNat : Nat) x0 x1 x2 x3 y0 y1 y2 y3 x) ?_
      ·rw [hk]
       exact ih
      ·simp only [AllP]
       exact ⟨c1, q_shl6 i hi, tz40 w hw _, q_addn _ _ (by omega), q_conv8 _ (by omega), hy, q_sub1 w hw, q_andw _ _, ho⟩
    | stop _ _ _ _ hy hl1 =>
     match h2, hl1 with
     | [y0, y1, y2, y3], hl1 =>
      refine ⟨fun h => (by cases h), fun _ => ?_⟩
      obtain ⟨f', hs⟩ := it3_s s i w.toNat ((64 * i : Nat) : Int) (low w : Nat) ((64 * i + low w : Nat) : Int) x0 x1 x2 x3 y0 y1 y2 y3
      refine ⟨f', round_ret hs ?_⟩
      simp only [AllP]
      exact ⟨c1, q_shl6 i hi, tz40 w hw _, q_addn _ _ (by omega), q_conv8 _ (by omega), hy⟩
theorem it3_o (s : I4) (x0 x1 x2 x3 : AB) (y0 y1 y2 y3 : AB) : ∀ i : Nat, i < 4 → roundD prg0 10 [(2002, .l (.brk 2) ⟨bE39i 3 s i 0, [y0, y1, y2, y3]⟩), (6000, .d true)] 4 blv39 ir39_l1 ⟨bF39 3 s i, [x0, x1, x2, x3]⟩ =
  some ([okT 4 [x0, x1, x2, x3] = true, evH prg0 4 blv39i ir39_l0 ⟨bF39i 3 s i (s.get i), [x0, x1, x2, x3]⟩ = some (.brk 2, ⟨bE39i 3 s i 0, [y0, y1, y2, y3]⟩), okT 4 [y0, y1, y2, y3] = true], .norm, ⟨bF39 3 s ((i + 1 : Nat) : Int), [y0, y1, y2, y3]⟩)
 | 0, _ => by kernel_rfl
 | 1, _ => by kernel_rfl
 | 2, _ => by kernel_rfl
 | 3, _ => by kernel_rfl
 | _ + 4, h => absurd h (by omega)
theorem it3_r (s : I4) (f' : List AV) (x0 x1 x2 x3 : AB) (y0 y1 y2 y3 : AB) : ∀ i : Nat, i < 4 → roundD prg0 10 [(2002, .l .ret ⟨f', [y0, y1, y2, y3]⟩), (6000, .d true)] 4 blv39 ir39_l1 ⟨bF39 3 s i, [x0, x1, x2, x3]⟩ =
  some ([okT 4 [x0, x1, x2, x3] = true, evH prg0 4 blv39i ir39_l0 ⟨bF39i 3 s i (s.get i), [x0, x1, x2, x3]⟩ = some (.ret, ⟨f', [y0, y1, y2, y3]⟩)], .ret, ⟨f', [y0, y1, y2, y3]⟩)
 | 0, _ => by kernel_rfl
 | 1, _ => by kernel_rfl
 | 2, _ => by kernel_rfl
 | 3, _ => by kernel_rfl
 | _ + 4, h => absurd h (by omega)
theorem it3_oe (s : I4) (x0 x1 x2 x3 : AB) : roundD prg0 10 [] 4 blv39 ir39_l1 ⟨bF39 3 s 4, [x0, x1, x2, x3]⟩ = some ([], .brk 0, ⟨bE39 3 s 4, [x0, x1, x2, x3]⟩) := by kernel_rfl
theorem it3_out (s : V4) : ∀ (n i : Nat), i + n = 4 → ∀ (h h2 : List AB) (st : Bool), h.length = 4 → okT 4 h = true → YR 3 4 (((List.range' i n).map fun j => bitsW (s.get j) j).flatten) h h2 st →
  (st = false → evH prg0 4 blv39 ir39_l1 ⟨bF39 3 (ofV s) i, h⟩ = some (.brk 0, ⟨bE39 3 (ofV s) 4, h2⟩)) ∧ (st = true → ∃ f', evH prg0 4 blv39 ir39_l1 ⟨bF39 3 (ofV s) i, h⟩ = some (.ret, ⟨f', h2⟩))
 | 0, i, hi, h, h2, st, hm, ho, r => by
  obtain rfl : i = 4 := by omega
  match h, hm with
  | [x0, x1, x2, x3], _ =>
   cases r with
   | nil =>
    refine ⟨fun _ => ?_, fun h => by cases h⟩
    exact round_brk (it3_oe (ofV s) x0 x1 x2 x3) (by simp [AllP])
 | n + 1, i, hi, h, h2, st, hm, ho, r => by
  rw [List.range'_succ, List.map_cons, List.flatten_cons] at r
  match h, hm with
  | [x0, x1, x2, x3], hm =>
   rcases YR_split r with ⟨h1, r1, r2⟩ | ⟨rfl, r1⟩
   ·have hl1 := YR_len r1 hm
    have ho1 := YR_ok r1 ho
    match h1, hl1 with
    | [y0, y1, y2, y3], hl1 =>
     have a := (it3_in (ofV s) i (by omega) ((s.get i).toNat + 1) (s.get i) (by omega) [x0, x1, x2, x3] [y0, y1, y2, y3] false hm r1).1 rfl
     have hk := round_norm (it3_o (ofV s) x0 x1 x2 x3 y0 y1 y2 y3 i (by omega)) (by simp only [AllP, get_v]; exact ⟨ho, a, ho1⟩)
     rw [hk]
     exact it3_out s n (i + 1) (by omega) [y0, y1, y2, y3] h2 st hl1 ho1 r2
   ·have hl1 := YR_len r1 hm
    match h2, hl1 with
    | [y0, y1, y2, y3], hl1 =>
     obtain ⟨f', a⟩ := (it3_in (ofV s) i (by omega) ((s.get i).toNat + 1) (s.get i) (by omega) [x0, x1, x2, x3] [y0, y1, y2, y3] true hm r1).2 rfl
     refine ⟨fun h => (by cases h), fun _ => ⟨f', ?_⟩⟩
     exact round_ret (it3_r (ofV s) f' x0 x1 x2 x3 y0 y1 y2 y3 i (by omega)) (by simp only [AllP, get_v]; exact ⟨ho, a⟩)
theorem it3_c (s : I4) (x0 x1 x2 x3 : AB) (y0 y1 y2 y3 : AB) : callDS prg0 10 [(2000, .l (.brk 0) ⟨bE39 3 s 4, [y0, y1, y2, y3]⟩), (6000, .d true)] 39 [.yl 3, .ro (wdsP s)] [x0, x1, x2, x3] = some ([okT 4 [x0, x1, x2, x3] = true, evH prg0 4 blv39 ir39_l1 ⟨bF39 3 s 0, [x0, x1, x2, x3]⟩ = some (.brk 0, ⟨bE39 3 s 4, [y0, y1, y2, y3]⟩)], .tup [], [y0, y1, y2, y3]) := by kernel_rfl
theorem it3_c2 (s : I4) (f' : List AV) (x0 x1 x2 x3 : AB) (y0 y1 y2 y3 : AB) : callDS prg0 10 [(2000, .l .ret ⟨f', [y0, y1, y2, y3]⟩), (6000, .d true)] 39 [.yl 3, .ro (wdsP s)] [x0, x1, x2, x3] = some ([okT 4 [x0, x1, x2, x3] = true, evH prg0 4 blv39 ir39_l1 ⟨bF39 3 s 0, [x0, x1, x2, x3]⟩ = some (.ret, ⟨f', [y0, y1, y2, y3]⟩)], .tup [], [y0, y1, y2, y3]) := by kernel_rfl
theorem it3 (s : V4) (h h2 : List AB) (st : Bool) (hm : h.length = 4) (ho : okT 4 h = true) (r : YR 3 4 (bytesS s) h h2 st) : CS prg0 39 [.yl 3, .ro (wdsP (ofV s))] h = some (.tup [], h2) := by
 have hl := YR_len r hm
 have e : bytesS s = ((List.range' 0 4).map fun j => bitsW (s.get j) j).flatten := by
  simp [bytesS, List.range', V4.get]
 rw [e] at r
 obtain ⟨a, b⟩ := it3_out s 4 0 (by omega) h h2 st hm ho r
 match h, hm, h2, hl with
 | [x0, x1, x2, x3], _, [y0, y1, y2, y3], _ =>
  cases st with
  | false => exact CS_D (it3_c (ofV s) x0 x1 x2 x3 y0 y1 y2 y3) (by simp only [AllP]; exact ⟨ho, a rfl⟩)
  | true =>
   obtain ⟨f', b⟩ := b rfl
   exact CS_D (it3_c2 (ofV s) f' x0 x1 x2 x3 y0 y1 y2 y3) (by simp only [AllP]; exact ⟨ho, b⟩)
def itF (s : I4) : AV := .fn 39 [.ro (wdsP s)]
theorem bytes31 (s : I4) (h : List AB) : CP prg0 31 [setI s] h = some (itF s) := CP_of 10 (by kernel_rfl)
theorem bytesS_lt (s : V4) : ∀ c ∈ bytesS s, c < 256 := by
 have key : ∀ (w : BitVec 64) (i : Nat), i < 4 → ∀ c ∈ bitsW w i, c < 256 := by
  intro w i hi c hc
  obtain ⟨x, hx, rfl⟩ := List.mem_map.1 hc
  have := List.mem_range'_1.1 (List.mem_filter.1 hx).1
  omega
 intro c hc
 simp only [bytesS, List.mem_append] at hc
 rcases hc with h | h | h | h
 ·exact key _ 0 (by omega) c h
 ·exact key _ 1 (by omega) c h
 ·exact key _ 2 (by omega) c h
 ·exact key _ 3 (by omega) c h
def g24 (s : I4) : List AV := [setI s, .ptr 0 0, .ptr 1 0, .ptr 2 0, ud, setI s, itF s, ud, ud]
def h24 (s : I4) (c : Int) (b : Bool) : List AB := [.cells 29 (wds s), .cells 5 [vi .u8 c], .cells 4 [vb b]]
theorem y24 (s : I4) (c : Int) : yieldD prg0 10 [] 3 [vi .u8 c] (h24 s 0 false ++ [.loop 0 none [7] (g24 s) ir24_a0 ir24_b0]) = some ([], vb false, h24 s c true ++ [.loop 2 (some none) [7] (g24 s) ir24_a0 ir24_b0]) := by kernel_rfl
theorem least_c (s : I4) (c : Int) : callD prg0 10 [(6, .v (itF s)), (2000, .l .ret ⟨g24 s, h24 s c true ++ [.dead]⟩)] 24 [setI s] = some ([CP prg0 31 [setI s] (h24 s 0 false) = some (itF s), ev prg0 (.rangeF (.t 6) [7] ir24_a0 ir24_b0) ⟨g24 s, h24 s 0 false⟩ = some (.ret, ⟨g24 s, h24 s c true ++ [.dead]⟩)], .tup [vi .u8 c, vb true]) := by kernel_rfl
theorem least_n (s : I4) : callD prg0 10 [(6, .v (itF s)), (2000, .l .norm ⟨g24 s, h24 s 0 false ++ [.dead]⟩)] 24 [setI s] = some ([CP prg0 31 [setI s] (h24 s 0 false) = some (itF s), ev prg0 (.rangeF (.t 6) [7] ir24_a0 ir24_b0) ⟨g24 s, h24 s 0 false⟩ = some (.norm, ⟨g24 s, h24 s 0 false ++ [.dead]⟩)], .tup [vi .u8 0, vb false]) := by kernel_rfl
theorem least (s : V4) (h : List AB) : CP prg0 24 [setI (ofV s)] h = some (match bytesS s with | [] => .tup [vi .u8 0, vb false] | c :: _ => .tup [vi .u8 c, vb true]) := by
 cases e : bytesS s with
 | nil =>
  refine CP_D (least_n (ofV s)) ?_ rfl h
  simp only [AllP]
  refine ⟨bytes31 _ _, ev_range (h' := h24 (ofV s) 0 false ++ [.loop 0 none [7] (g24 (ofV s)) ir24_a0 ir24_b0]) (v := .tup []) rfl (it3 s _ _ false rfl rfl ?_) rfl⟩
  rw [e]
  exact .nil _
 | cons c l =>
  refine CP_D (least_c (ofV s) c) ?_ rfl h
  simp only [AllP]
  refine ⟨bytes31 _ _, ev_range (h' := h24 (ofV s) c true ++ [.loop 2 (some none) [7] (g24 (ofV s)) ir24_a0 ir24_b0]) (v := .tup []) rfl (it3 s _ _ true rfl rfl ?_) rfl⟩
  rw [e]
  exact .stop c l _ _ (callY_D (y24 (ofV s) c) (by simp [AllP])) rfl
structure SetD where
 a : Int
 b : Int
 c : Int
 d : Int
instance : DecidableEq SetD := fun x y => decidable_of_iff (x.a = y.a ∧ x.b = y.b ∧ x.c = y.c ∧ x.d = y.d) ⟨fun h => by cases x; cases y; simp only at h; obtain ⟨rfl, rfl, rfl, rfl⟩ := h; rfl, fun h => by subst h; simp⟩
def eSet (s : SetD) : List PV := [.val (.int .u64 s.a), .val (.int .u64 s.b), .val (.int .u64 s.c), .val (.int .u64 s.d)]
def toS (s : V4) : SetD := ⟨s.a.toNat, s.b.toNat, s.c.toNat, s.d.toNat⟩
def v4 (s : SetD) : V4 := ⟨.ofInt 64 s.a, .ofInt 64 s.b, .ofInt 64 s.c, .ofInt 64 s.d⟩
def sOk (s : SetD) : Bool := decide ((0 ≤ s.a ∧ s.a < 18446744073709551616) ∧ (0 ≤ s.b ∧ s.b < 18446744073709551616) ∧ (0 ≤ s.c ∧ s.c < 18446744073709551616) ∧ (0 ≤ s.d ∧ s.d < 18446744073709551616))
theorem toS_v4 {s : SetD} (h : sOk s = true) : toS (v4 s) = s := by
 have h := of_decide_eq_true h
 have key : ∀ n : Int, 0 ≤ n ∧ n < 18446744073709551616 → ((BitVec.ofInt 64 n).toNat : Int) = n := by
  intro n hn
  rw [BitVec.toNat_ofInt]
  omega
 cases s
 simp only [toS, v4, SetD.mk.injEq]
 exact ⟨key _ h.1, key _ h.2.1, key _ h.2.2.1, key _ h.2.2.2⟩
theorem v4_toS (s : V4) : v4 (toS s) = s := by
 cases s
 simp [toS, v4]
theorem sOk_toS (s : V4) : sOk (toS s) = true := by
 have key : ∀ x : BitVec 64, 0 ≤ (x.toNat : Int) ∧ (x.toNat : Int) < 18446744073709551616 := fun x => by have := x.isLt; omega
 exact decide_eq_true ⟨key _, key _, key _, key _⟩
theorem toS_inj {x y : V4} (h : toS x = toS y) : x = y := by rw [← v4_toS x, ← v4_toS y, h]
def lst0 (s : V4) : Nat := match bytesS s with
 | [] => 0
 | c :: _ => c
def cf (x y : V4) : Int := (lst0 x : Int) - (lst0 y : Int)
theorem lst0_lt (s : V4) : lst0 s < 256 := by
 unfold lst0
 cases e : bytesS s with
 | nil => simp
 | cons c l => exact bytesS_lt s c (by rw [e]; simp)
def isS (s : V4) : Bool := match bytesS s with
 | [] => false
 | _ :: _ => true
theorem least' (s : V4) (h : List AB) : CP prg0 24 [setI (ofV s)] h = some (.tup [vi .u8 (lst0 s : Int), vb (isS s)]) := by
 rw [least]
 unfold lst0 isS
 cases bytesS s <;> rfl
theorem cmp_run (x y : V4) (c d : Int) (b e : Bool) : callDS prg0 30 [(11, .v (.tup [vi .u8 c, vb b])), (16, .v (.tup [vi .u8 d, vb e]))] 42 [setI (ofV x), setI (ofV y)] [] =
  some ([CP prg0 24 [setI (ofV x)] [.cells 29 (wds (ofV x)), .cells 29 (wds (ofV y))] = some (.tup [vi .u8 c, vb b]), CP prg0 24 [setI (ofV y)] [.cells 29 (wds (ofV x)), .cells 29 (wds (ofV y))] = some (.tup [vi .u8 d, vb e])], vi .i64 (IntKind.wrap .i64 (IntKind.wrap .i64 c - IntKind.wrap .i64 d)), [.cells 29 (wds (ofV x)), .cells 29 (wds (ofV y))]) := by kernel_rfl
theorem cmp_val (c d : Nat) (hc : c < 256) (hd : d < 256) : IntKind.wrap .i64 (IntKind.wrap .i64 (c : Int) - IntKind.wrap .i64 (d : Int)) = (c : Int) - (d : Int) := by
 have k : ∀ n : Int, -256 ≤ n → n ≤ 256 → IntKind.wrap .i64 n = n := fun n h1 h2 => by rw [IntKind.wrap_i64]; omega
 rw [k c (by omega) (by omega), k d (by omega) (by omega), k _ (by omega) (by omega)]
theorem cmp_cs (x y : V4) : ∃ h', CS prg0 42 [setI (ofV x), setI (ofV y)] [] = some (vi .i64 (cf x y), h') := by
 have k := CS_D (cmp_run x y (lst0 x) (lst0 y) (isS x) (isS y)) (by simp only [AllP, and_true]; exact ⟨least' x _, least' y _⟩)
 rw [cmp_val _ _ (lst0_lt x) (lst0_lt y)] at k
 exact ⟨_, k⟩
open Go Go.Vs Go.Shelf Go.RowKit Go.Sort Go.Proofs
def rhoFS (x : Nat) : Nat := match x with | 6 => 41 | 15 => 50 | 14 => 49 | 28 => 63 | 29 => 64 | 20 => 55 | 21 => 56 | 22 => 57 | 23 => 58 | 24 => 59 | 25 => 60 | 26 => 61 | 27 => 62 | 46 => 68 | 47 => 69 | 48 => 70 | 49 => 71 | 50 => 72 | 57 => 74 | n => n
def rhoTS (x : Nat) : Nat := match x with | 22 => 47 | 24 => 29 | 25 => 71 | 3 => 3 | 39 => 65 | 0 => 0 | 53 => 102 | 55 => 27 | 4 => 4 | 46 => 95 | 45 => 94 | 50 => 99 | 5 => 5 | 9 => 9 | 66 => 106 | 70 => 110 | 76 => 112 | 77 => 113 | n => n
def rhoS : Ren := ⟨rhoFS, rhoTS, fun n => n⟩
theorem laysS : SlLaysF0.n6 prog rhoS := { mixed := Eq.refl true, f6 := Exists.intro "slices.SortFunc[[]rosetta/api.Set,rosetta/api.Set]" ⟨of_decide_eq_true (id (Eq.refl true)), Eq.trans func41 (congrArg some (Eq.refl _))⟩, f14 := Exists.intro "slices.pdqsortCmpFunc[rosetta/api.Set]" ⟨of_decide_eq_true (id (Eq.refl true)), Eq.trans func49 (congrArg some (Eq.refl _))⟩, f15 := Eq.trans func50 (congrArg some (Eq.refl (SlBodyF.n15 rhoS))), f20 := Exists.intro "slices.insertionSortCmpFunc[rosetta/api.Set]" ⟨of_decide_eq_true (id (Eq.refl true)), Eq.trans func55 (congrArg some (Eq.refl _))⟩, f21 := Exists.intro "slices.heapSortCmpFunc[rosetta/api.Set]" ⟨of_decide_eq_true (id (Eq.refl true)), Eq.trans func56 (congrArg some (Eq.refl _))⟩, f22 := Exists.intro "slices.breakPatternsCmpFunc[rosetta/api.Set]" ⟨of_decide_eq_true (id (Eq.refl true)), Eq.trans func57 (congrArg some (Eq.refl _))⟩, f23 := Exists.intro "slices.choosePivotCmpFunc[rosetta/api.Set]" ⟨of_decide_eq_true (id (Eq.refl true)), Eq.trans func58 (congrArg some (Eq.refl _))⟩, f24 := Exists.intro "slices.reverseRangeCmpFunc[rosetta/api.Set]" ⟨of_decide_eq_true (id (Eq.refl true)), Eq.trans func59 (congrArg some (Eq.refl _))⟩, f25 := Exists.intro "slices.partialInsertionSortCmpFunc[rosetta/api.Set]" ⟨of_decide_eq_true (id (Eq.refl true)), Eq.trans func60 (congrArg some (Eq.refl _))⟩, f26 := Exists.intro "slices.partitionEqualCmpFunc[rosetta/api.Set]" ⟨of_decide_eq_true (id (Eq.refl true)), Eq.trans func61 (congrArg some (Eq.refl _))⟩, f27 := Exists.intro "slices.partitionCmpFunc[rosetta/api.Set]" ⟨of_decide_eq_true (id (Eq.refl true)), Eq.trans func62 (congrArg some (Eq.refl _))⟩, f28 := Eq.trans func63 (congrArg some (Eq.refl (SlBodyF.n28 rhoS))), f29 := Eq.trans func64 (congrArg some (Eq.refl (SlBodyF.n29 rhoS))), f46 := Exists.intro "slices.siftDownCmpFunc[rosetta/api.Set]" ⟨of_decide_eq_true (id (Eq.refl true)), Eq.trans func68 (congrArg some (Eq.refl _))⟩, f47 := Eq.trans func69 (congrArg some (Eq.refl (SlBodyF.n47 rhoS))), f48 := Eq.trans func70 (congrArg some (Eq.refl (SlBodyF.n48 rhoS))), f49 := Exists.intro "slices.medianAdjacentCmpFunc[rosetta/api.Set]" ⟨of_decide_eq_true (id (Eq.refl true)), Eq.trans func71 (congrArg some (Eq.refl _))⟩, f50 := Exists.intro "slices.medianCmpFunc[rosetta/api.Set]" ⟨of_decide_eq_true (id (Eq.refl true)), Eq.trans func72 (congrArg some (Eq.refl _))⟩, f57 := Exists.intro "slices.order2CmpFunc[rosetta/api.Set]" ⟨of_decide_eq_true (id (Eq.refl true)), Eq.trans func74 (congrArg some (Eq.refl _))⟩, t0 := underlying0, a0 := isAgg0, z0 := sizeOf0, v0 := zeroValue0, t3 := underlying3, a3 := isAgg3, z3 := sizeOf3, v3 := zeroValue3, t4 := underlying4, a4 := isAgg4, z4 := sizeOf4, v4 := zeroValue4, t5 := underlying5, a5 := isAgg5, z5 := sizeOf5, v5 := zeroValue5, t9 := underlying9, a9 := isAgg9, z9 := sizeOf9, v9 := zeroValue9, t22 := underlying47, a22 := isAgg47, z22 := sizeOf47, v22 := zeroValue47, t25 := underlying71, a25 := isAgg71, z25 := sizeOf71, v25 := zeroValue71, t39 := underlying65, a39 := isAgg65, z39 := sizeOf65, v39 := zeroValue65, t45 := underlying94, a45 := isAgg94, z45 := sizeOf94, v45 := zeroValue94, t46 := underlying95, a46 := isAgg95, z46 := sizeOf95, v46 := zeroValue95, t50 := underlying99, a50 := isAgg99, z50 := sizeOf99, v50 := zeroValue99, t53 := underlying102, a53 := isAgg102, z53 := sizeOf102, v53 := zeroValue102, t55 := underlying27, a55 := isAgg27, z55 := sizeOf27, v55 := zeroValue27, t66 := underlying106, a66 := isAgg106, z66 := sizeOf106, v66 := zeroValue106, t70 := underlying110, a70 := isAgg110, z70 := sizeOf110, v70 := zeroValue110, t76 := underlying112, a76 := isAgg112, z76 := sizeOf112, v76 := zeroValue112, t77 := underlying113, a77 := isAgg113, z77 := sizeOf113, v77 := zeroValue113 }
instance : Inhabited V4 := ⟨⟨0, 0, 0, 0⟩⟩
def encV (s : V4) : List Value := [.int .u64 (s.a.toNat : Int), .int .u64 (s.b.toNat : Int), .int .u64 (s.c.toNat : Int), .int .u64 (s.d.toNat : Int)]
theorem cf_swo : SWO (ltOf cf) := by
 have e : ∀ x y : V4, ltOf cf x y = decide (lst0 x < lst0 y) := fun x y => by
  unfold ltOf cf
  exact decide_eq_decide.2 (by omega)
 refine ⟨fun x => by rw [e]; simp, fun x y z h1 h2 => ?_, fun x y z h1 h2 => ?_⟩
 ·rw [e] at h1 h2 ⊢
  have h1 := of_decide_eq_true h1
  have h2 := of_decide_eq_true h2
  exact decide_eq_true (by omega)
 ·rw [e] at h1 h2 ⊢
  have h1 := of_decide_eq_false h1
  have h2 := of_decide_eq_false h2
  exact decide_eq_false (by omega)
theorem raV (xs : List V4) : ra eSet (xs.map toS) = ra (fun v => eSet (toS v)) xs := by simp [ra, Function.comp_def]
theorem sort_snd {h : List AB} {b gen len : Nat} {xs : List V4} (hb : h[b]? = some (.row 29 4 gen (ra eSet (xs.map toS)))) (hl : len ≤ xs.length) (hs : xs.length ≤ 1000000) :
  CallR prog (Go.Vs.Good prog) gl02 41 [.sl b gen 4 0 len, .fn 42 []] h (.tup []) (h.set b (.row 29 4 gen (ra eSet ((srtK cf (xs.take len) ++ xs.drop len).map toS)))) := by
 rw [raV] at hb ⊢
 exact sortfunc_sound (P := prog) (gl := gl02) (ρ := rhoS) laysS ⟨f41, func41, by kernel_rfl, by kernel_rfl⟩ (k := 4) isAgg29 sizeOf29 (enc := encV) (fun _ => rfl) (fun _ => rfl) (fun x v hv => by
  simp only [encV, List.mem_cons, List.not_mem_nil, or_false] at hv
  rcases hv with rfl | rfl | rfl | rfl <;> rfl) cf_swo (g0 := 42) (fun x y => by
   obtain ⟨h', k⟩ := cmp_cs x y
   exact ⟨h', CS_sound prg0_ok k⟩) hb hl (by omega)
noncomputable def sortA (args : List AV) (h : List AB) : Option (AV × List AB) := by
 classical exact if hs : ∃ (b gen len : Nat) (xs : List V4), args = [.sl b gen 4 0 len, .fn 42 []] ∧ h[b]? = some (.row 29 4 gen (ra eSet (xs.map toS))) ∧ len ≤ xs.length ∧ xs.length ≤ 1000000 then some (.tup [], h.set hs.choose (.row 29 4 hs.choose_spec.choose (ra eSet ((srtK cf (hs.choose_spec.choose_spec.choose_spec.choose.take hs.choose_spec.choose_spec.choose) ++ hs.choose_spec.choose_spec.choose_spec.choose.drop hs.choose_spec.choose_spec.choose).map toS)))) else none
theorem sort_ok {args : List AV} {h h' : List AB} {v : AV} (hc : sortA args h = some (v, h')) : CallR prog (Go.Vs.Good prog) gl02 41 args h v h' := by
 unfold sortA at hc
 split at hc
 ·rename_i hs
  have hq := hs.choose_spec.choose_spec.choose_spec.choose_spec
  cases hc
  generalize hs.choose_spec.choose_spec.choose_spec.choose = xs at hq ⊢
  generalize hs.choose_spec.choose_spec.choose = len at hq ⊢
  generalize hs.choose_spec.choose = gen at hq ⊢
  generalize hs.choose = b at hq ⊢
  obtain ⟨rfl, h2, h3, h4⟩ := hq
  exact sort_snd h2 h3 h4
 ·cases hc
theorem eSet_inj {x y : SetD} (h : eSet x = eSet y) : x = y := by
 cases x; cases y
 simp only [eSet, List.cons.injEq, PV.val.injEq, Value.int.injEq, true_and, and_true] at h
 obtain ⟨rfl, rfl, rfl, rfl⟩ := h
 rfl
theorem ra_inj : ∀ {l m : List SetD}, ra eSet l = ra eSet m → l = m
 | [], [], _ => rfl
 | [], _ :: _, h => by simp [ra] at h
 | _ :: _, [], h => by simp [ra] at h
 | x :: l, y :: m, h => by
  simp only [ra, List.map_cons, List.cons.injEq] at h
  have h1 : eSet x = eSet y := by
   have := h.1
   simpa [eSet] using this
  rw [eSet_inj h1, ra_inj (l := l) (m := m) (by simpa [ra] using h.2)]
theorem map_toS_inj : ∀ {l m : List V4}, l.map toS = m.map toS → l = m
 | [], [], _ => rfl
 | [], _ :: _, h => by simp at h
 | _ :: _, [], h => by simp at h
 | x :: l, y :: m, h => by
  simp only [List.map_cons, List.cons.injEq] at h
  rw [toS_inj h.1, map_toS_inj h.2]
theorem sortA_eq {h : List AB} {b gen len : Nat} {xs : List V4} (hb : h[b]? = some (.row 29 4 gen (ra eSet (xs.map toS)))) (hl : len ≤ xs.length) (hx : xs.length ≤ 1000000) :
  sortA [.sl b gen 4 0 len, .fn 42 []] h = some (.tup [], h.set b (.row 29 4 gen (ra eSet ((srtK cf (xs.take len) ++ xs.drop len).map toS)))) := by
 have hs : ∃ (b' gen' len' : Nat) (xs' : List V4), ([.sl b gen 4 0 len, .fn 42 []] : List AV) = [.sl b' gen' 4 0 len', .fn 42 []] ∧ h[b']? = some (.row 29 4 gen' (ra eSet (xs'.map toS))) ∧ len' ≤ xs'.length ∧ xs'.length ≤ 1000000 := ⟨b, gen, len, xs, rfl, hb, hl, hx⟩
 unfold sortA
 rw [dif_pos hs]
 have hq := hs.choose_spec.choose_spec.choose_spec.choose_spec
 generalize hs.choose_spec.choose_spec.choose_spec.choose = xs' at hq ⊢
 generalize hs.choose_spec.choose_spec.choose = len' at hq ⊢
 generalize hs.choose_spec.choose = gen' at hq ⊢
 generalize hs.choose = b' at hq ⊢
 obtain ⟨e1, e2, _, _⟩ := hq
 simp only [List.cons.injEq, AV.sl.injEq, true_and, and_true] at e1
 obtain ⟨rfl, rfl, rfl⟩ := e1
 rw [hb] at e2
 simp only [Option.some.injEq, AB.row.injEq, true_and] at e2
 rw [map_toS_inj (ra_inj e2)]
theorem known0 : callP prg0 (evalN prg0 100) 8 [] [] = some (vb true) := by kernel_rfl
noncomputable def primK (n : Nat) (args : List AV) (h : List AB) : Option (AV × List AB) := match n.beq 41 with
 | true => sortA args h
 | false => match n.beq 8 && args.isEmpty with
  | true => some (vb true, h)
  | false => none
noncomputable def prg : Prg := ⟨fun n => match n.beq 41 || n.beq 8 with | true => none | false => fns n, gl02, primK, frs⟩
theorem prg_ok : PrgOk prog prg := by
 refine ⟨fun f F h => ?_, fun f args h v h' hc => ?_⟩
 ·have h : (match f.beq 41 || f.beq 8 with | true => none | false => fns f) = some F := h
  split at h
  ·cases h
  ·exact fns_ok f F h
 ·have hc : primK f args h = some (v, h') := hc
  unfold primK at hc
  split at hc
  ·rename_i e
   obtain rfl := Nat.eq_of_beq_eq_true e
   exact sort_ok hc
  ·split at hc
   ·rename_i e
    have e1 : f = 8 := Nat.eq_of_beq_eq_true (by cases h1 : f.beq 8 with | true => rfl | false => rw [h1] at e; cases e)
    subst e1
    have e2 : args = [] := by cases args with | nil => rfl | cons _ _ => cases e
    subst e2
    cases hc
    refine CP_sound (p := prg0) prg0_ok ?_
    have k := CP_of 100 known0
    rw [CP_in _ _ rfl] at k ⊢
    exact k
   ·cases hc
theorem known : PR1 prg 8 [] (vb true) := ⟨vb true, [], by unfold CS callS; rfl, rfl⟩
def srtR (xs : List SetD) (len : Nat) : List SetD := (srtK cf ((xs.map v4).take len) ++ (xs.map v4).drop len).map toS
theorem cs_sort {h h' : List AB} {b gen len : Nat} {xs : List SetD} (hb : h[b]? = some (.row 29 4 gen (ra eSet xs))) (hl : decide (len ≤ xs.length ∧ xs.length ≤ 1000000) = true) (ho : xs.all sOk = true) (hh : h.set b (.row 29 4 gen (ra eSet (srtR xs len))) = h') :
  CS prg 41 [.sl b gen 4 0 len, .fn 42 []] h = some (.tup [], h') := by
 have hl := of_decide_eq_true hl
 have hx : xs = (xs.map v4).map toS := by
  rw [List.map_map]
  conv => lhs; rw [← List.map_id xs]
  exact List.map_congr_left fun s hs => (toS_v4 (List.all_eq_true.1 ho s hs)).symm
 have hb2 : h[b]? = some (.row 29 4 gen (ra eSet ((xs.map v4).map toS))) := by rw [hb, ← hx]
 have e := sortA_eq hb2 (by simpa using hl.1) (by simpa using hl.2)
 rw [show (srtK cf ((xs.map v4).take len) ++ (xs.map v4).drop len).map toS = srtR xs len from rfl, hh] at e
 unfold CS callS
 exact e
noncomputable def F8 : Option Bool := some true
def F8_v (x0 : Bool) : AV := vb x0
theorem F8_ok {r : Bool} (h : F8 = some r) : PR1 prg 8 [] (F8_v r) := by cases h; exact known
end Go.Proofs.Tryd
