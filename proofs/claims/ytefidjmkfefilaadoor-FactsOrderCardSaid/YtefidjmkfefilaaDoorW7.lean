/- What the grammars' rows are, as plain data. -/
import Derived.Test.YtefidjmkfefilaaDoorFT7
import Derived.Test.YtefidjmkfefilaaDoorVE
import Derived.Laws.Bits64
import Derived.Lib.TrailingZeros
namespace Go.Proofs.Tryd
set_option linter.unusedSimpArgs false
set_option linter.unusedVariables false
open Go Go.Vs
structure SetD where
 a : Int
 b : Int
 c : Int
 d : Int
structure SymD where
 kind : Int
 a : Int
 b : Int
 c : Int
 d : Int
 sort : Int
structure ProdD where
 left : Int
 right : List SymD
 cons : ByteArray
 role : Int
 prefer : Bool
 avoid : Bool
 frm : Int
structure ForbD where
 parent : Int
 at_ : Int
 child : Int
structure FollD where
 sort : Int
 a : Int
 b : Int
 c : Int
 d : Int
structure GramD where
 sorts : List ByteArray
 prods : List ProdD
 start : Int
 forbid : List ForbD
 follow : List FollD
def eI64 (n : Int) : List PV := [.val (.int .i64 n)]
def eBool (b : Bool) : List PV := [.val (.bool b)]
def eStr (s : ByteArray) : List PV := [.val (.string s)]
def eSet (s : SetD) : List PV := [.val (.int .u64 s.a), .val (.int .u64 s.b), .val (.int .u64 s.c), .val (.int .u64 s.d)]
def eSym (s : SymD) : List PV := [.val (.int .i64 s.kind), .val (.int .u64 s.a), .val (.int .u64 s.b), .val (.int .u64 s.c), .val (.int .u64 s.d), .val (.int .i64 s.sort)]
def eProd (p : ProdD) : List PV := [.val (.int .i64 p.left), .lst 6 (p.right.map eSym), .val (.string p.cons), .val (.int .i64 p.role), .val (.bool p.prefer), .val (.bool p.avoid), .val (.int .i64 p.frm)]
def eForb (f : ForbD) : List PV := [.val (.int .i64 f.parent), .val (.int .i64 f.at_), .val (.int .i64 f.child)]
def eFoll (f : FollD) : List PV := [.val (.int .i64 f.sort), .val (.int .u64 f.a), .val (.int .u64 f.b), .val (.int .u64 f.c), .val (.int .u64 f.d)]
def eGram (g : GramD) : List PV := [.lst 1 (g.sorts.map eStr), .lst 7 (g.prods.map eProd), .val (.int .i64 g.start), .lst 3 (g.forbid.map eForb), .lst 5 (g.follow.map eFoll)]
def bG (g : GramD) : AB := .cells 27 ((eGram g).map .p)
def bP (p : ProdD) : AB := .cells 53 ((eProd p).map .p)
def bI (l : List Int) : AB := .row 3 1 0 (ra eI64 l)
def bB (l : List Bool) : AB := .row 4 1 0 (ra eBool l)
def aG (g : GramD) : AV := .agg ((eGram g).map .p)
def aP (p : ProdD) : AV := .agg ((eProd p).map .p)
def w6 (n : Int) : Int := IntKind.wrap .i64 n
def mII (l : List (Int × Int)) : AB := .map (mrow (fun n => vi .i64 n) (fun n => vi .i64 n) l)
def mIS (l : List (Int × ByteArray)) : AB := .map (mrow (fun n => vi .i64 n) (fun s => vs s) l)
def mSI (l : List (ByteArray × Int)) : AB := .map (mrow (fun s => vs s) (fun n => vi .i64 n) l)
def mFI (l : List ((Int × Int × Int) × Int)) : AB := .map (mrow (fun n => .agg [vi .i64 n.1, vi .i64 n.2.1, vi .i64 n.2.2]) (fun n => vi .i64 n) l)
def b0 : ByteArray := (⟨([] : List UInt8).toArray⟩ : ByteArray)
abbrev i6 (n : Int) : AV := vi .i64 n
theorem r40 : callP prg (evalN prg 100) 40 [] [] = some gS := by kernel_rfl
theorem r13 : callP prg (evalN prg 100) 13 [gS] [] = some (.tup [.p (.lst 1 [[.val (.int .i64 1)], [.val (.int .i64 0)], [.val (.int .i64 (-1))]]), vi .i64 0]) := by kernel_rfl
theorem r22 : callP prg (evalN prg 100) 22 [gS] [] = some (.tup [.p (.lst 1 [[.val (.bool false)], [.val (.bool true)], [.val (.bool false)]]), vi .i64 0]) := by kernel_rfl
theorem r14a : callP prg (evalN prg 100) 14 [gS, vi .i64 0] [] = some (.tup [vs ⟨([120] : List UInt8).toArray⟩, vi .i64 0]) := by kernel_rfl
theorem r14b : callP prg (evalN prg 100) 14 [gS, vi .i64 2] [] = some (.tup [vs ⟨([] : List UInt8).toArray⟩, vi .i64 161]) := by kernel_rfl
theorem r23 : callP prg (evalN prg 100) 23 [gS] [] = some (.tup [.p (.lst 1 [[.val (.bool true)], [.val (.bool false)], [.val (.bool false)]]), vi .i64 0]) := by kernel_rfl
structure I4 where
 a : Int
 b : Int
 c : Int
 d : Int
def wds (s : I4) : List AV := [vi .u64 s.a, vi .u64 s.b, vi .u64 s.c, vi .u64 s.d]
def setI (s : I4) : AV := .agg (wds s)
def orI (x y : Int) : Int := IntKind.u64.wrap (BitVec.ofInt 64 x ||| BitVec.ofInt 64 y).toNat
def andI (x y : Int) : Int := IntKind.u64.wrap (BitVec.ofInt 64 x &&& BitVec.ofInt 64 y).toNat
structure V4 where
 a : BitVec 64
 b : BitVec 64
 c : BitVec 64
 d : BitVec 64
instance (x y : V4) : Decidable (x = y) := by
 obtain ⟨a, b, c, d⟩ := x
 obtain ⟨e, f, g, h⟩ := y
 exact decidable_of_iff (a = e ∧ b = f ∧ c = g ∧ d = h) (by simp)
def ofV (s : V4) : I4 := ⟨s.a.toNat, s.b.toNat, s.c.toNat, s.d.toNat⟩
theorem wrap_nat (p : BitVec 64) : IntKind.u64.wrap (p.toNat : Int) = p.toNat := by
 rw [IntKind.wrap_u64]
 have := p.isLt
 omega
theorem orI_n (p q : BitVec 64) : orI p.toNat q.toNat = ((p ||| q).toNat : Int) := by
 unfold orI
 rw [show (BitVec.ofInt 64 (p.toNat : Int)) = p from by simp, show (BitVec.ofInt 64 (q.toNat : Int)) = q from by simp]
 exact wrap_nat _
theorem orI_0 (q : BitVec 64) : orI 0 q.toNat = (q.toNat : Int) := by
 have := orI_n 0#64 q
 simpa using this
theorem andI_n (p q : BitVec 64) : andI p.toNat q.toNat = ((p &&& q).toNat : Int) := by
 unfold andI
 rw [show (BitVec.ofInt 64 (p.toNat : Int)) = p from by simp, show (BitVec.ofInt 64 (q.toNat : Int)) = q from by simp]
 exact wrap_nat _
def I4.get (s : I4) : Nat → Int
 | 0 => s.a
 | 1 => s.b
 | 2 => s.c
 | _ => s.d
def I4.put (s : I4) (k : Nat) (x : Int) : I4 :=
 match k with
 | 0 => ⟨x, s.b, s.c, s.d⟩
 | 1 => ⟨s.a, x, s.c, s.d⟩
 | 2 => ⟨s.a, s.b, x, s.d⟩
 | _ => ⟨s.a, s.b, s.c, x⟩
def V4.get (s : V4) : Nat → BitVec 64
 | 0 => s.a
 | 1 => s.b
 | 2 => s.c
 | _ => s.d
def V4.putW (s : V4) (k : Nat) (x : BitVec 64) : V4 :=
 match k with
 | 0 => ⟨x, s.b, s.c, s.d⟩
 | 1 => ⟨s.a, x, s.c, s.d⟩
 | 2 => ⟨s.a, s.b, x, s.d⟩
 | _ => ⟨s.a, s.b, s.c, x⟩
theorem get_v (s : V4) (k : Nat) : (ofV s).get k = (s.get k).toNat := by
 match k with
 | 0 => rfl
 | 1 => rfl
 | 2 => rfl
 | _ + 3 => rfl
def has (s : V4) (b : Nat) : Bool := (s.get (b / 64)).getLsbD (b % 64)
def put (s : V4) (b : Nat) : V4 := s.putW (b / 64) (s.get (b / 64) ||| 1#64 <<< (b % 64))
theorem tz40_k (w : Int) : ∀ j : Nat, j < 64 → callD prg 10 [(4, .d false), (8, .v (vi .u64 ((2 ^ j : Nat) : Int)))] 83 [vi .u64 w] =
  some ([vb (w == 0) = vb false, binA .and (vi .u64 w) (vi .u64 (IntKind.u64.wrap (0 - w))) = some (vi .u64 ((2 ^ j : Nat) : Int))], vi .i64 (j : Int))
 | 0, _ => by kernel_rfl
 | 1, _ => by kernel_rfl
 | 2, _ => by kernel_rfl
 | 3, _ => by kernel_rfl
 | 4, _ => by kernel_rfl
 | 5, _ => by kernel_rfl
 | 6, _ => by kernel_rfl
 | 7, _ => by kernel_rfl
 | 8, _ => by kernel_rfl
 | 9, _ => by kernel_rfl
 | 10, _ => by kernel_rfl
 | 11, _ => by kernel_rfl
 | 12, _ => by kernel_rfl
 | 13, _ => by kernel_rfl
 | 14, _ => by kernel_rfl
 | 15, _ => by kernel_rfl
 | 16, _ => by kernel_rfl
 | 17, _ => by kernel_rfl
 | 18, _ => by kernel_rfl
 | 19, _ => by kernel_rfl
 | 20, _ => by kernel_rfl
 | 21, _ => by kernel_rfl
 | 22, _ => by kernel_rfl
 | 23, _ => by kernel_rfl
 | 24, _ => by kernel_rfl
 | 25, _ => by kernel_rfl
 | 26, _ => by kernel_rfl
 | 27, _ => by kernel_rfl
 | 28, _ => by kernel_rfl
 | 29, _ => by kernel_rfl
 | 30, _ => by kernel_rfl
 | 31, _ => by kernel_rfl
 | 32, _ => by kernel_rfl
 | 33, _ => by kernel_rfl
 | 34, _ => by kernel_rfl
 | 35, _ => by kernel_rfl
 | 36, _ => by kernel_rfl
 | 37, _ => by kernel_rfl
 | 38, _ => by kernel_rfl
 | 39, _ => by kernel_rfl
 | 40, _ => by kernel_rfl
 | 41, _ => by kernel_rfl
 | 42, _ => by kernel_rfl
 | 43, _ => by kernel_rfl
 | 44, _ => by kernel_rfl
 | 45, _ => by kernel_rfl
 | 46, _ => by kernel_rfl
 | 47, _ => by kernel_rfl
 | 48, _ => by kernel_rfl
 | 49, _ => by kernel_rfl
 | 50, _ => by kernel_rfl
 | 51, _ => by kernel_rfl
 | 52, _ => by kernel_rfl
 | 53, _ => by kernel_rfl
 | 54, _ => by kernel_rfl
 | 55, _ => by kernel_rfl
 | 56, _ => by kernel_rfl
 | 57, _ => by kernel_rfl
 | 58, _ => by kernel_rfl
 | 59, _ => by kernel_rfl
 | 60, _ => by kernel_rfl
 | 61, _ => by kernel_rfl
 | 62, _ => by kernel_rfl
 | 63, _ => by kernel_rfl
 | _ + 64, h => absurd h (by omega)
theorem and_pred (c m : Nat) : (2 ^ c * (2 * m + 1)) &&& (2 ^ c * (2 * m + 1) - 1) = 2 ^ (c + 1) * m := by
 have hp : 0 < 2 ^ c := Nat.two_pow_pos c
 have e1 : 2 ^ c * (2 * m + 1) - 1 = 2 ^ c * (2 * m) + (2 ^ c - 1) := by rw [Nat.mul_add, Nat.mul_one]; omega
 have e2 : 2 ^ (c + 1) * m = 2 ^ c * (2 * m) := by rw [Nat.pow_succ, Nat.mul_assoc]
 apply Nat.eq_of_testBit_eq
 intro i
 rw [Nat.testBit_and, e1, Nat.testBit_two_pow_mul_add _ (by omega : 2 ^ c - 1 < 2 ^ c), e2, Nat.testBit_two_pow_mul, Nat.testBit_two_pow_mul]
 by_cases hi : i < c
 ·simp [hi, show ¬ c ≤ i from by omega]
 ·simp only [if_neg hi, show c ≤ i from by omega, decide_true, Bool.true_and]
  rcases Nat.eq_zero_or_pos (i - c) with h0 | h0
  ·rw [h0]; simp
  ·obtain ⟨k, hk⟩ : ∃ k, i - c = k + 1 := ⟨i - c - 1, by omega⟩
   rw [hk, Nat.testBit_succ, Nat.testBit_succ]
   have : (2 * m + 1) / 2 = m := by omega
   have h2 : 2 * m / 2 = m := by omega
   rw [this, h2, Bool.and_self]
def low (w : BitVec 64) : Nat := Lib.ctz 64 w.toNat
theorem low_spec (w : BitVec 64) (h : w ≠ 0#64) : ∃ m, w.toNat = 2 ^ low w * (2 * m + 1) ∧ low w < 64 := by
 have h0 : w.toNat ≠ 0 := fun e => h (BitVec.eq_of_toNat_eq (by simpa using e))
 have e : Lib.ctz 64 w.toNat = Lib.ctzFrom 64 w.toNat := by simp [Lib.ctz, h0]
 obtain ⟨m, h1, h2⟩ := Lib.ctzFrom_spec 64 w.toNat (by omega) w.isLt
 exact ⟨m, by unfold low; rw [e]; exact h1, by unfold low; rw [e]; exact h2⟩
theorem tz40 (w : BitVec 64) (hw : w ≠ 0#64) (h : List AB) : CP prg 83 [vi .u64 w.toNat] h = some (vi .i64 (low w)) := by
 have h0 : w.toNat ≠ 0 := fun e => hw (BitVec.eq_of_toNat_eq (by simpa using e))
 obtain ⟨hl, hlt⟩ := Lib.lowest_bit 64 w.toNat h0 w.isLt
 refine CP_D (tz40_k (w.toNat : Int) (low w) hlt) ?_ rfl h
 simp only [AllP]
 constructor
 ·have : ((w.toNat : Int) == 0) = false := by simp; omega
  rw [this]
 ·have e : IntKind.u64.wrap (0 - (w.toNat : Int)) = ((-w).toNat : Int) := by
   rw [IntKind.wrap_u64, BitVec.toNat_neg]
   have := w.isLt
   omega
  have e2 : (w &&& -w).toNat = 2 ^ low w := by
   rw [BitVec.toNat_and, BitVec.toNat_neg, Nat.mod_eq_of_lt (by have := w.isLt; omega)]
   exact hl
  have h3 := andI_n w (-w)
  unfold andI at h3
  rw [e]
  simp only [binA, binV, intOp, if_true]
  rw [show IntKind.u64.bits = 64 from rfl, h3, e2]
  rfl
def rest (w : BitVec 64) : BitVec 64 := w &&& (w - 1#64)
theorem rest_nat (w : BitVec 64) (hw : w ≠ 0#64) : ∃ m, w.toNat = 2 ^ low w * (2 * m + 1) ∧ (rest w).toNat = 2 ^ (low w + 1) * m := by
 obtain ⟨m, h1, _⟩ := low_spec w hw
 refine ⟨m, h1, ?_⟩
 have h0 : w.toNat ≠ 0 := fun e => hw (BitVec.eq_of_toNat_eq (by simpa using e))
 have e : (w - 1#64).toNat = w.toNat - 1 := by
  rw [BitVec.toNat_sub]
  have := w.isLt
  have h1 : (1#64).toNat = 1 := rfl
  rw [h1]
  omega
 unfold rest
 rw [BitVec.toNat_and, e, h1]
 exact and_pred _ _
theorem rest_lt (w : BitVec 64) (hw : w ≠ 0#64) : (rest w).toNat < w.toNat := by
 obtain ⟨m, h1, h2⟩ := rest_nat w hw
 rw [h1, h2, Nat.pow_succ, Nat.mul_assoc]
 have := Nat.two_pow_pos (low w)
 rw [Nat.mul_add (2 ^ low w)]
 omega
theorem bit_w (w : BitVec 64) (hw : w ≠ 0#64) (i : Nat) (hi : i < 64) : w.getLsbD i = (decide (i = low w) || (rest w).getLsbD i) ∧ (i ≤ low w → (rest w).getLsbD i = false) := by
 obtain ⟨m, h1, h2⟩ := rest_nat w hw
 have e1 : w.getLsbD i = w.toNat.testBit i := rfl
 have e2 : (rest w).getLsbD i = (rest w).toNat.testBit i := rfl
 rw [e1, e2, h1, h2, Nat.testBit_two_pow_mul, Nat.testBit_two_pow_mul]
 refine ⟨?_, fun h => by simp; omega⟩
 by_cases h : i < low w
 ·simp [show ¬ low w ≤ i from by omega, show ¬ i = low w from by omega]; omega
 ·by_cases he : i = low w
  ·rw [he]; simp
  ·obtain ⟨k, hk⟩ : ∃ k, i - low w = k + 1 := ⟨i - low w - 1, by omega⟩
   have hk2 : i - (low w + 1) = k := by omega
   rw [hk, hk2, Nat.testBit_succ, show (2 * m + 1) / 2 = m from by omega]
   simp [show low w ≤ i from by omega, show low w + 1 ≤ i from by omega, he]
def bits (w : BitVec 64) : List Nat := (List.range' 0 64).filter w.getLsbD
theorem bits_0 : bits 0#64 = [] := by
 unfold bits
 rw [List.filter_eq_nil_iff]
 intro i _
 simp
theorem filter_none {p : Nat → Bool} : ∀ {l : List Nat}, (∀ x ∈ l, p x = false) → l.filter p = [] := by
 intro l h
 rw [List.filter_eq_nil_iff]
 intro x hx
 simp [h x hx]
theorem bits_cons (w : BitVec 64) (hw : w ≠ 0#64) : bits w = low w :: bits (rest w) := by
 obtain ⟨m, h1, hlt⟩ := low_spec w hw
 have hsp : List.range' 0 64 = List.range' 0 (low w) ++ (low w :: List.range' (low w + 1) (63 - low w)) := by
  have e : List.range' 0 64 = List.range' 0 (low w) ++ List.range' (0 + low w) (64 - low w) := by
   rw [List.range'_append_1]
   congr 1
   omega
  rw [e, Nat.zero_add, show 64 - low w = (63 - low w) + 1 from by omega, List.range'_succ]
 have hlow : ∀ x ∈ List.range' 0 (low w), w.getLsbD x = false ∧ (rest w).getLsbD x = false := by
  intro x hx
  have hx' : x < low w := by have := List.mem_range'_1.1 hx; omega
  obtain ⟨a, b⟩ := bit_w w hw x (by omega)
  have := b (by omega)
  rw [a, this]
  simp; omega
 have hhi : ∀ x ∈ List.range' (low w + 1) (63 - low w), w.getLsbD x = (rest w).getLsbD x := by
  intro x hx
  have hx' := List.mem_range'_1.1 hx
  obtain ⟨a, b⟩ := bit_w w hw x (by omega)
  rw [a]
  simp; intro h; omega
 obtain ⟨a, b⟩ := bit_w w hw (low w) hlt
 unfold bits
 rw [hsp, List.filter_append, List.filter_append, filter_none (fun x hx => (hlow x hx).1), filter_none (fun x hx => (hlow x hx).2), List.nil_append, List.nil_append]
 rw [List.filter_cons, List.filter_cons, a, b (Nat.le_refl _)]
 simp only [decide_true, Bool.true_or, if_true, Bool.false_eq_true, if_false]
 congr 1
 exact List.filter_congr hhi
inductive YR (k m : Nat) : List Nat → List AB → List AB → Bool → Prop
 | nil (h : List AB) : YR k m [] h h false
 | go (c : Nat) (l : List Nat) (h h1 e h2 : List AB) (st : Bool) (hy : callY (ev prg) k [vi .u8 c] h = some (vb true, h1 ++ e)) (hl : h1.length = m) (ho : okT m (h1 ++ e) = true) (r : YR k m l h1 h2 st) : YR k m (c :: l) h h2 st
 | stop (c : Nat) (l : List Nat) (h h1 : List AB) (hy : callY (ev prg) k [vi .u8 c] h = some (vb false, h1)) (hl : h1.length = m) : YR k m (c :: l) h h1 true
theorem YR_split {k m : Nat} : ∀ {l1 l2 : List Nat} {h h2 : List AB} {st : Bool}, YR k m (l1 ++ l2) h h2 st → (∃ h1, YR k m l1 h h1 false ∧ YR k m l2 h1 h2 st) ∨ (st = true ∧ YR k m l1 h h2 true)
 | [], l2, h, h2, st, r => .inl ⟨h, .nil h, r⟩
 | c :: l1, l2, h, h2, st, r => by
  cases r with
  | go _ _ _ h1 e _ _ hy hl ho r =>
   rcases YR_split r with ⟨h3, a, b⟩ | ⟨a, b⟩
   ·exact .inl ⟨h3, .go c l1 h h1 e h3 false hy hl ho a, b⟩
   ·exact .inr ⟨a, .go c l1 h h1 e h2 true hy hl ho b⟩
  | stop _ _ _ _ hy hl => exact .inr ⟨rfl, .stop c l1 h h2 hy hl⟩
theorem YR_len {k m : Nat} {l : List Nat} {h h2 : List AB} {st : Bool} (r : YR k m l h h2 st) (hh : h.length = m) : h2.length = m := by
 induction r with
 | nil h => exact hh
 | go c l h h1 e h2 st hy hl ho r ih => exact ih hl
 | stop c l h h1 hy hl => exact hl
theorem YR_ok {k m : Nat} {l : List Nat} {h h2 : List AB} (r : YR k m l h h2 false) (ho : okT m h = true) : okT m h2 = true := by
 generalize e : false = st at r
 induction r with
 | nil h => exact ho
 | go c l h h1 x h2 st hy hl hq r ih => exact ih (okT_app hl hq) e
 | stop c l h h1 hy hl => cases e
def bitsW (w : BitVec 64) (i : Nat) : List Nat := (bits w).map (64 * i + ·)
def bytesS (s : V4) : List Nat := bitsW s.a 0 ++ (bitsW s.b 1 ++ (bitsW s.c 2 ++ bitsW s.d 3))
def blv39i : List Nat := [0, 3, 4, 5, 6]
def blv39 : List Nat := [0, 5, 6]
def wdsP (s : I4) : List PV := [.val (.int .u64 s.a), .val (.int .u64 s.b), .val (.int .u64 s.c), .val (.int .u64 s.d)]
def bF39i (k : Nat) (s : I4) (i w : Int) : List AV := [.yl k, .und, .und, vi .i64 i, vi .u64 w, setI s, vi .i64 i, .und, .und, .und, .und, .und, .und, .und, .und, .und, .und, .und, .und, .und, .und, .und, .und, .und, .und, .und]
def bE39i (k : Nat) (s : I4) (i w : Int) : List AV := [.yl k, .und, .und, vi .i64 i, vi .u64 w, setI s, vi .i64 i, .und, .und, .und, vi .u64 w, vb false, .und, .und, .und, .und, .und, .und, .und, .und, .und, .und, .und, .und, .und, .und]
def bF39 (k : Nat) (s : I4) (i : Int) : List AV := [.yl k, .und, .und, .und, .und, setI s, vi .i64 i, .und, .und, .und, .und, .und, .und, .und, .und, .und, .und, .und, .und, .und, .und, .und, .und, .und, .und, .und]
def bE39 (k : Nat) (s : I4) (i : Int) : List AV := [.yl k, .und, .und, .und, .und, setI s, vi .i64 i, vb false, .und, .und, .und, .und, .und, .und, .und, .und, .und, .und, .und, .und, .und, .und, .und, .und, .und, .und]
theorem q_shl6 (i : Nat) (hi : i < 4) : binA .shl (vi .i64 i) (vi .u64 6) = some (vi .i64 ((64 * i : Nat) : Int)) := by
 match i, hi with
 | 0, _ => rfl
 | 1, _ => rfl
 | 2, _ => rfl
 | 3, _ => rfl
 | _ + 4, h => exact absurd h (by omega)
theorem q_addn (a b : Nat) (h : a + b < 4611686018427387904) : binA .add (vi .i64 a) (vi .i64 b) = some (vi .i64 ((a + b : Nat) : Int)) := by
 have e : IntKind.i64.wrap ((a : Int) + b) = ((a + b : Nat) : Int) := by
  rw [IntWalk.i64_in _ (by omega)]
  omega
 simp only [binA, binV, intOp, if_true]
 rw [e]
 rfl
theorem q_conv8 (b : Nat) (h : b < 256) : convA .u8 (vi .i64 b) = some (vi .u8 b) := by
 simp only [convA, idx, Option.map_some]
 rw [IntKind.wrap_u8, Int.emod_eq_of_lt (by omega) (by omega)]
theorem q_sub1 (w : BitVec 64) (hw : w ≠ 0#64) : binA .sub (vi .u64 w.toNat) (vi .u64 1) = some (vi .u64 (w - 1#64).toNat) := by
 have h0 : w.toNat ≠ 0 := fun e => hw (BitVec.eq_of_toNat_eq (by simpa using e))
 have e : IntKind.u64.wrap ((w.toNat : Int) - 1) = ((w - 1#64).toNat : Int) := by
  rw [IntKind.wrap_u64, BitVec.toNat_sub]
  have := w.isLt
  have h1 : (1#64).toNat = 1 := rfl
  rw [h1]
  omega
 simp only [binA, binV, intOp, if_true]
 rw [e]
 rfl
theorem q_andw (p q : BitVec 64) : binA .and (vi .u64 p.toNat) (vi .u64 q.toNat) = some (vi .u64 (p &&& q).toNat) := by
 have := andI_n p q
 unfold andI at this
 simp only [binA, binV, intOp, if_true]
 rw [show IntKind.u64.bits = 64 from rfl, this]
 rfl
theorem low_lt (w : BitVec 64) (hw : w ≠ 0#64) : low w < 64 := (low_spec w hw).elim fun _ h => h.2
theorem it3_k (s : I4) (i w b l c w1 w2 : Int) (x0 x1 x2 x3 : AB) (y0 y1 y2 y3 : AB) (e : List AB) : roundD prg 10 [(11, .d true), (18, .v (vi .i64 b)), (20, .v (vi .i64 l)), (21, .v (vi .i64 c)), (22, .v (vi .u8 c)), (23, .r (vb true) ([y0, y1, y2, y3] ++ e)), (14, .v (vi .u64 w1)), (15, .v (vi .u64 w2)), (6000, .d true)] 4 blv39i ir82_l0 ⟨bF39i 3 s i w, [x0, x1, x2, x3]⟩ =
  some ([vb (w != 0) = vb true, binA .shl (vi .i64 i) (vi .u64 6) = some (vi .i64 b), CP prg 83 [vi .u64 w] [x0, x1, x2, x3] = some (vi .i64 l), binA .add (vi .i64 b) (vi .i64 l) = some (vi .i64 c), convA .u8 (vi .i64 c) = some (vi .u8 c), callY (ev prg) 3 [vi .u8 c] [x0, x1, x2, x3] = some (vb true, [y0, y1, y2, y3] ++ e),
   binA .sub (vi .u64 w) (vi .u64 1) = some (vi .u64 w1), binA .and (vi .u64 w) (vi .u64 w1) = some (vi .u64 w2), okT 4 ([y0, y1, y2, y3] ++ e) = true], .norm, ⟨bF39i 3 s i w2, [y0, y1, y2, y3]⟩) := by kernel_rfl
theorem it3_s (s : I4) (i w b l c : Int) (x0 x1 x2 x3 : AB) (y0 y1 y2 y3 : AB) : ∃ f', roundD prg 10 [(11, .d true), (18, .v (vi .i64 b)), (20, .v (vi .i64 l)), (21, .v (vi .i64 c)), (22, .v (vi .u8 c)), (23, .r (vb false) [y0, y1, y2, y3])] 4 blv39i ir82_l0 ⟨bF39i 3 s i w, [x0, x1, x2, x3]⟩ =
  some ([vb (w != 0) = vb true, binA .shl (vi .i64 i) (vi .u64 6) = some (vi .i64 b), CP prg 83 [vi .u64 w] [x0, x1, x2, x3] = some (vi .i64 l), binA .add (vi .i64 b) (vi .i64 l) = some (vi .i64 c), convA .u8 (vi .i64 c) = some (vi .u8 c), callY (ev prg) 3 [vi .u8 c] [x0, x1, x2, x3] = some (vb false, [y0, y1, y2, y3])], .ret, ⟨f', [y0, y1, y2, y3]⟩) :=
 ⟨[.yl 3, .und, .und, vi .i64 i, vi .u64 w, setI s, vi .i64 i, .und, .und, .und, vi .u64 w, vb true, .und, .und, .und, .und, .yl 3, vi .i64 i, vi .i64 b, vi .u64 w, vi .i64 l, vi .i64 c, vi .u8 c, vb false, vb true, .und], by kernel_rfl⟩
theorem it3_e (s : I4) (i w : Int) (x0 x1 x2 x3 : AB) : roundD prg 10 [(11, .d false)] 4 blv39i ir82_l0 ⟨bF39i 3 s i w, [x0, x1, x2, x3]⟩ = some ([vb (w != 0) = vb false], .brk 2, ⟨bE39i 3 s i w, [x0, x1, x2, x3]⟩) := by kernel_rfl
theorem it3_in (s : I4) (i : Nat) (hi : i < 4) : ∀ (n : Nat) (w : BitVec 64), w.toNat < n → ∀ (h h2 : List AB) (st : Bool), h.length = 4 → YR 3 4 (bitsW w i) h h2 st →
  (st = false → evH prg 4 blv39i ir82_l0 ⟨bF39i 3 s i w.toNat, h⟩ = some (.brk 2, ⟨bE39i 3 s i 0, h2⟩)) ∧ (st = true → ∃ f', evH prg 4 blv39i ir82_l0 ⟨bF39i 3 s i w.toNat, h⟩ = some (.ret, ⟨f', h2⟩))
 | 0, w, hn, _, _, _, _, _ => absurd hn (by omega)
 | n + 1, w, hn, h, h2, st, hm, r => by
  match h, hm with
  | [x0, x1, x2, x3], _ =>
   by_cases hw : w = 0#64
   ·subst hw
    rw [bitsW, bits_0] at r
    cases r with
    | nil =>
     refine ⟨fun _ => ?_, fun h => by cases h⟩
     exact round_brk (it3_e s i 0 x0 x1 x2 x3) (by simp [AllP])
   ·have hl := low_lt w hw
    have e : bitsW w i = (64 * i + low w) :: bitsW (rest w) i := by unfold bitsW; rw [bits_cons w hw, List.map_cons]
    have c1 : vb ((w.toNat : Int) != 0) = vb true := by
     have h0 : w.toNat ≠ 0 := fun e => hw (BitVec.eq_of_toNat_eq (by simpa using e))
     have : ((w.toNat : Int) != 0) = true := by simp; omega
     rw [this]
    rw [e] at r
    cases r with
    | go _ _ _ h1 x _ _ hy hl1 ho r =>
     match h1, hl1 with
     | [y0, y1, y2, y3], hl1 =>
      have ih := it3_in s i hi n (rest w) (by have := rest_lt w hw; omega) [y0, y1, y2, y3] h2 st hl1 r
      have hk := round_norm (it3_k s i w.toNat ((64 * i : Nat) : Int) (low w : Nat) ((64 * i + low w : Nat) : Int) ((w - 1#64).toNat : Nat) ((rest w).toNat : Nat) x0 x1 x2 x3 y0 y1 y2 y3 x) ?_
      ·rw [hk]
       exact ih
      ·simp only [AllP]
       exact ⟨c1, q_shl6 i hi, tz40 w hw _, q_addn _ _ (by omega), q_conv8 _ (by omega), hy, q_sub1 w hw, q_andw _ _, ho⟩
    | stop _ _ _ _ hy hl1 =>
     match h2, hl1 with
     | [y0, y1, y2, y3], hl1 =>
      refine ⟨fun h => (by cases h), fun _ => ?_⟩
      obtain ⟨f', hs⟩ := it3_s s i w.toNat ((64 * i : Nat) : Int) (low w : Nat) ((64 * i + low w : Nat) : Int) x0 x1 x2 x3 y0 y1 y2 y3
      refine ⟨f', round_ret hs ?_⟩
      simp only [AllP]
      exact ⟨c1, q_shl6 i hi, tz40 w hw _, q_addn _ _ (by omega), q_conv8 _ (by omega), hy⟩
theorem it3_o (s : I4) (x0 x1 x2 x3 : AB) (y0 y1 y2 y3 : AB) : ∀ i : Nat, i < 4 → roundD prg 10 [(2002, .l (.brk 2) ⟨bE39i 3 s i 0, [y0, y1, y2, y3]⟩), (6000, .d true)] 4 blv39 ir82_l1 ⟨bF39 3 s i, [x0, x1, x2, x3]⟩ =
  some ([okT 4 [x0, x1, x2, x3] = true, evH prg 4 blv39i ir82_l0 ⟨bF39i 3 s i (s.get i), [x0, x1, x2, x3]⟩ = some (.brk 2, ⟨bE39i 3 s i 0, [y0, y1, y2, y3]⟩), okT 4 [y0, y1, y2, y3] = true], .norm, ⟨bF39 3 s ((i + 1 : Nat) : Int), [y0, y1, y2, y3]⟩)
 | 0, _ => by kernel_rfl
 | 1, _ => by kernel_rfl
 | 2, _ => by kernel_rfl
 | 3, _ => by kernel_rfl
 | _ + 4, h => absurd h (by omega)
theorem it3_r (s : I4) (f' : List AV) (x0 x1 x2 x3 : AB) (y0 y1 y2 y3 : AB) : ∀ i : Nat, i < 4 → roundD prg 10 [(2002, .l .ret ⟨f', [y0, y1, y2, y3]⟩), (6000, .d true)] 4 blv39 ir82_l1 ⟨bF39 3 s i, [x0, x1, x2, x3]⟩ =
  some ([okT 4 [x0, x1, x2, x3] = true, evH prg 4 blv39i ir82_l0 ⟨bF39i 3 s i (s.get i), [x0, x1, x2, x3]⟩ = some (.ret, ⟨f', [y0, y1, y2, y3]⟩)], .ret, ⟨f', [y0, y1, y2, y3]⟩)
 | 0, _ => by kernel_rfl
 | 1, _ => by kernel_rfl
 | 2, _ => by kernel_rfl
 | 3, _ => by kernel_rfl
 | _ + 4, h => absurd h (by omega)
theorem it3_oe (s : I4) (x0 x1 x2 x3 : AB) : roundD prg 10 [] 4 blv39 ir82_l1 ⟨bF39 3 s 4, [x0, x1, x2, x3]⟩ = some ([], .brk 0, ⟨bE39 3 s 4, [x0, x1, x2, x3]⟩) := by kernel_rfl
theorem it3_out (s : V4) : ∀ (n i : Nat), i + n = 4 → ∀ (h h2 : List AB) (st : Bool), h.length = 4 → okT 4 h = true → YR 3 4 (((List.range' i n).map fun j => bitsW (s.get j) j).flatten) h h2 st →
  (st = false → evH prg 4 blv39 ir82_l1 ⟨bF39 3 (ofV s) i, h⟩ = some (.brk 0, ⟨bE39 3 (ofV s) 4, h2⟩)) ∧ (st = true → ∃ f', evH prg 4 blv39 ir82_l1 ⟨bF39 3 (ofV s) i, h⟩ = some (.ret, ⟨f', h2⟩))
 | 0, i, hi, h, h2, st, hm, ho, r => by
  obtain rfl : i = 4 := by omega
  match h, hm with
  | [x0, x1, x2, x3], _ =>
   cases r with
   | nil =>
    refine ⟨fun _ => ?_, fun h => by cases h⟩
    exact round_brk (it3_oe (ofV s) x0 x1 x2 x3) (by simp [AllP])
 | n + 1, i, hi, h, h2, st, hm, ho, r => by
  rw [List.range'_succ, List.map_cons, List.flatten_cons] at r
  match h, hm with
  | [x0, x1, x2, x3], hm =>
   rcases YR_split r with ⟨h1, r1, r2⟩ | ⟨rfl, r1⟩
   ·have hl1 := YR_len r1 hm
    have ho1 := YR_ok r1 ho
    match h1, hl1 with
    | [y0, y1, y2, y3], hl1 =>
     have a := (it3_in (ofV s) i (by omega) ((s.get i).toNat + 1) (s.get i) (by omega) [x0, x1, x2, x3] [y0, y1, y2, y3] false hm r1).1 rfl
     have hk := round_norm (it3_o (ofV s) x0 x1 x2 x3 y0 y1 y2 y3 i (by omega)) (by simp only [AllP, get_v]; exact ⟨ho, a, ho1⟩)
     rw [hk]
     exact it3_out s n (i + 1) (by omega) [y0, y1, y2, y3] h2 st hl1 ho1 r2
   ·have hl1 := YR_len r1 hm
    match h2, hl1 with
    | [y0, y1, y2, y3], hl1 =>
     obtain ⟨f', a⟩ := (it3_in (ofV s) i (by omega) ((s.get i).toNat + 1) (s.get i) (by omega) [x0, x1, x2, x3] [y0, y1, y2, y3] true hm r1).2 rfl
     refine ⟨fun h => (by cases h), fun _ => ⟨f', ?_⟩⟩
     exact round_ret (it3_r (ofV s) f' x0 x1 x2 x3 y0 y1 y2 y3 i (by omega)) (by simp only [AllP, get_v]; exact ⟨ho, a⟩)
theorem it3_c (s : I4) (x0 x1 x2 x3 : AB) (y0 y1 y2 y3 : AB) : callDS prg 10 [(2000, .l (.brk 0) ⟨bE39 3 s 4, [y0, y1, y2, y3]⟩), (6000, .d true)] 82 [.yl 3, .ro (wdsP s)] [x0, x1, x2, x3] = some ([okT 4 [x0, x1, x2, x3] = true, evH prg 4 blv39 ir82_l1 ⟨bF39 3 s 0, [x0, x1, x2, x3]⟩ = some (.brk 0, ⟨bE39 3 s 4, [y0, y1, y2, y3]⟩)], .tup [], [y0, y1, y2, y3]) := by kernel_rfl
theorem it3_c2 (s : I4) (f' : List AV) (x0 x1 x2 x3 : AB) (y0 y1 y2 y3 : AB) : callDS prg 10 [(2000, .l .ret ⟨f', [y0, y1, y2, y3]⟩), (6000, .d true)] 82 [.yl 3, .ro (wdsP s)] [x0, x1, x2, x3] = some ([okT 4 [x0, x1, x2, x3] = true, evH prg 4 blv39 ir82_l1 ⟨bF39 3 s 0, [x0, x1, x2, x3]⟩ = some (.ret, ⟨f', [y0, y1, y2, y3]⟩)], .tup [], [y0, y1, y2, y3]) := by kernel_rfl
theorem it3 (s : V4) (h h2 : List AB) (st : Bool) (hm : h.length = 4) (ho : okT 4 h = true) (r : YR 3 4 (bytesS s) h h2 st) : CS prg 82 [.yl 3, .ro (wdsP (ofV s))] h = some (.tup [], h2) := by
 have hl := YR_len r hm
 have e : bytesS s = ((List.range' 0 4).map fun j => bitsW (s.get j) j).flatten := by
  simp [bytesS, List.range', V4.get]
 rw [e] at r
 obtain ⟨a, b⟩ := it3_out s 4 0 (by omega) h h2 st hm ho r
 match h, hm, h2, hl with
 | [x0, x1, x2, x3], _, [y0, y1, y2, y3], _ =>
  cases st with
  | false => exact CS_D (it3_c (ofV s) x0 x1 x2 x3 y0 y1 y2 y3) (by simp only [AllP]; exact ⟨ho, a rfl⟩)
  | true =>
   obtain ⟨f', b⟩ := b rfl
   exact CS_D (it3_c2 (ofV s) f' x0 x1 x2 x3 y0 y1 y2 y3) (by simp only [AllP]; exact ⟨ho, b⟩)
def itF (s : I4) : AV := .fn 82 [.ro (wdsP s)]
theorem bytes31 (s : I4) (h : List AB) : CP prg 70 [setI s] h = some (itF s) := CP_of 10 (by kernel_rfl)
def g24 (s : I4) : List AV := [setI s, .ptr 0 0, .ptr 1 0, .ptr 2 0, ud, setI s, itF s, ud, ud]
def h24 (s : I4) (c : Int) (b : Bool) : List AB := [.cells 46 (wds s), .cells 5 [vi .u8 c], .cells 4 [vb b]]
theorem y24 (s : I4) (c : Int) : yieldD prg 10 [] 3 [vi .u8 c] (h24 s 0 false ++ [.loop 0 none [7] (g24 s) ir49_a0 ir49_b0]) = some ([], vb false, h24 s c true ++ [.loop 2 (some none) [7] (g24 s) ir49_a0 ir49_b0]) := by kernel_rfl
theorem least_c (s : I4) (c : Int) : callD prg 10 [(6, .v (itF s)), (2000, .l .ret ⟨g24 s, h24 s c true ++ [.dead]⟩)] 49 [setI s] = some ([CP prg 70 [setI s] (h24 s 0 false) = some (itF s), ev prg (.rangeF (.t 6) [7] ir49_a0 ir49_b0) ⟨g24 s, h24 s 0 false⟩ = some (.ret, ⟨g24 s, h24 s c true ++ [.dead]⟩)], .tup [vi .u8 c, vb true]) := by kernel_rfl
theorem least_n (s : I4) : callD prg 10 [(6, .v (itF s)), (2000, .l .norm ⟨g24 s, h24 s 0 false ++ [.dead]⟩)] 49 [setI s] = some ([CP prg 70 [setI s] (h24 s 0 false) = some (itF s), ev prg (.rangeF (.t 6) [7] ir49_a0 ir49_b0) ⟨g24 s, h24 s 0 false⟩ = some (.norm, ⟨g24 s, h24 s 0 false ++ [.dead]⟩)], .tup [vi .u8 0, vb false]) := by kernel_rfl
theorem least (s : V4) (h : List AB) : CP prg 49 [setI (ofV s)] h = some (match bytesS s with | [] => .tup [vi .u8 0, vb false] | c :: _ => .tup [vi .u8 c, vb true]) := by
 cases e : bytesS s with
 | nil =>
  refine CP_D (least_n (ofV s)) ?_ rfl h
  simp only [AllP]
  refine ⟨bytes31 _ _, ev_range (h' := h24 (ofV s) 0 false ++ [.loop 0 none [7] (g24 (ofV s)) ir49_a0 ir49_b0]) (v := .tup []) rfl (it3 s _ _ false rfl rfl ?_) rfl⟩
  rw [e]
  exact .nil _
 | cons c l =>
  refine CP_D (least_c (ofV s) c) ?_ rfl h
  simp only [AllP]
  refine ⟨bytes31 _ _, ev_range (h' := h24 (ofV s) c true ++ [.loop 2 (some none) [7] (g24 (ofV s)) ir49_a0 ir49_b0]) (v := .tup []) rfl (it3 s _ _ true rfl rfl ?_) rfl⟩
  rw [e]
  exact .stop c l _ _ (callY_D (y24 (ofV s) c) (by simp [AllP])) rfl
def gSc : List AV := match gS with | .agg xs => xs | _ => []
def hW : List AB := [.row 9 1 0 [], .row 53 7 0 [], .row 85 3 0 [], .row 87 5 0 [], .cells 27 gSc]
theorem cpw {fn : Nat} {args : List AV} {x : AV} (hp : AV.pure.pures args = true) (h : callP prg (evalN prg 100) fn args [] = some x) (h0 : List AB) : CP prg fn args h0 = some x := by
 have := CP_of 100 h
 rw [CP_in _ _ hp] at this ⊢
 exact this
theorem works : PR1 prg 11 [] (vb true) :=
 fpr [(12, .v gS), (15, .v (.tup [.p (.lst 1 [[.val (.int .i64 1)], [.val (.int .i64 0)], [.val (.int .i64 (-1))]]), vi .i64 0])), (20, .v (.tup [.p (.lst 1 [[.val (.bool true)], [.val (.bool false)], [.val (.bool false)]]), vi .i64 0])), (25, .v (.tup [.p (.lst 1 [[.val (.bool false)], [.val (.bool true)], [.val (.bool false)]]), vi .i64 0])), (30, .v (.tup [vs ⟨([120] : List UInt8).toArray⟩, vi .i64 0])), (35, .v (.tup [vs ⟨([] : List UInt8).toArray⟩, vi .i64 161]))]
  (apc (cpw rfl r40 [] : CP prg 40 [] [] = some gS) (apc (cpw rfl r13 hW : CP prg 13 [gS] hW = some (.tup [.p (.lst 1 [[.val (.int .i64 1)], [.val (.int .i64 0)], [.val (.int .i64 (-1))]]), vi .i64 0])) (apc (cpw rfl r23 hW : CP prg 23 [gS] hW = some (.tup [.p (.lst 1 [[.val (.bool true)], [.val (.bool false)], [.val (.bool false)]]), vi .i64 0])) (apc (cpw rfl r22 hW : CP prg 22 [gS] hW = some (.tup [.p (.lst 1 [[.val (.bool false)], [.val (.bool true)], [.val (.bool false)]]), vi .i64 0]))
   (apc (cpw rfl r14a hW : CP prg 14 [gS, vi .i64 0] hW = some (.tup [vs ⟨([120] : List UInt8).toArray⟩, vi .i64 0])) (apc (cpw rfl r14b hW : CP prg 14 [gS, vi .i64 2] hW = some (.tup [vs ⟨([] : List UInt8).toArray⟩, vi .i64 161])) apn)))))) rfl (by kernel_rfl)
noncomputable def F11 : Option Bool := some true
def F11_v (x0 : Bool) : AV := vb x0
theorem F11_ok {r : Bool} (h : F11 = some r) : PR1 prg 11 [] (F11_v r) := by cases h; exact works
theorem PR1_of {fn : Nat} {args : List AV} {x : AV} (hp : AV.pure.pures args = true) (h : CP prg fn args [] = some x) : PR1 prg fn args x := by
 rw [CP_in _ _ hp] at h
 obtain ⟨r, h1, h2⟩ := Option.bind_eq_some_iff.1 h
 exact ⟨r.1, r.2, h1, h2⟩
def v4 (s : SymD) : V4 := ⟨.ofInt 64 s.a, .ofInt 64 s.b, .ofInt 64 s.c, .ofInt 64 s.d⟩
def wOk (s : SymD) : Bool := decide ((0 ≤ s.a ∧ s.a < 18446744073709551616) ∧ (0 ≤ s.b ∧ s.b < 18446744073709551616) ∧ (0 ≤ s.c ∧ s.c < 18446744073709551616) ∧ (0 ≤ s.d ∧ s.d < 18446744073709551616))
theorem v4_of {s : SymD} (h : wOk s = true) : ofV (v4 s) = ⟨s.a, s.b, s.c, s.d⟩ := by
 have h := of_decide_eq_true h
 have key : ∀ n : Int, 0 ≤ n ∧ n < 18446744073709551616 → ((BitVec.ofInt 64 n).toNat : Int) = n := by
  intro n hn
  rw [BitVec.toNat_ofInt]
  omega
 simp only [ofV, v4, key _ h.1, key _ h.2.1, key _ h.2.2.1, key _ h.2.2.2]
inductive R_F49 where
 | k0 (x0 : Int) (x1 : Bool)
noncomputable def F49 (s : SymD) : Option R_F49 := bif wOk s then some (match bytesS (v4 s) with | [] => .k0 0 false | c :: _ => .k0 c true) else none
def F49_v (s : SymD) (r : R_F49) : AV := match r with | .k0 x0 x1 => .tup [vi .u8 x0, vb x1]
theorem F49_ok (s : SymD) {r : R_F49} (h : F49 s = some r) : PR1 prg 49 [.agg ((List.take 4 (List.drop 1 (eSym s))).map .p)] (F49_v s r) := by
 unfold F49 at h
 cases hw : wOk s with
 | false => rw [hw] at h; cases h
 | true =>
  rw [hw] at h
  have hl := least (v4 s) []
  rw [v4_of hw] at hl
  refine PR1_of rfl ?_
  have e : setI ⟨s.a, s.b, s.c, s.d⟩ = .agg ((List.take 4 (List.drop 1 (eSym s))).map .p) := rfl
  rw [← e, hl]
  simp only [cond_true, Option.some.injEq] at h
  subst h
  cases bytesS (v4 s) <;> rfl
abbrev eOp (g : GramD) (sh : List Int) (nu : List Bool) : List PV := (eGram g) ++ [.lst 1 (sh.map eI64), .lst 1 (nu.map eBool)]
abbrev bS (l : List SetD) : AB := .row 46 4 0 (ra eSet l)
inductive TreeD where
 | mk (prod byte : Int) (kids : List TreeD)
def TreeD.prod : TreeD → Int | .mk p _ _ => p
def TreeD.byte : TreeD → Int | .mk _ b _ => b
def TreeD.kids : TreeD → List TreeD | .mk _ _ ks => ks
abbrev yP (g : Nat) (x : List ProdD) : AB := .row 53 7 g (ra eProd x)
abbrev yS0 : AB := .row 9 1 0 (ra eStr [])
abbrev yP0 : AB := .row 53 7 0 (ra eProd [])
abbrev yF0 : AB := .row 85 3 0 (ra eForb [])
abbrev yW0 : AB := .row 87 5 0 (ra eFoll [])
abbrev yY0 : AB := .row 48 6 0 (ra eSym [])
abbrev ls {α : Type} (n : Nat) (e : α → List PV) (x : List α) : AV := .p (.lst n (x.map e))
abbrev n0 : AV := .p (.val (.slice .none 0 0))
abbrev tS (g : GramD) : Nat := Int.toNat (g.sorts.length : Int)
abbrev lS (g : GramD) : Int := (g.sorts.length : Int)
abbrev lP (g : GramD) : Int := (g.prods.length : Int)
abbrev lF (g : GramD) : Int := (g.forbid.length : Int)
abbrev lW (g : GramD) : Int := (g.follow.length : Int)
theorem ar {m t s g : Nat} {α : Type} {e : α → List PV} {xs : List α} {l : List AB} (h : l.all (AB.blw m) = true) : (AB.row t s g (ra e xs) :: l).all (AB.blw m) = true := abl_cons abl_row h
theorem ac {m : Nat} {x : AB} {l : List AB} (hs : l.all (AB.blw m) = true) (h : x.blw m = true := by exact rfl) : (x :: l).all (AB.blw m) = true := abl_cons h hs
theorem av {b c : Bool} {qs : List Prop} (h : b = c) (hs : AllP qs) : AllP ((vb b = vb c) :: qs) := apc (cv h) hs
noncomputable def joP (a b : List Prop) : List Prop := List.rec (motive := fun _ => List Prop) b (fun x _ r => x :: r) a
noncomputable def joH (a b : List (Nat × Hint)) : List (Nat × Hint) := List.rec (motive := fun _ => List (Nat × Hint)) b (fun x _ r => x :: r) a
abbrev KP (_ : List (Nat × Hint)) (P : List Prop → List Prop) : Prop := ∀ l, AllP l → AllP (P l)
abbrev kH {H : List (Nat × Hint)} {P : List Prop → List Prop} (_ : KP H P) : List (Nat × Hint) := H
theorem joP_all {l : List Prop} (hl : AllP l) : ∀ {ps : List Prop}, AllP ps → AllP (joP ps l)
 | [], _ => hl
 | _ :: _, h => AllP_cons.2 ⟨(AllP_cons.1 h).1, joP_all hl (AllP_cons.1 h).2⟩
theorem ka (H : List (Nat × Hint)) {ps : List Prop} (hp : AllP ps) : KP H (joP ps) := fun _ hl => joP_all hl hp
theorem KP.a {H : List (Nat × Hint)} {P : List Prop → List Prop} {qs : List Prop} (k : KP H P) (H2 : List (Nat × Hint)) (hq : AllP qs) : KP (joH H2 H) (fun l => P (joP qs l)) := fun _ hl => k _ (joP_all hl hq)
theorem KP.b {H : List (Nat × Hint)} {P : List Prop → List Prop} {qs : List Prop} (k : KP H P) (hq : AllP qs) : AllP (P qs) := k _ hq
section
variable {p : Prg} {m id fn : Nat} {live : List Nat} {b : IC} {s s2 : St} {ps : List Prop} {N : Nat} {h h0 : List AB} {L : List (Nat × AV)} {args : List AV} {v : AV}
theorem rn (H : List (Nat × Hint)) (hp : AllP ps) (e : roundD p 30 H m live b s = some (ps, .norm, s2) := by kernel_rfl) : evH p m live b s = evH p m live b s2 := rnd H hp e
theorem xb (H : List (Nat × Hint)) (hp : AllP ps) (e : exitL L (roundD p 30 H m live b s) = some (ps, .brk id, L, N, h) := by kernel_rfl) : ∃ g, evH p m live b s = some (.brk id, ⟨fr N g L, h⟩) := xbrk H hp e
theorem xr (H : List (Nat × Hint)) (hp : AllP ps) (e : exitL L (roundD p 30 H m live b s) = some (ps, .ret, L, N, h) := by kernel_rfl) : ∃ g, evH p m live b s = some (.ret, ⟨fr N g L, h⟩) := xret H hp e
theorem xy (H : List (Nat × Hint)) (hp : AllP ps) (e : exitV L (roundD p 30 H m live b s) = some (ps, .ret, L, N) := by kernel_rfl) : ∃ g y, evH p m live b s = some (.ret, ⟨fr N g L, y⟩) := xretY H hp e
theorem fc (H : List (Nat × Hint)) (hp : AllP ps) (e : callDS p 30 H fn args h0 = some (ps, v, h) := by kernel_rfl) : CS p fn args h0 = some (v, h) := fcs H hp e
theorem fq (H : List (Nat × Hint)) (hp : AllP ps) (hv : v.pure = true := by exact rfl) (e : (callDS p 30 H fn args []).map (fun r => (r.1, r.2.1)) = some (ps, v) := by kernel_rfl) : PR1 p fn args v := fpr H hp hv e
end
end Go.Proofs.Tryd
