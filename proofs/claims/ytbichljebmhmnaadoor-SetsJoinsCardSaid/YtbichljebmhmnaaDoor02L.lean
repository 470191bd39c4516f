/- The laws of sets, word by word, bit by bit. -/
import Derived.Test.YtbichljebmhmnaaDoor02S
import Derived.Laws.Bits64
namespace Go.Proofs.Tryd
set_option linter.unusedSimpArgs false
set_option linter.unusedVariables false
open Go Go.Vs
structure V4 where
  a : BitVec 64
  b : BitVec 64
  c : BitVec 64
  d : BitVec 64
instance (x y : V4) : Decidable (x = y) := by
  obtain ⟨a, b, c, d⟩ := x
  obtain ⟨e, f, g, h⟩ := y
  exact decidable_of_iff (a = e ∧ b = f ∧ c = g ∧ d = h) (by simp)
def ofV (s : V4) : I4 := ⟨s.a.toNat, s.b.toNat, s.c.toNat, s.d.toNat⟩
theorem wrap_nat (p : BitVec 64) : IntKind.u64.wrap (p.toNat : Int) = p.toNat := by
  rw [IntKind.wrap_u64]
  have := p.isLt
  omega
theorem orI_n (p q : BitVec 64) : orI p.toNat q.toNat = ((p ||| q).toNat : Int) := by
  unfold orI
  rw [show (BitVec.ofInt 64 (p.toNat : Int)) = p from by simp, show (BitVec.ofInt 64 (q.toNat : Int)) = q from by simp]
  exact wrap_nat _
theorem orI_0 (q : BitVec 64) : orI 0 q.toNat = (q.toNat : Int) := by
  have := orI_n 0#64 q
  simpa using this
theorem andI_n (p q : BitVec 64) : andI p.toNat q.toNat = ((p &&& q).toNat : Int) := by
  unfold andI
  rw [show (BitVec.ofInt 64 (p.toNat : Int)) = p from by simp, show (BitVec.ofInt 64 (q.toNat : Int)) = q from by simp]
  exact wrap_nat _
theorem anI_n (p q : BitVec 64) : anI p.toNat q.toNat = ((p &&& ~~~ q).toNat : Int) := by
  unfold anI
  rw [show (BitVec.ofInt 64 (p.toNat : Int)) = p from by simp, show (BitVec.ofInt 64 (q.toNat : Int)) = q from by simp]
  exact wrap_nat _
def mapV (f : BitVec 64 → BitVec 64 → BitVec 64) (x y : V4) : V4 := ⟨f x.a y.a, f x.b y.b, f x.c y.c, f x.d y.d⟩
def JV := mapV (· ||| ·)
def MV := mapV (· &&& ·)
def NV := mapV fun p q => p &&& ~~~ q
theorem J_v (x y : V4) : J (ofV x) (ofV y) = ofV (JV x y) := by simp only [J, mapI, zI, ofV, orI_0, orI_n, JV, mapV]
theorem J3_v (x y z : V4) : J3 (ofV x) (ofV y) (ofV z) = ofV (JV (JV x y) z) := by simp only [J3, mapI, zI, ofV, orI_0, orI_n, JV, mapV]
theorem M_v (x y : V4) : M (ofV x) (ofV y) = ofV (MV x y) := by simp only [M, mapI, ofV, andI_n, MV, mapV]
theorem N_v (x y : V4) : N (ofV x) (ofV y) = ofV (NV x y) := by simp only [N, mapI, ofV, anI_n, NV, mapV]
theorem zI_v : zI = ofV ⟨0#64, 0#64, 0#64, 0#64⟩ := rfl
theorem beq_n (p q : BitVec 64) : ((p.toNat : Int) == (q.toNat : Int)) = (p == q) := by
  rw [Bool.eq_iff_iff]
  simp only [beq_iff_eq, Int.natCast_inj]
  exact BitVec.toNat_inj
theorem eq4_v (x y : V4) : eq4 (ofV x) (ofV y) = decide (x = y) := by
  obtain ⟨a, b, c, d⟩ := x
  obtain ⟨e, f, g, h⟩ := y
  simp only [eq4, ofV, beq_n, Bool.and_true]
  rw [Bool.eq_iff_iff]
  simp
/-- Bit by bit. -/
theorem bits3 {f g : Bool → Bool → Bool → Bool} (hfg : ∀ a b c, f a b c = g a b c) {P Q : BitVec 64 → BitVec 64 → BitVec 64 → BitVec 64}
    (hP : ∀ p q r i, i < 64 → (P p q r).getLsbD i = f (p.getLsbD i) (q.getLsbD i) (r.getLsbD i)) (hQ : ∀ p q r i, i < 64 → (Q p q r).getLsbD i = g (p.getLsbD i) (q.getLsbD i) (r.getLsbD i)) (p q r : BitVec 64) : P p q r = Q p q r := by
  apply BitVec.eq_of_getLsbD_eq
  intro i hi
  rw [hP _ _ _ _ hi, hQ _ _ _ _ hi, hfg]
theorem or_c (p q : BitVec 64) : p ||| q = q ||| p := BitVec.or_comm p q
theorem and_or (p q r : BitVec 64) : p &&& (q ||| r) = (p &&& q) ||| (p &&& r) := bits3 (f := fun a b c => a && (b || c)) (g := fun a b c => (a && b) || (a && c)) (by decide) (P := fun p q r => p &&& (q ||| r)) (Q := fun p q r => (p &&& q) ||| (p &&& r)) (by simp) (by simp) p q r
theorem or_and (p q r : BitVec 64) : p ||| (q &&& r) = (p ||| q) &&& (p ||| r) := bits3 (f := fun a b c => a || (b && c)) (g := fun a b c => (a || b) && (a || c)) (by decide) (P := fun p q r => p ||| (q &&& r)) (Q := fun p q r => (p ||| q) &&& (p ||| r)) (by simp) (by simp) p q r
theorem an_or (p q r : BitVec 64) : p &&& ~~~ (q ||| r) = (p &&& ~~~ q) &&& (p &&& ~~~ r) := bits3 (f := fun a b c => a && !(b || c)) (g := fun a b c => (a && !b) && (a && !c)) (by decide) (P := fun p q r => p &&& ~~~ (q ||| r)) (Q := fun p q r => (p &&& ~~~ q) &&& (p &&& ~~~ r))
  (by intro p q r i hi; simp [hi]) (by intro p q r i hi; simp [hi]) p q r
theorem an_bit {p q : BitVec 64} (h : p &&& ~~~ q = 0#64) (i : Nat) (hi : i < 64) (hp : p.getLsbD i = true) : q.getLsbD i = true := by
  have := congrArg (fun x => x.getLsbD i) h
  simp [hp, hi] at this
  exact this
theorem an_of {p q : BitVec 64} (h : ∀ i, i < 64 → p.getLsbD i = true → q.getLsbD i = true) : p &&& ~~~ q = 0#64 := by
  apply BitVec.eq_of_getLsbD_eq
  intro i hi
  have := h i hi
  simp only [BitVec.getLsbD_and, BitVec.getLsbD_not, hi, decide_true, Bool.true_and, BitVec.getLsbD_zero]
  cases hp : p.getLsbD i <;> simp_all
theorem an_trans {p q r : BitVec 64} (h : p &&& ~~~ q = 0#64) (k : q &&& ~~~ r = 0#64) : p &&& ~~~ r = 0#64 := an_of fun i hi hp => an_bit k i hi (an_bit h i hi hp)
theorem an_anti {p q : BitVec 64} (h : p &&& ~~~ q = 0#64) (k : q &&& ~~~ p = 0#64) : p = q := by
  apply BitVec.eq_of_getLsbD_eq
  intro i hi
  have h1 := an_bit h i hi
  have h2 := an_bit k i hi
  cases hp : p.getLsbD i <;> cases hq : q.getLsbD i <;> simp_all
theorem an_self (p : BitVec 64) : p &&& ~~~ p = 0#64 := an_of fun _ _ h => h

def WV (x y : V4) : Prop := NV x y = ⟨0#64, 0#64, 0#64, 0#64⟩
theorem win_v (x y : V4) : win (ofV x) (ofV y) = decide (NV x y = ⟨0#64, 0#64, 0#64, 0#64⟩) := by
  unfold win
  rw [N_v, zI_v, eq4_v]
theorem WV_iff (x y : V4) : NV x y = ⟨0#64, 0#64, 0#64, 0#64⟩ ↔ (x.a &&& ~~~ y.a = 0#64 ∧ x.b &&& ~~~ y.b = 0#64 ∧ x.c &&& ~~~ y.c = 0#64 ∧ x.d &&& ~~~ y.d = 0#64) := by simp [NV, mapV]

theorem laws (a b c : V4) (h8 : CP prg 8 [] (hp4 (ofV a) (ofV b) (ofV c)) = some (vb true)) (h : List AB) : CP prg 4 [setI (ofV a), setI (ofV b), setI (ofV c)] h = some (vb true) := by
  have e1 : eq4 (J (ofV a) (ofV b)) (J (ofV b) (ofV a)) = true := by simp only [J_v, eq4_v, decide_eq_true_eq]; simp [JV, mapV, or_c]
  have e2 : eq4 (M (ofV a) (ofV b)) (M (ofV b) (ofV a)) = true := by simp only [M_v, eq4_v, decide_eq_true_eq]; simp [MV, mapV, BitVec.and_comm]
  have e3 : eq4 (J (ofV a) (J (ofV b) (ofV c))) (J (J (ofV a) (ofV b)) (ofV c)) = true := by simp only [J_v, eq4_v, decide_eq_true_eq]; simp [JV, mapV, BitVec.or_assoc]
  have e4 : eq4 (M (ofV a) (M (ofV b) (ofV c))) (M (M (ofV a) (ofV b)) (ofV c)) = true := by simp only [M_v, eq4_v, decide_eq_true_eq]; simp [MV, mapV, BitVec.and_assoc]
  have e5 : eq4 (M (ofV a) (J (ofV b) (ofV c))) (J (M (ofV a) (ofV b)) (M (ofV a) (ofV c))) = true := by simp only [M_v, J_v, eq4_v, decide_eq_true_eq]; simp [JV, MV, mapV, and_or]
  have e6 : eq4 (J (ofV a) (M (ofV b) (ofV c))) (M (J (ofV a) (ofV b)) (J (ofV a) (ofV c))) = true := by simp only [M_v, J_v, eq4_v, decide_eq_true_eq]; simp [JV, MV, mapV, or_and]
  have e7 : eq4 (J3 (ofV a) (ofV b) (ofV c)) (J (ofV a) (J (ofV b) (ofV c))) = true := by simp only [J3_v, J_v, eq4_v, decide_eq_true_eq]; simp [JV, mapV, BitVec.or_assoc]
  have e8 : eq4 (N (ofV a) (J (ofV b) (ofV c))) (M (N (ofV a) (ofV b)) (N (ofV a) (ofV c))) = true := by simp only [N_v, J_v, M_v, eq4_v, decide_eq_true_eq]; simp only [JV, MV, NV, mapV, an_or]
  have tr : win (ofV a) (ofV b) = true → win (ofV b) (ofV c) = true → win (ofV a) (ofV c) = true := by
    simp only [win_v, decide_eq_true_eq, WV_iff]
    rintro ⟨h1, h2, h3, h4⟩ ⟨k1, k2, k3, k4⟩
    exact ⟨an_trans h1 k1, an_trans h2 k2, an_trans h3 k3, an_trans h4 k4⟩
  have an : (win (ofV a) (ofV b) && win (ofV b) (ofV a)) = eq4 (ofV a) (ofV b) := by
    rw [Bool.eq_iff_iff]
    simp only [win_v, eq4_v, Bool.and_eq_true, decide_eq_true_eq, WV_iff]
    constructor
    · rintro ⟨⟨h1, h2, h3, h4⟩, k1, k2, k3, k4⟩
      obtain ⟨p, q, r, s⟩ := a
      obtain ⟨p', q', r', s'⟩ := b
      simp only [V4.mk.injEq]
      exact ⟨an_anti h1 k1, an_anti h2 k2, an_anti h3 k3, an_anti h4 k4⟩
    · rintro rfl
      simp [an_self]
  cases w1 : win (ofV a) (ofV b) with
  | false =>
    rw [w1] at an
    refine CP_D (laws1 (ofV a) (ofV b) (ofV c)) ?_ rfl h
    simp only [AllP, T, e1, e2, e3, e4, e5, e6, e7, e8, w1, ← an, h8]
    simp
  | true =>
    rw [w1] at an tr
    cases w2 : win (ofV b) (ofV c) with
    | false =>
      refine CP_D (laws2 (ofV a) (ofV b) (ofV c)) ?_ rfl h
      simp only [AllP, T, e1, e2, e3, e4, e5, e6, e7, e8, w1, w2, ← an, h8]
      simp
    | true =>
      refine CP_D (laws3 (ofV a) (ofV b) (ofV c)) ?_ rfl h
      simp only [AllP, T, e1, e2, e3, e4, e5, e6, e7, e8, w1, w2, tr rfl w2, ← an, h8]
      simp
end Go.Proofs.Tryd
