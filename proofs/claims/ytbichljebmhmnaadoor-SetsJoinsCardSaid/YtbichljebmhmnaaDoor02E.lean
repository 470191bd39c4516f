/- How many bits are set: the masks of OnesCount64. -/
import Derived.Test.YtbichljebmhmnaaDoor02D
namespace Go.Proofs.Tryd
set_option linter.unusedSimpArgs false
set_option linter.unusedVariables false
open Go Go.Vs
def val (b : Nat) : List Nat → Nat
  | [] => 0
  | d :: ds => d + b * val b ds
def psum : List Nat → List Nat
  | d :: e :: r => (d + e) :: psum r
  | l => l
def mkM (b : Nat) : Nat → Nat
  | 0 => 0
  | k + 1 => (b - 1) + b * b * mkM b k
theorem and_split (n x y u v : Nat) (hx : x < 2 ^ n) (hu : u < 2 ^ n) : (x + 2 ^ n * y) &&& (u + 2 ^ n * v) = (x &&& u) + 2 ^ n * (y &&& v) := by
  have hxu : x &&& u < 2 ^ n := Nat.and_lt_two_pow _ hu
  apply Nat.eq_of_testBit_eq
  intro i
  rw [Nat.testBit_and, Nat.add_comm x, Nat.add_comm u, Nat.add_comm (x &&& u), Nat.testBit_two_pow_mul_add _ hx, Nat.testBit_two_pow_mul_add _ hu, Nat.testBit_two_pow_mul_add _ hxu]
  split
  · rw [Nat.testBit_and]
  · rw [Nat.testBit_and]
theorem and_low (n x y : Nat) (hx : x < 2 ^ n) : (x + 2 ^ n * y) &&& (2 ^ n - 1) = x := by
  rw [Nat.and_two_pow_sub_one_eq_mod, Nat.add_mul_mod_self_left, Nat.mod_eq_of_lt hx]
/-- A digit and its fellow: what a mask of every second digit leaves. -/
theorem and_mk (s d Y k : Nat) (hd : d < 2 ^ s) : (d + 2 ^ s * Y) &&& mkM (2 ^ s) (k + 1) = d + 2 ^ s * 2 ^ s * ((Y / 2 ^ s) &&& mkM (2 ^ s) k) := by
  have hp : 0 < 2 ^ s := Nat.two_pow_pos s
  have e2 : 2 ^ s * 2 ^ s = 2 ^ (s + s) := (Nat.pow_add 2 s s).symm
  have e1 : d + 2 ^ s * Y = (d + 2 ^ s * (Y % 2 ^ s)) + 2 ^ (s + s) * (Y / 2 ^ s) := by
    rw [← e2, Nat.mul_assoc]
    conv => lhs; rw [← Nat.mod_add_div Y (2 ^ s)]
    rw [Nat.mul_add, Nat.add_assoc]
  have hlt : d + 2 ^ s * (Y % 2 ^ s) < 2 ^ (s + s) := by
    have h1 : Y % 2 ^ s + 1 ≤ 2 ^ s := Nat.mod_lt _ hp
    have h2 : 2 ^ s * (Y % 2 ^ s + 1) ≤ 2 ^ s * 2 ^ s := Nat.mul_le_mul_left _ h1
    rw [← e2]
    rw [Nat.mul_add, Nat.mul_one] at h2
    omega
  have hlt2 : 2 ^ s - 1 < 2 ^ (s + s) := by
    have : 2 ^ s ≤ 2 ^ (s + s) := Nat.pow_le_pow_right (by omega) (by omega)
    omega
  rw [mkM, e1, e2, and_split _ _ _ _ _ hlt hlt2, and_low _ _ _ hd]
theorem stage (s : Nat) : ∀ (k : Nat) (ds : List Nat), ds.length = 2 * k → (∀ d ∈ ds, d < 2 ^ s) →
    ((val (2 ^ s) ds / 2 ^ s) &&& mkM (2 ^ s) k) + (val (2 ^ s) ds &&& mkM (2 ^ s) k) = val (2 ^ s * 2 ^ s) (psum ds)
  | 0, ds, hl, _ => by
    have : ds = [] := List.eq_nil_of_length_eq_zero (by omega)
    subst this
    simp [val, psum, mkM]
  | k + 1, ds, hl, hd => by
    match ds, hl with
    | d0 :: d1 :: r, hl =>
      have hp : 0 < 2 ^ s := Nat.two_pow_pos s
      have h0 := hd d0 (by simp)
      have h1 := hd d1 (by simp)
      have ih := stage s k r (by simp at hl; omega) (fun d h => hd d (by simp [h]))
      have e0 : (d0 + 2 ^ s * (d1 + 2 ^ s * val (2 ^ s) r)) / 2 ^ s = d1 + 2 ^ s * val (2 ^ s) r := by
        rw [Nat.add_mul_div_left _ _ hp, Nat.div_eq_of_lt h0, Nat.zero_add]
      have e1 : (d1 + 2 ^ s * val (2 ^ s) r) / 2 ^ s = val (2 ^ s) r := by
        rw [Nat.add_mul_div_left _ _ hp, Nat.div_eq_of_lt h1, Nat.zero_add]
      simp only [val, psum]
      rw [e0, and_mk s d1 _ k h1, and_mk s d0 _ k h0, e1, ← ih, Nat.mul_add]
      omega
    | [_], hl => simp at hl; omega
    | [], hl => simp at hl
theorem stage3 (s : Nat) : ∀ (k : Nat) (ds : List Nat), ds.length = 2 * k → (∀ d ∈ ds, 2 * d < 2 ^ s) →
    ((val (2 ^ s) ds / 2 ^ s) + val (2 ^ s) ds) &&& mkM (2 ^ s) k = val (2 ^ s * 2 ^ s) (psum ds)
  | 0, ds, hl, _ => by
    have : ds = [] := List.eq_nil_of_length_eq_zero (by omega)
    subst this
    simp [val, psum, mkM]
  | k + 1, ds, hl, hd => by
    match ds, hl with
    | d0 :: d1 :: r, hl =>
      have hp : 0 < 2 ^ s := Nat.two_pow_pos s
      have h0 := hd d0 (by simp)
      have h1 := hd d1 (by simp)
      have ih := stage3 s k r (by simp at hl; omega) (fun d h => hd d (by simp [h]))
      have e0 : (d0 + 2 ^ s * (d1 + 2 ^ s * val (2 ^ s) r)) / 2 ^ s = d1 + 2 ^ s * val (2 ^ s) r := by
        rw [Nat.add_mul_div_left _ _ hp, Nat.div_eq_of_lt (by omega), Nat.zero_add]
      have e1 : (d1 + val (2 ^ s) r + 2 ^ s * val (2 ^ s) r) / 2 ^ s = val (2 ^ s) r / 2 ^ s + val (2 ^ s) r := by
        rw [Nat.add_mul_div_left _ _ hp]
        congr 1
        match r with
        | [] => simp only [val, Nat.add_zero]; rw [Nat.div_eq_of_lt (by omega), Nat.zero_div]
        | e :: r' =>
          have he := hd e (by simp)
          simp only [val]
          rw [← Nat.add_assoc, Nat.add_mul_div_left _ _ hp, Nat.add_mul_div_left _ _ hp, Nat.div_eq_of_lt (by omega), Nat.div_eq_of_lt (by omega)]
      have e2 : d1 + 2 ^ s * val (2 ^ s) r + (d0 + 2 ^ s * (d1 + 2 ^ s * val (2 ^ s) r)) = (d0 + d1) + 2 ^ s * (d1 + val (2 ^ s) r + 2 ^ s * val (2 ^ s) r) := by
        rw [Nat.mul_add (2 ^ s) (d1 + val (2 ^ s) r), Nat.mul_add (2 ^ s) d1, Nat.mul_add (2 ^ s) d1]
        omega
      simp only [val, psum]
      rw [e0, e2, and_mk s (d0 + d1) _ k (by omega), e1, ih]
    | [_], hl => simp at hl; omega
    | [], hl => simp at hl
/-- The bits of a number, the lowest first. -/
def bl : Nat → Nat → List Nat
  | 0, _ => []
  | n + 1, N => N % 2 :: bl n (N / 2)
theorem bl_len : ∀ n N, (bl n N).length = n
  | 0, _ => rfl
  | n + 1, N => by simp [bl, bl_len n]
theorem bl_lt : ∀ n N, ∀ d ∈ bl n N, d < 2
  | 0, _, d, h => by simp [bl] at h
  | n + 1, N, d, h => by
    simp only [bl, List.mem_cons] at h
    rcases h with rfl | h
    · omega
    · exact bl_lt n _ d h
theorem bl_val : ∀ n N, N < 2 ^ n → val 2 (bl n N) = N
  | 0, N, h => by simp at h; simp [bl, val, h]
  | n + 1, N, h => by
    simp only [bl, val]
    rw [bl_val n (N / 2) (by rw [Nat.pow_succ] at h; omega)]
    omega
theorem psum_sum : ∀ l : List Nat, (psum l).sum = l.sum
  | [] => rfl
  | [d] => rfl
  | d :: e :: r => by simp only [psum, List.sum_cons, psum_sum r]; omega
theorem psum_len : ∀ (l : List Nat) (k : Nat), l.length = 2 * k → (psum l).length = k
  | [], k, h => by
    simp only [List.length_nil] at h
    simp only [psum, List.length_nil]
    omega
  | [d], k, h => by simp at h; omega
  | d :: e :: r, k, h => by
    simp only [psum, List.length_cons] at h ⊢
    rw [psum_len r (k - 1) (by omega)]
    omega
theorem psum_le {m : Nat} : ∀ (l : List Nat) (k : Nat), l.length = 2 * k → (∀ d ∈ l, d ≤ m) → ∀ d ∈ psum l, d ≤ 2 * m
  | [], _, _, _, d, hd => by simp [psum] at hd
  | [x], k, h, _, d, hd => by simp at h; omega
  | x :: y :: r, k, h, hl, d, hd => by
    simp only [psum, List.mem_cons] at hd
    have hx := hl x (by simp)
    have hy := hl y (by simp)
    rcases hd with rfl | hd
    · omega
    · exact psum_le r (k - 1) (by simp at h; omega) (fun z hz => hl z (by simp [hz])) d hd
set_option maxHeartbeats 4000000 in
theorem pop_count (N : Nat) (hN : N < 2 ^ 64) :
    let x1 := ((N / 2) &&& 6148914691236517205) + (N &&& 6148914691236517205)
    let x2 := ((x1 / 4) &&& 3689348814741910323) + (x1 &&& 3689348814741910323)
    let x3 := (x2 / 16 + x2) &&& 1085102592571150095
    let x4 := x3 + x3 / 256
    let x5 := x4 + x4 / 65536
    let x6 := x5 + x5 / 4294967296
    x1 < 2 ^ 64 ∧ x2 < 2 ^ 64 ∧ x2 / 16 + x2 < 2 ^ 64 ∧ x3 < 2 ^ 60 ∧ x4 < 2 ^ 61 ∧ x5 < 2 ^ 62 ∧ x6 < 2 ^ 63 ∧ x6 % 128 = (bl 64 N).sum := by
  have m1 : mkM (2 ^ 1) 32 = 6148914691236517205 := by decide +kernel
  have m2 : mkM (2 ^ 2) 16 = 3689348814741910323 := by decide +kernel
  have m3 : mkM (2 ^ 4) 8 = 1085102592571150095 := by decide +kernel
  have s1 := stage 1 32 (bl 64 N) (by rw [bl_len]) (fun d h => bl_lt 64 N d h)
  rw [m1, show (2 : Nat) ^ 1 = 2 from rfl, bl_val 64 N hN, show 2 * 2 = 2 ^ 2 from rfl] at s1
  have l1 := psum_len (bl 64 N) 32 (by rw [bl_len])
  have b1 : ∀ d ∈ psum (bl 64 N), d ≤ 2 := psum_le (m := 1) (bl 64 N) 32 (by rw [bl_len]) (fun d h => by have := bl_lt 64 N d h; omega)
  have s2 := stage 2 16 (psum (bl 64 N)) l1 (fun d h => by have := b1 d h; omega)
  rw [m2, ← s1, show (2 : Nat) ^ 2 = 4 from rfl, show 4 * 4 = 2 ^ 4 from rfl] at s2
  have l2 := psum_len (psum (bl 64 N)) 16 l1
  have b2 : ∀ d ∈ psum (psum (bl 64 N)), d ≤ 4 := psum_le (m := 2) _ 16 l1 b1
  have s3 := stage3 4 8 (psum (psum (bl 64 N))) l2 (fun d h => by have := b2 d h; omega)
  rw [m3, ← s2, show (2 : Nat) ^ 4 = 16 from rfl, show 16 * 16 = 256 from rfl] at s3
  have l3 := psum_len (psum (psum (bl 64 N))) 8 l2
  have b3 : ∀ d ∈ psum (psum (psum (bl 64 N))), d ≤ 8 := psum_le (m := 4) _ 8 l2 b2
  have sm : (psum (psum (psum (bl 64 N)))).sum = (bl 64 N).sum := by rw [psum_sum, psum_sum, psum_sum]
  have vlt : ∀ (b m : Nat) (l : List Nat), (∀ d ∈ l, d < b) → val b l < b ^ l.length := by
    intro b m l
    induction l with
    | nil => intro _; simp [val]
    | cons d l ih =>
      intro h
      have h1 := ih (fun x hx => h x (by simp [hx]))
      have h2 := h d (by simp)
      simp only [val, List.length_cons, Nat.pow_succ]
      have : b * (val b l + 1) ≤ b * b ^ l.length := Nat.mul_le_mul_left _ h1
      rw [Nat.mul_add, Nat.mul_one] at this
      rw [Nat.mul_comm (b ^ l.length)]
      omega
  have v1 := vlt (2 ^ 2) 0 (psum (bl 64 N)) (fun d h => by have := b1 d h; omega)
  rw [l1, ← s1] at v1
  have v2 := vlt 16 0 (psum (psum (bl 64 N))) (fun d h => by have := b2 d h; omega)
  rw [l2, show (16 : Nat) = 2 ^ 4 from rfl, ← s2] at v2
  have v2' : val (2 ^ 4) (psum (psum (bl 64 N))) ≤ 2 ^ 63 := by
    have : ∀ (l : List Nat), (∀ d ∈ l, d ≤ 4) → 15 * val 16 l + 4 ≤ 4 * 16 ^ l.length := by
      intro l
      induction l with
      | nil => intro _; simp [val]
      | cons d l ih =>
        intro h
        have h1 := ih (fun x hx => h x (by simp [hx]))
        have h2 := h d (by simp)
        have h3 : 1 ≤ 16 ^ l.length := Nat.one_le_two_pow (n := 4 * l.length) |> fun q => by rwa [Nat.pow_mul] at q
        simp only [val, List.length_cons, Nat.pow_succ]
        omega
    have h := this _ b2
    rw [l2] at h
    have e : (16 : Nat) ^ 16 = 18446744073709551616 := by decide +kernel
    rw [e] at h
    show val 16 _ ≤ 9223372036854775808
    omega
  rw [← s2] at v2'
  generalize psum (psum (psum (bl 64 N))) = S at s3 l3 b3 sm
  match S, l3 with
  | [a, b, c, d, e, f, g, h], _ =>
    simp only [val, List.sum_cons, List.sum_nil] at s3 sm
    have ha := b3 a (by simp)
    have hb := b3 b (by simp)
    have hc := b3 c (by simp)
    have hd := b3 d (by simp)
    have he := b3 e (by simp)
    have hf := b3 f (by simp)
    have hg := b3 g (by simp)
    have hh := b3 h (by simp)
    intro x1 x2 x3 x4 x5 x6
    have hx3 : x3 = a + 256 * (b + 256 * (c + 256 * (d + 256 * (e + 256 * (f + 256 * (g + 256 * (h + 256 * 0))))))) := s3
    have e64 : (2 : Nat) ^ 64 = 18446744073709551616 := rfl
    refine ⟨?_, ?_, ?_, ?_, ?_, ?_, ?_, ?_⟩
    · exact Nat.lt_of_lt_of_le v1 (by decide +kernel)
    · exact Nat.lt_of_le_of_lt v2' (by decide +kernel)
    · have : x2 ≤ 2 ^ 63 := v2'
      omega
    · omega
    · have : x4 = x3 + x3 / 256 := rfl
      omega
    · have h4 : x4 = x3 + x3 / 256 := rfl
      have h5 : x5 = x4 + x4 / 65536 := rfl
      omega
    · have h4 : x4 = x3 + x3 / 256 := rfl
      have h5 : x5 = x4 + x4 / 65536 := rfl
      have h6 : x6 = x5 + x5 / 4294967296 := rfl
      omega
    · have h4 : x4 = x3 + x3 / 256 := rfl
      have h5 : x5 = x4 + x4 / 65536 := rfl
      have h6 : x6 = x5 + x5 / 4294967296 := rfl
      have g4 : x4 = (a + b) + 256 * ((b + c) + 256 * ((c + d) + 256 * ((d + e) + 256 * ((e + f) + 256 * ((f + g) + 256 * ((g + h) + 256 * h)))))) := by omega
      have g5 : x5 = (a + b + c + d) + 256 * ((b + c + d + e) + 256 * ((c + d + e + f) + 256 * ((d + e + f + g) + 256 * ((e + f + g + h) + 256 * ((f + g + h) + 256 * ((g + h) + 256 * h)))))) := by omega
      have q6 : x5 / 4294967296 = (e + f + g + h) + 256 * ((f + g + h) + 256 * ((g + h) + 256 * h)) := by omega
      obtain ⟨Y, g5'⟩ : ∃ Y, x5 = (a + b + c + d) + 256 * Y := ⟨_, g5⟩
      obtain ⟨Z, q6'⟩ : ∃ Z, x5 / 4294967296 = (e + f + g + h) + 256 * Z := ⟨_, q6⟩
      have g6 : x6 = (a + b + c + d + e + f + g + h) + 256 * (Y + Z) := by
        rw [h6, q6', g5']
        omega
      clear g4 g5 q6 h4 h5 h6 hx3 s3 g5' q6' v1 v2 v2' s1 s2
      rw [← sm]
      omega
end Go.Proofs.Tryd
