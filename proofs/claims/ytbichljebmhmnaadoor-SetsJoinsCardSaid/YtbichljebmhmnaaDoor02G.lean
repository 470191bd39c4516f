/- Count; 'SetsJoins' by the abstract machine. -/
import Derived.Test.YtbichljebmhmnaaDoor02E
namespace Go.Proofs.Tryd
set_option linter.unusedSimpArgs false
set_option linter.unusedVariables false
open Go Go.Vs
theorem qn_and (a b : Nat) (ha : a < 2 ^ 64) (hb : b < 2 ^ 64) : binA .and (vi .u64 a) (vi .u64 b) = some (vi .u64 ((a &&& b : Nat) : Int)) := by
  have := q_andw (BitVec.ofNat 64 a) (BitVec.ofNat 64 b)
  rw [BitVec.toNat_and, BitVec.toNat_ofNat, BitVec.toNat_ofNat, Nat.mod_eq_of_lt ha, Nat.mod_eq_of_lt hb] at this
  exact this
theorem qn_add (a b : Nat) (h : a + b < 2 ^ 64) : binA .add (vi .u64 a) (vi .u64 b) = some (vi .u64 ((a + b : Nat) : Int)) := by
  have e : IntKind.u64.wrap ((a : Int) + b) = ((a + b : Nat) : Int) := by
    rw [IntKind.wrap_u64]
    have : (2 : Nat) ^ 64 = 18446744073709551616 := rfl
    omega
  simp only [binA, binV, intOp, if_true]
  rw [e]
  rfl
theorem qn_shr (a c d : Nat) (hc : c < 64) (hd : 2 ^ c = d) : binA .shr (vi .u64 a) (vi .u64 c) = some (vi .u64 ((a / d : Nat) : Int)) := by
  have := q_shr .u64 a c hc
  rw [Nat.shiftRight_eq_div_pow, hd] at this
  exact this
theorem q_conv64 (a : Nat) (h : a < 2 ^ 63) : convA .i64 (vi .u64 a) = some (vi .i64 a) := by
  have : (2 : Nat) ^ 63 = 9223372036854775808 := rfl
  simp only [convA, idx, Option.map_some]
  rw [IntWalk.i64_in _ (by omega)]
theorem q_and127 (a : Nat) (h : a < 2 ^ 63) : binA .and (vi .i64 a) (vi .i64 127) = some (vi .i64 ((a % 128 : Nat) : Int)) := by
  have e63 : (2 : Nat) ^ 63 = 9223372036854775808 := rfl
  have e : IntKind.i64.wrap ((BitVec.ofInt 64 (a : Int) &&& BitVec.ofInt 64 127).toNat : Int) = ((a % 128 : Nat) : Int) := by
    have h1 : (BitVec.ofInt 64 (a : Int) &&& BitVec.ofInt 64 127).toNat = a % 128 := by
      rw [BitVec.toNat_and]
      have h2 : (BitVec.ofInt 64 (a : Int)).toNat = a := by simp; omega
      have h3 : (BitVec.ofInt 64 127).toNat = 127 := rfl
      rw [h2, h3]
      exact Nat.and_two_pow_sub_one_eq_mod a 7
    rw [h1]
    exact IntWalk.i64_in _ (by omega)
  simp only [binA, binV, intOp, if_true]
  rw [show IntKind.i64.bits = 64 from rfl, e]
  rfl
theorem c38_k (w y1 u1 v1 x1 y2 u2 v2 x2 y3 z3 x3 y4 x4 y5 x5 y6 x6 x7 r : Int) : callD prg 10 [(4, .v (vi .u64 y1)), (5, .v (vi .u64 u1)), (7, .v (vi .u64 v1)), (8, .v (vi .u64 x1)), (10, .v (vi .u64 y2)), (11, .v (vi .u64 u2)), (13, .v (vi .u64 v2)), (14, .v (vi .u64 x2)), (16, .v (vi .u64 y3)), (18, .v (vi .u64 z3)), (19, .v (vi .u64 x3)), (22, .v (vi .u64 y4)), (23, .v (vi .u64 x4)), (26, .v (vi .u64 y5)), (27, .v (vi .u64 x5)), (30, .v (vi .u64 y6)), (31, .v (vi .u64 x6)), (33, .v (vi .i64 x7)), (34, .v (vi .i64 r))] 38 [vi .u64 w] =
    some ([binA .shr (vi .u64 w) (vi .u64 1) = some (vi .u64 y1), binA .and (vi .u64 y1) (vi .u64 6148914691236517205) = some (vi .u64 u1), binA .and (vi .u64 w) (vi .u64 6148914691236517205) = some (vi .u64 v1), binA .add (vi .u64 u1) (vi .u64 v1) = some (vi .u64 x1),
      binA .shr (vi .u64 x1) (vi .u64 2) = some (vi .u64 y2), binA .and (vi .u64 y2) (vi .u64 3689348814741910323) = some (vi .u64 u2), binA .and (vi .u64 x1) (vi .u64 3689348814741910323) = some (vi .u64 v2), binA .add (vi .u64 u2) (vi .u64 v2) = some (vi .u64 x2),
      binA .shr (vi .u64 x2) (vi .u64 4) = some (vi .u64 y3), binA .add (vi .u64 y3) (vi .u64 x2) = some (vi .u64 z3), binA .and (vi .u64 z3) (vi .u64 1085102592571150095) = some (vi .u64 x3),
      binA .shr (vi .u64 x3) (vi .u64 8) = some (vi .u64 y4), binA .add (vi .u64 x3) (vi .u64 y4) = some (vi .u64 x4), binA .shr (vi .u64 x4) (vi .u64 16) = some (vi .u64 y5), binA .add (vi .u64 x4) (vi .u64 y5) = some (vi .u64 x5), binA .shr (vi .u64 x5) (vi .u64 32) = some (vi .u64 y6), binA .add (vi .u64 x5) (vi .u64 y6) = some (vi .u64 x6),
      convA .i64 (vi .u64 x6) = some (vi .i64 x7), binA .and (vi .i64 x7) (vi .i64 127) = some (vi .i64 r)], vi .i64 r) := by kernel_rfl
theorem bits_sum : ∀ (n N : Nat), ((List.range' 0 n).filter N.testBit).length = (bl n N).sum
  | 0, _ => rfl
  | n + 1, N => by
    have e : List.range' 1 n = (List.range' 0 n).map (1 + ·) := by rw [List.map_add_range']
    have ih := bits_sum n (N / 2)
    have e2 : ((List.range' 1 n).filter N.testBit).length = ((List.range' 0 n).filter (N / 2).testBit).length := by
      rw [e, List.filter_map, List.length_map]
      congr 1
      refine List.filter_congr (fun x _ => ?_)
      simp only [Function.comp]
      rw [Nat.add_comm, Nat.testBit_succ]
    rw [List.range'_succ, List.filter_cons]
    simp only [bl, List.sum_cons]
    rw [← ih, ← e2]
    have h0 : N.testBit 0 = decide (N % 2 = 1) := Nat.testBit_zero N
    rw [h0]
    rcases Nat.mod_two_eq_zero_or_one N with h | h
    · rw [h]; simp
    · rw [h]; simp; omega
theorem pop_count' (N : Nat) (hN : N < 2 ^ 64) : ∃ x1 x2 x3 x4 x5 x6 : Nat,
    x1 = ((N / 2) &&& 6148914691236517205) + (N &&& 6148914691236517205) ∧ x2 = ((x1 / 4) &&& 3689348814741910323) + (x1 &&& 3689348814741910323) ∧ x3 = (x2 / 16 + x2) &&& 1085102592571150095 ∧
    x4 = x3 + x3 / 256 ∧ x5 = x4 + x4 / 65536 ∧ x6 = x5 + x5 / 4294967296 ∧
    x1 < 2 ^ 64 ∧ x2 < 2 ^ 64 ∧ x2 / 16 + x2 < 2 ^ 64 ∧ x3 < 2 ^ 60 ∧ x4 < 2 ^ 61 ∧ x5 < 2 ^ 62 ∧ x6 < 2 ^ 63 ∧ x6 % 128 = (bl 64 N).sum :=
  ⟨_, _, _, _, _, _, rfl, rfl, rfl, rfl, rfl, rfl, pop_count N hN⟩
theorem count38 (w : BitVec 64) (h : List AB) : CP prg 38 [vi .u64 w.toNat] h = some (vi .i64 ((bits w).length : Nat)) := by
  have e64 : (2 : Nat) ^ 64 = 18446744073709551616 := rfl
  have e63 : (2 : Nat) ^ 63 = 9223372036854775808 := rfl
  have e62 : (2 : Nat) ^ 62 = 4611686018427387904 := rfl
  have e61 : (2 : Nat) ^ 61 = 2305843009213693952 := rfl
  have e60 : (2 : Nat) ^ 60 = 1152921504606846976 := rfl
  have hw := w.isLt
  have hr : ((bits w).length : Nat) = (bl 64 w.toNat).sum := bits_sum 64 w.toNat
  obtain ⟨x1, x2, x3, x4, x5, x6, h1, h2, h3, h4, h5, h6, k1, k2, k3, k4, k5, k6, k7, k8⟩ := pop_count' w.toNat hw
  rw [hr, ← k8]
  generalize w.toNat = N at *
  refine CP_D (c38_k N ((N / 2 : Nat) : Int) (((N / 2) &&& 6148914691236517205 : Nat) : Int) ((N &&& 6148914691236517205 : Nat) : Int) x1 ((x1 / 4 : Nat) : Int) (((x1 / 4) &&& 3689348814741910323 : Nat) : Int) ((x1 &&& 3689348814741910323 : Nat) : Int) x2
    ((x2 / 16 : Nat) : Int) ((x2 / 16 + x2 : Nat) : Int) x3 ((x3 / 256 : Nat) : Int) x4 ((x4 / 65536 : Nat) : Int) x5 ((x5 / 4294967296 : Nat) : Int) x6 x6 ((x6 % 128 : Nat) : Int)) ?_ rfl h
  simp only [AllP]
  refine ⟨qn_shr N 1 2 (by omega) rfl, qn_and _ _ (by omega) (by decide +kernel), qn_and _ _ hw (by decide +kernel), ?_, qn_shr _ 2 4 (by omega) rfl, qn_and _ _ (by omega) (by decide +kernel), qn_and _ _ k1 (by decide +kernel), ?_,
    qn_shr _ 4 16 (by omega) rfl, qn_add _ _ k3, ?_, qn_shr _ 8 256 (by omega) rfl, ?_, qn_shr _ 16 65536 (by omega) rfl, ?_, qn_shr _ 32 4294967296 (by omega) rfl, ?_, q_conv64 _ k7, q_and127 _ k7⟩
  · rw [h1] at k1 ⊢; exact qn_add _ _ k1
  · rw [h2] at k2 ⊢; exact qn_add _ _ k2
  · rw [h3]; exact qn_and _ _ k3 (by decide +kernel)
  · rw [h4]; exact qn_add _ _ (by omega)
  · rw [h5]; exact qn_add _ _ (by omega)
  · rw [h6]; exact qn_add _ _ (by omega)
/- ---------- Count ---------- -/
def F30 (s : I4) (n i : Int) : List AV := [.und, .und, .und, vi .i64 n, .und, .und, setI s, vi .i64 i, .und, .und, .und, .und, .und, .und, .und, .und]
def E30 (s : I4) (n i : Int) : List AV := [.und, .und, .und, vi .i64 n, .und, .und, setI s, vi .i64 i, vb false, .und, .und, .und, .und, .und, .und, .und]
def lv30 : List Nat := [3, 6, 7]
theorem c30_k (s : I4) (n p n2 : Int) : ∀ i : Nat, i < 4 → roundD prg 10 [(12, .v (vi .i64 p)), (13, .v (vi .i64 n2))] 1 lv30 ir30_l0 ⟨F30 s n (i : Int), [.cells 29 (wds s)]⟩ =
    some ([CP prg 38 [vi .u64 (s.get i)] [.cells 29 (wds s)] = some (vi .i64 p), binA .add (vi .i64 n) (vi .i64 p) = some (vi .i64 n2)], .norm, ⟨F30 s n2 ((i + 1 : Nat) : Int), [.cells 29 (wds s)]⟩)
  | 0, _ => by kernel_rfl
  | 1, _ => by kernel_rfl
  | 2, _ => by kernel_rfl
  | 3, _ => by kernel_rfl
  | _ + 4, h => absurd h (by omega)
theorem c30_e (s : I4) (n : Int) : roundD prg 10 [] 1 lv30 ir30_l0 ⟨F30 s n 4, [.cells 29 (wds s)]⟩ = some ([], .brk 0, ⟨E30 s n 4, [.cells 29 (wds s)]⟩) := by kernel_rfl
theorem c30_c (s : I4) (n : Int) : callD prg 10 [(2000, .l (.brk 0) ⟨E30 s n 4, [.cells 29 (wds s)]⟩)] 30 [setI s] = some ([evH prg 1 lv30 ir30_l0 ⟨F30 s 0 0, [.cells 29 (wds s)]⟩ = some (.brk 0, ⟨E30 s n 4, [.cells 29 (wds s)]⟩)], vi .i64 n) := by kernel_rfl
theorem bits_len (w : BitVec 64) : (bits w).length ≤ 64 := by
  unfold bits
  refine Nat.le_trans (List.length_filter_le _ _) ?_
  simp
theorem count30 (s : V4) (h : List AB) : CP prg 30 [setI (ofV s)] h = some (vi .i64 ((bytesS s).length : Nat)) := by
  have e : (bytesS s).length = (((0 + (bits s.a).length) + (bits s.b).length) + (bits s.c).length) + (bits s.d).length := by
    simp only [bytesS, bitsW, List.length_append, List.length_map]
    omega
  rw [e]
  refine CP_D (c30_c (ofV s) _) ?_ rfl h
  simp only [AllP]
  have ba := bits_len s.a
  have bb := bits_len s.b
  have bc := bits_len s.c
  have bd := bits_len s.d
  have step : ∀ (i n : Nat), i < 4 → n ≤ 300 → evH prg 1 lv30 ir30_l0 ⟨F30 (ofV s) n (i : Int), [.cells 29 (wds (ofV s))]⟩ = evH prg 1 lv30 ir30_l0 ⟨F30 (ofV s) ((n + (bits (s.get i)).length : Nat) : Int) ((i + 1 : Nat) : Int), [.cells 29 (wds (ofV s))]⟩ := by
    intro i n hi hn
    refine round_norm (c30_k (ofV s) n ((bits (s.get i)).length : Nat) ((n + (bits (s.get i)).length : Nat) : Int) i hi) ?_
    simp only [AllP, get_v]
    have := bits_len (s.get i)
    exact ⟨count38 _ _, q_addn _ _ (by omega)⟩
  have s0 := step 0 0 (by omega) (by omega)
  have s1 := step 1 (0 + (bits s.a).length) (by omega) (by omega)
  have s2 := step 2 (0 + (bits s.a).length + (bits s.b).length) (by omega) (by omega)
  have s3 := step 3 (0 + (bits s.a).length + (bits s.b).length + (bits s.c).length) (by omega) (by omega)
  refine (s0.trans (s1.trans (s2.trans s3))).trans ?_
  exact round_brk (c30_e (ofV s) _) (by simp [AllP])
end Go.Proofs.Tryd
