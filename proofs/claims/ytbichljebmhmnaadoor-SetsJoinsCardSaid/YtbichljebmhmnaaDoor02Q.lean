/- Has and With, by the abstract machine. -/
import Derived.Test.YtbichljebmhmnaaDoor02P
namespace Go.Proofs.Tryd
set_option linter.unusedSimpArgs false
set_option linter.unusedVariables false
open Go Go.Vs
theorem has15_k (s : I4) (b j x y : Int) : ∀ k : Nat, k < 4 → callD prg 30 [(6, .v (vi .i64 (k : Int))), (10, .v (vi .i64 j)), (11, .v (vi .u64 x)), (12, .v (vi .u64 y))] 15 [setI s, vi .i64 b] =
    some ([binA .quo (vi .i64 b) (vi .i64 64) = some (vi .i64 (k : Int)), binA .rem (vi .i64 b) (vi .i64 64) = some (vi .i64 j), binA .shr (vi .u64 (s.get k)) (vi .i64 j) = some (vi .u64 x), binA .rem (vi .u64 x) (vi .u64 2) = some (vi .u64 y)], vb (y == 1))
  | 0, _ => by kernel_rfl
  | 1, _ => by kernel_rfl
  | 2, _ => by kernel_rfl
  | 3, _ => by kernel_rfl
  | _ + 4, h => absurd h (by omega)
theorem has15 (s : V4) (b : Nat) (hb : b < 256) (h : List AB) : CP prg 15 [setI (ofV s), vi .i64 b] h = some (vb (has s b)) := by
  have hk := has15_k (ofV s) b ((b % 64 : Nat) : Int) (((s.get (b / 64)).toNat >>> (b % 64) : Nat) : Int) (((s.get (b / 64)).toNat >>> (b % 64) % 2 : Nat) : Int) (b / 64) (by omega)
  rw [show (((((s.get (b / 64)).toNat >>> (b % 64) % 2 : Nat) : Int)) == 1) = has s b from by rw [q_bit _ _ (by omega), q_eq1]; rfl] at hk
  refine CP_D hk ?_ rfl h
  simp only [AllP, get_v]
  exact ⟨q_quo b (by omega), q_rem b, q_shr' .u64 .i64 (s.get (b / 64)).toNat (b % 64) (by show b % 64 < 64; omega), q_rem2 _⟩
theorem has14_k (s : I4) (b j x y : Int) : ∀ k : Nat, k < 4 → callD prg 30 [(6, .v (vi .u8 (k : Int))), (10, .v (vi .u8 j)), (11, .v (vi .u64 x)), (12, .v (vi .u64 y))] 14 [setI s, vi .u8 b] =
    some ([binA .shr (vi .u8 b) (vi .u64 6) = some (vi .u8 (k : Int)), binA .and (vi .u8 b) (vi .u8 63) = some (vi .u8 j), binA .shr (vi .u64 (s.get k)) (vi .u8 j) = some (vi .u64 x), binA .and (vi .u64 x) (vi .u64 1) = some (vi .u64 y)], vb (y == 1))
  | 0, _ => by kernel_rfl
  | 1, _ => by kernel_rfl
  | 2, _ => by kernel_rfl
  | 3, _ => by kernel_rfl
  | _ + 4, h => absurd h (by omega)
theorem shr6 (b : Nat) : b >>> 6 = b / 64 := by rw [Nat.shiftRight_eq_div_pow]
theorem has14 (s : V4) (b : Nat) (hb : b < 256) (h : List AB) : CP prg 14 [setI (ofV s), vi .u8 b] h = some (vb (has s b)) := by
  have hk := has14_k (ofV s) b ((b % 64 : Nat) : Int) (((s.get (b / 64)).toNat >>> (b % 64) : Nat) : Int) (((s.get (b / 64)).toNat >>> (b % 64) % 2 : Nat) : Int) (b / 64) (by omega)
  rw [show (((((s.get (b / 64)).toNat >>> (b % 64) % 2 : Nat) : Int)) == 1) = has s b from by rw [q_bit _ _ (by omega), q_eq1]; rfl] at hk
  refine CP_D hk ?_ rfl h
  simp only [AllP, get_v]
  refine ⟨?_, q_and8 b hb, q_shr' .u64 .u8 (s.get (b / 64)).toNat (b % 64) (by show b % 64 < 64; omega), ?_⟩
  · have := q_shr .u8 b 6 (by decide)
    rw [shr6] at this
    exact this
  · have := q_and1 ((s.get (b / 64)) >>> (b % 64))
    rw [BitVec.toNat_ushiftRight] at this
    exact this
theorem with37_t (s : I4) (b : Int) : callD prg 30 [(7, .v (vb true))] 37 [setI s, vi .i64 b] = some ([CP prg 15 [setI s, vi .i64 b] [.cells 29 (wds s), .cells 29 (wds zI)] = some (vb true)], setI s) := by kernel_rfl
theorem with37_k (s : I4) (b j m x : Int) : ∀ k : Nat, k < 4 → callD prg 30 [(7, .v (vb false)), (10, .v (vi .i64 (k : Int))), (12, .v (vi .i64 (k : Int))), (16, .v (vi .i64 j)), (17, .v (vi .u64 m)), (18, .v (vi .u64 x))] 37 [setI s, vi .i64 b] =
    some ([CP prg 15 [setI s, vi .i64 b] [.cells 29 (wds s), .cells 29 (wds zI)] = some (vb false), binA .quo (vi .i64 b) (vi .i64 64) = some (vi .i64 (k : Int)), binA .quo (vi .i64 b) (vi .i64 64) = some (vi .i64 (k : Int)), binA .rem (vi .i64 b) (vi .i64 64) = some (vi .i64 j),
      binA .shl (vi .u64 1) (vi .i64 j) = some (vi .u64 m), binA .add (vi .u64 (s.get k)) (vi .u64 m) = some (vi .u64 x)], setI (s.put k x))
  | 0, _ => by kernel_rfl
  | 1, _ => by kernel_rfl
  | 2, _ => by kernel_rfl
  | 3, _ => by kernel_rfl
  | _ + 4, h => absurd h (by omega)
theorem or_bit {p : BitVec 64} {j : Nat} (h : p.getLsbD j = true) : p ||| 1#64 <<< j = p := by
  apply BitVec.eq_of_getLsbD_eq
  intro i hi
  simp only [BitVec.getLsbD_or]
  by_cases e : i = j
  · subst e; simp [h]
  · have : (1#64 <<< j).getLsbD i = false := by
      rw [BitVec.getLsbD_shiftLeft]
      by_cases hl : i < j
      · simp [hl]
      · have : i - j ≠ 0 := by omega
        simp [this]
    simp [this]
theorem putW_get (s : V4) (k : Nat) : s.putW k (s.get k) = s := by
  match k with
  | 0 => rfl
  | 1 => rfl
  | 2 => rfl
  | _ + 3 => rfl
theorem with37 (s : V4) (b : Nat) (hb : b < 256) (h : List AB) : CP prg 37 [setI (ofV s), vi .i64 b] h = some (setI (ofV (put s b))) := by
  cases hh : has s b with
  | true =>
    have : put s b = s := by unfold put; rw [or_bit hh, putW_get]
    rw [this]
    refine CP_D (with37_t (ofV s) b) ?_ rfl h
    simp only [AllP, has15 s b hb, hh]
  | false =>
    have hk := with37_k (ofV s) b ((b % 64 : Nat) : Int) ((1#64 <<< (b % 64)).toNat : Int) ((s.get (b / 64) ||| 1#64 <<< (b % 64)).toNat : Int) (b / 64) (by omega)
    rw [put_v] at hk
    refine CP_D hk ?_ rfl h
    simp only [AllP, get_v, has15 s b hb, hh]
    exact ⟨trivial, q_quo b (by omega), q_quo b (by omega), q_rem b, q_shl _ _ (by omega), q_addw _ _ (by omega) hh⟩
end Go.Proofs.Tryd
