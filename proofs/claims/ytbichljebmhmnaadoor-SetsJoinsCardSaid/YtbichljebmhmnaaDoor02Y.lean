/- Sets as what they have: bytes put, sets built; the document's Not and Both. -/
import Derived.Test.YtbichljebmhmnaaDoor02X
namespace Go.Proofs.Tryd
set_option linter.unusedSimpArgs false
set_option linter.unusedVariables false
open Go Go.Vs
theorem get_putW (s : V4) (k l : Nat) (x : BitVec 64) (hk : k < 4) (hl : l < 4) : (s.putW k x).get l = if k = l then x else s.get l := by
  match k, hk, l, hl with
  | 0, _, 0, _ => rfl
  | 0, _, 1, _ => rfl
  | 0, _, 2, _ => rfl
  | 0, _, 3, _ => rfl
  | 1, _, 0, _ => rfl
  | 1, _, 1, _ => rfl
  | 1, _, 2, _ => rfl
  | 1, _, 3, _ => rfl
  | 2, _, 0, _ => rfl
  | 2, _, 1, _ => rfl
  | 2, _, 2, _ => rfl
  | 2, _, 3, _ => rfl
  | 3, _, 0, _ => rfl
  | 3, _, 1, _ => rfl
  | 3, _, 2, _ => rfl
  | 3, _, 3, _ => rfl
  | _ + 4, h, _, _ => exact absurd h (by omega)
  | _, _, _ + 4, h => exact absurd h (by omega)
theorem bit_one (j i : Nat) (hi : i < 64) : (1#64 <<< j).getLsbD i = decide (i = j) := by
  rw [BitVec.getLsbD_shiftLeft]
  by_cases e : i = j
  · subst e; simp [hi]
  · by_cases hl : i < j
    · simp [hl, e]
    · have : i - j ≠ 0 := by omega
      simp [this, e]
theorem has_put (s : V4) (b c : Nat) (hb : b < 256) (hc : c < 256) : has (put s b) c = (has s c || decide (b = c)) := by
  unfold has put
  rw [get_putW _ _ _ _ (by omega) (by omega)]
  by_cases e : b / 64 = c / 64
  · rw [if_pos e, BitVec.getLsbD_or, bit_one _ _ (by omega), e]
    congr 1
    rw [decide_eq_decide]
    omega
  · rw [if_neg e, decide_eq_false (by intro h; rw [h] at e; exact e rfl), Bool.or_false]
theorem V4_ext {x y : V4} (h : ∀ c, c < 256 → has x c = has y c) : x = y := by
  have key : ∀ k, k < 4 → x.get k = y.get k := by
    intro k hk
    apply BitVec.eq_of_getLsbD_eq
    intro i hi
    have := h (64 * k + i) (by omega)
    unfold has at this
    rwa [show (64 * k + i) / 64 = k from by omega, show (64 * k + i) % 64 = i from by omega] at this
  obtain ⟨a, b, c, d⟩ := x
  obtain ⟨e, f, g, i⟩ := y
  have h0 := key 0 (by omega)
  have h1 := key 1 (by omega)
  have h2 := key 2 (by omega)
  have h3 := key 3 (by omega)
  simp only [V4.get] at h0 h1 h2 h3
  subst h0; subst h1; subst h2; subst h3
  rfl
theorem has_V0 (c : Nat) : has V0 c = false := by
  unfold has V0
  match c / 64 with
  | 0 => simp [V4.get]
  | 1 => simp [V4.get]
  | 2 => simp [V4.get]
  | _ + 3 => simp [V4.get]
def bstep (P : Nat → Bool) (o : V4) (b : Nat) : V4 := if P b then put o b else o
/-- The set of the bytes of which something holds. -/
def build (P : Nat → Bool) : V4 := (List.range' 0 256).foldl (bstep P) V0
theorem has_fold (P : Nat → Bool) (c : Nat) (hc : c < 256) : ∀ (n i : Nat) (o : V4), i + n ≤ 256 → has ((List.range' i n).foldl (bstep P) o) c = (has o c || (decide (i ≤ c) && decide (c < i + n) && P c))
  | 0, i, o, _ => by
    have : (decide (i ≤ c) && decide (c < i + 0)) = false := by
      by_cases h : i ≤ c
      · rw [decide_eq_false (show ¬ c < i + 0 from by omega), Bool.and_false]
      · rw [decide_eq_false h, Bool.false_and]
    rw [this, Bool.false_and, Bool.or_false]
    rfl
  | n + 1, i, o, h => by
    rw [List.range'_succ, List.foldl_cons, has_fold P c hc n (i + 1) _ (by omega)]
    have e : has (bstep P o i) c = (has o c || (decide (i = c) && P c)) := by
      unfold bstep
      by_cases hp : P i = true
      · rw [if_pos hp, has_put _ _ _ (by omega) hc]
        by_cases hic : i = c
        · subst hic; simp [hp]
        · simp [hic]
      · rw [if_neg hp]
        by_cases hic : i = c
        · subst hic; simp [hp]
        · simp [hic]
    rw [e]
    have e3 : decide (c < i + 1 + n) = decide (c < i + (n + 1)) := by rw [decide_eq_decide]; omega
    rw [e3]
    by_cases hic : i = c
    · subst hic
      rw [decide_eq_false (show ¬ i + 1 ≤ i from by omega), decide_eq_true (show i ≤ i from by omega), decide_eq_true (show i < i + (n + 1) from by omega)]
      simp
    · have e4 : decide (i + 1 ≤ c) = decide (i ≤ c) := by rw [decide_eq_decide]; omega
      rw [e4, decide_eq_false hic]
      simp
theorem has_build (P : Nat → Bool) (c : Nat) (hc : c < 256) : has (build P) c = P c := by
  unfold build
  rw [has_fold P c hc 256 0 V0 (by omega), has_V0]
  simp [hc]
theorem build_of {s : V4} {P : Nat → Bool} (h : ∀ c, c < 256 → has s c = P c) : s = build P := V4_ext fun c hc => by rw [h c hc, has_build P c hc]

/- ---------- Not ---------- -/
def F17 (i : Int) : List AV := [.und, .ptr 0 0, .ptr 1 0, .ptr 2 0, vi .i64 i, .und, .und, .und, .und, .und, .und, .und, .und, .und, .und, .und, .und, .und]
def E17 (i : Int) : List AV := [.und, .ptr 0 0, .ptr 1 0, .ptr 2 0, vi .i64 i, .und, vi .i64 i, vb false, .und, .und, .und, .und, .und, .und, .und, .und, .und, .und]
def hp17 (s o : I4) : List AB := [.cells 29 (wds s), .cells 29 (wds zI), .cells 29 (wds o)]
def lv17 : List Nat := [1, 2, 3, 4]
theorem not17_t (s o : I4) (i i1 : Int) : roundD prg 10 [(7, .d true), (12, .v (vb true)), (9, .v (vi .i64 i1))] 3 lv17 ir17_l0 ⟨F17 i, hp17 s o⟩ =
    some ([vb (i < 256) = vb true, CP prg 15 [setI s, vi .i64 i] (hp17 s o) = some (vb true), binA .add (vi .i64 i) (vi .i64 1) = some (vi .i64 i1)], .norm, ⟨F17 i1, hp17 s o⟩) := by kernel_rfl
theorem not17_f (s o o2 : I4) (i i1 : Int) : roundD prg 10 [(7, .d true), (12, .v (vb false)), (16, .v (setI o2)), (9, .v (vi .i64 i1))] 3 lv17 ir17_l0 ⟨F17 i, hp17 s o⟩ =
    some ([vb (i < 256) = vb true, CP prg 15 [setI s, vi .i64 i] (hp17 s o) = some (vb false), CP prg 37 [setI o, vi .i64 i] (hp17 s o) = some (setI o2), binA .add (vi .i64 i) (vi .i64 1) = some (vi .i64 i1)], .norm, ⟨F17 i1, hp17 s o2⟩) := by kernel_rfl
theorem not17_e (s o : I4) (i : Int) : roundD prg 10 [(7, .d false)] 3 lv17 ir17_l0 ⟨F17 i, hp17 s o⟩ = some ([vb (i < 256) = vb false], .brk 0, ⟨E17 i, hp17 s o⟩) := by kernel_rfl
theorem not17_loop (s : V4) : ∀ (n i : Nat) (o : V4), i + n = 256 →
    evH prg 3 lv17 ir17_l0 ⟨F17 i, hp17 (ofV s) (ofV o)⟩ = some (.brk 0, ⟨E17 256, hp17 (ofV s) (ofV ((List.range' i n).foldl (bstep fun b => !has s b) o))⟩)
  | 0, i, o, h => by
    obtain rfl : i = 256 := by omega
    exact round_brk (not17_e (ofV s) (ofV o) 256) (by simp [AllP])
  | n + 1, i, o, h => by
    have hi : i < 256 := by omega
    have ih := not17_loop s n (i + 1) (bstep (fun b => !has s b) o i) (by omega)
    rw [List.range'_succ, List.foldl_cons, ← ih]
    have c1 : vb (((i : Nat) : Int) < 256) = vb true := by rw [decide_eq_true (by omega)]
    cases hh : has s i with
    | true =>
      have e : bstep (fun b => !has s b) o i = o := by simp [bstep, hh]
      rw [e]
      refine round_norm (not17_t (ofV s) (ofV o) i ((i + 1 : Nat) : Int)) ?_
      simp only [AllP, has15 s i hi, hh]
      exact ⟨c1, trivial, q_add _ (by omega)⟩
    | false =>
      have e : bstep (fun b => !has s b) o i = put o i := by simp [bstep, hh]
      rw [e]
      refine round_norm (not17_f (ofV s) (ofV o) (ofV (put o i)) i ((i + 1 : Nat) : Int)) ?_
      simp only [AllP, has15 s i hi, hh]
      exact ⟨c1, trivial, with37 o i hi _, q_add _ (by omega)⟩
theorem not17_c (s o : I4) : callD prg 10 [(2000, .l (.brk 0) ⟨E17 256, hp17 s o⟩)] 17 [setI s] = some ([evH prg 3 lv17 ir17_l0 ⟨F17 0, hp17 s zI⟩ = some (.brk 0, ⟨E17 256, hp17 s o⟩)], setI o) := by kernel_rfl
theorem not17 (s : V4) (h : List AB) : CP prg 17 [setI (ofV s)] h = some (setI (ofV (build fun b => !has s b))) := by
  refine CP_D (not17_c (ofV s) (ofV (build fun b => !has s b))) ?_ rfl h
  simp only [AllP]
  exact not17_loop s 256 0 V0 (by omega)
end Go.Proofs.Tryd
