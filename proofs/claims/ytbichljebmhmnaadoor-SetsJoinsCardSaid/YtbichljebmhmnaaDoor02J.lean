/- Least, Ranges, and the law's going over. -/
import Derived.Test.YtbichljebmhmnaaDoor02I
import Derived.Test.YtbichljebmhmnaaDoor02ZB
namespace Go.Proofs.Tryd
set_option linter.unusedSimpArgs false
set_option linter.unusedVariables false
open Go Go.Vs
def itF (s : I4) : AV := .fn 39 [.ro (wdsP s)]
theorem bytes31 (s : I4) (h : List AB) : CP prg 31 [setI s] h = some (itF s) := CP_of 10 (by kernel_rfl)
theorem bytesS_lt (s : V4) : ∀ c ∈ bytesS s, c < 256 := by
  have key : ∀ (w : BitVec 64) (i : Nat), i < 4 → ∀ c ∈ bitsW w i, c < 256 := by
    intro w i hi c hc
    obtain ⟨x, hx, rfl⟩ := List.mem_map.1 hc
    have := List.mem_range'_1.1 (List.mem_filter.1 hx).1
    omega
  intro c hc
  simp only [bytesS, List.mem_append] at hc
  rcases hc with h | h | h | h
  · exact key _ 0 (by omega) c h
  · exact key _ 1 (by omega) c h
  · exact key _ 2 (by omega) c h
  · exact key _ 3 (by omega) c h

/- ---------- Least ---------- -/
def g24 (s : I4) : List AV := [setI s, .ptr 0 0, .ptr 1 0, .ptr 2 0, ud, setI s, itF s, ud, ud]
def h24 (s : I4) (c : Int) (b : Bool) : List AB := [.cells 29 (wds s), .cells 5 [vi .u8 c], .cells 4 [vb b]]
theorem y24 (s : I4) (c : Int) : yieldD prg 10 [] 3 [vi .u8 c] (h24 s 0 false ++ [.loop 0 none [7] (g24 s) ir24_a0 ir24_b0]) = some ([], vb false, h24 s c true ++ [.loop 2 (some none) [7] (g24 s) ir24_a0 ir24_b0]) := by kernel_rfl
theorem least_c (s : I4) (c : Int) : callD prg 10 [(6, .v (itF s)), (2000, .l .ret ⟨g24 s, h24 s c true ++ [.dead]⟩)] 24 [setI s] = some ([CP prg 31 [setI s] (h24 s 0 false) = some (itF s), ev prg (.rangeF (.t 6) [7] ir24_a0 ir24_b0) ⟨g24 s, h24 s 0 false⟩ = some (.ret, ⟨g24 s, h24 s c true ++ [.dead]⟩)], .tup [vi .u8 c, vb true]) := by kernel_rfl
theorem least_n (s : I4) : callD prg 10 [(6, .v (itF s)), (2000, .l .norm ⟨g24 s, h24 s 0 false ++ [.dead]⟩)] 24 [setI s] = some ([CP prg 31 [setI s] (h24 s 0 false) = some (itF s), ev prg (.rangeF (.t 6) [7] ir24_a0 ir24_b0) ⟨g24 s, h24 s 0 false⟩ = some (.norm, ⟨g24 s, h24 s 0 false ++ [.dead]⟩)], .tup [vi .u8 0, vb false]) := by kernel_rfl
theorem least (s : V4) (h : List AB) : CP prg 24 [setI (ofV s)] h = some (match bytesS s with | [] => .tup [vi .u8 0, vb false] | c :: _ => .tup [vi .u8 c, vb true]) := by
  cases e : bytesS s with
  | nil =>
    refine CP_D (least_n (ofV s)) ?_ rfl h
    simp only [AllP]
    refine ⟨bytes31 _ _, ev_range (h' := h24 (ofV s) 0 false ++ [.loop 0 none [7] (g24 (ofV s)) ir24_a0 ir24_b0]) (v := .tup []) rfl (it3 s _ _ false rfl rfl ?_) rfl⟩
    rw [e]
    exact .nil _
  | cons c l =>
    refine CP_D (least_c (ofV s) c) ?_ rfl h
    simp only [AllP]
    refine ⟨bytes31 _ _, ev_range (h' := h24 (ofV s) c true ++ [.loop 2 (some none) [7] (g24 (ofV s)) ir24_a0 ir24_b0]) (v := .tup []) rfl (it3 s _ _ true rfl rfl ?_) rfl⟩
    rw [e]
    exact .stop c l _ _ (callY_D (y24 (ofV s) c) (by simp [AllP])) rfl

/- ---------- goes ---------- -/
def g32 (s : I4) (r : List (List PV)) (lv : Int) : List AV := [itF s, .p (.lst 1 r), vi .i64 lv, ud, .ptr 0 0, .ptr 1 0, .ptr 2 0, .ptr 3 0, ud, itF s, vb false, itF s, ud, ud, ud, ud, ud, ud, ud, ud, ud, ud, ud, ud, ud, ud, ud, ud, ud, ud, ud, ud, ud, ud]
def h32 (r : List (List PV)) (lv : Int) (b : Bool) (n : Int) : List AB := [.cells 23 [.p (.lst 1 r)], .cells 3 [vi .i64 lv], .cells 4 [vb b], .cells 3 [vi .i64 n]]
def l32 (s : I4) (r : List (List PV)) (lv : Int) : AB := .loop 0 none [12] (g32 s r lv) ir32_a0 ir32_b0
def r32 (s : I4) (r : List (List PV)) (lv : Int) : AB := .loop 2 (some none) [12] (g32 s r lv) ir32_a0 ir32_b0
theorem y32_g (s : I4) (r : List (List PV)) (lv n n1 c : Int) : yieldD prg 10 [(16, .d false), (21, .v (.ro [.val (.int .u8 c)])), (23, .d false), (26, .v (vi .i64 n1)), (29, .d false)] 4 [vi .u8 c] (h32 r lv false n ++ [l32 s r lv]) =
    some ([vb (n ≥ (r.length : Int)) = vb false, idxA 1 (.p (.lst 1 r)) (vi .i64 n) = some (.ro [.val (.int .u8 c)]), vb (c != c) = vb false, binA .add (vi .i64 n) (vi .i64 1) = some (vi .i64 n1), vb (n1 == lv) = vb false], vb true, (h32 r lv false n1 ++ [l32 s r lv]) ++ []) := by kernel_rfl
theorem y32_s (s : I4) (r : List (List PV)) (lv n n1 c : Int) : yieldD prg 10 [(16, .d false), (21, .v (.ro [.val (.int .u8 c)])), (23, .d false), (26, .v (vi .i64 n1)), (29, .d true)] 4 [vi .u8 c] (h32 r lv false n ++ [l32 s r lv]) =
    some ([vb (n ≥ (r.length : Int)) = vb false, idxA 1 (.p (.lst 1 r)) (vi .i64 n) = some (.ro [.val (.int .u8 c)]), vb (c != c) = vb false, binA .add (vi .i64 n) (vi .i64 1) = some (vi .i64 n1), vb (n1 == lv) = vb true], vb false, h32 r lv true n1 ++ [r32 s r lv]) := by kernel_rfl
theorem goes_g (s : I4) (l : List Nat) (hl : l.length < 4611686018427387904) (lv : Nat) : ∀ (q : List Nat) (n : Nat), l.drop n = q → n + q.length = l.length → (lv ≤ n ∨ l.length < lv) →
    YR 4 5 q (h32 (l.map byteRow) lv false n ++ [l32 s (l.map byteRow) lv]) (h32 (l.map byteRow) lv false l.length ++ [l32 s (l.map byteRow) lv]) false
  | [], n, hd, hn, _ => by
    obtain rfl : n = l.length := by simpa using hn
    exact .nil _
  | c :: q, n, hd, hn, hlv => by
    have hi : n < l.length := by simp at hn; omega
    rw [List.drop_eq_getElem_cons hi] at hd
    injection hd with h1 h2
    subst h1
    have ih := goes_g s l hl lv q (n + 1) h2 (by simp at hn; omega) (by omega)
    refine .go _ q _ _ [] _ false (callY_D (y32_g s (l.map byteRow) lv n ((n + 1 : Nat) : Int) (l[n] : Nat)) ?_) rfl rfl ih
    simp only [AllP, List.length_map]
    refine ⟨?_, idx_byte (by simp [hi]), by simp, q_add _ (by omega), ?_⟩
    · rw [decide_eq_false (by omega)]
    · have : (((n + 1 : Nat) : Int) == (lv : Int)) = false := by simp; omega
      rw [this]
theorem goes_s (s : I4) (l : List Nat) (hl : l.length < 4611686018427387904) (lv : Nat) (hlv : lv ≤ l.length) : ∀ (q : List Nat) (n : Nat), l.drop n = q → n + q.length = l.length → n < lv →
    YR 4 5 q (h32 (l.map byteRow) lv false n ++ [l32 s (l.map byteRow) lv]) (h32 (l.map byteRow) lv true lv ++ [r32 s (l.map byteRow) lv]) true
  | [], n, hd, hn, h => by simp at hn; omega
  | c :: q, n, hd, hn, h => by
    have hi : n < l.length := by simp at hn; omega
    rw [List.drop_eq_getElem_cons hi] at hd
    injection hd with h1 h2
    subst h1
    have c1 : vb ((n : Int) ≥ (((l.map byteRow).length : Nat) : Int)) = vb false := by rw [decide_eq_false (by simp; omega)]
    by_cases he : n + 1 = lv
    · subst he
      refine .stop _ q _ _ (callY_D (y32_s s (l.map byteRow) ((n + 1 : Nat) : Int) n ((n + 1 : Nat) : Int) (l[n] : Nat)) ?_) rfl
      simp only [AllP]
      exact ⟨c1, idx_byte (by simp [hi]), by simp, q_add _ (by omega), by simp⟩
    · have ih := goes_s s l hl lv hlv q (n + 1) h2 (by simp at hn; omega) (by omega)
      refine .go _ q _ _ [] _ true (callY_D (y32_g s (l.map byteRow) lv n ((n + 1 : Nat) : Int) (l[n] : Nat)) ?_) rfl rfl ih
      simp only [AllP]
      refine ⟨c1, idx_byte (by simp [hi]), by simp, q_add _ (by omega), ?_⟩
      have : (((n + 1 : Nat) : Int) == (lv : Int)) = false := by simp; omega
      rw [this]
theorem goes_cs (s : I4) (r : List (List PV)) (lv : Int) : callD prg 10 [(2000, .l .ret ⟨g32 s r lv, h32 r lv true lv ++ [.dead]⟩)] 32 [itF s, .p (.lst 1 r), vi .i64 lv] = some ([ev prg (.rangeF (.t 11) [12] ir32_a0 ir32_b0) ⟨g32 s r lv, h32 r lv false 0⟩ = some (.ret, ⟨g32 s r lv, h32 r lv true lv ++ [.dead]⟩)], vb true) := by kernel_rfl
theorem goes_cn (s : I4) (r : List (List PV)) (lv n : Int) : callD prg 10 [(2000, .l .norm ⟨g32 s r lv, h32 r lv false n ++ [.dead]⟩), (33, .d true)] 32 [itF s, .p (.lst 1 r), vi .i64 lv] = some ([ev prg (.rangeF (.t 11) [12] ir32_a0 ir32_b0) ⟨g32 s r lv, h32 r lv false 0⟩ = some (.norm, ⟨g32 s r lv, h32 r lv false n ++ [.dead]⟩), vb (n == (r.length : Int)) = vb true], vb true) := by kernel_rfl
theorem bytesS_len (s : V4) : (bytesS s).length ≤ 256 := by
  have key : ∀ (w : BitVec 64) (i : Nat), (bitsW w i).length ≤ 64 := by
    intro w i
    unfold bitsW bits
    rw [List.length_map]
    refine Nat.le_trans (List.length_filter_le _ _) ?_
    simp
  have := key s.a 0
  have := key s.b 1
  have := key s.c 2
  have := key s.d 3
  simp only [bytesS, List.length_append]
  omega
theorem goes (s : V4) (lv : Nat) (h : List AB) : CP prg 32 [itF (ofV s), .p (bytesL (bytesS s)), vi .i64 lv] h = some (vb true) := by
  have hl := bytesS_len s
  by_cases hc : 0 < lv ∧ lv ≤ (bytesS s).length
  · refine CP_D (goes_cs (ofV s) ((bytesS s).map byteRow) lv) ?_ rfl h
    simp only [AllP]
    exact ev_range (h' := h32 ((bytesS s).map byteRow) lv true lv ++ [r32 (ofV s) ((bytesS s).map byteRow) lv]) (v := .tup []) rfl (it4 s _ _ true rfl rfl (goes_s (ofV s) (bytesS s) (by omega) lv hc.2 _ 0 rfl (by simp) hc.1)) rfl
  · refine CP_D (goes_cn (ofV s) ((bytesS s).map byteRow) lv (bytesS s).length) ?_ rfl h
    simp only [AllP, List.length_map]
    refine ⟨?_, by simp⟩
    exact ev_range (h' := h32 ((bytesS s).map byteRow) lv false (bytesS s).length ++ [l32 (ofV s) ((bytesS s).map byteRow) lv]) (v := .tup []) rfl (it4 s _ _ false rfl rfl (goes_g (ofV s) (bytesS s) (by omega) lv _ 0 rfl (by simp) (by omega))) rfl
end Go.Proofs.Tryd
