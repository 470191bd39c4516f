/- Make and the document's Make: a set of some ranges. -/
import Derived.Test.YtbichljebmhmnaaDoor02U
namespace Go.Proofs.Tryd
set_option linter.unusedSimpArgs false
set_option linter.unusedVariables false
open Go Go.Vs
def rgRow (x : Nat × Nat) : List PV := [.val (.int .u8 x.1), .val (.int .u8 x.2)]
def rgL (l : List (Nat × Nat)) : PV := .lst 2 (l.map rgRow)
def hp3 (s : V4) (f t : Int) : List AB := [.cells 29 (wds zI), .cells 29 (wds (ofV s)), .cells 26 [vi .u8 f, vi .u8 t]]
def hp3i (s : I4) (f t : Int) : List AB := [.cells 29 (wds zI), .cells 29 (wds s), .cells 26 [vi .u8 f, vi .u8 t]]
def fill (s : V4) (f t : Nat) : V4 := (List.range' f (t + 1 - f)).foldl put s
def mk : List (Nat × Nat) → V4 → Option V4
  | [], s => some s
  | x :: r, s => if x.2 < x.1 then none else mk r (fill s x.1 x.2)

/- ---------- Make ---------- -/
def F9i (r : List (List PV)) (i b : Int) : List AV := [.und, .und, .ptr 0 0, .und, .ptr 1 0, .und, .ptr 2 0, vi .i64 b, .p (.lst 2 r), vi .i64 (r.length : Int), vi .i64 i, .und, .und, .und, .und, .und, .und, .und, .und, .und, .und, .und, .und, .und, .und, .und, .und, .und, .und, .und, .und, .und, .und, .und, .und, .und, .und, .und, .und, .und, .und]
def E9i (r : List (List PV)) (i b t : Int) : List AV := [.und, .und, .ptr 0 0, .und, .ptr 1 0, .und, .ptr 2 0, vi .i64 b, .p (.lst 2 r), vi .i64 (r.length : Int), vi .i64 i, .und, .und, .und, .und, .und, .und, .und, .und, .und, .und, .und, .und, vi .i64 b, .ptr 2 1, vi .u8 t, vi .i64 t, vb false, .und, .und, .und, .und, .und, .und, .und, .und, .und, .und, .und, .und, .und]
def F9 (r : List (List PV)) (i : Int) : List AV := [.und, .und, .ptr 0 0, .und, .ptr 1 0, .und, .und, .und, .p (.lst 2 r), vi .i64 (r.length : Int), vi .i64 i, .und, .und, .und, .und, .und, .und, .und, .und, .und, .und, .und, .und, .und, .und, .und, .und, .und, .und, .und, .und, .und, .und, .und, .und, .und, .und, .und, .und, .und, .und]
def E9 (r : List (List PV)) (i : Int) : List AV := [.und, .und, .ptr 0 0, .und, .ptr 1 0, .und, .und, .und, .p (.lst 2 r), vi .i64 (r.length : Int), vi .i64 i, vb false, .und, .und, .und, .und, .und, .und, .und, .und, .und, .und, .und, .und, .und, .und, .und, .und, .und, .und, .und, .und, .und, .und, .und, .und, .und, .und, .und, .und, .und]
def R9 (r : List (List PV)) (i f t : Int) : List AV := [.und, .und, .ptr 0 0, vi .i64 4, .ptr 1 0, .und, .ptr 2 0, .und, .p (.lst 2 r), vi .i64 (r.length : Int), vi .i64 i, vb true, .ro [.val (.int .u8 f), .val (.int .u8 t)], .agg [vi .u8 f, vi .u8 t], .ptr 2 0, vi .u8 f, .ptr 2 1, vi .u8 t, vb true, setI zI, .und, .und, .und, .und, .und, .und, .und, .und, .und, .und, .und, .und, .und, .und, .und, .und, .und, .und, .und, .und, .und]
def lv9 : List Nat := [2, 4, 8, 9, 10]
def lv9i : List Nat := [2, 4, 6, 7, 8, 9, 10]
theorem mk9i_k (r : List (List PV)) (s : I4) (i b b1 f t j m x : Int) : ∀ k : Nat, k < 4 → roundD prg 10 [(26, .v (vi .i64 t)), (27, .d true), (31, .v (vi .i64 (k : Int))), (35, .v (vi .i64 j)), (36, .v (vi .u64 m)), (37, .v (vi .u64 x)), (29, .v (vi .i64 b1))] 3 lv9i ir9_l0 ⟨F9i r i b, hp3i s f t⟩ =
    some ([convA .i64 (vi .u8 t) = some (vi .i64 t), vb (b ≤ t) = vb true, binA .shr (vi .i64 b) (vi .u64 6) = some (vi .i64 (k : Int)), binA .and (vi .i64 b) (vi .i64 63) = some (vi .i64 j), binA .shl (vi .u64 1) (vi .i64 j) = some (vi .u64 m),
      binA .or (vi .u64 (s.get k)) (vi .u64 m) = some (vi .u64 x), binA .add (vi .i64 b) (vi .i64 1) = some (vi .i64 b1)], .norm, ⟨F9i r i b1, hp3i (s.put k x) f t⟩)
  | 0, _ => by kernel_rfl
  | 1, _ => by kernel_rfl
  | 2, _ => by kernel_rfl
  | 3, _ => by kernel_rfl
  | _ + 4, h => absurd h (by omega)
theorem mk9i_e (r : List (List PV)) (s : I4) (i b f t : Int) : roundD prg 10 [(26, .v (vi .i64 t)), (27, .d false)] 3 lv9i ir9_l0 ⟨F9i r i b, hp3i s f t⟩ =
    some ([convA .i64 (vi .u8 t) = some (vi .i64 t), vb (b ≤ t) = vb false], .brk 2, ⟨E9i r i b t, hp3i s f t⟩) := by kernel_rfl
theorem mk9i_loop (r : List (List PV)) (i : Int) (f t : Nat) (ht : t < 256) : ∀ (n b : Nat) (s : V4), b + n = t + 1 →
    evH prg 3 lv9i ir9_l0 ⟨F9i r i b, hp3 s f t⟩ = some (.brk 2, ⟨E9i r i ((t + 1 : Nat) : Int) t, hp3 ((List.range' b n).foldl put s) f t⟩)
  | 0, b, s, h => by
    obtain rfl : b = t + 1 := by omega
    have := round_brk (mk9i_e r (ofV s) i ((t + 1 : Nat) : Int) f t) ?_
    · exact this
    · simp only [AllP]
      refine ⟨q_conv _ _ ht, ?_⟩
      rw [decide_eq_false (by omega)]
  | n + 1, b, s, h => by
    have hb : b < 256 := by omega
    have hk := mk9i_k r (ofV s) i b ((b + 1 : Nat) : Int) f t ((b % 64 : Nat) : Int) ((1#64 <<< (b % 64)).toNat : Int) ((s.get (b / 64) ||| 1#64 <<< (b % 64)).toNat : Int) (b / 64) (by omega)
    rw [put_v] at hk
    have h1 := round_norm hk ?_
    · have ih := mk9i_loop r i f t ht n (b + 1) (put s b) (by omega)
      rw [List.range'_succ, List.foldl_cons, ← ih]
      exact h1
    · simp only [AllP, get_v]
      refine ⟨q_conv _ _ ht, ?_, ?_, q_and _ hb, q_shl _ _ (by omega), q_or _ _, q_add _ (by omega)⟩
      · rw [decide_eq_true (by omega)]
      · have := q_shr .i64 b 6 (by decide)
        rwa [shr6] at this
theorem mk9_k (r : List (List PV)) (s s2 : I4) (i i1 f t b : Int) : roundD prg 10 [(11, .d true), (12, .v (.ro [.val (.int .u8 f), .val (.int .u8 t)])), (18, .d false), (22, .v (vi .i64 f)), (2002, .l (.brk 2) ⟨E9i r i b t, hp3i s2 f t⟩), (39, .v (vi .i64 i1))] 2 lv9 ir9_l1 ⟨F9 r i, hp2i s⟩ =
    some ([vb (i < (r.length : Int)) = vb true, idxA 2 (.p (.lst 2 r)) (vi .i64 i) = some (.ro [.val (.int .u8 f), .val (.int .u8 t)]), vb (f > t) = vb false, convA .i64 (vi .u8 f) = some (vi .i64 f),
      evH prg 3 lv9i ir9_l0 ⟨F9i r i f, hp3i s f t⟩ = some (.brk 2, ⟨E9i r i b t, hp3i s2 f t⟩), binA .add (vi .i64 i) (vi .i64 1) = some (vi .i64 i1)], .norm, ⟨F9 r i1, hp2i s2⟩) := by kernel_rfl
theorem mk9_r (r : List (List PV)) (s : I4) (i f t : Int) : roundD prg 10 [(11, .d true), (12, .v (.ro [.val (.int .u8 f), .val (.int .u8 t)])), (18, .d true)] 2 lv9 ir9_l1 ⟨F9 r i, hp2i s⟩ =
    some ([vb (i < (r.length : Int)) = vb true, idxA 2 (.p (.lst 2 r)) (vi .i64 i) = some (.ro [.val (.int .u8 f), .val (.int .u8 t)]), vb (f > t) = vb true], .ret, ⟨R9 r i f t, hp3i s f t⟩) := by kernel_rfl
theorem mk9_e (r : List (List PV)) (s : I4) (i : Int) : roundD prg 10 [(11, .d false)] 2 lv9 ir9_l1 ⟨F9 r i, hp2i s⟩ = some ([vb (i < (r.length : Int)) = vb false], .brk 0, ⟨E9 r i, hp2i s⟩) := by kernel_rfl
theorem idx_rg {l : List (Nat × Nat)} {i : Nat} {x : Nat × Nat} (h : l[i]? = some x) : idxA 2 (.p (.lst 2 (l.map rgRow))) (vi .i64 i) = some (.ro [.val (.int .u8 x.1), .val (.int .u8 x.2)]) := by
  simp only [idxA, idx, Option.bind_some]
  rw [if_pos ⟨trivial, by omega⟩]
  simp [h, rgRow]

theorem mk9_loop (l : List (Nat × Nat)) (hl : ∀ x ∈ l, x.1 < 256 ∧ x.2 < 256) (hn : l.length < 4611686018427387904) : ∀ (n i : Nat) (s : V4), i + n = l.length →
    match mk (l.drop i) s with
    | some s2 => evH prg 2 lv9 ir9_l1 ⟨F9 (l.map rgRow) i, hp2 s⟩ = some (.brk 0, ⟨E9 (l.map rgRow) l.length, hp2 s2⟩)
    | none => ∃ (s2 : V4) (j f t : Nat), evH prg 2 lv9 ir9_l1 ⟨F9 (l.map rgRow) i, hp2 s⟩ = some (.ret, ⟨R9 (l.map rgRow) j f t, hp3 s2 f t⟩)
  | 0, i, s, h => by
    obtain rfl : i = l.length := by omega
    have := round_brk (mk9_e (l.map rgRow) (ofV s) l.length) (by simp [AllP])
    simpa [hp2, hp2i, mk] using this
  | n + 1, i, s, h => by
    have hi : i < l.length := by omega
    have hx := hl _ (List.getElem_mem hi)
    rw [List.drop_eq_getElem_cons hi]
    simp only [mk]
    have c1 : vb (((i : Nat) : Int) < ((l.map rgRow).length : Int)) = vb true := by simp [hi]
    have c2 := idx_rg (l := l) (i := i) (x := l[i]) (by simp [hi])
    by_cases hft : l[i].2 < l[i].1
    · rw [if_pos hft]
      refine ⟨s, i, l[i].1, l[i].2, ?_⟩
      refine round_ret (mk9_r (l.map rgRow) (ofV s) i (l[i].1 : Nat) (l[i].2 : Nat)) ?_
      simp only [AllP]
      refine ⟨c1, c2, ?_⟩
      rw [decide_eq_true (by omega)]
    · rw [if_neg hft]
      have hk := mk9_k (l.map rgRow) (ofV s) (ofV (fill s l[i].1 l[i].2)) i ((i + 1 : Nat) : Int) (l[i].1 : Nat) (l[i].2 : Nat) ((l[i].2 + 1 : Nat) : Int)
      have h1 := round_norm hk ?_
      · have ih := mk9_loop l hl hn n (i + 1) (fill s l[i].1 l[i].2) (by omega)
        have e : evH prg 2 lv9 ir9_l1 ⟨F9 (l.map rgRow) i, hp2 s⟩ = evH prg 2 lv9 ir9_l1 ⟨F9 (l.map rgRow) ((i + 1 : Nat) : Int), hp2 (fill s l[i].1 l[i].2)⟩ := h1
        rw [e]
        exact ih
      · simp only [AllP]
        refine ⟨c1, c2, ?_, q_conv _ _ hx.1, ?_, q_add _ (by omega)⟩
        · rw [decide_eq_false (by omega)]
        · exact mk9i_loop (l.map rgRow) i l[i].1 l[i].2 hx.2 (l[i].2 + 1 - l[i].1) l[i].1 s (by omega)
theorem mk9_c (r : List (List PV)) (s : I4) (n : Int) : callDS prg 10 [(2000, .l (.brk 0) ⟨E9 r n, hp2i s⟩)] 9 [.p (.lst 2 r)] [] = some ([evH prg 2 lv9 ir9_l1 ⟨F9 r 0, hp2i zI⟩ = some (.brk 0, ⟨E9 r n, hp2i s⟩)], .tup [setI s, vi .i64 0], [.cells 29 (wds s), .cells 29 (wds s)]) := by kernel_rfl
theorem mk9_c2 (r : List (List PV)) (s : I4) (j f t : Int) : callDS prg 10 [(2000, .l .ret ⟨R9 r j f t, hp3i s f t⟩)] 9 [.p (.lst 2 r)] [] = some ([evH prg 2 lv9 ir9_l1 ⟨F9 r 0, hp2i zI⟩ = some (.ret, ⟨R9 r j f t, hp3i s f t⟩)], .tup [setI zI, vi .i64 4], hp3i s f t) := by kernel_rfl
/-- What a Make hands back. -/
def mkRes (l : List (Nat × Nat)) : AV :=
  match mk l V0 with
  | some s => .tup [setI (ofV s), vi .i64 0]
  | none => .tup [setI zI, vi .i64 4]
theorem mk9 (l : List (Nat × Nat)) (hl : ∀ x ∈ l, x.1 < 256 ∧ x.2 < 256) (hn : l.length < 4611686018427387904) : ∃ h', CS prg 9 [.p (rgL l)] [] = some (mkRes l, h') := by
  have h := mk9_loop l hl hn l.length 0 V0 (by omega)
  rw [List.drop_zero] at h
  unfold mkRes
  split at h
  · rename_i s2 e
    refine ⟨_, CS_D (mk9_c (l.map rgRow) (ofV s2) l.length) ?_⟩
    exact h
  · rename_i e
    obtain ⟨s2, j, f, t, h⟩ := h
    refine ⟨_, CS_D (mk9_c2 (l.map rgRow) (ofV s2) j f t) ?_⟩
    exact h
/- ---------- the document's Make ---------- -/
def F10i (r : List (List PV)) (i b : Int) : List AV := [.p (.lst 2 r), .und, .ptr 0 0, .und, .ptr 1 0, vi .i64 i, vi .i64 b, .und, .und, .und, .und, .und, .und, .und, .und, .und, .und, .und, .und, .und, .und, .und, .und, .und, .und, .und, .und, .und, .und, .und, .und, .und, .und, .und, .und, .und, .und, .und, .und, .und, .und, .und, .und, .und, .und, .und]
def E10i (r : List (List PV)) (i b f t : Int) : List AV := [.p (.lst 2 r), .und, .ptr 0 0, .und, .ptr 1 0, vi .i64 i, vi .i64 b, .und, .und, .und, .und, .und, .und, .und, .und, .und, .und, .und, .und, .und, .und, .und, .und, .und, .und, .und, .und, .und, .und, .und, .und, .und, vi .i64 b, .p (.lst 2 r), vi .i64 i, .ro [.val (.int .u8 f), .val (.int .u8 t)], .ro [.val (.int .u8 t)], vi .u8 t, vi .i64 t, vb false, .und, .und, .und, .und, .und, .und]
def F10 (r : List (List PV)) (i : Int) : List AV := [.p (.lst 2 r), .und, .ptr 0 0, .und, .ptr 1 0, vi .i64 i, .und, .und, .und, .und, .und, .und, .und, .und, .und, .und, .und, .und, .und, .und, .und, .und, .und, .und, .und, .und, .und, .und, .und, .und, .und, .und, .und, .und, .und, .und, .und, .und, .und, .und, .und, .und, .und, .und, .und, .und]
def E10 (r : List (List PV)) (i : Int) : List AV := [.p (.lst 2 r), .und, .ptr 0 0, .und, .ptr 1 0, vi .i64 i, .und, .und, vi .i64 i, .p (.lst 2 r), vi .i64 (r.length : Int), vb false, .und, .und, .und, .und, .und, .und, .und, .und, .und, .und, .und, .und, .und, .und, .und, .und, .und, .und, .und, .und, .und, .und, .und, .und, .und, .und, .und, .und, .und, .und, .und, .und, .und, .und]
def R10 (r : List (List PV)) (i f t : Int) : List AV := [.p (.lst 2 r), .und, .ptr 0 0, vi .i64 4, .ptr 1 0, vi .i64 i, .und, .und, vi .i64 i, .p (.lst 2 r), vi .i64 (r.length : Int), vb true, .und, .und, .p (.lst 2 r), vi .i64 i, .ro [.val (.int .u8 f), .val (.int .u8 t)], .ro [.val (.int .u8 f), .val (.int .u8 t)], vi .u8 f, .p (.lst 2 r), vi .i64 i, .ro [.val (.int .u8 f), .val (.int .u8 t)], .ro [.val (.int .u8 t)], vi .u8 t, vb true, setI zI, .und, .und, .und, .und, .und, .und, .und, .und, .und, .und, .und, .und, .und, .und, .und, .und, .und, .und, .und, .und]
def lv10 : List Nat := [0, 2, 4, 5]
def lv10i : List Nat := [0, 2, 4, 5, 6]
theorem mk10i_k (r : List (List PV)) (s s2 : I4) (i b b1 f t : Int) : roundD prg 10 [(35, .v (.ro [.val (.int .u8 f), .val (.int .u8 t)])), (38, .v (vi .i64 t)), (39, .d true), (44, .v (setI s2)), (41, .v (vi .i64 b1))] 2 lv10i ir10_l0 ⟨F10i r i b, hp2i s⟩ =
    some ([idxA 2 (.p (.lst 2 r)) (vi .i64 i) = some (.ro [.val (.int .u8 f), .val (.int .u8 t)]), convA .i64 (vi .u8 t) = some (vi .i64 t), vb (b ≤ t) = vb true, CP prg 37 [setI s, vi .i64 b] (hp2i s) = some (setI s2), binA .add (vi .i64 b) (vi .i64 1) = some (vi .i64 b1)], .norm, ⟨F10i r i b1, hp2i s2⟩) := by kernel_rfl
theorem mk10i_e (r : List (List PV)) (s : I4) (i b f t : Int) : roundD prg 10 [(35, .v (.ro [.val (.int .u8 f), .val (.int .u8 t)])), (38, .v (vi .i64 t)), (39, .d false)] 2 lv10i ir10_l0 ⟨F10i r i b, hp2i s⟩ =
    some ([idxA 2 (.p (.lst 2 r)) (vi .i64 i) = some (.ro [.val (.int .u8 f), .val (.int .u8 t)]), convA .i64 (vi .u8 t) = some (vi .i64 t), vb (b ≤ t) = vb false], .brk 2, ⟨E10i r i b f t, hp2i s⟩) := by kernel_rfl
theorem mk10i_loop (l : List (Nat × Nat)) (i : Nat) (f t : Nat) (hx : l[i]? = some (f, t)) (ht : t < 256) : ∀ (n b : Nat) (s : V4), b + n = t + 1 →
    evH prg 2 lv10i ir10_l0 ⟨F10i (l.map rgRow) i b, hp2 s⟩ = some (.brk 2, ⟨E10i (l.map rgRow) i ((t + 1 : Nat) : Int) f t, hp2 ((List.range' b n).foldl put s)⟩)
  | 0, b, s, h => by
    obtain rfl : b = t + 1 := by omega
    have := round_brk (mk10i_e (l.map rgRow) (ofV s) i ((t + 1 : Nat) : Int) f t) ?_
    · exact this
    · simp only [AllP]
      refine ⟨idx_rg hx, q_conv _ _ ht, ?_⟩
      rw [decide_eq_false (by omega)]
  | n + 1, b, s, h => by
    have hb : b < 256 := by omega
    have h1 := round_norm (mk10i_k (l.map rgRow) (ofV s) (ofV (put s b)) i b ((b + 1 : Nat) : Int) f t) ?_
    · have ih := mk10i_loop l i f t hx ht n (b + 1) (put s b) (by omega)
      rw [List.range'_succ, List.foldl_cons, ← ih]
      exact h1
    · simp only [AllP]
      refine ⟨idx_rg hx, q_conv _ _ ht, ?_, with37 s b hb _, q_add _ (by omega)⟩
      rw [decide_eq_true (by omega)]
theorem mk10_k (r : List (List PV)) (s s2 : I4) (i i1 f t b : Int) : roundD prg 10 [(11, .d true), (16, .v (.ro [.val (.int .u8 f), .val (.int .u8 t)])), (21, .v (.ro [.val (.int .u8 f), .val (.int .u8 t)])), (24, .d false), (28, .v (.ro [.val (.int .u8 f), .val (.int .u8 t)])), (31, .v (vi .i64 f)), (2002, .l (.brk 2) ⟨E10i r i b f t, hp2i s2⟩), (13, .v (vi .i64 i1))] 2 lv10 ir10_l1 ⟨F10 r i, hp2i s⟩ =
    some ([vb (i < (r.length : Int)) = vb true, idxA 2 (.p (.lst 2 r)) (vi .i64 i) = some (.ro [.val (.int .u8 f), .val (.int .u8 t)]), idxA 2 (.p (.lst 2 r)) (vi .i64 i) = some (.ro [.val (.int .u8 f), .val (.int .u8 t)]), vb (f > t) = vb false, idxA 2 (.p (.lst 2 r)) (vi .i64 i) = some (.ro [.val (.int .u8 f), .val (.int .u8 t)]), convA .i64 (vi .u8 f) = some (vi .i64 f),
      evH prg 2 lv10i ir10_l0 ⟨F10i r i f, hp2i s⟩ = some (.brk 2, ⟨E10i r i b f t, hp2i s2⟩), binA .add (vi .i64 i) (vi .i64 1) = some (vi .i64 i1)], .norm, ⟨F10 r i1, hp2i s2⟩) := by kernel_rfl
theorem mk10_r (r : List (List PV)) (s : I4) (i f t : Int) : roundD prg 10 [(11, .d true), (16, .v (.ro [.val (.int .u8 f), .val (.int .u8 t)])), (21, .v (.ro [.val (.int .u8 f), .val (.int .u8 t)])), (24, .d true)] 2 lv10 ir10_l1 ⟨F10 r i, hp2i s⟩ =
    some ([vb (i < (r.length : Int)) = vb true, idxA 2 (.p (.lst 2 r)) (vi .i64 i) = some (.ro [.val (.int .u8 f), .val (.int .u8 t)]), idxA 2 (.p (.lst 2 r)) (vi .i64 i) = some (.ro [.val (.int .u8 f), .val (.int .u8 t)]), vb (f > t) = vb true], .ret, ⟨R10 r i f t, hp2i s⟩) := by kernel_rfl
theorem mk10_e (r : List (List PV)) (s : I4) (i : Int) : roundD prg 10 [(11, .d false)] 2 lv10 ir10_l1 ⟨F10 r i, hp2i s⟩ = some ([vb (i < (r.length : Int)) = vb false], .brk 0, ⟨E10 r i, hp2i s⟩) := by kernel_rfl
theorem mk10_loop (l : List (Nat × Nat)) (hl : ∀ x ∈ l, x.1 < 256 ∧ x.2 < 256) (hn : l.length < 4611686018427387904) : ∀ (n i : Nat) (s : V4), i + n = l.length →
    match mk (l.drop i) s with
    | some s2 => evH prg 2 lv10 ir10_l1 ⟨F10 (l.map rgRow) i, hp2 s⟩ = some (.brk 0, ⟨E10 (l.map rgRow) l.length, hp2 s2⟩)
    | none => ∃ (s2 : V4) (j f t : Nat), evH prg 2 lv10 ir10_l1 ⟨F10 (l.map rgRow) i, hp2 s⟩ = some (.ret, ⟨R10 (l.map rgRow) j f t, hp2 s2⟩)
  | 0, i, s, h => by
    obtain rfl : i = l.length := by omega
    have := round_brk (mk10_e (l.map rgRow) (ofV s) l.length) (by simp [AllP])
    simpa [hp2, hp2i, mk] using this
  | n + 1, i, s, h => by
    have hi : i < l.length := by omega
    have hx := hl _ (List.getElem_mem hi)
    rw [List.drop_eq_getElem_cons hi]
    simp only [mk]
    have c1 : vb (((i : Nat) : Int) < ((l.map rgRow).length : Int)) = vb true := by simp [hi]
    have c2 := idx_rg (l := l) (i := i) (x := l[i]) (by simp [hi])
    by_cases hft : l[i].2 < l[i].1
    · rw [if_pos hft]
      refine ⟨s, i, l[i].1, l[i].2, ?_⟩
      refine round_ret (mk10_r (l.map rgRow) (ofV s) i (l[i].1 : Nat) (l[i].2 : Nat)) ?_
      simp only [AllP]
      refine ⟨c1, c2, c2, ?_⟩
      rw [decide_eq_true (by omega)]
    · rw [if_neg hft]
      have h1 := round_norm (mk10_k (l.map rgRow) (ofV s) (ofV (fill s l[i].1 l[i].2)) i ((i + 1 : Nat) : Int) (l[i].1 : Nat) (l[i].2 : Nat) ((l[i].2 + 1 : Nat) : Int)) ?_
      · have ih := mk10_loop l hl hn n (i + 1) (fill s l[i].1 l[i].2) (by omega)
        have e : evH prg 2 lv10 ir10_l1 ⟨F10 (l.map rgRow) i, hp2 s⟩ = evH prg 2 lv10 ir10_l1 ⟨F10 (l.map rgRow) ((i + 1 : Nat) : Int), hp2 (fill s l[i].1 l[i].2)⟩ := h1
        rw [e]
        exact ih
      · simp only [AllP]
        refine ⟨c1, c2, c2, ?_, c2, q_conv _ _ hx.1, ?_, q_add _ (by omega)⟩
        · rw [decide_eq_false (by omega)]
        · exact mk10i_loop l i l[i].1 l[i].2 (by simp [hi]) hx.2 (l[i].2 + 1 - l[i].1) l[i].1 s (by omega)
theorem mk10_c (r : List (List PV)) (s : I4) (n : Int) : callDS prg 10 [(2000, .l (.brk 0) ⟨E10 r n, hp2i s⟩)] 10 [.p (.lst 2 r)] [] = some ([evH prg 2 lv10 ir10_l1 ⟨F10 r 0, hp2i zI⟩ = some (.brk 0, ⟨E10 r n, hp2i s⟩)], .tup [setI s, vi .i64 0], [.cells 29 (wds s), .cells 29 (wds s)]) := by kernel_rfl
theorem mk10_c2 (r : List (List PV)) (s : I4) (j f t : Int) : callDS prg 10 [(2000, .l .ret ⟨R10 r j f t, hp2i s⟩)] 10 [.p (.lst 2 r)] [] = some ([evH prg 2 lv10 ir10_l1 ⟨F10 r 0, hp2i zI⟩ = some (.ret, ⟨R10 r j f t, hp2i s⟩)], .tup [setI zI, vi .i64 4], hp2i s) := by kernel_rfl
theorem mk10 (l : List (Nat × Nat)) (hl : ∀ x ∈ l, x.1 < 256 ∧ x.2 < 256) (hn : l.length < 4611686018427387904) : ∃ h', CS prg 10 [.p (rgL l)] [] = some (mkRes l, h') := by
  have h := mk10_loop l hl hn l.length 0 V0 (by omega)
  rw [List.drop_zero] at h
  unfold mkRes
  split at h
  · rename_i s2 e
    refine ⟨_, CS_D (mk10_c (l.map rgRow) (ofV s2) l.length) ?_⟩
    exact h
  · rename_i e
    obtain ⟨s2, j, f, t, h⟩ := h
    refine ⟨_, CS_D (mk10_c2 (l.map rgRow) (ofV s2) j f t) ?_⟩
    exact h
end Go.Proofs.Tryd
