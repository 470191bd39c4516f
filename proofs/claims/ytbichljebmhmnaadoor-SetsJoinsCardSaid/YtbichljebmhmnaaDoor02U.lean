/- Of and the document's Of: a set of some bytes. -/
import Derived.Test.YtbichljebmhmnaaDoor02Q
namespace Go.Proofs.Tryd
set_option linter.unusedSimpArgs false
set_option linter.unusedVariables false
open Go Go.Vs
def byteRow (b : Nat) : List PV := [.val (.int .u8 b)]
def bytesL (l : List Nat) : PV := .lst 1 (l.map byteRow)
def hp2 (s : V4) : List AB := [.cells 29 (wds zI), .cells 29 (wds (ofV s))]
def hp2i (s : I4) : List AB := [.cells 29 (wds zI), .cells 29 (wds s)]

/- ---------- Of ---------- -/
def F11 (r : List (List PV)) (i : Int) : List AV := [.und, .und, .ptr 0 0, .ptr 1 0, .und, .und, .p (.lst 1 r), vi .i64 (r.length : Int), vi .i64 i, .und, .und, .und, .und, .und, .und, .und, .und, .und, .und, .und, .und, .und, .und]
def E11 (r : List (List PV)) (i : Int) : List AV := [.und, .und, .ptr 0 0, .ptr 1 0, .und, .und, .p (.lst 1 r), vi .i64 (r.length : Int), vi .i64 i, vb false, .und, .und, .und, .und, .und, .und, .und, .und, .und, .und, .und, .und, .und]
def lv11 : List Nat := [2, 3, 6, 7, 8]
theorem of11_k (r : List (List PV)) (s : I4) (i i1 b j m x : Int) : ∀ k : Nat, k < 4 → roundD prg 10 [(9, .d true), (10, .v (.ro [.val (.int .u8 b)])), (13, .v (vi .u8 (k : Int))), (17, .v (vi .u8 j)), (18, .v (vi .u64 m)), (19, .v (vi .u64 x)), (21, .v (vi .i64 i1))] 2 lv11 ir11_l0 ⟨F11 r i, hp2i s⟩ =
    some ([vb (i < (r.length : Int)) = vb true, idxA 1 (.p (.lst 1 r)) (vi .i64 i) = some (.ro [.val (.int .u8 b)]), binA .shr (vi .u8 b) (vi .u64 6) = some (vi .u8 (k : Int)), binA .and (vi .u8 b) (vi .u8 63) = some (vi .u8 j), binA .shl (vi .u64 1) (vi .u8 j) = some (vi .u64 m),
      binA .or (vi .u64 (s.get k)) (vi .u64 m) = some (vi .u64 x), binA .add (vi .i64 i) (vi .i64 1) = some (vi .i64 i1)], .norm, ⟨F11 r i1, hp2i (s.put k x)⟩)
  | 0, _ => by kernel_rfl
  | 1, _ => by kernel_rfl
  | 2, _ => by kernel_rfl
  | 3, _ => by kernel_rfl
  | _ + 4, h => absurd h (by omega)
theorem of11_e (r : List (List PV)) (s : I4) (i : Int) : roundD prg 10 [(9, .d false)] 2 lv11 ir11_l0 ⟨F11 r i, hp2i s⟩ = some ([vb (i < (r.length : Int)) = vb false], .brk 0, ⟨E11 r i, hp2i s⟩) := by kernel_rfl

theorem idx_byte {l : List Nat} {i b : Nat} (h : l[i]? = some b) : idxA 1 (.p (.lst 1 (l.map byteRow))) (vi .i64 i) = some (.ro [.val (.int .u8 b)]) := by
  simp only [idxA, idx, Option.bind_some]
  rw [if_pos ⟨trivial, by omega⟩]
  simp [h, byteRow]

theorem of11_loop (l : List Nat) (hl : ∀ b ∈ l, b < 256) (hn : l.length < 4611686018427387904) : ∀ (n i : Nat) (s : V4), i + n = l.length →
    evH prg 2 lv11 ir11_l0 ⟨F11 (l.map byteRow) i, hp2 s⟩ = some (.brk 0, ⟨E11 (l.map byteRow) l.length, hp2 ((l.drop i).foldl put s)⟩)
  | 0, i, s, h => by
    obtain rfl : i = l.length := by omega
    have := round_brk (of11_e (l.map byteRow) (ofV s) l.length) (by simp [AllP])
    simpa [hp2, hp2i] using this
  | n + 1, i, s, h => by
    have hi : i < l.length := by omega
    have hb : l[i] < 256 := hl _ (List.getElem_mem hi)
    have hk := of11_k (l.map byteRow) (ofV s) i ((i + 1 : Nat) : Int) (l[i] : Nat) ((l[i] % 64 : Nat) : Int) ((1#64 <<< (l[i] % 64)).toNat : Int) ((s.get (l[i] / 64) ||| 1#64 <<< (l[i] % 64)).toNat : Int) (l[i] / 64) (by omega)
    rw [put_v] at hk
    have h1 := round_norm hk ?_
    · have ih := of11_loop l hl hn n (i + 1) (put s l[i]) (by omega)
      rw [List.drop_eq_getElem_cons hi, List.foldl_cons, ← ih]
      exact h1
    · simp only [AllP, get_v]
      refine ⟨by simp [hi], idx_byte (by simp [hi]), ?_, q_and8 _ hb, q_shl _ _ (by omega), q_or _ _, q_add _ (by omega)⟩
      have := q_shr .u8 l[i] 6 (by decide)
      rwa [shr6] at this

theorem of11_c (r : List (List PV)) (s : I4) (n : Int) : callDS prg 10 [(2000, .l (.brk 0) ⟨E11 r n, hp2i s⟩)] 11 [.p (.lst 1 r)] [] = some ([evH prg 2 lv11 ir11_l0 ⟨F11 r 0, hp2i zI⟩ = some (.brk 0, ⟨E11 r n, hp2i s⟩)], setI s, [.cells 29 (wds s), .cells 29 (wds s)]) := by kernel_rfl
def V0 : V4 := ⟨0#64, 0#64, 0#64, 0#64⟩
def ofL (l : List Nat) : V4 := l.foldl put V0
theorem of11 (l : List Nat) (hl : ∀ b ∈ l, b < 256) (hn : l.length < 4611686018427387904) : ∃ h', CS prg 11 [.p (bytesL l)] [] = some (setI (ofV (ofL l)), h') := by
  refine ⟨_, CS_D (of11_c (l.map byteRow) (ofV (ofL l)) l.length) ?_⟩
  simp only [AllP]
  have := of11_loop l hl hn l.length 0 V0 (by omega)
  rw [List.drop_zero] at this
  exact this

/- ---------- the document's Of ---------- -/
def F13 (r : List (List PV)) (i : Int) : List AV := [.p (.lst 1 r), .und, .ptr 0 0, .ptr 1 0, vi .i64 i, .und, .und, .und, .und, .und, .und, .und, .und, .und, .und, .und, .und, .und, .und, .und]
def E13 (r : List (List PV)) (i : Int) : List AV := [.p (.lst 1 r), .und, .ptr 0 0, .ptr 1 0, vi .i64 i, .und, vi .i64 i, .p (.lst 1 r), vi .i64 (r.length : Int), vb false, .und, .und, .und, .und, .und, .und, .und, .und, .und, .und]
def lv13 : List Nat := [0, 2, 3, 4]
theorem of13_k (r : List (List PV)) (s s2 : I4) (i i1 b : Int) : roundD prg 10 [(9, .d true), (15, .v (.ro [.val (.int .u8 b)])), (17, .v (vi .i64 b)), (18, .v (setI s2)), (11, .v (vi .i64 i1))] 2 lv13 ir13_l0 ⟨F13 r i, hp2i s⟩ =
    some ([vb (i < (r.length : Int)) = vb true, idxA 1 (.p (.lst 1 r)) (vi .i64 i) = some (.ro [.val (.int .u8 b)]), convA .i64 (vi .u8 b) = some (vi .i64 b), CP prg 37 [setI s, vi .i64 b] (hp2i s) = some (setI s2), binA .add (vi .i64 i) (vi .i64 1) = some (vi .i64 i1)], .norm, ⟨F13 r i1, hp2i s2⟩) := by kernel_rfl
theorem of13_e (r : List (List PV)) (s : I4) (i : Int) : roundD prg 10 [(9, .d false)] 2 lv13 ir13_l0 ⟨F13 r i, hp2i s⟩ = some ([vb (i < (r.length : Int)) = vb false], .brk 0, ⟨E13 r i, hp2i s⟩) := by kernel_rfl
theorem of13_loop (l : List Nat) (hl : ∀ b ∈ l, b < 256) (hn : l.length < 4611686018427387904) : ∀ (n i : Nat) (s : V4), i + n = l.length →
    evH prg 2 lv13 ir13_l0 ⟨F13 (l.map byteRow) i, hp2 s⟩ = some (.brk 0, ⟨E13 (l.map byteRow) l.length, hp2 ((l.drop i).foldl put s)⟩)
  | 0, i, s, h => by
    obtain rfl : i = l.length := by omega
    have := round_brk (of13_e (l.map byteRow) (ofV s) l.length) (by simp [AllP])
    simpa [hp2, hp2i] using this
  | n + 1, i, s, h => by
    have hi : i < l.length := by omega
    have hb : l[i] < 256 := hl _ (List.getElem_mem hi)
    have hk := of13_k (l.map byteRow) (ofV s) (ofV (put s l[i])) i ((i + 1 : Nat) : Int) (l[i] : Nat)
    have h1 := round_norm hk ?_
    · have ih := of13_loop l hl hn n (i + 1) (put s l[i]) (by omega)
      rw [List.drop_eq_getElem_cons hi, List.foldl_cons, ← ih]
      exact h1
    · simp only [AllP]
      exact ⟨by simp [hi], idx_byte (by simp [hi]), q_conv _ _ hb, with37 s _ hb _, q_add _ (by omega)⟩
theorem of13_c (r : List (List PV)) (s : I4) (n : Int) : callDS prg 10 [(2000, .l (.brk 0) ⟨E13 r n, hp2i s⟩)] 13 [.p (.lst 1 r)] [] = some ([evH prg 2 lv13 ir13_l0 ⟨F13 r 0, hp2i zI⟩ = some (.brk 0, ⟨E13 r n, hp2i s⟩)], setI s, [.cells 29 (wds s), .cells 29 (wds s)]) := by kernel_rfl
theorem of13 (l : List Nat) (hl : ∀ b ∈ l, b < 256) (hn : l.length < 4611686018427387904) : ∃ h', CS prg 13 [.p (bytesL l)] [] = some (setI (ofV (ofL l)), h') := by
  refine ⟨_, CS_D (of13_c (l.map byteRow) (ofV (ofL l)) l.length) ?_⟩
  simp only [AllP]
  have := of13_loop l hl hn l.length 0 V0 (by omega)
  rw [List.drop_zero] at this
  exact this
end Go.Proofs.Tryd
