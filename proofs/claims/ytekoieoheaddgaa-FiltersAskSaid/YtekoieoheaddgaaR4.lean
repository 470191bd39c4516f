/- What every row of this seat needs. -/
import Derived.Test.YtekoieoheaddgaaW4
import Derived.Test.YtekoieoheaddgaaVE
import Derived.Test.YtekoieoheaddgaaRows
import Derived.ProofKit
import Derived.Test.YtekoieoheaddgaaK4
namespace Go.Proofs.Try
set_option linter.unusedSimpArgs false
set_option linter.unusedVariables false
open Go Go.Vs Go.RowKit Go.ChangeShapes Go.ChangeAt
theorem table {W : World} (h : laidMetH prog [] W) : ∀ n xs, prg.gl n = some xs → n < W.heap.size ∧ PRs (fun c => c < W.heap.size) W n 0 xs := by
 intro n xs hx
 cases hx
theorem kids : Kids prog (· < prog.types.size) := kids_rows (by kernel_rfl) (by kernel_rfl)
theorem full : ∀ t e, t < prog.types.size → prog.underlying t = some (.slice e) → 0 < prog.cellsOf e := slices_full_of prog (by kernel_rfl)
theorem own : ownKnob prog.godebug = none := by kernel_rfl
noncomputable def laidWorld (os : Os) : World := World.holding prog os ⟨#[], #[], []⟩
open Go Go.Vs
theorem rows_of {α : Type} (e : α → List PV) (Q : α → Prop) : ∀ {rows : List (List PV)}, (∀ r ∈ rows, ∃ v, r = e v ∧ Q v) → ∃ l : List α, rows = l.map e ∧ ∀ v ∈ l, Q v
 | [], _ => ⟨[], rfl, by simp⟩
 | r :: rows, h => by
  obtain ⟨l, hl, hq⟩ := rows_of e Q (rows := rows) (fun q hq => h q (List.mem_cons_of_mem _ hq))
  obtain ⟨v, hv, hqv⟩ := h r (List.mem_cons_self ..)
  refine ⟨v :: l, by rw [hv, hl]; rfl, ?_⟩
  intro z hz
  rcases List.mem_cons.1 hz with rfl | hz
  ·exact hqv
  ·exact hq z hz
theorem i64_ok {n : Int} (h : IntKind.i64.min ≤ n ∧ n ≤ IntKind.i64.max) : i64ok n := h
theorem u64_ok {n : Int} (h : IntKind.u64.min ≤ n ∧ n ≤ IntKind.u64.max) : u64ok n := h
theorem str_row {r : List PV} (h : FitL [.str] r) : ∃ s, r = eStr s ∧ True := by
 match r, h with
 | [x], h =>
  simp only [FitL, Fit] at h
  obtain ⟨⟨s, rfl, _⟩, _⟩ := h
  exact ⟨s, rfl, trivial⟩
 | [], h => simp [FitL] at h
 | _ :: _ :: _, h => simp [FitL] at h
theorem sym_row {r : List PV} (h : FitL [.int .i64, .int .u64, .int .u64, .int .u64, .int .u64, .int .i64] r) : ∃ s, r = eSym s ∧ SymOk s := by
 match r, h with
 | [x0, x1, x2, x3, x4, x5], h =>
  simp only [FitL, Fit] at h
  obtain ⟨⟨n0, rfl, b0⟩, ⟨n1, rfl, b1⟩, ⟨n2, rfl, b2⟩, ⟨n3, rfl, b3⟩, ⟨n4, rfl, b4⟩, ⟨n5, rfl, b5⟩, _⟩ := h
  exact ⟨⟨n0, n1, n2, n3, n4, n5⟩, rfl, ⟨i64_ok b0, u64_ok b1, u64_ok b2, u64_ok b3, u64_ok b4, i64_ok b5⟩⟩
 | [], h => simp [FitL] at h
 | [_], h => simp [FitL] at h
 | [_, _], h => simp [FitL] at h
 | [_, _, _], h => simp [FitL] at h
 | [_, _, _, _], h => simp [FitL] at h
 | [_, _, _, _, _], h => simp [FitL] at h
 | _ :: _ :: _ :: _ :: _ :: _ :: _ :: _, h => simp [FitL] at h
theorem prod_row {r : List PV} (h : FitL [.int .i64, .sl 6 [.int .i64, .int .u64, .int .u64, .int .u64, .int .u64, .int .i64], .str, .int .i64, .bool, .bool, .int .i64] r) :
  ∃ p, r = eProd p ∧ (i64ok p.left ∧ i64ok p.role ∧ ∀ s ∈ p.right, SymOk s) := by
 match r, h with
 | [x0, x1, x2, x3, x4, x5, x6], h =>
  simp only [FitL, Fit] at h
  obtain ⟨⟨n0, rfl, b0⟩, ⟨rows, rfl, _, hrows⟩, ⟨c, rfl, _⟩, ⟨n3, rfl, b3⟩, ⟨p4, rfl⟩, ⟨p5, rfl⟩, ⟨n6, rfl, b6⟩, _⟩ := h
  obtain ⟨l, rfl, hl⟩ := rows_of eSym SymOk (fun r hr => sym_row (hrows r hr))
  exact ⟨⟨n0, l, c, n3, p4, p5, n6⟩, rfl, i64_ok b0, i64_ok b3, hl⟩
 | [], h => simp [FitL] at h
 | [_], h => simp [FitL] at h
 | [_, _], h => simp [FitL] at h
 | [_, _, _], h => simp [FitL] at h
 | [_, _, _, _], h => simp [FitL] at h
 | [_, _, _, _, _], h => simp [FitL] at h
 | [_, _, _, _, _, _], h => simp [FitL] at h
 | _ :: _ :: _ :: _ :: _ :: _ :: _ :: _ :: _, h => simp [FitL] at h
theorem forb_row {r : List PV} (h : FitL [.int .i64, .int .i64, .int .i64] r) : ∃ f, r = eForb f ∧ i64ok f.at_ := by
 match r, h with
 | [x0, x1, x2], h =>
  simp only [FitL, Fit] at h
  obtain ⟨⟨n0, rfl, b0⟩, ⟨n1, rfl, b1⟩, ⟨n2, rfl, b2⟩, _⟩ := h
  exact ⟨⟨n0, n1, n2⟩, rfl, i64_ok b1⟩
 | [], h => simp [FitL] at h
 | [_], h => simp [FitL] at h
 | [_, _], h => simp [FitL] at h
 | _ :: _ :: _ :: _ :: _, h => simp [FitL] at h
theorem foll_row {r : List PV} (h : FitL [.int .i64, .int .u64, .int .u64, .int .u64, .int .u64] r) : ∃ f, r = eFoll f ∧ (u64ok f.a ∧ u64ok f.b ∧ u64ok f.c ∧ u64ok f.d) := by
 match r, h with
 | [x0, x1, x2, x3, x4], h =>
  simp only [FitL, Fit] at h
  obtain ⟨⟨n0, rfl, b0⟩, ⟨n1, rfl, b1⟩, ⟨n2, rfl, b2⟩, ⟨n3, rfl, b3⟩, ⟨n4, rfl, b4⟩, _⟩ := h
  exact ⟨⟨n0, n1, n2, n3, n4⟩, rfl, u64_ok b1, u64_ok b2, u64_ok b3, u64_ok b4⟩
 | [], h => simp [FitL] at h
 | [_], h => simp [FitL] at h
 | [_, _], h => simp [FitL] at h
 | [_, _, _], h => simp [FitL] at h
 | [_, _, _, _], h => simp [FitL] at h
 | _ :: _ :: _ :: _ :: _ :: _ :: _, h => simp [FitL] at h
def shG : List Sh := [.sl 1 [.str], .sl 7 [.int .i64, .sl 6 [.int .i64, .int .u64, .int .u64, .int .u64, .int .u64, .int .i64], .str, .int .i64, .bool, .bool, .int .i64], .int .i64, .sl 3 [.int .i64, .int .i64, .int .i64], .sl 5 [.int .i64, .int .u64, .int .u64, .int .u64, .int .u64]]
theorem gram_of {xs : List PV} (h : FitL shG xs) : ∃ g : GramD, xs = eGram g ∧ ArgOk g := by
 unfold shG at h
 match xs, h with
 | [x0, x1, x2, x3, x4], h =>
  simp only [FitL] at h
  obtain ⟨h0, h1, h2, h3, h4, _⟩ := h
  simp only [Fit] at h0 h1 h2 h3 h4
  obtain ⟨r0, rfl, _, q0⟩ := h0
  obtain ⟨r1, rfl, _, q1⟩ := h1
  obtain ⟨n2, rfl, b2⟩ := h2
  obtain ⟨r3, rfl, _, q3⟩ := h3
  obtain ⟨r4, rfl, _, q4⟩ := h4
  obtain ⟨l0, rfl, _⟩ := rows_of eStr (fun _ => True) (fun r hr => str_row (q0 r hr))
  obtain ⟨l1, rfl, a1⟩ := rows_of eProd (fun p => i64ok p.left ∧ i64ok p.role ∧ ∀ s ∈ p.right, SymOk s) (fun r hr => prod_row (q1 r hr))
  obtain ⟨l3, rfl, a3⟩ := rows_of eForb (fun f => i64ok f.at_) (fun r hr => forb_row (q3 r hr))
  obtain ⟨l4, rfl, a4⟩ := rows_of eFoll (fun f => u64ok f.a ∧ u64ok f.b ∧ u64ok f.c ∧ u64ok f.d) (fun r hr => foll_row (q4 r hr))
  exact ⟨⟨l0, l1, n2, l3, l4⟩, rfl, ⟨fun p hp => (a1 p hp).1, fun p hp => (a1 p hp).2.1, fun p hp => (a1 p hp).2.2, a4, a3⟩⟩
 | [], h => simp [FitL] at h
 | [_], h => simp [FitL] at h
 | [_, _], h => simp [FitL] at h
 | [_, _, _], h => simp [FitL] at h
 | [_, _, _, _], h => simp [FitL] at h
 | _ :: _ :: _ :: _ :: _ :: _ :: _, h => simp [FitL] at h
theorem sh27 : shOfT prog 40 27 = some shG := by kernel_rfl
theorem ag27 : aggT prog 27 = some true := by kernel_rfl
set_option maxRecDepth 100000 in
theorem arg27 {a : AV} (h : ∃ ks xs, shOfT prog 40 27 = some ks ∧ FitL ks xs ∧ a = argA prog 27 xs) : ∃ g : GramD, a = .agg ((eGram g).map .p) ∧ ArgOk g := by
 obtain ⟨ks, xs, hk, hf, e⟩ := h
 have h2 := Option.some.inj (sh27.symm.trans hk)
 rw [← h2] at hf
 obtain ⟨g, e2, hg⟩ := gram_of hf
 refine ⟨g, ?_, hg⟩
 rw [e, e2]
 simp only [argA, ag27]
theorem sh3 : shOfT prog 40 3 = some [.int .i64] := by kernel_rfl
theorem ag3 : aggT prog 3 = some false := by kernel_rfl
set_option maxRecDepth 100000 in
theorem arg3 {a : AV} (h : ∃ ks xs, shOfT prog 40 3 = some ks ∧ FitL ks xs ∧ a = argA prog 3 xs) : ∃ n : Int, a = vi .i64 n ∧ i64ok n := by
 obtain ⟨ks, xs, hk, hf, e⟩ := h
 have h2 := Option.some.inj (sh3.symm.trans hk)
 rw [← h2] at hf
 match xs, hf with
 | [x], hf =>
  simp only [FitL, Fit] at hf
  obtain ⟨⟨n, rfl, hn⟩, _⟩ := hf
  refine ⟨n, ?_, i64_ok hn⟩
  rw [e]
  simp only [argA, ag3]
 | [], hf => simp [FitL] at hf
 | _ :: _ :: _, hf => simp [FitL] at hf
theorem sh48 : shOfT prog 40 48 = some [.str, .int .i64] := by kernel_rfl
theorem ag48 : aggT prog 48 = some true := by kernel_rfl
set_option maxRecDepth 100000 in
theorem arg48 {a : AV} (h : ∃ ks xs, shOfT prog 40 48 = some ks ∧ FitL ks xs ∧ a = argA prog 48 xs) : ∃ (s : ByteArray) (n : Int), a = .agg [vs s, vi .i64 n] := by
 obtain ⟨ks, xs, hk, hf, e⟩ := h
 have h2 := Option.some.inj (sh48.symm.trans hk)
 rw [← h2] at hf
 match xs, hf with
 | [x, y], hf =>
  simp only [FitL, Fit] at hf
  obtain ⟨⟨s, rfl, _⟩, ⟨n, rfl, _⟩, _⟩ := hf
  refine ⟨s, n, ?_⟩
  rw [e]
  simp only [argA, ag48]
  rfl
 | [], hf => simp [FitL] at hf
 | [_], hf => simp [FitL] at hf
 | _ :: _ :: _ :: _, hf => simp [FitL] at hf
theorem asks (g : GramD) (n : Int) (w : ByteArray) (m : Int) (h : ArgOk g) : CP prg 4 [.agg ((eGram g).map .p), vi .i64 n, .agg [vs w, vi .i64 m]] [] = some (vb true) :=
 (F4_ok g n w m (law4 h n w m)).cp rfl []
end Go.Proofs.Try
