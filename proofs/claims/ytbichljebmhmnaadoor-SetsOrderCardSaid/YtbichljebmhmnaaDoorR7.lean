/- What every row of this seat needs: the table, the witness, the shapes. -/
import Derived.Test.YtbichljebmhmnaaDoorW7
import Derived.Test.YtbichljebmhmnaaDoorVE
import Derived.Test.YtbichljebmhmnaaDoorCards
import Derived.Test.YtbichljebmhmnaaDoorTie
import Derived.ProofKit
import Derived.Test.YtbichljebmhmnaaDoorK7
namespace Go.Proofs.Tryd
set_option linter.unusedSimpArgs false
set_option linter.unusedVariables false
open Go Go.Vs Go.RowKit Go.ChangeShapes Go.ChangeAt
open Go.Proofs.YtbichljebmhmnaaDoor (Rows.laid_math_bits_deBruijn64tab)
theorem PRs_tab {S : Nat → Prop} {w : World} {b : Nat} {k : IntKind} : ∀ {off : Nat} (zs : List Int), (∀ i z, zs[i]? = some z → w.cell? ⟨b, off + i, none⟩ = some (.int k z)) → PRs S w b off (zs.map fun z => .val (.int k z))
 | _, [], _ => by simp [PRs]
 | off, z :: zs, h => by
  simp only [List.map_cons, PRs]
  refine ⟨⟨.int k z, by simpa using h 0 z rfl, rfl, by simp [PR]⟩, PRs_tab zs (fun i u hi => ?_)⟩
  have := h (i + 1) u (by simpa using hi)
  rwa [show off + (i + 1) = off + 1 + i from by omega] at this
theorem gTab : prog.globalNamed "math/bits.deBruijn64tab" = some 0 := by kernel_rfl
theorem gTabType : (prog.globals[0]?).map (·.type) = some 87 := by kernel_rfl
theorem table {W : World} (h : laidMetH prog [("math/bits.deBruijn64tab", Rows.laid_math_bits_deBruijn64tab)] W) : ∀ n xs, prg.gl n = some xs → n < W.heap.size ∧ PRs (fun c => c < W.heap.size) W n 0 xs := by
 intro n xs hx
 have ht : Lib.TabIs prog W "math/bits.deBruijn64tab" .u8 tab64 := Lib.tabIs_of_head (rest := []) gTab gTabType underlying87 underlying5 (by kernel_rfl) (by kernel_rfl) h
 have hc : ∀ i z, tab64[i]? = some z → W.cell? ⟨0, 0 + i, none⟩ = some (.int .u8 z) := by
  intro i z hi
  have hl : i < tab64.length := (List.getElem?_eq_some_iff.1 hi).1
  have := ht.cell gTab i hl
  rw [Nat.zero_add, this]
  simp [List.getD, hi]
 cases n with
 | zero =>
  have e : xs = tab64.map fun n => .val (.int .u8 n) := by
   have : some (tab64.map fun n => PV.val (.int .u8 n)) = some xs := hx
   exact (Option.some.inj this).symm
  subst e
  refine ⟨?_, PRs_tab tab64 hc⟩
  have h0 := hc 0 0 rfl
  unfold World.cell? at h0
  split at h0
  ·rename_i hh; exact heap_lt hh
  ·cases h0
 | succ n => exact absurd hx (by simp [prg, gl02])
theorem kids : Kids prog (· < prog.types.size) := kids_rows (by kernel_rfl) (by kernel_rfl)
theorem full : ∀ t e, t < prog.types.size → prog.underlying t = some (.slice e) → 0 < prog.cellsOf e := slices_full_of prog (by kernel_rfl)
theorem own : ownKnob prog.godebug = none := by kernel_rfl
noncomputable def laidWorld (os : Os) : World :=
 { World.holding prog os ⟨#[], #[], []⟩ with heap := (World.holding prog os ⟨#[], #[], []⟩).heap.modify 0 fun
   | .cells _ t frozen => .cells (tab64.map fun z => Value.int .u8 z).toArray t frozen
   | o => o }
open Go Go.Vs
set_option maxRecDepth 100000 in
theorem arg1 {t : TypeId} {k : Sh} {a : AV} (hs : shOfT prog 40 t = some [k]) (ha : aggT prog t = some false) (h : ∃ ks xs, shOfT prog 40 t = some ks ∧ FitL ks xs ∧ a = argA prog t xs) : ∃ x, Fit k x ∧ a = .p x := by
 obtain ⟨ks, xs, hk, hf, e⟩ := h
 have h2 := Option.some.inj (hs.symm.trans hk)
 rw [← h2] at hf
 match xs, hf with
 | [x], hf =>
  simp only [FitL, and_true] at hf
  refine ⟨x, hf, ?_⟩
  rw [e]
  simp only [argA, ha]
 | [], hf => simp [FitL] at hf
 | _ :: _ :: _, hf => simp [FitL] at hf
theorem setOf {xs : List PV} (h : FitL [.int .u64, .int .u64, .int .u64, .int .u64] xs) : ∃ v : V4, xs = [.val (.int .u64 v.a.toNat), .val (.int .u64 v.b.toNat), .val (.int .u64 v.c.toNat), .val (.int .u64 v.d.toNat)] := by
 match xs, h with
 | [x, y, z, u], h =>
  simp only [FitL, Fit] at h
  obtain ⟨⟨a, rfl, ha⟩, ⟨b, rfl, hb⟩, ⟨c, rfl, hc⟩, ⟨d, rfl, hd⟩, _⟩ := h
  have key : ∀ n : Int, IntKind.u64.min ≤ n ∧ n ≤ IntKind.u64.max → ((BitVec.ofInt 64 n).toNat : Int) = n := by
   intro n hn
   have h1 : IntKind.u64.min = 0 := rfl
   have h2 : IntKind.u64.max = 18446744073709551615 := rfl
   rw [h1, h2] at hn
   rw [BitVec.toNat_ofInt]
   omega
  exact ⟨⟨.ofInt 64 a, .ofInt 64 b, .ofInt 64 c, .ofInt 64 d⟩, by simp only [key a ha, key b hb, key c hc, key d hd]⟩
 | [], h => simp [FitL] at h
 | [_], h => simp [FitL] at h
 | [_, _], h => simp [FitL] at h
 | [_, _, _], h => simp [FitL] at h
 | _ :: _ :: _ :: _ :: _ :: _, h => simp [FitL] at h
theorem setRows : ∀ {rows : List (List PV)}, (∀ r ∈ rows, FitL [.int .u64, .int .u64, .int .u64, .int .u64] r) → ∃ l : List V4, rows = (l.map toS).map eSet
 | [], _ => ⟨[], rfl⟩
 | r :: rows, h => by
  obtain ⟨l, hl⟩ := setRows (rows := rows) (fun q hq => h q (List.mem_cons_of_mem _ hq))
  obtain ⟨v, hv⟩ := setOf (h r (List.mem_cons_self ..))
  exact ⟨v :: l, by rw [List.map_cons, List.map_cons, hl, hv]; rfl⟩
theorem setsArg {t : TypeId} {a : AV} (hs : shOfT prog 40 t = some [.sl 4 [.int .u64, .int .u64, .int .u64, .int .u64]]) (ha : aggT prog t = some false) (h : ∃ ks xs, shOfT prog 40 t = some ks ∧ FitL ks xs ∧ a = argA prog t xs) : ∃ l : List SetD, WOk l ∧ a = ls 4 eSet l := by
 obtain ⟨x, hx, e⟩ := arg1 hs ha h
 simp only [Fit] at hx
 obtain ⟨rows, q, _, hr⟩ := hx
 obtain ⟨l, hl⟩ := setRows hr
 exact ⟨l.map toS, all_sOk l, by rw [e, q, hl]⟩
end Go.Proofs.Tryd
