/- What every row of this seat needs: the tables, the errors, the witness. -/
import Derived.Test.YtcdebkkjbminoaaDoorW91
import Derived.Test.YtcdebkkjbminoaaDoorVE
import Derived.Test.YtcdebkkjbminoaaDoorCards
import Derived.Test.YtcdebkkjbminoaaDoorTie
import Derived.Stop.LaidErr
import Derived.Lib.LaidTab
import Derived.ProofKit
import Derived.Test.YtcdebkkjbminoaaDoorL9
namespace Go.Proofs.Tryd
set_option linter.unusedSimpArgs false
set_option linter.unusedVariables false
open Go Go.Vs Go.RowKit Go.ChangeShapes Go.ChangeAt
open Go.Proofs.YtcdebkkjbminoaaDoor (Rows.laid_math_bits_deBruijn32tab Rows.laid_math_bits_deBruijn64tab Rows.laid_internal_strconv_uint64pow10 Rows.laid_strconv_ErrRange Rows.laid_strconv_ErrSyntax)
theorem PRs_tab {S : Nat → Prop} {w : World} {b : Nat} {k : IntKind} : ∀ {off : Nat} (zs : List Int), (∀ i z, zs[i]? = some z → w.cell? ⟨b, off + i, none⟩ = some (.int k z)) → PRs S w b off (zs.map fun z => .val (.int k z))
 | _, [], _ => by simp [PRs]
 | off, z :: zs, h => by
  simp only [List.map_cons, PRs]
  refine ⟨⟨.int k z, by simpa using h 0 z rfl, rfl, by simp [PR]⟩, PRs_tab zs (fun i u hi => ?_)⟩
  have := h (i + 1) u (by simpa using hi)
  rwa [show off + (i + 1) = off + 1 + i from by omega] at this
theorem gTabType : (prog.globals[3]?).map (·.type) = some 138 := by kernel_rfl
abbrev laids : List (String × DataW Unit) := [("math/bits.deBruijn32tab", Rows.laid_math_bits_deBruijn32tab), ("math/bits.deBruijn64tab", Rows.laid_math_bits_deBruijn64tab), ("internal/strconv.uint64pow10", Rows.laid_internal_strconv_uint64pow10), ("strconv.ErrRange", Rows.laid_strconv_ErrRange), ("strconv.ErrSyntax", Rows.laid_strconv_ErrSyntax)]
theorem table {W : World} (h : laidMetH prog laids W) : ∀ n xs, (prg none).gl n = some xs → n < W.heap.size ∧ PRs (fun c => c < W.heap.size) W n 0 xs ∧ GB W n xs.length := by
 intro n xs hx
 have h3 : laidMet prog (("internal/strconv.uint64pow10", Rows.laid_internal_strconv_uint64pow10) :: [("strconv.ErrRange", Rows.laid_strconv_ErrRange), ("strconv.ErrSyntax", Rows.laid_strconv_ErrSyntax)]) W := laidMet.tail (laidMet.tail h)
 have ht : Lib.TabIs prog W "internal/strconv.uint64pow10" .u64 Lib.pow10Tab := Lib.tabIs_of_head g_pow gTabType underlying138 underlying111 (by kernel_rfl) (by kernel_rfl) h3
 have hb : ∃ cs t fz, W.heap[3]? = some (.cells cs t fz) ∧ cs = (Lib.pow10Tab.map fun z => Value.int .u64 z).toArray := by
  unfold Lib.TabIs World.var? at ht
  rw [g_pow, Option.bind_some] at ht
  split at ht
  ·rename_i cs t fz e
   exact ⟨cs, t, fz, e, Option.some.inj ht⟩
  ·cases ht
 obtain ⟨cs, t, fz, hb, rfl⟩ := hb
 have hc : ∀ i z, Lib.pow10Tab[i]? = some z → W.cell? ⟨3, 0 + i, none⟩ = some (.int .u64 z) := by
  intro i z hi
  have hl : i < Lib.pow10Tab.length := (List.getElem?_eq_some_iff.1 hi).1
  have := ht.cell g_pow i hl
  rw [Nat.zero_add, this]
  simp [List.getD, hi]
 have hn : n = 3 ∧ xs = Lib.pow10Tab.map fun z => .val (.int .u64 z) := by
  have hx : gl14 none n = some xs := hx
  unfold gl14 at hx
  split at hx
  ·rename_i e
   exact ⟨Nat.eq_of_beq_eq_true e, (Option.some.inj hx).symm⟩
  all_goals first | (rename_i e; cases e; done) | (cases hx; done)
 obtain ⟨rfl, rfl⟩ := hn
 exact ⟨heap_lt hb, PRs_tab _ hc, ⟨_, _, _, hb, by simp⟩⟩
theorem kids : Kids prog (· < prog.types.size) := kids_rows (by kernel_rfl) (by kernel_rfl)
theorem full : ∀ t e, t < prog.types.size → prog.underlying t = some (.slice e) → 0 < prog.cellsOf e := slices_full_of prog (by kernel_rfl)
theorem own : ownKnob prog.godebug = none := by kernel_rfl
noncomputable def low : Nat := (World.holding prog default ⟨#[], #[], []⟩).heap.size
def tab32 : List Int := [0, 1, 28, 2, 29, 14, 24, 3, 30, 22, 20, 15, 25, 17, 4, 8, 31, 27, 13, 23, 21, 19, 16, 7, 26, 12, 18, 6, 11, 5, 10, 9]
def tab64 : List Int := [0, 1, 56, 2, 57, 49, 28, 3, 61, 58, 42, 50, 38, 29, 17, 4, 62, 47, 59, 36, 45, 43, 51, 22, 53, 39, 33, 30, 24, 18, 12, 5, 63, 55, 48, 27, 60, 41, 37, 16, 46, 35, 44, 21, 52, 32, 23, 11, 54, 26, 40, 15, 34, 20, 31, 10, 25, 14, 19, 9, 13, 8, 7, 6]
def upd (f : Array Value) : Obj → Obj
 | .cells _ t frozen => .cells f t frozen
 | o => o
noncomputable def laidWorld (os : Os) : World :=
 let w0 := World.holding prog os ⟨#[.cells #[.string ⟨#[118, 97, 108, 117, 101, 32, 111, 117, 116, 32, 111, 102, 32, 114, 97, 110, 103, 101]⟩] 136, .cells #[.string ⟨#[105, 110, 118, 97, 108, 105, 100, 32, 115, 121, 110, 116, 97, 120]⟩] 136], #[], []⟩
 { w0 with heap := ((((w0.heap.modify 4 (upd (tab32.map fun z => Value.int .u8 z).toArray)).modify 5 (upd (tab64.map fun z => Value.int .u8 z).toArray)).modify 3 (upd (Lib.pow10Tab.map fun z => Value.int .u64 z).toArray)).modify 2 (upd #[.iface 134 (.pointer (some ⟨low, 0, none⟩))])).modify 1 (upd #[.iface 134 (.pointer (some ⟨low + 1, 0, none⟩))]) }
theorem laid_met (os : Os) (args : Array Value) : laidMet prog laids ((laidWorld os).forCall (fun _ _ => 0) ⟨#[], args, []⟩).memory :=
 laidMet_of_run' 8 (by kernel_rfl) (by kernel_rfl)
open Go Go.Vs
noncomputable def tys : List TypeId := clos prog 200 [25, 3, 9, 61] []
theorem st25 : stT prog 25 = some [3, 5, 23] := by kernel_rfl
theorem in3 : inT prog 3 = some .i64 := by kernel_rfl
theorem in5 : inT prog 5 = some .u8 := by kernel_rfl
theorem sl23 : slT prog 23 = some (25, 3) := by kernel_rfl
theorem tree_of : ∀ (N n : Nat) (xs : List PV), n < N → FitT prog n 25 xs → ∃ b, xs = cT b ∧ Ty b
 | 0, _, _, h, _ => by omega
 | N + 1, n, xs, h, hx => by
  obtain ⟨m, rfl, a, b, rfl, h1, e, f, rfl, h3, g, i, rfl, h4, rfl⟩ := fitT_st st25 hx
  obtain ⟨k, rfl, hk⟩ := fitT_in in3 h1
  obtain ⟨z, rfl, hz⟩ := fitT_in in5 h3
  obtain ⟨m', rows, rfl, rfl, _, hr⟩ := fitT_sl sl23 h4
  obtain ⟨l, rfl, hl⟩ := rows_ofT (e := cT) (Q := Ty) (fun r hrr => tree_of N m' r (by omega) (hr r hrr))
  refine ⟨.mk k z l, ?_, .mk hk hz hl⟩
  show _ = [PV.val (.int .i64 k), PV.val (.int .u8 z), PV.lst 3 (eTrees l)]
  rw [tr_map]
  rfl
theorem ag25 : aggT prog 25 = some true := by kernel_rfl
set_option maxRecDepth 100000 in
theorem arg25 {a : AV} (h : ∃ n xs, FitT prog n 25 xs ∧ a = argA prog 25 xs) : ∃ b : TreeD, a = .agg ((cT b).map .p) ∧ Ty b := by
 obtain ⟨n, xs, hf, e⟩ := h
 obtain ⟨b, e2, hb⟩ := tree_of (n + 1) n xs (by omega) hf
 refine ⟨b, ?_, hb⟩
 rw [e, e2]
 simp only [argA, ag25]
theorem st61 : stT prog 61 = some [54, 3] := by kernel_rfl
theorem sl54 : slT prog 54 = some (3, 1) := by kernel_rfl
theorem ag61 : aggT prog 61 = some true := by kernel_rfl
set_option maxRecDepth 100000 in
theorem arg61 {a : AV} (h : ∃ n xs, FitT prog n 61 xs ∧ a = argA prog 61 xs) : ∃ (p : List Int) (k : Int), a = .agg [ls 1 eI64 p, i6 k] := by
 obtain ⟨n, xs, hx, e⟩ := h
 obtain ⟨m, rfl, a, b, rfl, h1, c, d, rfl, h3, rfl⟩ := fitT_st st61 hx
 obtain ⟨m', rows, rfl, rfl, _, hr⟩ := fitT_sl sl54 h1
 obtain ⟨k, rfl, _⟩ := fitT_in in3 h3
 obtain ⟨l, rfl, _⟩ := rows_ofT (e := eI64) (Q := fun _ => True) (fun r hrr => by
  obtain ⟨z, rfl, _⟩ := fitT_in in3 (hr r hrr)
  exact ⟨z, rfl, trivial⟩)
 refine ⟨l, k, ?_⟩
 rw [e]
 simp only [argA, ag61]
 rfl
noncomputable abbrev prgT : Prg := prgY none
theorem prgT_ok : PrgOk prog prgT := prgY_ok none
theorem pathsT (a b : TreeD) (p : List Int) (n : Int) : CP prgT 9 [.agg ((cT a).map .p), .agg ((cT b).map .p), .agg [ls 1 eI64 p, i6 n]] [] = some (vb true) :=
 (paths (E := none) (t := a) (x := b) (p := p) (k := n)).cp rfl []
end Go.Proofs.Tryd
