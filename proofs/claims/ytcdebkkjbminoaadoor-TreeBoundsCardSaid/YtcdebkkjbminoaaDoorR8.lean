/- What every row of this seat needs: the tables, the errors, the witness. -/
import Derived.Test.YtcdebkkjbminoaaDoorW81
import Derived.Test.YtcdebkkjbminoaaDoorVE
import Derived.Test.YtcdebkkjbminoaaDoorCards
import Derived.Test.YtcdebkkjbminoaaDoorTie
import Derived.Stop.LaidErr
import Derived.Lib.LaidTab
import Derived.ProofKit
import Derived.Test.YtcdebkkjbminoaaDoorVF
import Derived.Test.YtcdebkkjbminoaaDoorW84
namespace Go.Proofs.Tryd
set_option linter.unusedSimpArgs false
set_option linter.unusedVariables false
open Go Go.Vs Go.RowKit Go.ChangeShapes Go.ChangeAt
open Go.Proofs.YtcdebkkjbminoaaDoor (Rows.laid_math_bits_deBruijn32tab Rows.laid_math_bits_deBruijn64tab Rows.laid_internal_strconv_uint64pow10 Rows.laid_strconv_ErrRange Rows.laid_strconv_ErrSyntax)
theorem PRs_tab {S : Nat → Prop} {w : World} {b : Nat} {k : IntKind} : ∀ {off : Nat} (zs : List Int), (∀ i z, zs[i]? = some z → w.cell? ⟨b, off + i, none⟩ = some (.int k z)) → PRs S w b off (zs.map fun z => .val (.int k z))
 | _, [], _ => by simp [PRs]
 | off, z :: zs, h => by
  simp only [List.map_cons, PRs]
  refine ⟨⟨.int k z, by simpa using h 0 z rfl, rfl, by simp [PR]⟩, PRs_tab zs (fun i u hi => ?_)⟩
  have := h (i + 1) u (by simpa using hi)
  rwa [show off + (i + 1) = off + 1 + i from by omega] at this
theorem gTabType : (prog.globals[3]?).map (·.type) = some 138 := by kernel_rfl
abbrev laids : List (String × DataW Unit) := [("math/bits.deBruijn32tab", Rows.laid_math_bits_deBruijn32tab), ("math/bits.deBruijn64tab", Rows.laid_math_bits_deBruijn64tab), ("internal/strconv.uint64pow10", Rows.laid_internal_strconv_uint64pow10), ("strconv.ErrRange", Rows.laid_strconv_ErrRange), ("strconv.ErrSyntax", Rows.laid_strconv_ErrSyntax)]
theorem table {W : World} (h : laidMetH prog laids W) : ∀ n xs, (prg none).gl n = some xs → n < W.heap.size ∧ PRs (fun c => c < W.heap.size) W n 0 xs ∧ GB W n xs.length := by
 intro n xs hx
 have h3 : laidMet prog (("internal/strconv.uint64pow10", Rows.laid_internal_strconv_uint64pow10) :: [("strconv.ErrRange", Rows.laid_strconv_ErrRange), ("strconv.ErrSyntax", Rows.laid_strconv_ErrSyntax)]) W := laidMet.tail (laidMet.tail h)
 have ht : Lib.TabIs prog W "internal/strconv.uint64pow10" .u64 Lib.pow10Tab := Lib.tabIs_of_head g_pow gTabType underlying138 underlying111 (by kernel_rfl) (by kernel_rfl) h3
 have hb : ∃ cs t fz, W.heap[3]? = some (.cells cs t fz) ∧ cs = (Lib.pow10Tab.map fun z => Value.int .u64 z).toArray := by
  unfold Lib.TabIs World.var? at ht
  rw [g_pow, Option.bind_some] at ht
  split at ht
  ·rename_i cs t fz e
   exact ⟨cs, t, fz, e, Option.some.inj ht⟩
  ·cases ht
 obtain ⟨cs, t, fz, hb, rfl⟩ := hb
 have hc : ∀ i z, Lib.pow10Tab[i]? = some z → W.cell? ⟨3, 0 + i, none⟩ = some (.int .u64 z) := by
  intro i z hi
  have hl : i < Lib.pow10Tab.length := (List.getElem?_eq_some_iff.1 hi).1
  have := ht.cell g_pow i hl
  rw [Nat.zero_add, this]
  simp [List.getD, hi]
 have hn : n = 3 ∧ xs = Lib.pow10Tab.map fun z => .val (.int .u64 z) := by
  have hx : gl14 none n = some xs := hx
  unfold gl14 at hx
  split at hx
  ·rename_i e
   exact ⟨Nat.eq_of_beq_eq_true e, (Option.some.inj hx).symm⟩
  all_goals first | (rename_i e; cases e; done) | (cases hx; done)
 obtain ⟨rfl, rfl⟩ := hn
 exact ⟨heap_lt hb, PRs_tab _ hc, ⟨_, _, _, hb, by simp⟩⟩
theorem kids : Kids prog (· < prog.types.size) := kids_rows (by kernel_rfl) (by kernel_rfl)
theorem full : ∀ t e, t < prog.types.size → prog.underlying t = some (.slice e) → 0 < prog.cellsOf e := slices_full_of prog (by kernel_rfl)
theorem own : ownKnob prog.godebug = none := by kernel_rfl
noncomputable def low : Nat := (World.holding prog default ⟨#[], #[], []⟩).heap.size
def tab32 : List Int := [0, 1, 28, 2, 29, 14, 24, 3, 30, 22, 20, 15, 25, 17, 4, 8, 31, 27, 13, 23, 21, 19, 16, 7, 26, 12, 18, 6, 11, 5, 10, 9]
def tab64 : List Int := [0, 1, 56, 2, 57, 49, 28, 3, 61, 58, 42, 50, 38, 29, 17, 4, 62, 47, 59, 36, 45, 43, 51, 22, 53, 39, 33, 30, 24, 18, 12, 5, 63, 55, 48, 27, 60, 41, 37, 16, 46, 35, 44, 21, 52, 32, 23, 11, 54, 26, 40, 15, 34, 20, 31, 10, 25, 14, 19, 9, 13, 8, 7, 6]
def upd (f : Array Value) : Obj → Obj
 | .cells _ t frozen => .cells f t frozen
 | o => o
noncomputable def laidWorld (os : Os) : World :=
 let w0 := World.holding prog os ⟨#[.cells #[.string ⟨#[118, 97, 108, 117, 101, 32, 111, 117, 116, 32, 111, 102, 32, 114, 97, 110, 103, 101]⟩] 136, .cells #[.string ⟨#[105, 110, 118, 97, 108, 105, 100, 32, 115, 121, 110, 116, 97, 120]⟩] 136], #[], []⟩
 { w0 with heap := ((((w0.heap.modify 4 (upd (tab32.map fun z => Value.int .u8 z).toArray)).modify 5 (upd (tab64.map fun z => Value.int .u8 z).toArray)).modify 3 (upd (Lib.pow10Tab.map fun z => Value.int .u64 z).toArray)).modify 2 (upd #[.iface 134 (.pointer (some ⟨low, 0, none⟩))])).modify 1 (upd #[.iface 134 (.pointer (some ⟨low + 1, 0, none⟩))]) }
theorem laid_met (os : Os) (args : Array Value) : laidMet prog laids ((laidWorld os).forCall (fun _ _ => 0) ⟨#[], args, []⟩).memory :=
 laidMet_of_run' 8 (by kernel_rfl) (by kernel_rfl)
theorem gRange : prog.globalNamed "strconv.ErrRange" = some 2 := by kernel_rfl
theorem gRangeT : (prog.globals[2]?).map (·.type) = some 77 := by kernel_rfl
theorem gSyn : prog.globalNamed "strconv.ErrSyntax" = some 1 := by kernel_rfl
theorem gSynT : (prog.globals[1]?).map (·.type) = some 77 := by kernel_rfl
theorem star : "*" ++ "errors.errorString" = "*errors.errorString" := by decide
theorem row134 (u : TypeId) (h : prog.typeName? 3 u = some "*errors.errorString") : u = 134 :=
 typeName_ptr_named (nm := "errors.errorString") (by rw [star]; kernel_rfl) (by kernel_rfl) (by decide) u (by rw [star]; exact h)
theorem varG {W : World} {n : String} {k : Nat} {v : Value} (hg : prog.globalNamed n = some k) (hv : W.var? prog n = some #[v]) : ∃ t fz, W.heap[k]? = some (.cells #[v] t fz) := by
 unfold World.var? at hv
 rw [hg, Option.bind_some] at hv
 split at hv
 ·rename_i cs t fz e
  cases hv
  exact ⟨t, fz, e⟩
 ·cases hv
theorem tableE {W : World} (h : laidMetH prog laids W) : ∃ e, ∀ n xs, (prg (some e)).gl n = some xs → n < W.heap.size ∧ PRs (fun c => c < W.heap.size) W n 0 xs ∧ GB W n xs.length := by
 have h3 := laidMet.tail (laidMet.tail h)
 have h4 : laidMet prog (("strconv.ErrRange", .iface "*errors.errorString" (.ptr (.agg [.lit (.string _)]))) :: [("strconv.ErrSyntax", Rows.laid_strconv_ErrSyntax)]) W := laidMet.tail h3
 have h5 : laidMet prog (("strconv.ErrSyntax", .iface "*errors.errorString" (.ptr (.agg [.lit (.string _)]))) :: []) W := laidMet.tail h4
 obtain ⟨a2, _, v2, _⟩ := laid_sentinel h4 gRange gRangeT underlying77 row134 underlying134 underlying136 rfl rfl underlying9 (by kernel_rfl) (by kernel_rfl)
 obtain ⟨a1, _, v1, _⟩ := laid_sentinel h5 gSyn gSynT underlying77 row134 underlying134 underlying136 rfl rfl underlying9 (by kernel_rfl) (by kernel_rfl)
 refine ⟨((134, .pointer (some a1)), (134, .pointer (some a2))), fun n xs hx => ?_⟩
 have one : ∀ {k : Nat} {v : Value}, v.oneCell' = true → (∃ t fz, W.heap[k]? = some (.cells #[v] t fz)) → k < W.heap.size ∧ PRs (fun c => c < W.heap.size) W k 0 [.val v] ∧ GB W k [PV.val v].length := by
  rintro k v ho ⟨t, fz, hb⟩
  refine ⟨heap_lt hb, ?_, ⟨_, _, _, hb, rfl⟩⟩
  simp only [PRs, PR, and_true]
  refine ⟨v, ?_, ho, rfl⟩
  simp [World.cell?, hb]
 have hx : gl14 _ n = some xs := hx
 by_cases hn : n = 3
 ·subst hn
  exact table h 3 xs hx
 ·unfold gl14 at hx
  split at hx
  ·rename_i e
   exact absurd (Nat.eq_of_beq_eq_true e) hn
  ·rename_i e _
   obtain rfl := Nat.eq_of_beq_eq_true e
   cases hx
   rename_i e3
   cases e3
   exact one rfl (varG gSyn v1)
  ·rename_i e _
   obtain rfl := Nat.eq_of_beq_eq_true e
   cases hx
   rename_i e3
   cases e3
   exact one rfl (varG gRange v2)
  ·cases hx
open Go Go.Vs
noncomputable def tys : List TypeId := clos prog 200 [9] []
end Go.Proofs.Tryd
