/- What every row of this seat needs. -/
import Derived.Test.YthlndaofdgpjfaaW6
import Derived.Test.YthlndaofdgpjfaaVE
import Derived.Test.YthlndaofdgpjfaaRows
import Derived.ProofKit
import Derived.Test.YthlndaofdgpjfaaK6
namespace Go.Proofs.Try
set_option linter.unusedSimpArgs false
set_option linter.unusedVariables false
open Go Go.Vs Go.RowKit Go.ChangeShapes Go.ChangeAt
theorem table {W : World} (h : laidMetH prog [] W) : ∀ n xs, prg.gl n = some xs → n < W.heap.size ∧ PRs (fun c => c < W.heap.size) W n 0 xs := by
 intro n xs hx
 cases hx
theorem kids : Kids prog (· < prog.types.size) := kids_rows (by kernel_rfl) (by kernel_rfl)
theorem full : ∀ t e, t < prog.types.size → prog.underlying t = some (.slice e) → 0 < prog.cellsOf e := slices_full_of prog (by kernel_rfl)
theorem own : ownKnob prog.godebug = none := by kernel_rfl
noncomputable def laidWorld (os : Os) : World := World.holding prog os ⟨#[], #[], []⟩
open Go Go.Vs
noncomputable def tys : List TypeId := clos prog 200 [25, 46, 3, 9] []
theorem st25 : stT prog 25 = some [22, 23, 23] := by kernel_rfl
theorem st54 : stT prog 54 = some [3, 32] := by kernel_rfl
theorem st34 : stT prog 34 = some [3, 9, 9, 32] := by kernel_rfl
theorem st32 : stT prog 32 = some [3, 3] := by kernel_rfl
theorem in3 : inT prog 3 = some .i64 := by kernel_rfl
theorem str9 : strT prog 9 = true := by kernel_rfl
theorem sl22 : slT prog 22 = some (54, 3) := by kernel_rfl
theorem sl23 : slT prog 23 = some (34, 5) := by kernel_rfl
theorem span_of {n : Nat} {xs : List PV} (h : FitT prog n 32 xs) : ∃ i j : Int, xs = [.val (.int .i64 i), .val (.int .i64 j)] := by
 obtain ⟨m, rfl, a, b, rfl, h1, c, d, rfl, h2, rfl⟩ := fitT_st st32 h
 obtain ⟨i, rfl, _⟩ := fitT_in in3 h1
 obtain ⟨j, rfl, _⟩ := fitT_in in3 h2
 exact ⟨i, j, rfl⟩
theorem scope_of {n : Nat} {xs : List PV} (h : FitT prog n 54 xs) : ∃ x : ScopeD, xs = eScope x := by
 obtain ⟨m, rfl, a, b, rfl, h1, c, d, rfl, h2, rfl⟩ := fitT_st st54 h
 obtain ⟨i, rfl, _⟩ := fitT_in in3 h1
 obtain ⟨j, k, rfl⟩ := span_of h2
 exact ⟨⟨i, j, k⟩, rfl⟩
theorem name_of {n : Nat} {xs : List PV} (h : FitT prog n 34 xs) : ∃ x : NameD, xs = eName x := by
 obtain ⟨m, rfl, a, b, rfl, h1, c, d, rfl, h2, e, f, rfl, h3, g, i, rfl, h4, rfl⟩ := fitT_st st34 h
 obtain ⟨i, rfl, _⟩ := fitT_in in3 h1
 obtain ⟨s, rfl, _⟩ := fitT_str str9 h2
 obtain ⟨t, rfl, _⟩ := fitT_str str9 h3
 obtain ⟨j, k, rfl⟩ := span_of h4
 exact ⟨⟨i, s, t, j, k⟩, rfl⟩
theorem ag25 : aggT prog 25 = some true := by kernel_rfl
set_option maxRecDepth 100000 in
theorem arg25 {a : AV} (h : ∃ n xs, FitT prog n 25 xs ∧ a = argA prog 25 xs) : ∃ s : ScopesD, a = .agg ((eScps s).map .p) := by
 obtain ⟨n, xs, hf, e⟩ := h
 obtain ⟨m, rfl, a1, b1, rfl, h1, a2, b2, rfl, h2, a3, b3, rfl, h3, rfl⟩ := fitT_st st25 hf
 obtain ⟨m1, r1, rfl, rfl, _, k1⟩ := fitT_sl sl22 h1
 obtain ⟨m2, r2, _, rfl, _, k2⟩ := fitT_sl sl23 h2
 obtain ⟨m3, r3, _, rfl, _, k3⟩ := fitT_sl sl23 h3
 obtain ⟨l1, rfl, _⟩ := rows_ofT (e := eScope) (Q := fun _ => True) (fun r hr => by obtain ⟨x, q⟩ := scope_of (k1 r hr); exact ⟨x, q, trivial⟩)
 obtain ⟨l2, rfl, _⟩ := rows_ofT (e := eName) (Q := fun _ => True) (fun r hr => by obtain ⟨x, q⟩ := name_of (k2 r hr); exact ⟨x, q, trivial⟩)
 obtain ⟨l3, rfl, _⟩ := rows_ofT (e := eName) (Q := fun _ => True) (fun r hr => by obtain ⟨x, q⟩ := name_of (k3 r hr); exact ⟨x, q, trivial⟩)
 refine ⟨⟨l1, l2, l3⟩, ?_⟩
 rw [e]
 simp only [argA, ag25]
 rfl
theorem st46 : stT prog 46 = some [3, 9, 9] := by kernel_rfl
theorem ag46 : aggT prog 46 = some true := by kernel_rfl
theorem arg46 {a : AV} (h : ∃ n xs, FitT prog n 46 xs ∧ a = argA prog 46 xs) : ∃ (n : Int) (p q : ByteArray), a = .agg [vi .i64 n, vs p, vs q] := by
 obtain ⟨n, xs, hf, e⟩ := h
 obtain ⟨m, rfl, a1, b1, rfl, h1, a2, b2, rfl, h2, a3, b3, rfl, h3, rfl⟩ := fitT_st st46 hf
 obtain ⟨i, rfl, _⟩ := fitT_in in3 h1
 obtain ⟨s, rfl, _⟩ := fitT_str str9 h2
 obtain ⟨t, rfl, _⟩ := fitT_str str9 h3
 refine ⟨i, s, t, ?_⟩
 rw [e]
 simp only [argA, ag46]
 rfl
theorem named (a : ScopesD) (n : Int) (p q : ByteArray) : CP prg 6 [.agg ((eScps a).map .p), .agg [vi .i64 n, vs p, vs q]] [] = some (vb true) :=
 (F6_ok a n p q (law6 a n p q)).cp rfl []
end Go.Proofs.Try
