/- tree.Check: on what tree.dive comes to. -/
import Derived.Test.YtcdebkkjbminoaaDoorH82
namespace Go.Proofs.Tryd
set_option linter.unusedSimpArgs false
set_option linter.unusedVariables false
open Go Go.Vs
section
variable [ErC]
noncomputable def F23 (t : TreeD) : Option Int := match F72 16386 t 16384 t false with
 | some true => some 240
 | some false => some 0
 | none => none
def F23_v (r : Int) : AV := vi .i64 r
theorem F23_ok (t : TreeD) {r : Int} (h : F23 t = some r) : PR1 pg 23 [.agg ((cT t).map .p)] (F23_v r) := by
 have hc : ∀ b, F72 16386 t 16384 t false = some b → CS pg 53 [.agg ((cT t).map .p), .fn 54 [.ptr 1 0]] [.cells 25 ((cT t).map .p), .cells 4 [vb false]] = some (i6 0, [.cells 25 ((cT t).map .p), .cells 4 [vb b]]) := fun b hb => asked_cs (F72_ok 16386 t 16384 t false hb [])
 unfold F23 at h
 split at h
 ·rename_i hb
  cases h
  exact fpr [(7, .r (i6 0) [.cells 25 ((cT t).map .p), .cells 4 [vb true]])] (apc (hc true hb) apn) rfl (by kernel_rfl)
 ·rename_i hb
  cases h
  exact fpr [(7, .r (i6 0) [.cells 25 ((cT t).map .p), .cells 4 [vb false]])] (apc (hc false hb) apn) rfl (by kernel_rfl)
 ·cases h
noncomputable def I42 (n : Int) : Option ByteArray := F42 n
def I42_v (r : ByteArray) : AV := vs r
theorem I42_ok (n : Int) {r : ByteArray} (h : I42 n = some r) : PR1 pg 42 [vi .i64 n] (I42_v r) := by
 unfold I42 F42 at h
 cases hk : decide (-9223372036854775808 ≤ n ∧ n ≤ 9223372036854775807) with
 | false => rw [hk] at h; cases h
 | true =>
  rw [hk] at h
  simp only [cond_true, Option.some.injEq] at h
  subst h
  refine ⟨vs (itoaB n), [], ?_, rfl⟩
  show itoaA [vi .i64 n] [] = _
  simp only [itoaA, hk]
end
end Go.Proofs.Tryd
