/- tree.Check: on what tree.dive comes to. -/
import Derived.Test.YtcdebkkjbminoaaDoorH92
namespace Go.Proofs.Tryd
set_option linter.unusedSimpArgs false
set_option linter.unusedVariables false
open Go Go.Vs
section
variable [ErC]
noncomputable def F23 (t : TreeD) : Option Int := match F72 16386 t 16384 t false with
 | some true => some 240
 | some false => some 0
 | none => none
def F23_v (r : Int) : AV := vi .i64 r
theorem F23_ok (t : TreeD) {r : Int} (h : F23 t = some r) : PR1 pg 23 [.agg ((cT t).map .p)] (F23_v r) := by
 have hc : ∀ b, F72 16386 t 16384 t false = some b → CS pg 53 [.agg ((cT t).map .p), .fn 54 [.ptr 1 0]] [.cells 25 ((cT t).map .p), .cells 4 [vb false]] = some (i6 0, [.cells 25 ((cT t).map .p), .cells 4 [vb b]]) := fun b hb => asked_cs (F72_ok 16386 t 16384 t false hb [])
 unfold F23 at h
 split at h
 ·rename_i hb
  cases h
  exact fpr [(7, .r (i6 0) [.cells 25 ((cT t).map .p), .cells 4 [vb true]])] (apc (hc true hb) apn) rfl (by kernel_rfl)
 ·rename_i hb
  cases h
  exact fpr [(7, .r (i6 0) [.cells 25 ((cT t).map .p), .cells 4 [vb false]])] (apc (hc false hb) apn) rfl (by kernel_rfl)
 ·cases h
end
end Go.Proofs.Tryd
