/- tree.Check: on what tree.dive comes to. -/
import Derived.Test.YtcdebkkjbminoaaDoorH32
namespace Go.Proofs.Tryd
set_option linter.unusedSimpArgs false
set_option linter.unusedVariables false
open Go Go.Vs
section
variable [ErC]
def F11 : Option Bool := some true
def F11_v (r : Bool) : AV := vb r
theorem F11_ok {r : Bool} (h : F11 = some r) : PR1 pg 11 [] (F11_v r) := by
 cases h
 exact works
end
section
variable [ErC]
noncomputable def F12 (s : ByteArray) : Option R_F12 := match readF ErC.e s with
 | some r => some (.k0 r.1 r.2)
 | none => none
def F12_v (a1 : ByteArray) (r : R_F12) : AV := match r with | .k0 t n => .tup [.agg ((cT t).map .p), i6 n]
theorem F12_ok (s : ByteArray) {r : R_F12} (h : F12 s = some r) : PR1 pg 12 [vs s] (F12_v s r) := by
 unfold F12 at h
 split at h
 ·rename_i r hr
  cases h
  exact read_pr hr
 ·cases h
end
end Go.Proofs.Tryd
