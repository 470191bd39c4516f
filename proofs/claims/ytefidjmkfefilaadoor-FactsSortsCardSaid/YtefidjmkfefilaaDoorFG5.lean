/- The law's closed part: it answers true. -/
import Derived.Test.YtefidjmkfefilaaDoorW15
import Derived.Test.YtefidjmkfefilaaDoorW25
import Derived.Test.YtefidjmkfefilaaDoorW35
import Derived.Test.YtefidjmkfefilaaDoorVE
import Derived.Test.YtefidjmkfefilaaDoorFT5
namespace Go.Proofs.Tryd
set_option linter.unusedSimpArgs false
set_option linter.unusedVariables false
open Go Go.Vs
def gSc : List AV := match gS with | .agg xs => xs | _ => []
def hW : List AB := [.row 9 1 0 [], .row 53 7 0 [], .row 85 3 0 [], .row 87 5 0 [], .cells 27 gSc]
theorem cpw {fn : Nat} {args : List AV} {x : AV} (hp : AV.pure.pures args = true) (h : callP prg (evalN prg 100) fn args [] = some x) (h0 : List AB) : CP prg fn args h0 = some x := by
  have := CP_of 100 h
  rw [CP_in _ _ hp] at this ⊢
  exact this
theorem works : PR1 prg 11 [] (vb true) :=
  fpr (n := 30) [(12, .v gS), (15, .v (.tup [.p (.lst 1 [[.val (.int .i64 1)], [.val (.int .i64 0)], [.val (.int .i64 (-1))]]), vi .i64 0])), (20, .v (.tup [.p (.lst 1 [[.val (.bool true)], [.val (.bool false)], [.val (.bool false)]]), vi .i64 0])), (25, .v (.tup [.p (.lst 1 [[.val (.bool false)], [.val (.bool true)], [.val (.bool false)]]), vi .i64 0])), (30, .v (.tup [vs ⟨([120] : List UInt8).toArray⟩, vi .i64 0])), (35, .v (.tup [vs ⟨([] : List UInt8).toArray⟩, vi .i64 161]))]
    (apc (cpw rfl r40 [] : CP prg 40 [] [] = some gS) (apc (cpw rfl r13 hW : CP prg 13 [gS] hW = some (.tup [.p (.lst 1 [[.val (.int .i64 1)], [.val (.int .i64 0)], [.val (.int .i64 (-1))]]), vi .i64 0])) (apc (cpw rfl r23 hW : CP prg 23 [gS] hW = some (.tup [.p (.lst 1 [[.val (.bool true)], [.val (.bool false)], [.val (.bool false)]]), vi .i64 0])) (apc (cpw rfl r22 hW : CP prg 22 [gS] hW = some (.tup [.p (.lst 1 [[.val (.bool false)], [.val (.bool true)], [.val (.bool false)]]), vi .i64 0]))
      (apc (cpw rfl r14a hW : CP prg 14 [gS, vi .i64 0] hW = some (.tup [vs ⟨([120] : List UInt8).toArray⟩, vi .i64 0])) (apc (cpw rfl r14b hW : CP prg 14 [gS, vi .i64 2] hW = some (.tup [vs ⟨([] : List UInt8).toArray⟩, vi .i64 161])) apn)))))) rfl (by kernel_rfl)
end Go.Proofs.Tryd
namespace Go.Proofs.Tryd
set_option linter.unusedSimpArgs false
set_option linter.unusedVariables false
open Go Go.Vs
noncomputable def F11 : Option Bool := some true
def F11_v (x0 : Bool) : AV := vb x0
theorem F11_ok {r : Bool} (h : F11 = some r) : PR1 prg 11 [] (F11_v r) := by cases h; exact works
theorem PR1_of {fn : Nat} {args : List AV} {x : AV} (hp : AV.pure.pures args = true) (h : CP prg fn args [] = some x) : PR1 prg fn args x := by
  rw [CP_in _ _ hp] at h
  obtain ⟨r, h1, h2⟩ := Option.bind_eq_some_iff.1 h
  exact ⟨r.1, r.2, h1, h2⟩
end Go.Proofs.Tryd
