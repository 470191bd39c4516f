/- The law's closed part, part 1. -/
import Derived.Test.YtefidjmkfefilaaDoorFT4
namespace Go.Proofs.Tryd
set_option linter.unusedSimpArgs false
set_option linter.unusedVariables false
open Go Go.Vs
theorem r40 : callP prg (evalN prg 100) 40 [] [] = some gS := by kernel_rfl
theorem r13 : callP prg (evalN prg 100) 13 [gS] [] = some (.tup [.p (.lst 1 [[.val (.int .i64 1)], [.val (.int .i64 0)], [.val (.int .i64 (-1))]]), vi .i64 0]) := by kernel_rfl
theorem r22 : callP prg (evalN prg 100) 22 [gS] [] = some (.tup [.p (.lst 1 [[.val (.bool false)], [.val (.bool true)], [.val (.bool false)]]), vi .i64 0]) := by kernel_rfl
end Go.Proofs.Tryd
