/- The law's closed part, part 3. -/
import Derived.Test.YtefidjmkfefilaaDoorFT4
namespace Go.Proofs.Tryd
set_option linter.unusedSimpArgs false
set_option linter.unusedVariables false
open Go Go.Vs
theorem r23 : callP prg (evalN prg 100) 23 [gS] [] = some (.tup [.p (.lst 1 [[.val (.bool true)], [.val (.bool false)], [.val (.bool false)]]), vi .i64 0]) := by kernel_rfl
end Go.Proofs.Tryd
