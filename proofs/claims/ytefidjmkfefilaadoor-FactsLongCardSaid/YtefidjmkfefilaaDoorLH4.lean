/- FactsLong: the law, run for each number of sorts, part 2. -/
import Derived.Test.YtefidjmkfefilaaDoorLG4
namespace Go.Proofs.Tryd
set_option linter.unusedSimpArgs false
set_option linter.unusedVariables false
open Go Go.Vs
theorem run_23 : callD prgT 60 (hB 23) 4 [vi .i64 23] = some (pB 23, vb true) := by kernel_rfl
theorem run_24 : callD prgT 60 (hB 24) 4 [vi .i64 24] = some (pB 24, vb true) := by kernel_rfl
theorem run_25 : callD prgT 60 (hB 25) 4 [vi .i64 25] = some (pB 25, vb true) := by kernel_rfl
theorem run_26 : callD prgT 60 (hB 26) 4 [vi .i64 26] = some (pB 26, vb true) := by kernel_rfl
theorem run_27 : callD prgT 60 (hB 27) 4 [vi .i64 27] = some (pB 27, vb true) := by kernel_rfl
theorem run_28 : callD prgT 60 (hB 28) 4 [vi .i64 28] = some (pB 28, vb true) := by kernel_rfl
theorem run_29 : callD prgT 60 (hB 29) 4 [vi .i64 29] = some (pB 29, vb true) := by kernel_rfl
theorem run_30 : callD prgT 60 (hB 30) 4 [vi .i64 30] = some (pB 30, vb true) := by kernel_rfl
end Go.Proofs.Tryd
