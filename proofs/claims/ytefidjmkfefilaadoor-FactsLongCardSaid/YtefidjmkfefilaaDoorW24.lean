/- The law's closed part, part 2. -/
import Derived.Test.YtefidjmkfefilaaDoorFT4
namespace Go.Proofs.Tryd
set_option linter.unusedSimpArgs false
set_option linter.unusedVariables false
open Go Go.Vs
theorem r14a : callP prg (evalN prg 100) 14 [gS, vi .i64 0] [] = some (.tup [vs ⟨([120] : List UInt8).toArray⟩, vi .i64 0]) := by kernel_rfl
theorem r14b : callP prg (evalN prg 100) 14 [gS, vi .i64 2] [] = some (.tup [vs ⟨([] : List UInt8).toArray⟩, vi .i64 161]) := by kernel_rfl
end Go.Proofs.Tryd
