/- The law's closed part: it answers true. -/
import Derived.Test.YtbichljebmhmnaaDoor02T
namespace Go.Proofs.Tryd
set_option linter.unusedSimpArgs false
set_option linter.unusedVariables false
open Go Go.Vs
theorem run8 : callP prg (evalN prg 100) 8 [] [] = some (vb true) := by kernel_rfl
end Go.Proofs.Tryd
