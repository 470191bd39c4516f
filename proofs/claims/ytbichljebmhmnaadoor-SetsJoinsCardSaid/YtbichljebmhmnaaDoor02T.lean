/- The sets of seat 02: the program as the abstract machine has it; two runs that are closed. -/
import Derived.Test.YtbichljebmhmnaaDoor02Ir
import Derived.Test.YtbichljebmhmnaaDoorV21
namespace Go.Proofs.Tryd
set_option linter.unusedSimpArgs false
set_option linter.unusedVariables false
open Go Go.Vs
def tab64 : List Int := [0, 1, 56, 2, 57, 49, 28, 3, 61, 58, 42, 50, 38, 29, 17, 4, 62, 47, 59, 36, 45, 43, 51, 22, 53, 39, 33, 30, 24, 18, 12, 5, 63, 55, 48, 27, 60, 41, 37, 16, 46, 35, 44, 21, 52, 32, 23, 11, 54, 26, 40, 15, 34, 20, 31, 10, 25, 14, 19, 9, 13, 8, 7, 6]
def gl02 : Nat → Option (List PV)
  | 0 => some (tab64.map fun n => .val (.int .u8 n))
  | _ => none
def prg : Prg := ⟨fns, gl02, fun _ _ _ => none⟩
theorem run9 : callP prg (evalN prg 100) 9 [.p (.lst 2 [[.val (.int .u8 97), .val (.int .u8 122)], [.val (.int .u8 10), .val (.int .u8 10)]])] [] = some (.tup [.agg [vi .u64 1024, vi .u64 576460743713488896, vi .u64 0, vi .u64 0], vi .i64 0]) := by kernel_rfl
theorem run36 : callP prg (evalN prg 100) 36 [.agg [vi .u64 1024, vi .u64 576460743713488896, vi .u64 0, vi .u64 0]] [] = some (vs "[\\na-z]".toUTF8) := by kernel_rfl
end Go.Proofs.Tryd
