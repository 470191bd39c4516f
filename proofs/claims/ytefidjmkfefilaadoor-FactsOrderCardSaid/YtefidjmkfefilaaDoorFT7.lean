/- The facts of seat 08: the program as the abstract machine has it. -/
import Derived.Test.YtefidjmkfefilaaDoorIr7
import Derived.Test.YtefidjmkfefilaaDoorVD
namespace Go.Proofs.Tryd
set_option linter.unusedSimpArgs false
set_option linter.unusedVariables false
open Go Go.Vs
def tab64 : List Int := [0, 1, 56, 2, 57, 49, 28, 3, 61, 58, 42, 50, 38, 29, 17, 4, 62, 47, 59, 36, 45, 43, 51, 22, 53, 39, 33, 30, 24, 18, 12, 5, 63, 55, 48, 27, 60, 41, 37, 16, 46, 35, 44, 21, 52, 32, 23, 11, 54, 26, 40, 15, 34, 20, 31, 10, 25, 14, 19, 9, 13, 8, 7, 6]
def gl08 : Nat → Option (List PV)
 | 0 => some (tab64.map fun n => .val (.int .u8 n))
 | _ => none
def frs (n : Nat) : Bool := n.beq 39 || n.beq 66
def prg : Prg := ⟨fns, gl08, fun _ _ _ => none, frs⟩
def gS : AV := (.agg [(.p (.lst 1 [[(.val (.string ⟨([83] : List UInt8).toArray⟩))], [(.val (.string ⟨([65] : List UInt8).toArray⟩))], [(.val (.string ⟨([66] : List UInt8).toArray⟩))]])), (.p (.lst 7 [[(.val (.int .i64 0)), (.lst 6 [[(.val (.int .i64 1)), (.val (.int .u64 0)), (.val (.int .u64 0)), (.val (.int .u64 0)), (.val (.int .u64 0)), (.val (.int .i64 1))], [(.val (.int .i64 1)), (.val (.int .u64 0)), (.val (.int .u64 0)), (.val (.int .u64 0)), (.val (.int .u64 0)), (.val (.int .i64 0))]]), (.val (.string ⟨([] : List UInt8).toArray⟩)), (.val (.int .i64 0)), (.val (.bool .false)), (.val (.bool .false)), (.val (.int .i64 (-1)))], [(.val (.int .i64 0)), (.lst 6 [[(.val (.int .i64 0)), (.val (.int .u64 0)), (.val (.int .u64 72057594037927936)), (.val (.int .u64 0)), (.val (.int .u64 0)), (.val (.int .i64 0))]]), (.val (.string ⟨([] : List UInt8).toArray⟩)), (.val (.int .i64 0)), (.val (.bool .false)), (.val (.bool .false)), (.val (.int .i64 (-1)))], [(.val (.int .i64 1)), (.val (.slice .none 0 0)), (.val (.string ⟨([] : List UInt8).toArray⟩)), (.val (.int .i64 0)), (.val (.bool .false)), (.val (.bool .false)), (.val (.int .i64 (-1)))], [(.val (.int .i64 1)), (.lst 6 [[(.val (.int .i64 0)), (.val (.int .u64 0)), (.val (.int .u64 8589934592)), (.val (.int .u64 0)), (.val (.int .u64 0)), (.val (.int .i64 0))], [(.val (.int .i64 1)), (.val (.int .u64 0)), (.val (.int .u64 0)), (.val (.int .u64 0)), (.val (.int .u64 0)), (.val (.int .i64 1))]]), (.val (.string ⟨([] : List UInt8).toArray⟩)), (.val (.int .i64 0)), (.val (.bool .false)), (.val (.bool .false)), (.val (.int .i64 (-1)))], [(.val (.int .i64 2)), (.lst 6 [[(.val (.int .i64 1)), (.val (.int .u64 0)), (.val (.int .u64 0)), (.val (.int .u64 0)), (.val (.int .u64 0)), (.val (.int .i64 2))]]), (.val (.string ⟨([] : List UInt8).toArray⟩)), (.val (.int .i64 0)), (.val (.bool .false)), (.val (.bool .false)), (.val (.int .i64 (-1)))]])), (.p (.val (.int .i64 0))), (.p (.val (.slice .none 0 0))), (.p (.val (.slice .none 0 0)))])
end Go.Proofs.Tryd
