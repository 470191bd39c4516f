/- Decompiled by a program: functions as plain data see them, part 2. -/
import Derived.Test.YthpmanlglbfcdaaDoorH81
namespace Go.Proofs.Tryd
set_option linter.unusedSimpArgs false
set_option linter.unusedVariables false
set_option maxHeartbeats 4000000
open Go Go.Vs
noncomputable section
def F66_2_b (rF66_2 : T_F66_2) (a1 a2 : Nat) (a3 a4 a5 : Int) (a6 : Nat) (a7 : List EditD) (a8 : Nat) (a9 a10 : List EditD) : Option (List EditD) :=
  (bif ((IntKind.wrap .i64 (a4 - a3)) == 1) then ((runL (fun s => L66_4 a2 a3 a10 s.1 s.2) (a4, a5)).bind fun r2 => match r2 with | .k0 x2_0 => ((runL (fun s => L66_3 a2 x2_0 s.1 s.2) (a3, a10)).bind fun r3 => match r3 with | .k0 x3_0 => (some x3_0))) else (bif ((IntKind.wrap .i64 (a5 - a4)) == 1) then ((runL (fun s => L66_2 a2 a4 a10 s.1 s.2) (a3, a4)).bind fun r3 => match r3 with | .k0 x3_0 => ((runL (fun s => L66_1 a2 x3_0 s.1 s.2) (a4, a10)).bind fun r4 => match r4 with | .k0 x4_0 => (some x4_0))) else (bif (decide (a4 > (IntKind.wrap .i64 (Int.fdiv (IntKind.wrap .u64 (IntKind.wrap .i64 (a3 + a5))) (2 ^ (min (Int.toNat 1) (IntKind.bits .u64))))))) then ((runL (fun s => L66_0_2 a2 (IntKind.wrap .i64 ((IntKind.wrap .i64 ((IntKind.wrap .i64 (Int.fdiv (IntKind.wrap .u64 (IntKind.wrap .i64 (a3 + a5))) (2 ^ (min (Int.toNat 1) (IntKind.bits .u64))))) + a4)) - 1)) a10 s.1 s.2) ((IntKind.wrap .i64 ((IntKind.wrap .i64 ((IntKind.wrap .i64 (Int.fdiv (IntKind.wrap .u64 (IntKind.wrap .i64 (a3 + a5))) (2 ^ (min (Int.toNat 1) (IntKind.bits .u64))))) + a4)) - a5)), (IntKind.wrap .i64 (Int.fdiv (IntKind.wrap .u64 (IntKind.wrap .i64 (a3 + a5))) (2 ^ (min (Int.toNat 1) (IntKind.bits .u64))))))).bind fun r4 => match r4 with | .k0 x4_0 => (bif (decide (x4_0 < a4)) then (bif (decide (a4 < (IntKind.wrap .i64 ((IntKind.wrap .i64 ((IntKind.wrap .i64 (Int.fdiv (IntKind.wrap .u64 (IntKind.wrap .i64 (a3 + a5))) (2 ^ (min (Int.toNat 1) (IntKind.bits .u64))))) + a4)) - x4_0)))) then ((F70_2 a2 x4_0 a4 (IntKind.wrap .i64 ((IntKind.wrap .i64 ((IntKind.wrap .i64 (Int.fdiv (IntKind.wrap .u64 (IntKind.wrap .i64 (a3 + a5))) (2 ^ (min (Int.toNat 1) (IntKind.bits .u64))))) + a4)) - x4_0)) a10).bind fun x7 => (bif (decide (a3 < x4_0)) then (bif (decide (x4_0 < (IntKind.wrap .i64 (Int.fdiv (IntKind.wrap .u64 (IntKind.wrap .i64 (a3 + a5))) (2 ^ (min (Int.toNat 1) (IntKind.bits .u64))))))) then ((rF66_2 a1 a2 a3 x4_0 (IntKind.wrap .i64 (Int.fdiv (IntKind.wrap .u64 (IntKind.wrap .i64 (a3 + a5))) (2 ^ (min (Int.toNat 1) (IntKind.bits .u64))))) a6 a7 a8 a9 x7).bind fun x10 => (bif (decide ((IntKind.wrap .i64 (Int.fdiv (IntKind.wrap .u64 (IntKind.wrap .i64 (a3 + a5))) (2 ^ (min (Int.toNat 1) (IntKind.bits .u64))))) < (IntKind.wrap .i64 ((IntKind.wrap .i64 ((IntKind.wrap .i64 (Int.fdiv (IntKind.wrap .u64 (IntKind.wrap .i64 (a3 + a5))) (2 ^ (min (Int.toNat 1) (IntKind.bits .u64))))) + a4)) - x4_0)))) then (bif (decide ((IntKind.wrap .i64 ((IntKind.wrap .i64 ((IntKind.wrap .i64 (Int.fdiv (IntKind.wrap .u64 (IntKind.wrap .i64 (a3 + a5))) (2 ^ (min (Int.toNat 1) (IntKind.bits .u64))))) + a4)) - x4_0)) < a5)) then ((rF66_2 a1 a2 (IntKind.wrap .i64 (Int.fdiv (IntKind.wrap .u64 (IntKind.wrap .i64 (a3 + a5))) (2 ^ (min (Int.toNat 1) (IntKind.bits .u64))))) (IntKind.wrap .i64 ((IntKind.wrap .i64 ((IntKind.wrap .i64 (Int.fdiv (IntKind.wrap .u64 (IntKind.wrap .i64 (a3 + a5))) (2 ^ (min (Int.toNat 1) (IntKind.bits .u64))))) + a4)) - x4_0)) a5 a6 a7 a8 a9 x10).bind fun x13 => (some x13)) else (some x10)) else (some x10))) else (bif (decide ((IntKind.wrap .i64 (Int.fdiv (IntKind.wrap .u64 (IntKind.wrap .i64 (a3 + a5))) (2 ^ (min (Int.toNat 1) (IntKind.bits .u64))))) < (IntKind.wrap .i64 ((IntKind.wrap .i64 ((IntKind.wrap .i64 (Int.fdiv (IntKind.wrap .u64 (IntKind.wrap .i64 (a3 + a5))) (2 ^ (min (Int.toNat 1) (IntKind.bits .u64))))) + a4)) - x4_0)))) then (bif (decide ((IntKind.wrap .i64 ((IntKind.wrap .i64 ((IntKind.wrap .i64 (Int.fdiv (IntKind.wrap .u64 (IntKind.wrap .i64 (a3 + a5))) (2 ^ (min (Int.toNat 1) (IntKind.bits .u64))))) + a4)) - x4_0)) < a5)) then ((rF66_2 a1 a2 (IntKind.wrap .i64 (Int.fdiv (IntKind.wrap .u64 (IntKind.wrap .i64 (a3 + a5))) (2 ^ (min (Int.toNat 1) (IntKind.bits .u64))))) (IntKind.wrap .i64 ((IntKind.wrap .i64 ((IntKind.wrap .i64 (Int.fdiv (IntKind.wrap .u64 (IntKind.wrap .i64 (a3 + a5))) (2 ^ (min (Int.toNat 1) (IntKind.bits .u64))))) + a4)) - x4_0)) a5 a6 a7 a8 a9 x7).bind fun x12 => (some x12)) else (some x7)) else (some x7))) else (bif (decide ((IntKind.wrap .i64 (Int.fdiv (IntKind.wrap .u64 (IntKind.wrap .i64 (a3 + a5))) (2 ^ (min (Int.toNat 1) (IntKind.bits .u64))))) < (IntKind.wrap .i64 ((IntKind.wrap .i64 ((IntKind.wrap .i64 (Int.fdiv (IntKind.wrap .u64 (IntKind.wrap .i64 (a3 + a5))) (2 ^ (min (Int.toNat 1) (IntKind.bits .u64))))) + a4)) - x4_0)))) then (bif (decide ((IntKind.wrap .i64 ((IntKind.wrap .i64 ((IntKind.wrap .i64 (Int.fdiv (IntKind.wrap .u64 (IntKind.wrap .i64 (a3 + a5))) (2 ^ (min (Int.toNat 1) (IntKind.bits .u64))))) + a4)) - x4_0)) < a5)) then ((rF66_2 a1 a2 (IntKind.wrap .i64 (Int.fdiv (IntKind.wrap .u64 (IntKind.wrap .i64 (a3 + a5))) (2 ^ (min (Int.toNat 1) (IntKind.bits .u64))))) (IntKind.wrap .i64 ((IntKind.wrap .i64 ((IntKind.wrap .i64 (Int.fdiv (IntKind.wrap .u64 (IntKind.wrap .i64 (a3 + a5))) (2 ^ (min (Int.toNat 1) (IntKind.bits .u64))))) + a4)) - x4_0)) a5 a6 a7 a8 a9 x7).bind fun x11 => (some x11)) else (some x7)) else (some x7)))) else (bif (decide (a3 < x4_0)) then (bif (decide (x4_0 < (IntKind.wrap .i64 (Int.fdiv (IntKind.wrap .u64 (IntKind.wrap .i64 (a3 + a5))) (2 ^ (min (Int.toNat 1) (IntKind.bits .u64))))))) then ((rF66_2 a1 a2 a3 x4_0 (IntKind.wrap .i64 (Int.fdiv (IntKind.wrap .u64 (IntKind.wrap .i64 (a3 + a5))) (2 ^ (min (Int.toNat 1) (IntKind.bits .u64))))) a6 a7 a8 a9 a10).bind fun x9 => (bif (decide ((IntKind.wrap .i64 (Int.fdiv (IntKind.wrap .u64 (IntKind.wrap .i64 (a3 + a5))) (2 ^ (min (Int.toNat 1) (IntKind.bits .u64))))) < (IntKind.wrap .i64 ((IntKind.wrap .i64 ((IntKind.wrap .i64 (Int.fdiv (IntKind.wrap .u64 (IntKind.wrap .i64 (a3 + a5))) (2 ^ (min (Int.toNat 1) (IntKind.bits .u64))))) + a4)) - x4_0)))) then (bif (decide ((IntKind.wrap .i64 ((IntKind.wrap .i64 ((IntKind.wrap .i64 (Int.fdiv (IntKind.wrap .u64 (IntKind.wrap .i64 (a3 + a5))) (2 ^ (min (Int.toNat 1) (IntKind.bits .u64))))) + a4)) - x4_0)) < a5)) then ((rF66_2 a1 a2 (IntKind.wrap .i64 (Int.fdiv (IntKind.wrap .u64 (IntKind.wrap .i64 (a3 + a5))) (2 ^ (min (Int.toNat 1) (IntKind.bits .u64))))) (IntKind.wrap .i64 ((IntKind.wrap .i64 ((IntKind.wrap .i64 (Int.fdiv (IntKind.wrap .u64 (IntKind.wrap .i64 (a3 + a5))) (2 ^ (min (Int.toNat 1) (IntKind.bits .u64))))) + a4)) - x4_0)) a5 a6 a7 a8 a9 x9).bind fun x12 => (some x12)) else (some x9)) else (some x9))) else (bif (decide ((IntKind.wrap .i64 (Int.fdiv (IntKind.wrap .u64 (IntKind.wrap .i64 (a3 + a5))) (2 ^ (min (Int.toNat 1) (IntKind.bits .u64))))) < (IntKind.wrap .i64 ((IntKind.wrap .i64 ((IntKind.wrap .i64 (Int.fdiv (IntKind.wrap .u64 (IntKind.wrap .i64 (a3 + a5))) (2 ^ (min (Int.toNat 1) (IntKind.bits .u64))))) + a4)) - x4_0)))) then (bif (decide ((IntKind.wrap .i64 ((IntKind.wrap .i64 ((IntKind.wrap .i64 (Int.fdiv (IntKind.wrap .u64 (IntKind.wrap .i64 (a3 + a5))) (2 ^ (min (Int.toNat 1) (IntKind.bits .u64))))) + a4)) - x4_0)) < a5)) then ((rF66_2 a1 a2 (IntKind.wrap .i64 (Int.fdiv (IntKind.wrap .u64 (IntKind.wrap .i64 (a3 + a5))) (2 ^ (min (Int.toNat 1) (IntKind.bits .u64))))) (IntKind.wrap .i64 ((IntKind.wrap .i64 ((IntKind.wrap .i64 (Int.fdiv (IntKind.wrap .u64 (IntKind.wrap .i64 (a3 + a5))) (2 ^ (min (Int.toNat 1) (IntKind.bits .u64))))) + a4)) - x4_0)) a5 a6 a7 a8 a9 a10).bind fun x11 => (some x11)) else (some a10)) else (some a10))) else (bif (decide ((IntKind.wrap .i64 (Int.fdiv (IntKind.wrap .u64 (IntKind.wrap .i64 (a3 + a5))) (2 ^ (min (Int.toNat 1) (IntKind.bits .u64))))) < (IntKind.wrap .i64 ((IntKind.wrap .i64 ((IntKind.wrap .i64 (Int.fdiv (IntKind.wrap .u64 (IntKind.wrap .i64 (a3 + a5))) (2 ^ (min (Int.toNat 1) (IntKind.bits .u64))))) + a4)) - x4_0)))) then (bif (decide ((IntKind.wrap .i64 ((IntKind.wrap .i64 ((IntKind.wrap .i64 (Int.fdiv (IntKind.wrap .u64 (IntKind.wrap .i64 (a3 + a5))) (2 ^ (min (Int.toNat 1) (IntKind.bits .u64))))) + a4)) - x4_0)) < a5)) then ((rF66_2 a1 a2 (IntKind.wrap .i64 (Int.fdiv (IntKind.wrap .u64 (IntKind.wrap .i64 (a3 + a5))) (2 ^ (min (Int.toNat 1) (IntKind.bits .u64))))) (IntKind.wrap .i64 ((IntKind.wrap .i64 ((IntKind.wrap .i64 (Int.fdiv (IntKind.wrap .u64 (IntKind.wrap .i64 (a3 + a5))) (2 ^ (min (Int.toNat 1) (IntKind.bits .u64))))) + a4)) - x4_0)) a5 a6 a7 a8 a9 a10).bind fun x10 => (some x10)) else (some a10)) else (some a10)))) else (bif (decide (a3 < x4_0)) then (bif (decide (x4_0 < (IntKind.wrap .i64 (Int.fdiv (IntKind.wrap .u64 (IntKind.wrap .i64 (a3 + a5))) (2 ^ (min (Int.toNat 1) (IntKind.bits .u64))))))) then ((rF66_2 a1 a2 a3 x4_0 (IntKind.wrap .i64 (Int.fdiv (IntKind.wrap .u64 (IntKind.wrap .i64 (a3 + a5))) (2 ^ (min (Int.toNat 1) (IntKind.bits .u64))))) a6 a7 a8 a9 a10).bind fun x8 => (bif (decide ((IntKind.wrap .i64 (Int.fdiv (IntKind.wrap .u64 (IntKind.wrap .i64 (a3 + a5))) (2 ^ (min (Int.toNat 1) (IntKind.bits .u64))))) < (IntKind.wrap .i64 ((IntKind.wrap .i64 ((IntKind.wrap .i64 (Int.fdiv (IntKind.wrap .u64 (IntKind.wrap .i64 (a3 + a5))) (2 ^ (min (Int.toNat 1) (IntKind.bits .u64))))) + a4)) - x4_0)))) then (bif (decide ((IntKind.wrap .i64 ((IntKind.wrap .i64 ((IntKind.wrap .i64 (Int.fdiv (IntKind.wrap .u64 (IntKind.wrap .i64 (a3 + a5))) (2 ^ (min (Int.toNat 1) (IntKind.bits .u64))))) + a4)) - x4_0)) < a5)) then ((rF66_2 a1 a2 (IntKind.wrap .i64 (Int.fdiv (IntKind.wrap .u64 (IntKind.wrap .i64 (a3 + a5))) (2 ^ (min (Int.toNat 1) (IntKind.bits .u64))))) (IntKind.wrap .i64 ((IntKind.wrap .i64 ((IntKind.wrap .i64 (Int.fdiv (IntKind.wrap .u64 (IntKind.wrap .i64 (a3 + a5))) (2 ^ (min (Int.toNat 1) (IntKind.bits .u64))))) + a4)) - x4_0)) a5 a6 a7 a8 a9 x8).bind fun x11 => (some x11)) else (some x8)) else (some x8))) else (bif (decide ((IntKind.wrap .i64 (Int.fdiv (IntKind.wrap .u64 (IntKind.wrap .i64 (a3 + a5))) (2 ^ (min (Int.toNat 1) (IntKind.bits .u64))))) < (IntKind.wrap .i64 ((IntKind.wrap .i64 ((IntKind.wrap .i64 (Int.fdiv (IntKind.wrap .u64 (IntKind.wrap .i64 (a3 + a5))) (2 ^ (min (Int.toNat 1) (IntKind.bits .u64))))) + a4)) - x4_0)))) then (bif (decide ((IntKind.wrap .i64 ((IntKind.wrap .i64 ((IntKind.wrap .i64 (Int.fdiv (IntKind.wrap .u64 (IntKind.wrap .i64 (a3 + a5))) (2 ^ (min (Int.toNat 1) (IntKind.bits .u64))))) + a4)) - x4_0)) < a5)) then ((rF66_2 a1 a2 (IntKind.wrap .i64 (Int.fdiv (IntKind.wrap .u64 (IntKind.wrap .i64 (a3 + a5))) (2 ^ (min (Int.toNat 1) (IntKind.bits .u64))))) (IntKind.wrap .i64 ((IntKind.wrap .i64 ((IntKind.wrap .i64 (Int.fdiv (IntKind.wrap .u64 (IntKind.wrap .i64 (a3 + a5))) (2 ^ (min (Int.toNat 1) (IntKind.bits .u64))))) + a4)) - x4_0)) a5 a6 a7 a8 a9 a10).bind fun x10 => (some x10)) else (some a10)) else (some a10))) else (bif (decide ((IntKind.wrap .i64 (Int.fdiv (IntKind.wrap .u64 (IntKind.wrap .i64 (a3 + a5))) (2 ^ (min (Int.toNat 1) (IntKind.bits .u64))))) < (IntKind.wrap .i64 ((IntKind.wrap .i64 ((IntKind.wrap .i64 (Int.fdiv (IntKind.wrap .u64 (IntKind.wrap .i64 (a3 + a5))) (2 ^ (min (Int.toNat 1) (IntKind.bits .u64))))) + a4)) - x4_0)))) then (bif (decide ((IntKind.wrap .i64 ((IntKind.wrap .i64 ((IntKind.wrap .i64 (Int.fdiv (IntKind.wrap .u64 (IntKind.wrap .i64 (a3 + a5))) (2 ^ (min (Int.toNat 1) (IntKind.bits .u64))))) + a4)) - x4_0)) < a5)) then ((rF66_2 a1 a2 (IntKind.wrap .i64 (Int.fdiv (IntKind.wrap .u64 (IntKind.wrap .i64 (a3 + a5))) (2 ^ (min (Int.toNat 1) (IntKind.bits .u64))))) (IntKind.wrap .i64 ((IntKind.wrap .i64 ((IntKind.wrap .i64 (Int.fdiv (IntKind.wrap .u64 (IntKind.wrap .i64 (a3 + a5))) (2 ^ (min (Int.toNat 1) (IntKind.bits .u64))))) + a4)) - x4_0)) a5 a6 a7 a8 a9 a10).bind fun x9 => (some x9)) else (some a10)) else (some a10))))) else ((runL (fun s => L66_0_3 a2 (IntKind.wrap .i64 ((IntKind.wrap .i64 ((IntKind.wrap .i64 (Int.fdiv (IntKind.wrap .u64 (IntKind.wrap .i64 (a3 + a5))) (2 ^ (min (Int.toNat 1) (IntKind.bits .u64))))) + a4)) - 1)) a10 s.1 s.2) (a3, a4)).bind fun r4 => match r4 with | .k0 x4_0 => (bif (decide (x4_0 < a4)) then (bif (decide (a4 < (IntKind.wrap .i64 ((IntKind.wrap .i64 ((IntKind.wrap .i64 (Int.fdiv (IntKind.wrap .u64 (IntKind.wrap .i64 (a3 + a5))) (2 ^ (min (Int.toNat 1) (IntKind.bits .u64))))) + a4)) - x4_0)))) then ((F70_2 a2 x4_0 a4 (IntKind.wrap .i64 ((IntKind.wrap .i64 ((IntKind.wrap .i64 (Int.fdiv (IntKind.wrap .u64 (IntKind.wrap .i64 (a3 + a5))) (2 ^ (min (Int.toNat 1) (IntKind.bits .u64))))) + a4)) - x4_0)) a10).bind fun x7 => (bif (decide (a3 < x4_0)) then (bif (decide (x4_0 < (IntKind.wrap .i64 (Int.fdiv (IntKind.wrap .u64 (IntKind.wrap .i64 (a3 + a5))) (2 ^ (min (Int.toNat 1) (IntKind.bits .u64))))))) then ((rF66_2 a1 a2 a3 x4_0 (IntKind.wrap .i64 (Int.fdiv (IntKind.wrap .u64 (IntKind.wrap .i64 (a3 + a5))) (2 ^ (min (Int.toNat 1) (IntKind.bits .u64))))) a6 a7 a8 a9 x7).bind fun x10 => (bif (decide ((IntKind.wrap .i64 (Int.fdiv (IntKind.wrap .u64 (IntKind.wrap .i64 (a3 + a5))) (2 ^ (min (Int.toNat 1) (IntKind.bits .u64))))) < (IntKind.wrap .i64 ((IntKind.wrap .i64 ((IntKind.wrap .i64 (Int.fdiv (IntKind.wrap .u64 (IntKind.wrap .i64 (a3 + a5))) (2 ^ (min (Int.toNat 1) (IntKind.bits .u64))))) + a4)) - x4_0)))) then (bif (decide ((IntKind.wrap .i64 ((IntKind.wrap .i64 ((IntKind.wrap .i64 (Int.fdiv (IntKind.wrap .u64 (IntKind.wrap .i64 (a3 + a5))) (2 ^ (min (Int.toNat 1) (IntKind.bits .u64))))) + a4)) - x4_0)) < a5)) then ((rF66_2 a1 a2 (IntKind.wrap .i64 (Int.fdiv (IntKind.wrap .u64 (IntKind.wrap .i64 (a3 + a5))) (2 ^ (min (Int.toNat 1) (IntKind.bits .u64))))) (IntKind.wrap .i64 ((IntKind.wrap .i64 ((IntKind.wrap .i64 (Int.fdiv (IntKind.wrap .u64 (IntKind.wrap .i64 (a3 + a5))) (2 ^ (min (Int.toNat 1) (IntKind.bits .u64))))) + a4)) - x4_0)) a5 a6 a7 a8 a9 x10).bind fun x13 => (some x13)) else (some x10)) else (some x10))) else (bif (decide ((IntKind.wrap .i64 (Int.fdiv (IntKind.wrap .u64 (IntKind.wrap .i64 (a3 + a5))) (2 ^ (min (Int.toNat 1) (IntKind.bits .u64))))) < (IntKind.wrap .i64 ((IntKind.wrap .i64 ((IntKind.wrap .i64 (Int.fdiv (IntKind.wrap .u64 (IntKind.wrap .i64 (a3 + a5))) (2 ^ (min (Int.toNat 1) (IntKind.bits .u64))))) + a4)) - x4_0)))) then (bif (decide ((IntKind.wrap .i64 ((IntKind.wrap .i64 ((IntKind.wrap .i64 (Int.fdiv (IntKind.wrap .u64 (IntKind.wrap .i64 (a3 + a5))) (2 ^ (min (Int.toNat 1) (IntKind.bits .u64))))) + a4)) - x4_0)) < a5)) then ((rF66_2 a1 a2 (IntKind.wrap .i64 (Int.fdiv (IntKind.wrap .u64 (IntKind.wrap .i64 (a3 + a5))) (2 ^ (min (Int.toNat 1) (IntKind.bits .u64))))) (IntKind.wrap .i64 ((IntKind.wrap .i64 ((IntKind.wrap .i64 (Int.fdiv (IntKind.wrap .u64 (IntKind.wrap .i64 (a3 + a5))) (2 ^ (min (Int.toNat 1) (IntKind.bits .u64))))) + a4)) - x4_0)) a5 a6 a7 a8 a9 x7).bind fun x12 => (some x12)) else (some x7)) else (some x7))) else (bif (decide ((IntKind.wrap .i64 (Int.fdiv (IntKind.wrap .u64 (IntKind.wrap .i64 (a3 + a5))) (2 ^ (min (Int.toNat 1) (IntKind.bits .u64))))) < (IntKind.wrap .i64 ((IntKind.wrap .i64 ((IntKind.wrap .i64 (Int.fdiv (IntKind.wrap .u64 (IntKind.wrap .i64 (a3 + a5))) (2 ^ (min (Int.toNat 1) (IntKind.bits .u64))))) + a4)) - x4_0)))) then (bif (decide ((IntKind.wrap .i64 ((IntKind.wrap .i64 ((IntKind.wrap .i64 (Int.fdiv (IntKind.wrap .u64 (IntKind.wrap .i64 (a3 + a5))) (2 ^ (min (Int.toNat 1) (IntKind.bits .u64))))) + a4)) - x4_0)) < a5)) then ((rF66_2 a1 a2 (IntKind.wrap .i64 (Int.fdiv (IntKind.wrap .u64 (IntKind.wrap .i64 (a3 + a5))) (2 ^ (min (Int.toNat 1) (IntKind.bits .u64))))) (IntKind.wrap .i64 ((IntKind.wrap .i64 ((IntKind.wrap .i64 (Int.fdiv (IntKind.wrap .u64 (IntKind.wrap .i64 (a3 + a5))) (2 ^ (min (Int.toNat 1) (IntKind.bits .u64))))) + a4)) - x4_0)) a5 a6 a7 a8 a9 x7).bind fun x11 => (some x11)) else (some x7)) else (some x7)))) else (bif (decide (a3 < x4_0)) then (bif (decide (x4_0 < (IntKind.wrap .i64 (Int.fdiv (IntKind.wrap .u64 (IntKind.wrap .i64 (a3 + a5))) (2 ^ (min (Int.toNat 1) (IntKind.bits .u64))))))) then ((rF66_2 a1 a2 a3 x4_0 (IntKind.wrap .i64 (Int.fdiv (IntKind.wrap .u64 (IntKind.wrap .i64 (a3 + a5))) (2 ^ (min (Int.toNat 1) (IntKind.bits .u64))))) a6 a7 a8 a9 a10).bind fun x9 => (bif (decide ((IntKind.wrap .i64 (Int.fdiv (IntKind.wrap .u64 (IntKind.wrap .i64 (a3 + a5))) (2 ^ (min (Int.toNat 1) (IntKind.bits .u64))))) < (IntKind.wrap .i64 ((IntKind.wrap .i64 ((IntKind.wrap .i64 (Int.fdiv (IntKind.wrap .u64 (IntKind.wrap .i64 (a3 + a5))) (2 ^ (min (Int.toNat 1) (IntKind.bits .u64))))) + a4)) - x4_0)))) then (bif (decide ((IntKind.wrap .i64 ((IntKind.wrap .i64 ((IntKind.wrap .i64 (Int.fdiv (IntKind.wrap .u64 (IntKind.wrap .i64 (a3 + a5))) (2 ^ (min (Int.toNat 1) (IntKind.bits .u64))))) + a4)) - x4_0)) < a5)) then ((rF66_2 a1 a2 (IntKind.wrap .i64 (Int.fdiv (IntKind.wrap .u64 (IntKind.wrap .i64 (a3 + a5))) (2 ^ (min (Int.toNat 1) (IntKind.bits .u64))))) (IntKind.wrap .i64 ((IntKind.wrap .i64 ((IntKind.wrap .i64 (Int.fdiv (IntKind.wrap .u64 (IntKind.wrap .i64 (a3 + a5))) (2 ^ (min (Int.toNat 1) (IntKind.bits .u64))))) + a4)) - x4_0)) a5 a6 a7 a8 a9 x9).bind fun x12 => (some x12)) else (some x9)) else (some x9))) else (bif (decide ((IntKind.wrap .i64 (Int.fdiv (IntKind.wrap .u64 (IntKind.wrap .i64 (a3 + a5))) (2 ^ (min (Int.toNat 1) (IntKind.bits .u64))))) < (IntKind.wrap .i64 ((IntKind.wrap .i64 ((IntKind.wrap .i64 (Int.fdiv (IntKind.wrap .u64 (IntKind.wrap .i64 (a3 + a5))) (2 ^ (min (Int.toNat 1) (IntKind.bits .u64))))) + a4)) - x4_0)))) then (bif (decide ((IntKind.wrap .i64 ((IntKind.wrap .i64 ((IntKind.wrap .i64 (Int.fdiv (IntKind.wrap .u64 (IntKind.wrap .i64 (a3 + a5))) (2 ^ (min (Int.toNat 1) (IntKind.bits .u64))))) + a4)) - x4_0)) < a5)) then ((rF66_2 a1 a2 (IntKind.wrap .i64 (Int.fdiv (IntKind.wrap .u64 (IntKind.wrap .i64 (a3 + a5))) (2 ^ (min (Int.toNat 1) (IntKind.bits .u64))))) (IntKind.wrap .i64 ((IntKind.wrap .i64 ((IntKind.wrap .i64 (Int.fdiv (IntKind.wrap .u64 (IntKind.wrap .i64 (a3 + a5))) (2 ^ (min (Int.toNat 1) (IntKind.bits .u64))))) + a4)) - x4_0)) a5 a6 a7 a8 a9 a10).bind fun x11 => (some x11)) else (some a10)) else (some a10))) else (bif (decide ((IntKind.wrap .i64 (Int.fdiv (IntKind.wrap .u64 (IntKind.wrap .i64 (a3 + a5))) (2 ^ (min (Int.toNat 1) (IntKind.bits .u64))))) < (IntKind.wrap .i64 ((IntKind.wrap .i64 ((IntKind.wrap .i64 (Int.fdiv (IntKind.wrap .u64 (IntKind.wrap .i64 (a3 + a5))) (2 ^ (min (Int.toNat 1) (IntKind.bits .u64))))) + a4)) - x4_0)))) then (bif (decide ((IntKind.wrap .i64 ((IntKind.wrap .i64 ((IntKind.wrap .i64 (Int.fdiv (IntKind.wrap .u64 (IntKind.wrap .i64 (a3 + a5))) (2 ^ (min (Int.toNat 1) (IntKind.bits .u64))))) + a4)) - x4_0)) < a5)) then ((rF66_2 a1 a2 (IntKind.wrap .i64 (Int.fdiv (IntKind.wrap .u64 (IntKind.wrap .i64 (a3 + a5))) (2 ^ (min (Int.toNat 1) (IntKind.bits .u64))))) (IntKind.wrap .i64 ((IntKind.wrap .i64 ((IntKind.wrap .i64 (Int.fdiv (IntKind.wrap .u64 (IntKind.wrap .i64 (a3 + a5))) (2 ^ (min (Int.toNat 1) (IntKind.bits .u64))))) + a4)) - x4_0)) a5 a6 a7 a8 a9 a10).bind fun x10 => (some x10)) else (some a10)) else (some a10)))) else (bif (decide (a3 < x4_0)) then (bif (decide (x4_0 < (IntKind.wrap .i64 (Int.fdiv (IntKind.wrap .u64 (IntKind.wrap .i64 (a3 + a5))) (2 ^ (min (Int.toNat 1) (IntKind.bits .u64))))))) then ((rF66_2 a1 a2 a3 x4_0 (IntKind.wrap .i64 (Int.fdiv (IntKind.wrap .u64 (IntKind.wrap .i64 (a3 + a5))) (2 ^ (min (Int.toNat 1) (IntKind.bits .u64))))) a6 a7 a8 a9 a10).bind fun x8 => (bif (decide ((IntKind.wrap .i64 (Int.fdiv (IntKind.wrap .u64 (IntKind.wrap .i64 (a3 + a5))) (2 ^ (min (Int.toNat 1) (IntKind.bits .u64))))) < (IntKind.wrap .i64 ((IntKind.wrap .i64 ((IntKind.wrap .i64 (Int.fdiv (IntKind.wrap .u64 (IntKind.wrap .i64 (a3 + a5))) (2 ^ (min (Int.toNat 1) (IntKind.bits .u64))))) + a4)) - x4_0)))) then (bif (decide ((IntKind.wrap .i64 ((IntKind.wrap .i64 ((IntKind.wrap .i64 (Int.fdiv (IntKind.wrap .u64 (IntKind.wrap .i64 (a3 + a5))) (2 ^ (min (Int.toNat 1) (IntKind.bits .u64))))) + a4)) - x4_0)) < a5)) then ((rF66_2 a1 a2 (IntKind.wrap .i64 (Int.fdiv (IntKind.wrap .u64 (IntKind.wrap .i64 (a3 + a5))) (2 ^ (min (Int.toNat 1) (IntKind.bits .u64))))) (IntKind.wrap .i64 ((IntKind.wrap .i64 ((IntKind.wrap .i64 (Int.fdiv (IntKind.wrap .u64 (IntKind.wrap .i64 (a3 + a5))) (2 ^ (min (Int.toNat 1) (IntKind.bits .u64))))) + a4)) - x4_0)) a5 a6 a7 a8 a9 x8).bind fun x11 => (some x11)) else (some x8)) else (some x8))) else (bif (decide ((IntKind.wrap .i64 (Int.fdiv (IntKind.wrap .u64 (IntKind.wrap .i64 (a3 + a5))) (2 ^ (min (Int.toNat 1) (IntKind.bits .u64))))) < (IntKind.wrap .i64 ((IntKind.wrap .i64 ((IntKind.wrap .i64 (Int.fdiv (IntKind.wrap .u64 (IntKind.wrap .i64 (a3 + a5))) (2 ^ (min (Int.toNat 1) (IntKind.bits .u64))))) + a4)) - x4_0)))) then (bif (decide ((IntKind.wrap .i64 ((IntKind.wrap .i64 ((IntKind.wrap .i64 (Int.fdiv (IntKind.wrap .u64 (IntKind.wrap .i64 (a3 + a5))) (2 ^ (min (Int.toNat 1) (IntKind.bits .u64))))) + a4)) - x4_0)) < a5)) then ((rF66_2 a1 a2 (IntKind.wrap .i64 (Int.fdiv (IntKind.wrap .u64 (IntKind.wrap .i64 (a3 + a5))) (2 ^ (min (Int.toNat 1) (IntKind.bits .u64))))) (IntKind.wrap .i64 ((IntKind.wrap .i64 ((IntKind.wrap .i64 (Int.fdiv (IntKind.wrap .u64 (IntKind.wrap .i64 (a3 + a5))) (2 ^ (min (Int.toNat 1) (IntKind.bits .u64))))) + a4)) - x4_0)) a5 a6 a7 a8 a9 a10).bind fun x10 => (some x10)) else (some a10)) else (some a10))) else (bif (decide ((IntKind.wrap .i64 (Int.fdiv (IntKind.wrap .u64 (IntKind.wrap .i64 (a3 + a5))) (2 ^ (min (Int.toNat 1) (IntKind.bits .u64))))) < (IntKind.wrap .i64 ((IntKind.wrap .i64 ((IntKind.wrap .i64 (Int.fdiv (IntKind.wrap .u64 (IntKind.wrap .i64 (a3 + a5))) (2 ^ (min (Int.toNat 1) (IntKind.bits .u64))))) + a4)) - x4_0)))) then (bif (decide ((IntKind.wrap .i64 ((IntKind.wrap .i64 ((IntKind.wrap .i64 (Int.fdiv (IntKind.wrap .u64 (IntKind.wrap .i64 (a3 + a5))) (2 ^ (min (Int.toNat 1) (IntKind.bits .u64))))) + a4)) - x4_0)) < a5)) then ((rF66_2 a1 a2 (IntKind.wrap .i64 (Int.fdiv (IntKind.wrap .u64 (IntKind.wrap .i64 (a3 + a5))) (2 ^ (min (Int.toNat 1) (IntKind.bits .u64))))) (IntKind.wrap .i64 ((IntKind.wrap .i64 ((IntKind.wrap .i64 (Int.fdiv (IntKind.wrap .u64 (IntKind.wrap .i64 (a3 + a5))) (2 ^ (min (Int.toNat 1) (IntKind.bits .u64))))) + a4)) - x4_0)) a5 a6 a7 a8 a9 a10).bind fun x9 => (some x9)) else (some a10)) else (some a10))))))))
abbrev F66_2_d0 (g2 : Nat → AV) (a1 a2 : Nat) (a3 x2_0 : Int) (a6 : Nat) (a7 : List EditD) (a8 : Nat) (a9 a10 : List EditD) : St := ⟨fr 220 g2 [(0, .sl 2 a1 3 0 a2), (1, i6 a3), (4, (.fn 44 [])), (10, i6 x2_0)], [yE a6 a7, yE a8 a9, yE a1 a10]⟩
abbrev F66_2_d5 (a6 : Nat) (a7 : List EditD) (a8 : Nat) (a9 : List EditD) (a1 : Nat) (a10 : List EditD) : List AB := [yE a6 a7, yE a8 a9, yE a1 a10]
abbrev F66_2_d6 (a6 : Nat) (a7 : List EditD) (a8 : Nat) (a9 : List EditD) (a1 : Nat) (x7 : List EditD) : List AB := [yE a6 a7, yE a8 a9, yE a1 x7]
abbrev F66_2_d7 (a6 : Nat) (a7 : List EditD) (a8 : Nat) (a9 : List EditD) (a1 : Nat) (x10 : List EditD) : List AB := [yE a6 a7, yE a8 a9, yE a1 x10]
abbrev F66_2_d8 (a6 : Nat) (a7 : List EditD) (a8 : Nat) (a9 : List EditD) (a1 : Nat) (x13 : List EditD) : List AB := [yE a6 a7, yE a8 a9, yE a1 x13]
abbrev F66_2_d9 (a6 : Nat) (a7 : List EditD) (a8 : Nat) (a9 : List EditD) (a1 : Nat) (x12 : List EditD) : List AB := [yE a6 a7, yE a8 a9, yE a1 x12]
abbrev F66_2_d10 (a6 : Nat) (a7 : List EditD) (a8 : Nat) (a9 : List EditD) (a1 : Nat) (x11 : List EditD) : List AB := [yE a6 a7, yE a8 a9, yE a1 x11]
abbrev F66_2_d11 (a6 : Nat) (a7 : List EditD) (a8 : Nat) (a9 : List EditD) (a1 : Nat) (x9 : List EditD) : List AB := [yE a6 a7, yE a8 a9, yE a1 x9]
abbrev F66_2_d12 (a6 : Nat) (a7 : List EditD) (a8 : Nat) (a9 : List EditD) (a1 : Nat) (x8 : List EditD) : List AB := [yE a6 a7, yE a8 a9, yE a1 x8]
theorem F66_2_bok (rF66_2 : T_F66_2) (hF66_2 : H_F66_2 rF66_2) (a1 a2 : Nat) (a3 a4 a5 : Int) (a6 : Nat) (a7 : List EditD) (a8 : Nat) (a9 a10 : List EditD) {r : (List EditD)} (h : F66_2_b rF66_2 a1 a2 a3 a4 a5 a6 a7 a8 a9 a10 = some r) : CS prg 66 [.sl 2 a1 3 0 a2, i6 a3, i6 a4, i6 a5, (.fn 44 [])] [yE a6 a7, yE a8 a9, yE a1 a10] = some (F66_2_v a1 a2 a3 a4 a5 a6 a7 a8 a9 a10 r, F66_2_h a1 a2 a3 a4 a5 a6 a7 a8 a9 a10 r) := by
 unfold F66_2_b at h
 have q0 := ((sh_shr (by decide)) : binA .shr (vi .u64 (IntKind.wrap .u64 (w6 (a3 + a5)))) (vi .u64 1) = some (vi .u64 (Int.fdiv (IntKind.wrap .u64 (w6 (a3 + a5))) (2 ^ (min (Int.toNat 1) (IntKind.bits .u64))))))
 have q1 := (L66_0_2_k a1 a2 a3 a4 a5 (w6 (Int.fdiv (IntKind.wrap .u64 (w6 (a3 + a5))) (2 ^ (min (Int.toNat 1) (IntKind.bits .u64))))) (w6 ((w6 (Int.fdiv (IntKind.wrap .u64 (w6 (a3 + a5))) (2 ^ (min (Int.toNat 1) (IntKind.bits .u64))))) + a4)) (w6 ((w6 ((w6 (Int.fdiv (IntKind.wrap .u64 (w6 (a3 + a5))) (2 ^ (min (Int.toNat 1) (IntKind.bits .u64))))) + a4)) - 1)) a6 a7 a8 a9 a10 (w6 ((w6 ((w6 (Int.fdiv (IntKind.wrap .u64 (w6 (a3 + a5))) (2 ^ (min (Int.toNat 1) (IntKind.bits .u64))))) + a4)) - a5)) (w6 (Int.fdiv (IntKind.wrap .u64 (w6 (a3 + a5))) (2 ^ (min (Int.toNat 1) (IntKind.bits .u64))))))
 have q2 := (L66_0_3_k a1 a2 a3 a4 a5 (w6 (Int.fdiv (IntKind.wrap .u64 (w6 (a3 + a5))) (2 ^ (min (Int.toNat 1) (IntKind.bits .u64))))) (w6 ((w6 (Int.fdiv (IntKind.wrap .u64 (w6 (a3 + a5))) (2 ^ (min (Int.toNat 1) (IntKind.bits .u64))))) + a4)) (w6 ((w6 ((w6 (Int.fdiv (IntKind.wrap .u64 (w6 (a3 + a5))) (2 ^ (min (Int.toNat 1) (IntKind.bits .u64))))) + a4)) - 1)) a6 a7 a8 a9 a10 a3 a4)
 apply bi h <;> intro h1 h
 ·
  apply bn h; intro r2 h2 h
  cases r2 with
  | k0 x2_0 =>
   obtain ⟨g2, e2⟩ := L66_4_run a1 a2 a3 a6 a7 a8 a9 a10 (a4, a5) _ h2
   apply bn h; intro r3 h3 h
   cases r3 with
   | k0 x3_0 =>
    obtain ⟨g3, e3⟩ := L66_3_run a1 a2 x2_0 a6 a7 a8 a9 (a3, a10) _ h3
    rw [← sj h]
    exact fc [(28, .d true), (2000, .l (.brk 0) (F66_2_d0 g2 a1 a2 a3 x2_0 a6 a7 a8 a9 a10)), (2002, .l (.brk 2) ⟨fr 220 g3 [(0, .sl 2 a1 3 0 a2), (10, i6 x2_0)], [yE a6 a7, yE a8 a9, yE a1 x3_0]⟩), (6000, .d true)] (av h1 (apc (L66_4_k a1 a2 a3 a6 a7 a8 a9 a10 a4 a5) (apc (e2 : L66_4_e a1 a2 a3 a6 a7 a8 a9 a10 a4 a5 = some ((.brk 0), F66_2_d0 g2 a1 a2 a3 x2_0 a6 a7 a8 a9 a10)) (apc (L66_3_k a1 a2 x2_0 a6 a7 a8 a9 a3 a10) (apc (e3 : L66_3_e a1 a2 x2_0 a6 a7 a8 a9 a3 a10 = some ((.brk 2), ⟨fr 220 g3 [(0, .sl 2 a1 3 0 a2), (10, i6 x2_0)], [yE a6 a7, yE a8 a9, yE a1 x3_0]⟩)) apn)))))
 ·
  apply bi h <;> intro h2 h
  ·
   apply bn h; intro r3 h3 h
   cases r3 with
   | k0 x3_0 =>
    obtain ⟨g3, e3⟩ := L66_2_run a1 a2 a4 a6 a7 a8 a9 a10 (a3, a4) _ h3
    apply bn h; intro r4 h4 h
    cases r4 with
    | k0 x4_0 =>
     obtain ⟨g4, e4⟩ := L66_1_run a1 a2 x3_0 a6 a7 a8 a9 (a4, a10) _ h4
     rw [← sj h]
     exact fc [(28, .d false), (80, .d true), (2004, .l (.brk 4) ⟨fr 220 g3 [(0, .sl 2 a1 3 0 a2), (2, i6 a4), (4, (.fn 44 [])), (14, i6 x3_0)], [yE a6 a7, yE a8 a9, yE a1 a10]⟩), (2006, .l (.brk 6) ⟨fr 220 g4 [(0, .sl 2 a1 3 0 a2), (14, i6 x3_0)], [yE a6 a7, yE a8 a9, yE a1 x4_0]⟩), (6000, .d true)] (av h1 (av h2 (apc (L66_2_k a1 a2 a4 a6 a7 a8 a9 a10 a3 a4) (apc (e3 : L66_2_e a1 a2 a4 a6 a7 a8 a9 a10 a3 a4 = some ((.brk 4), ⟨fr 220 g3 [(0, .sl 2 a1 3 0 a2), (2, i6 a4), (4, (.fn 44 [])), (14, i6 x3_0)], [yE a6 a7, yE a8 a9, yE a1 a10]⟩)) (apc (L66_1_k a1 a2 x3_0 a6 a7 a8 a9 a4 a10) (apc (e4 : L66_1_e a1 a2 x3_0 a6 a7 a8 a9 a4 a10 = some ((.brk 6), ⟨fr 220 g4 [(0, .sl 2 a1 3 0 a2), (14, i6 x3_0)], [yE a6 a7, yE a8 a9, yE a1 x4_0]⟩)) apn))))))
  ·
   have k3 := ka [(28, .d false), (80, .d false), (133, .v (vi .u64 (Int.fdiv (IntKind.wrap .u64 (w6 (a3 + a5))) (2 ^ (min (Int.toNat 1) (IntKind.bits .u64))))))] (av h1 (av h2 (apc q0 apn)))
   apply bi h <;> intro h3 h
   ·
    apply bn h; intro r4 h4 h
    cases r4 with
    | k0 x4_0 =>
     obtain ⟨g4, e4⟩ := L66_0_2_run a1 a2 a3 a4 a5 (w6 (Int.fdiv (IntKind.wrap .u64 (w6 (a3 + a5))) (2 ^ (min (Int.toNat 1) (IntKind.bits .u64))))) (w6 ((w6 (Int.fdiv (IntKind.wrap .u64 (w6 (a3 + a5))) (2 ^ (min (Int.toNat 1) (IntKind.bits .u64))))) + a4)) (w6 ((w6 ((w6 (Int.fdiv (IntKind.wrap .u64 (w6 (a3 + a5))) (2 ^ (min (Int.toNat 1) (IntKind.bits .u64))))) + a4)) - 1)) a6 a7 a8 a9 a10 ((w6 ((w6 ((w6 (Int.fdiv (IntKind.wrap .u64 (w6 (a3 + a5))) (2 ^ (min (Int.toNat 1) (IntKind.bits .u64))))) + a4)) - a5)), (w6 (Int.fdiv (IntKind.wrap .u64 (w6 (a3 + a5))) (2 ^ (min (Int.toNat 1) (IntKind.bits .u64)))))) _ h4
     have q4 := (e4 : L66_0_2_e a1 a2 a3 a4 a5 (w6 (Int.fdiv (IntKind.wrap .u64 (w6 (a3 + a5))) (2 ^ (min (Int.toNat 1) (IntKind.bits .u64))))) (w6 ((w6 (Int.fdiv (IntKind.wrap .u64 (w6 (a3 + a5))) (2 ^ (min (Int.toNat 1) (IntKind.bits .u64))))) + a4)) (w6 ((w6 ((w6 (Int.fdiv (IntKind.wrap .u64 (w6 (a3 + a5))) (2 ^ (min (Int.toNat 1) (IntKind.bits .u64))))) + a4)) - 1)) a6 a7 a8 a9 a10 (w6 ((w6 ((w6 (Int.fdiv (IntKind.wrap .u64 (w6 (a3 + a5))) (2 ^ (min (Int.toNat 1) (IntKind.bits .u64))))) + a4)) - a5)) (w6 (Int.fdiv (IntKind.wrap .u64 (w6 (a3 + a5))) (2 ^ (min (Int.toNat 1) (IntKind.bits .u64))))) = some ((.brk 8), ⟨fr 220 g4 [(0, .sl 2 a1 3 0 a2), (1, i6 a3), (2, i6 a4), (3, i6 a5), (4, (.fn 44 [])), (18, (i6 (w6 (Int.fdiv (IntKind.wrap .u64 (w6 (a3 + a5))) (2 ^ (min (Int.toNat 1) (IntKind.bits .u64))))))), (19, (i6 (w6 ((w6 (Int.fdiv (IntKind.wrap .u64 (w6 (a3 + a5))) (2 ^ (min (Int.toNat 1) (IntKind.bits .u64))))) + a4)))), (20, i6 x4_0)], [yE a6 a7, yE a8 a9, yE a1 a10]⟩))
     have k5 := k3.a [(140, .d true), (2008, .l (.brk 8) ⟨fr 220 g4 [(0, .sl 2 a1 3 0 a2), (1, i6 a3), (2, i6 a4), (3, i6 a5), (4, (.fn 44 [])), (18, (i6 (w6 (Int.fdiv (IntKind.wrap .u64 (w6 (a3 + a5))) (2 ^ (min (Int.toNat 1) (IntKind.bits .u64))))))), (19, (i6 (w6 ((w6 (Int.fdiv (IntKind.wrap .u64 (w6 (a3 + a5))) (2 ^ (min (Int.toNat 1) (IntKind.bits .u64))))) + a4)))), (20, i6 x4_0)], [yE a6 a7, yE a8 a9, yE a1 a10]⟩)] (av h3 (apc q1 (apc q4 apn)))
     apply bi h <;> intro h5 h
     ·
      apply bi h <;> intro h6 h
      ·
       have k6 := k5.a [(180, .d true), (184, .d true)] (av h5 (av h6 apn))
       apply bn h; intro x7 h7 h
       have q7 := ((F70_2_ok a1 a2 x4_0 a4 (w6 ((w6 ((w6 (Int.fdiv (IntKind.wrap .u64 (w6 (a3 + a5))) (2 ^ (min (Int.toNat 1) (IntKind.bits .u64))))) + a4)) - x4_0)) a6 a7 a8 a9 a10 h7) : CS prg 70 [.sl 2 a1 3 0 a2, i6 x4_0, i6 a4, (i6 (w6 ((w6 ((w6 (Int.fdiv (IntKind.wrap .u64 (w6 (a3 + a5))) (2 ^ (min (Int.toNat 1) (IntKind.bits .u64))))) + a4)) - x4_0))), (.fn 44 [])] (F66_2_d5 a6 a7 a8 a9 a1 a10) = some ((.tup []), F66_2_d6 a6 a7 a8 a9 a1 x7))
       have k8 := k6.a [(191, .r (.tup []) (F66_2_d6 a6 a7 a8 a9 a1 x7))] (apc q7 apn)
       apply bi h <;> intro h8 h
       ·
        apply bi h <;> intro h9 h
        ·
         have k9 := k8.a [(194, .d true), (198, .d true)] (av h8 (av h9 apn))
         apply bn h; intro x10 h10 h
         have q10 := ((hF66_2 a1 a2 a3 x4_0 (w6 (Int.fdiv (IntKind.wrap .u64 (w6 (a3 + a5))) (2 ^ (min (Int.toNat 1) (IntKind.bits .u64))))) a6 a7 a8 a9 x7 h10) : CS prg 66 [.sl 2 a1 3 0 a2, i6 a3, i6 x4_0, (i6 (w6 (Int.fdiv (IntKind.wrap .u64 (w6 (a3 + a5))) (2 ^ (min (Int.toNat 1) (IntKind.bits .u64)))))), (.fn 44 [])] (F66_2_d6 a6 a7 a8 a9 a1 x7) = some ((.tup []), F66_2_d7 a6 a7 a8 a9 a1 x10))
         have k11 := k9.a [(205, .r (.tup []) (F66_2_d7 a6 a7 a8 a9 a1 x10))] (apc q10 apn)
         apply bi h <;> intro h11 h
         ·
          apply bi h <;> intro h12 h
          ·
           apply bn h; intro x13 h13 h
           rw [← sj h]
           exact fc ([(208, .d true), (212, .d true), (219, .r (.tup []) (F66_2_d8 a6 a7 a8 a9 a1 x13)), (6000, .d true)] ++ kH k11) (k11.b (av h11 (av h12 (apc ((hF66_2 a1 a2 (w6 (Int.fdiv (IntKind.wrap .u64 (w6 (a3 + a5))) (2 ^ (min (Int.toNat 1) (IntKind.bits .u64))))) (w6 ((w6 ((w6 (Int.fdiv (IntKind.wrap .u64 (w6 (a3 + a5))) (2 ^ (min (Int.toNat 1) (IntKind.bits .u64))))) + a4)) - x4_0)) a5 a6 a7 a8 a9 x10 h13) : CS prg 66 [.sl 2 a1 3 0 a2, (i6 (w6 (Int.fdiv (IntKind.wrap .u64 (w6 (a3 + a5))) (2 ^ (min (Int.toNat 1) (IntKind.bits .u64)))))), (i6 (w6 ((w6 ((w6 (Int.fdiv (IntKind.wrap .u64 (w6 (a3 + a5))) (2 ^ (min (Int.toNat 1) (IntKind.bits .u64))))) + a4)) - x4_0))), i6 a5, (.fn 44 [])] (F66_2_d7 a6 a7 a8 a9 a1 x10) = some ((.tup []), F66_2_d8 a6 a7 a8 a9 a1 x13)) apn))))
          ·
           rw [← sj h]
           exact fc ([(208, .d true), (212, .d false), (6000, .d true)] ++ kH k11) (k11.b (av h11 (av h12 apn)))
         ·
          rw [← sj h]
          exact fc ([(208, .d false), (6000, .d true)] ++ kH k11) (k11.b (av h11 apn))
        ·
         have k12 := k8.a [(194, .d true), (198, .d false)] (av h8 (av h9 apn))
         apply bi h <;> intro h10 h
         ·
          apply bi h <;> intro h11 h
          ·
           apply bn h; intro x12 h12 h
           rw [← sj h]
           exact fc ([(208, .d true), (212, .d true), (219, .r (.tup []) (F66_2_d9 a6 a7 a8 a9 a1 x12)), (6000, .d true)] ++ kH k12) (k12.b (av h10 (av h11 (apc ((hF66_2 a1 a2 (w6 (Int.fdiv (IntKind.wrap .u64 (w6 (a3 + a5))) (2 ^ (min (Int.toNat 1) (IntKind.bits .u64))))) (w6 ((w6 ((w6 (Int.fdiv (IntKind.wrap .u64 (w6 (a3 + a5))) (2 ^ (min (Int.toNat 1) (IntKind.bits .u64))))) + a4)) - x4_0)) a5 a6 a7 a8 a9 x7 h12) : CS prg 66 [.sl 2 a1 3 0 a2, (i6 (w6 (Int.fdiv (IntKind.wrap .u64 (w6 (a3 + a5))) (2 ^ (min (Int.toNat 1) (IntKind.bits .u64)))))), (i6 (w6 ((w6 ((w6 (Int.fdiv (IntKind.wrap .u64 (w6 (a3 + a5))) (2 ^ (min (Int.toNat 1) (IntKind.bits .u64))))) + a4)) - x4_0))), i6 a5, (.fn 44 [])] (F66_2_d6 a6 a7 a8 a9 a1 x7) = some ((.tup []), F66_2_d9 a6 a7 a8 a9 a1 x12)) apn))))
          ·
           rw [← sj h]
           exact fc ([(208, .d true), (212, .d false), (6000, .d true)] ++ kH k12) (k12.b (av h10 (av h11 apn)))
         ·
          rw [← sj h]
          exact fc ([(208, .d false), (6000, .d true)] ++ kH k12) (k12.b (av h10 apn))
       ·
        apply bi h <;> intro h9 h
        ·
         have k13 := k8.a [(194, .d false), (208, .d true)] (av h8 (av h9 apn))
         apply bi h <;> intro h10 h
         ·
          apply bn h; intro x11 h11 h
          rw [← sj h]
          exact fc ([(212, .d true), (219, .r (.tup []) (F66_2_d10 a6 a7 a8 a9 a1 x11)), (6000, .d true)] ++ kH k13) (k13.b (av h10 (apc ((hF66_2 a1 a2 (w6 (Int.fdiv (IntKind.wrap .u64 (w6 (a3 + a5))) (2 ^ (min (Int.toNat 1) (IntKind.bits .u64))))) (w6 ((w6 ((w6 (Int.fdiv (IntKind.wrap .u64 (w6 (a3 + a5))) (2 ^ (min (Int.toNat 1) (IntKind.bits .u64))))) + a4)) - x4_0)) a5 a6 a7 a8 a9 x7 h11) : CS prg 66 [.sl 2 a1 3 0 a2, (i6 (w6 (Int.fdiv (IntKind.wrap .u64 (w6 (a3 + a5))) (2 ^ (min (Int.toNat 1) (IntKind.bits .u64)))))), (i6 (w6 ((w6 ((w6 (Int.fdiv (IntKind.wrap .u64 (w6 (a3 + a5))) (2 ^ (min (Int.toNat 1) (IntKind.bits .u64))))) + a4)) - x4_0))), i6 a5, (.fn 44 [])] (F66_2_d6 a6 a7 a8 a9 a1 x7) = some ((.tup []), F66_2_d10 a6 a7 a8 a9 a1 x11)) apn)))
         ·
          rw [← sj h]
          exact fc ([(212, .d false), (6000, .d true)] ++ kH k13) (k13.b (av h10 apn))
        ·
         rw [← sj h]
         exact fc ([(194, .d false), (208, .d false), (6000, .d true)] ++ kH k8) (k8.b (av h8 (av h9 apn)))
      ·
       have k14 := k5.a [(180, .d true), (184, .d false)] (av h5 (av h6 apn))
       apply bi h <;> intro h7 h
       ·
        apply bi h <;> intro h8 h
        ·
         have k15 := k14.a [(194, .d true), (198, .d true)] (av h7 (av h8 apn))
         apply bn h; intro x9 h9 h
         have q16 := ((hF66_2 a1 a2 a3 x4_0 (w6 (Int.fdiv (IntKind.wrap .u64 (w6 (a3 + a5))) (2 ^ (min (Int.toNat 1) (IntKind.bits .u64))))) a6 a7 a8 a9 a10 h9) : CS prg 66 [.sl 2 a1 3 0 a2, i6 a3, i6 x4_0, (i6 (w6 (Int.fdiv (IntKind.wrap .u64 (w6 (a3 + a5))) (2 ^ (min (Int.toNat 1) (IntKind.bits .u64)))))), (.fn 44 [])] (F66_2_d5 a6 a7 a8 a9 a1 a10) = some ((.tup []), F66_2_d11 a6 a7 a8 a9 a1 x9))
         have k17 := k15.a [(205, .r (.tup []) (F66_2_d11 a6 a7 a8 a9 a1 x9))] (apc q16 apn)
         apply bi h <;> intro h10 h
         ·
          apply bi h <;> intro h11 h
          ·
           apply bn h; intro x12 h12 h
           rw [← sj h]
           exact fc ([(208, .d true), (212, .d true), (219, .r (.tup []) (F66_2_d9 a6 a7 a8 a9 a1 x12)), (6000, .d true)] ++ kH k17) (k17.b (av h10 (av h11 (apc ((hF66_2 a1 a2 (w6 (Int.fdiv (IntKind.wrap .u64 (w6 (a3 + a5))) (2 ^ (min (Int.toNat 1) (IntKind.bits .u64))))) (w6 ((w6 ((w6 (Int.fdiv (IntKind.wrap .u64 (w6 (a3 + a5))) (2 ^ (min (Int.toNat 1) (IntKind.bits .u64))))) + a4)) - x4_0)) a5 a6 a7 a8 a9 x9 h12) : CS prg 66 [.sl 2 a1 3 0 a2, (i6 (w6 (Int.fdiv (IntKind.wrap .u64 (w6 (a3 + a5))) (2 ^ (min (Int.toNat 1) (IntKind.bits .u64)))))), (i6 (w6 ((w6 ((w6 (Int.fdiv (IntKind.wrap .u64 (w6 (a3 + a5))) (2 ^ (min (Int.toNat 1) (IntKind.bits .u64))))) + a4)) - x4_0))), i6 a5, (.fn 44 [])] (F66_2_d11 a6 a7 a8 a9 a1 x9) = some ((.tup []), F66_2_d9 a6 a7 a8 a9 a1 x12)) apn))))
          ·
           rw [← sj h]
           exact fc ([(208, .d true), (212, .d false), (6000, .d true)] ++ kH k17) (k17.b (av h10 (av h11 apn)))
         ·
          rw [← sj h]
          exact fc ([(208, .d false), (6000, .d true)] ++ kH k17) (k17.b (av h10 apn))
        ·
         have k18 := k14.a [(194, .d true), (198, .d false)] (av h7 (av h8 apn))
         apply bi h <;> intro h9 h
         ·
          apply bi h <;> intro h10 h
          ·
           apply bn h; intro x11 h11 h
           rw [← sj h]
           exact fc ([(208, .d true), (212, .d true), (219, .r (.tup []) (F66_2_d10 a6 a7 a8 a9 a1 x11)), (6000, .d true)] ++ kH k18) (k18.b (av h9 (av h10 (apc ((hF66_2 a1 a2 (w6 (Int.fdiv (IntKind.wrap .u64 (w6 (a3 + a5))) (2 ^ (min (Int.toNat 1) (IntKind.bits .u64))))) (w6 ((w6 ((w6 (Int.fdiv (IntKind.wrap .u64 (w6 (a3 + a5))) (2 ^ (min (Int.toNat 1) (IntKind.bits .u64))))) + a4)) - x4_0)) a5 a6 a7 a8 a9 a10 h11) : CS prg 66 [.sl 2 a1 3 0 a2, (i6 (w6 (Int.fdiv (IntKind.wrap .u64 (w6 (a3 + a5))) (2 ^ (min (Int.toNat 1) (IntKind.bits .u64)))))), (i6 (w6 ((w6 ((w6 (Int.fdiv (IntKind.wrap .u64 (w6 (a3 + a5))) (2 ^ (min (Int.toNat 1) (IntKind.bits .u64))))) + a4)) - x4_0))), i6 a5, (.fn 44 [])] (F66_2_d5 a6 a7 a8 a9 a1 a10) = some ((.tup []), F66_2_d10 a6 a7 a8 a9 a1 x11)) apn))))
          ·
           rw [← sj h]
           exact fc ([(208, .d true), (212, .d false), (6000, .d true)] ++ kH k18) (k18.b (av h9 (av h10 apn)))
         ·
          rw [← sj h]
          exact fc ([(208, .d false), (6000, .d true)] ++ kH k18) (k18.b (av h9 apn))
       ·
        apply bi h <;> intro h8 h
        ·
         have k19 := k14.a [(194, .d false), (208, .d true)] (av h7 (av h8 apn))
         apply bi h <;> intro h9 h
         ·
          apply bn h; intro x10 h10 h
          rw [← sj h]
          exact fc ([(212, .d true), (219, .r (.tup []) (F66_2_d7 a6 a7 a8 a9 a1 x10)), (6000, .d true)] ++ kH k19) (k19.b (av h9 (apc ((hF66_2 a1 a2 (w6 (Int.fdiv (IntKind.wrap .u64 (w6 (a3 + a5))) (2 ^ (min (Int.toNat 1) (IntKind.bits .u64))))) (w6 ((w6 ((w6 (Int.fdiv (IntKind.wrap .u64 (w6 (a3 + a5))) (2 ^ (min (Int.toNat 1) (IntKind.bits .u64))))) + a4)) - x4_0)) a5 a6 a7 a8 a9 a10 h10) : CS prg 66 [.sl 2 a1 3 0 a2, (i6 (w6 (Int.fdiv (IntKind.wrap .u64 (w6 (a3 + a5))) (2 ^ (min (Int.toNat 1) (IntKind.bits .u64)))))), (i6 (w6 ((w6 ((w6 (Int.fdiv (IntKind.wrap .u64 (w6 (a3 + a5))) (2 ^ (min (Int.toNat 1) (IntKind.bits .u64))))) + a4)) - x4_0))), i6 a5, (.fn 44 [])] (F66_2_d5 a6 a7 a8 a9 a1 a10) = some ((.tup []), F66_2_d7 a6 a7 a8 a9 a1 x10)) apn)))
         ·
          rw [← sj h]
          exact fc ([(212, .d false), (6000, .d true)] ++ kH k19) (k19.b (av h9 apn))
        ·
         rw [← sj h]
         exact fc ([(194, .d false), (208, .d false), (6000, .d true)] ++ kH k14) (k14.b (av h7 (av h8 apn)))
     ·
      apply bi h <;> intro h6 h
      ·
       have k20 := k5.a [(180, .d false), (194, .d true)] (av h5 (av h6 apn))
       apply bi h <;> intro h7 h
       ·
        apply bn h; intro x8 h8 h
        have q21 := ((hF66_2 a1 a2 a3 x4_0 (w6 (Int.fdiv (IntKind.wrap .u64 (w6 (a3 + a5))) (2 ^ (min (Int.toNat 1) (IntKind.bits .u64))))) a6 a7 a8 a9 a10 h8) : CS prg 66 [.sl 2 a1 3 0 a2, i6 a3, i6 x4_0, (i6 (w6 (Int.fdiv (IntKind.wrap .u64 (w6 (a3 + a5))) (2 ^ (min (Int.toNat 1) (IntKind.bits .u64)))))), (.fn 44 [])] (F66_2_d5 a6 a7 a8 a9 a1 a10) = some ((.tup []), F66_2_d12 a6 a7 a8 a9 a1 x8))
        have k22 := k20.a [(198, .d true), (205, .r (.tup []) (F66_2_d12 a6 a7 a8 a9 a1 x8))] (av h7 (apc q21 apn))
        apply bi h <;> intro h9 h
        ·
         apply bi h <;> intro h10 h
         ·
          apply bn h; intro x11 h11 h
          rw [← sj h]
          exact fc ([(208, .d true), (212, .d true), (219, .r (.tup []) (F66_2_d10 a6 a7 a8 a9 a1 x11)), (6000, .d true)] ++ kH k22) (k22.b (av h9 (av h10 (apc ((hF66_2 a1 a2 (w6 (Int.fdiv (IntKind.wrap .u64 (w6 (a3 + a5))) (2 ^ (min (Int.toNat 1) (IntKind.bits .u64))))) (w6 ((w6 ((w6 (Int.fdiv (IntKind.wrap .u64 (w6 (a3 + a5))) (2 ^ (min (Int.toNat 1) (IntKind.bits .u64))))) + a4)) - x4_0)) a5 a6 a7 a8 a9 x8 h11) : CS prg 66 [.sl 2 a1 3 0 a2, (i6 (w6 (Int.fdiv (IntKind.wrap .u64 (w6 (a3 + a5))) (2 ^ (min (Int.toNat 1) (IntKind.bits .u64)))))), (i6 (w6 ((w6 ((w6 (Int.fdiv (IntKind.wrap .u64 (w6 (a3 + a5))) (2 ^ (min (Int.toNat 1) (IntKind.bits .u64))))) + a4)) - x4_0))), i6 a5, (.fn 44 [])] (F66_2_d12 a6 a7 a8 a9 a1 x8) = some ((.tup []), F66_2_d10 a6 a7 a8 a9 a1 x11)) apn))))
         ·
          rw [← sj h]
          exact fc ([(208, .d true), (212, .d false), (6000, .d true)] ++ kH k22) (k22.b (av h9 (av h10 apn)))
        ·
         rw [← sj h]
         exact fc ([(208, .d false), (6000, .d true)] ++ kH k22) (k22.b (av h9 apn))
       ·
        apply bi h <;> intro h8 h
        ·
         have k23 := k20.a [(198, .d false), (208, .d true)] (av h7 (av h8 apn))
         apply bi h <;> intro h9 h
         ·
          apply bn h; intro x10 h10 h
          rw [← sj h]
          exact fc ([(212, .d true), (219, .r (.tup []) (F66_2_d7 a6 a7 a8 a9 a1 x10)), (6000, .d true)] ++ kH k23) (k23.b (av h9 (apc ((hF66_2 a1 a2 (w6 (Int.fdiv (IntKind.wrap .u64 (w6 (a3 + a5))) (2 ^ (min (Int.toNat 1) (IntKind.bits .u64))))) (w6 ((w6 ((w6 (Int.fdiv (IntKind.wrap .u64 (w6 (a3 + a5))) (2 ^ (min (Int.toNat 1) (IntKind.bits .u64))))) + a4)) - x4_0)) a5 a6 a7 a8 a9 a10 h10) : CS prg 66 [.sl 2 a1 3 0 a2, (i6 (w6 (Int.fdiv (IntKind.wrap .u64 (w6 (a3 + a5))) (2 ^ (min (Int.toNat 1) (IntKind.bits .u64)))))), (i6 (w6 ((w6 ((w6 (Int.fdiv (IntKind.wrap .u64 (w6 (a3 + a5))) (2 ^ (min (Int.toNat 1) (IntKind.bits .u64))))) + a4)) - x4_0))), i6 a5, (.fn 44 [])] (F66_2_d5 a6 a7 a8 a9 a1 a10) = some ((.tup []), F66_2_d7 a6 a7 a8 a9 a1 x10)) apn)))
         ·
          rw [← sj h]
          exact fc ([(212, .d false), (6000, .d true)] ++ kH k23) (k23.b (av h9 apn))
        ·
         rw [← sj h]
         exact fc ([(198, .d false), (208, .d false), (6000, .d true)] ++ kH k20) (k20.b (av h7 (av h8 apn)))
      ·
       have k24 := k5.a [(180, .d false), (194, .d false)] (av h5 (av h6 apn))
       apply bi h <;> intro h7 h
       ·
        apply bi h <;> intro h8 h
        ·
         apply bn h; intro x9 h9 h
         rw [← sj h]
         exact fc ([(208, .d true), (212, .d true), (219, .r (.tup []) (F66_2_d11 a6 a7 a8 a9 a1 x9)), (6000, .d true)] ++ kH k24) (k24.b (av h7 (av h8 (apc ((hF66_2 a1 a2 (w6 (Int.fdiv (IntKind.wrap .u64 (w6 (a3 + a5))) (2 ^ (min (Int.toNat 1) (IntKind.bits .u64))))) (w6 ((w6 ((w6 (Int.fdiv (IntKind.wrap .u64 (w6 (a3 + a5))) (2 ^ (min (Int.toNat 1) (IntKind.bits .u64))))) + a4)) - x4_0)) a5 a6 a7 a8 a9 a10 h9) : CS prg 66 [.sl 2 a1 3 0 a2, (i6 (w6 (Int.fdiv (IntKind.wrap .u64 (w6 (a3 + a5))) (2 ^ (min (Int.toNat 1) (IntKind.bits .u64)))))), (i6 (w6 ((w6 ((w6 (Int.fdiv (IntKind.wrap .u64 (w6 (a3 + a5))) (2 ^ (min (Int.toNat 1) (IntKind.bits .u64))))) + a4)) - x4_0))), i6 a5, (.fn 44 [])] (F66_2_d5 a6 a7 a8 a9 a1 a10) = some ((.tup []), F66_2_d11 a6 a7 a8 a9 a1 x9)) apn))))
        ·
         rw [← sj h]
         exact fc ([(208, .d true), (212, .d false), (6000, .d true)] ++ kH k24) (k24.b (av h7 (av h8 apn)))
       ·
        rw [← sj h]
        exact fc ([(208, .d false), (6000, .d true)] ++ kH k24) (k24.b (av h7 apn))
   ·
    apply bn h; intro r4 h4 h
    cases r4 with
    | k0 x4_0 =>
     obtain ⟨g4, e4⟩ := L66_0_3_run a1 a2 a3 a4 a5 (w6 (Int.fdiv (IntKind.wrap .u64 (w6 (a3 + a5))) (2 ^ (min (Int.toNat 1) (IntKind.bits .u64))))) (w6 ((w6 (Int.fdiv (IntKind.wrap .u64 (w6 (a3 + a5))) (2 ^ (min (Int.toNat 1) (IntKind.bits .u64))))) + a4)) (w6 ((w6 ((w6 (Int.fdiv (IntKind.wrap .u64 (w6 (a3 + a5))) (2 ^ (min (Int.toNat 1) (IntKind.bits .u64))))) + a4)) - 1)) a6 a7 a8 a9 a10 (a3, a4) _ h4
     have q25 := (e4 : L66_0_3_e a1 a2 a3 a4 a5 (w6 (Int.fdiv (IntKind.wrap .u64 (w6 (a3 + a5))) (2 ^ (min (Int.toNat 1) (IntKind.bits .u64))))) (w6 ((w6 (Int.fdiv (IntKind.wrap .u64 (w6 (a3 + a5))) (2 ^ (min (Int.toNat 1) (IntKind.bits .u64))))) + a4)) (w6 ((w6 ((w6 (Int.fdiv (IntKind.wrap .u64 (w6 (a3 + a5))) (2 ^ (min (Int.toNat 1) (IntKind.bits .u64))))) + a4)) - 1)) a6 a7 a8 a9 a10 a3 a4 = some ((.brk 8), ⟨fr 220 g4 [(0, .sl 2 a1 3 0 a2), (1, i6 a3), (2, i6 a4), (3, i6 a5), (4, (.fn 44 [])), (18, (i6 (w6 (Int.fdiv (IntKind.wrap .u64 (w6 (a3 + a5))) (2 ^ (min (Int.toNat 1) (IntKind.bits .u64))))))), (19, (i6 (w6 ((w6 (Int.fdiv (IntKind.wrap .u64 (w6 (a3 + a5))) (2 ^ (min (Int.toNat 1) (IntKind.bits .u64))))) + a4)))), (20, i6 x4_0)], [yE a6 a7, yE a8 a9, yE a1 a10]⟩))
     have k26 := k3.a [(140, .d false), (2008, .l (.brk 8) ⟨fr 220 g4 [(0, .sl 2 a1 3 0 a2), (1, i6 a3), (2, i6 a4), (3, i6 a5), (4, (.fn 44 [])), (18, (i6 (w6 (Int.fdiv (IntKind.wrap .u64 (w6 (a3 + a5))) (2 ^ (min (Int.toNat 1) (IntKind.bits .u64))))))), (19, (i6 (w6 ((w6 (Int.fdiv (IntKind.wrap .u64 (w6 (a3 + a5))) (2 ^ (min (Int.toNat 1) (IntKind.bits .u64))))) + a4)))), (20, i6 x4_0)], [yE a6 a7, yE a8 a9, yE a1 a10]⟩)] (av h3 (apc q2 (apc q25 apn)))
     apply bi h <;> intro h5 h
     ·
      apply bi h <;> intro h6 h
      ·
       have k27 := k26.a [(180, .d true), (184, .d true)] (av h5 (av h6 apn))
       apply bn h; intro x7 h7 h
       have q28 := ((F70_2_ok a1 a2 x4_0 a4 (w6 ((w6 ((w6 (Int.fdiv (IntKind.wrap .u64 (w6 (a3 + a5))) (2 ^ (min (Int.toNat 1) (IntKind.bits .u64))))) + a4)) - x4_0)) a6 a7 a8 a9 a10 h7) : CS prg 70 [.sl 2 a1 3 0 a2, i6 x4_0, i6 a4, (i6 (w6 ((w6 ((w6 (Int.fdiv (IntKind.wrap .u64 (w6 (a3 + a5))) (2 ^ (min (Int.toNat 1) (IntKind.bits .u64))))) + a4)) - x4_0))), (.fn 44 [])] (F66_2_d5 a6 a7 a8 a9 a1 a10) = some ((.tup []), F66_2_d6 a6 a7 a8 a9 a1 x7))
       have k29 := k27.a [(191, .r (.tup []) (F66_2_d6 a6 a7 a8 a9 a1 x7))] (apc q28 apn)
       apply bi h <;> intro h8 h
       ·
        apply bi h <;> intro h9 h
        ·
         have k30 := k29.a [(194, .d true), (198, .d true)] (av h8 (av h9 apn))
         apply bn h; intro x10 h10 h
         have q31 := ((hF66_2 a1 a2 a3 x4_0 (w6 (Int.fdiv (IntKind.wrap .u64 (w6 (a3 + a5))) (2 ^ (min (Int.toNat 1) (IntKind.bits .u64))))) a6 a7 a8 a9 x7 h10) : CS prg 66 [.sl 2 a1 3 0 a2, i6 a3, i6 x4_0, (i6 (w6 (Int.fdiv (IntKind.wrap .u64 (w6 (a3 + a5))) (2 ^ (min (Int.toNat 1) (IntKind.bits .u64)))))), (.fn 44 [])] (F66_2_d6 a6 a7 a8 a9 a1 x7) = some ((.tup []), F66_2_d7 a6 a7 a8 a9 a1 x10))
         have k32 := k30.a [(205, .r (.tup []) (F66_2_d7 a6 a7 a8 a9 a1 x10))] (apc q31 apn)
         apply bi h <;> intro h11 h
         ·
          apply bi h <;> intro h12 h
          ·
           apply bn h; intro x13 h13 h
           rw [← sj h]
           exact fc ([(208, .d true), (212, .d true), (219, .r (.tup []) (F66_2_d8 a6 a7 a8 a9 a1 x13)), (6000, .d true)] ++ kH k32) (k32.b (av h11 (av h12 (apc ((hF66_2 a1 a2 (w6 (Int.fdiv (IntKind.wrap .u64 (w6 (a3 + a5))) (2 ^ (min (Int.toNat 1) (IntKind.bits .u64))))) (w6 ((w6 ((w6 (Int.fdiv (IntKind.wrap .u64 (w6 (a3 + a5))) (2 ^ (min (Int.toNat 1) (IntKind.bits .u64))))) + a4)) - x4_0)) a5 a6 a7 a8 a9 x10 h13) : CS prg 66 [.sl 2 a1 3 0 a2, (i6 (w6 (Int.fdiv (IntKind.wrap .u64 (w6 (a3 + a5))) (2 ^ (min (Int.toNat 1) (IntKind.bits .u64)))))), (i6 (w6 ((w6 ((w6 (Int.fdiv (IntKind.wrap .u64 (w6 (a3 + a5))) (2 ^ (min (Int.toNat 1) (IntKind.bits .u64))))) + a4)) - x4_0))), i6 a5, (.fn 44 [])] (F66_2_d7 a6 a7 a8 a9 a1 x10) = some ((.tup []), F66_2_d8 a6 a7 a8 a9 a1 x13)) apn))))
          ·
           rw [← sj h]
           exact fc ([(208, .d true), (212, .d false), (6000, .d true)] ++ kH k32) (k32.b (av h11 (av h12 apn)))
         ·
          rw [← sj h]
          exact fc ([(208, .d false), (6000, .d true)] ++ kH k32) (k32.b (av h11 apn))
        ·
         have k33 := k29.a [(194, .d true), (198, .d false)] (av h8 (av h9 apn))
         apply bi h <;> intro h10 h
         ·
          apply bi h <;> intro h11 h
          ·
           apply bn h; intro x12 h12 h
           rw [← sj h]
           exact fc ([(208, .d true), (212, .d true), (219, .r (.tup []) (F66_2_d9 a6 a7 a8 a9 a1 x12)), (6000, .d true)] ++ kH k33) (k33.b (av h10 (av h11 (apc ((hF66_2 a1 a2 (w6 (Int.fdiv (IntKind.wrap .u64 (w6 (a3 + a5))) (2 ^ (min (Int.toNat 1) (IntKind.bits .u64))))) (w6 ((w6 ((w6 (Int.fdiv (IntKind.wrap .u64 (w6 (a3 + a5))) (2 ^ (min (Int.toNat 1) (IntKind.bits .u64))))) + a4)) - x4_0)) a5 a6 a7 a8 a9 x7 h12) : CS prg 66 [.sl 2 a1 3 0 a2, (i6 (w6 (Int.fdiv (IntKind.wrap .u64 (w6 (a3 + a5))) (2 ^ (min (Int.toNat 1) (IntKind.bits .u64)))))), (i6 (w6 ((w6 ((w6 (Int.fdiv (IntKind.wrap .u64 (w6 (a3 + a5))) (2 ^ (min (Int.toNat 1) (IntKind.bits .u64))))) + a4)) - x4_0))), i6 a5, (.fn 44 [])] (F66_2_d6 a6 a7 a8 a9 a1 x7) = some ((.tup []), F66_2_d9 a6 a7 a8 a9 a1 x12)) apn))))
          ·
           rw [← sj h]
           exact fc ([(208, .d true), (212, .d false), (6000, .d true)] ++ kH k33) (k33.b (av h10 (av h11 apn)))
         ·
          rw [← sj h]
          exact fc ([(208, .d false), (6000, .d true)] ++ kH k33) (k33.b (av h10 apn))
       ·
        apply bi h <;> intro h9 h
        ·
         have k34 := k29.a [(194, .d false), (208, .d true)] (av h8 (av h9 apn))
         apply bi h <;> intro h10 h
         ·
          apply bn h; intro x11 h11 h
          rw [← sj h]
          exact fc ([(212, .d true), (219, .r (.tup []) (F66_2_d10 a6 a7 a8 a9 a1 x11)), (6000, .d true)] ++ kH k34) (k34.b (av h10 (apc ((hF66_2 a1 a2 (w6 (Int.fdiv (IntKind.wrap .u64 (w6 (a3 + a5))) (2 ^ (min (Int.toNat 1) (IntKind.bits .u64))))) (w6 ((w6 ((w6 (Int.fdiv (IntKind.wrap .u64 (w6 (a3 + a5))) (2 ^ (min (Int.toNat 1) (IntKind.bits .u64))))) + a4)) - x4_0)) a5 a6 a7 a8 a9 x7 h11) : CS prg 66 [.sl 2 a1 3 0 a2, (i6 (w6 (Int.fdiv (IntKind.wrap .u64 (w6 (a3 + a5))) (2 ^ (min (Int.toNat 1) (IntKind.bits .u64)))))), (i6 (w6 ((w6 ((w6 (Int.fdiv (IntKind.wrap .u64 (w6 (a3 + a5))) (2 ^ (min (Int.toNat 1) (IntKind.bits .u64))))) + a4)) - x4_0))), i6 a5, (.fn 44 [])] (F66_2_d6 a6 a7 a8 a9 a1 x7) = some ((.tup []), F66_2_d10 a6 a7 a8 a9 a1 x11)) apn)))
         ·
          rw [← sj h]
          exact fc ([(212, .d false), (6000, .d true)] ++ kH k34) (k34.b (av h10 apn))
        ·
         rw [← sj h]
         exact fc ([(194, .d false), (208, .d false), (6000, .d true)] ++ kH k29) (k29.b (av h8 (av h9 apn)))
      ·
       have k35 := k26.a [(180, .d true), (184, .d false)] (av h5 (av h6 apn))
       apply bi h <;> intro h7 h
       ·
        apply bi h <;> intro h8 h
        ·
         have k36 := k35.a [(194, .d true), (198, .d true)] (av h7 (av h8 apn))
         apply bn h; intro x9 h9 h
         have q37 := ((hF66_2 a1 a2 a3 x4_0 (w6 (Int.fdiv (IntKind.wrap .u64 (w6 (a3 + a5))) (2 ^ (min (Int.toNat 1) (IntKind.bits .u64))))) a6 a7 a8 a9 a10 h9) : CS prg 66 [.sl 2 a1 3 0 a2, i6 a3, i6 x4_0, (i6 (w6 (Int.fdiv (IntKind.wrap .u64 (w6 (a3 + a5))) (2 ^ (min (Int.toNat 1) (IntKind.bits .u64)))))), (.fn 44 [])] (F66_2_d5 a6 a7 a8 a9 a1 a10) = some ((.tup []), F66_2_d11 a6 a7 a8 a9 a1 x9))
         have k38 := k36.a [(205, .r (.tup []) (F66_2_d11 a6 a7 a8 a9 a1 x9))] (apc q37 apn)
         apply bi h <;> intro h10 h
         ·
          apply bi h <;> intro h11 h
          ·
           apply bn h; intro x12 h12 h
           rw [← sj h]
           exact fc ([(208, .d true), (212, .d true), (219, .r (.tup []) (F66_2_d9 a6 a7 a8 a9 a1 x12)), (6000, .d true)] ++ kH k38) (k38.b (av h10 (av h11 (apc ((hF66_2 a1 a2 (w6 (Int.fdiv (IntKind.wrap .u64 (w6 (a3 + a5))) (2 ^ (min (Int.toNat 1) (IntKind.bits .u64))))) (w6 ((w6 ((w6 (Int.fdiv (IntKind.wrap .u64 (w6 (a3 + a5))) (2 ^ (min (Int.toNat 1) (IntKind.bits .u64))))) + a4)) - x4_0)) a5 a6 a7 a8 a9 x9 h12) : CS prg 66 [.sl 2 a1 3 0 a2, (i6 (w6 (Int.fdiv (IntKind.wrap .u64 (w6 (a3 + a5))) (2 ^ (min (Int.toNat 1) (IntKind.bits .u64)))))), (i6 (w6 ((w6 ((w6 (Int.fdiv (IntKind.wrap .u64 (w6 (a3 + a5))) (2 ^ (min (Int.toNat 1) (IntKind.bits .u64))))) + a4)) - x4_0))), i6 a5, (.fn 44 [])] (F66_2_d11 a6 a7 a8 a9 a1 x9) = some ((.tup []), F66_2_d9 a6 a7 a8 a9 a1 x12)) apn))))
          ·
           rw [← sj h]
           exact fc ([(208, .d true), (212, .d false), (6000, .d true)] ++ kH k38) (k38.b (av h10 (av h11 apn)))
         ·
          rw [← sj h]
          exact fc ([(208, .d false), (6000, .d true)] ++ kH k38) (k38.b (av h10 apn))
        ·
         have k39 := k35.a [(194, .d true), (198, .d false)] (av h7 (av h8 apn))
         apply bi h <;> intro h9 h
         ·
          apply bi h <;> intro h10 h
          ·
           apply bn h; intro x11 h11 h
           rw [← sj h]
           exact fc ([(208, .d true), (212, .d true), (219, .r (.tup []) (F66_2_d10 a6 a7 a8 a9 a1 x11)), (6000, .d true)] ++ kH k39) (k39.b (av h9 (av h10 (apc ((hF66_2 a1 a2 (w6 (Int.fdiv (IntKind.wrap .u64 (w6 (a3 + a5))) (2 ^ (min (Int.toNat 1) (IntKind.bits .u64))))) (w6 ((w6 ((w6 (Int.fdiv (IntKind.wrap .u64 (w6 (a3 + a5))) (2 ^ (min (Int.toNat 1) (IntKind.bits .u64))))) + a4)) - x4_0)) a5 a6 a7 a8 a9 a10 h11) : CS prg 66 [.sl 2 a1 3 0 a2, (i6 (w6 (Int.fdiv (IntKind.wrap .u64 (w6 (a3 + a5))) (2 ^ (min (Int.toNat 1) (IntKind.bits .u64)))))), (i6 (w6 ((w6 ((w6 (Int.fdiv (IntKind.wrap .u64 (w6 (a3 + a5))) (2 ^ (min (Int.toNat 1) (IntKind.bits .u64))))) + a4)) - x4_0))), i6 a5, (.fn 44 [])] (F66_2_d5 a6 a7 a8 a9 a1 a10) = some ((.tup []), F66_2_d10 a6 a7 a8 a9 a1 x11)) apn))))
          ·
           rw [← sj h]
           exact fc ([(208, .d true), (212, .d false), (6000, .d true)] ++ kH k39) (k39.b (av h9 (av h10 apn)))
         ·
          rw [← sj h]
          exact fc ([(208, .d false), (6000, .d true)] ++ kH k39) (k39.b (av h9 apn))
       ·
        apply bi h <;> intro h8 h
        ·
         have k40 := k35.a [(194, .d false), (208, .d true)] (av h7 (av h8 apn))
         apply bi h <;> intro h9 h
         ·
          apply bn h; intro x10 h10 h
          rw [← sj h]
          exact fc ([(212, .d true), (219, .r (.tup []) (F66_2_d7 a6 a7 a8 a9 a1 x10)), (6000, .d true)] ++ kH k40) (k40.b (av h9 (apc ((hF66_2 a1 a2 (w6 (Int.fdiv (IntKind.wrap .u64 (w6 (a3 + a5))) (2 ^ (min (Int.toNat 1) (IntKind.bits .u64))))) (w6 ((w6 ((w6 (Int.fdiv (IntKind.wrap .u64 (w6 (a3 + a5))) (2 ^ (min (Int.toNat 1) (IntKind.bits .u64))))) + a4)) - x4_0)) a5 a6 a7 a8 a9 a10 h10) : CS prg 66 [.sl 2 a1 3 0 a2, (i6 (w6 (Int.fdiv (IntKind.wrap .u64 (w6 (a3 + a5))) (2 ^ (min (Int.toNat 1) (IntKind.bits .u64)))))), (i6 (w6 ((w6 ((w6 (Int.fdiv (IntKind.wrap .u64 (w6 (a3 + a5))) (2 ^ (min (Int.toNat 1) (IntKind.bits .u64))))) + a4)) - x4_0))), i6 a5, (.fn 44 [])] (F66_2_d5 a6 a7 a8 a9 a1 a10) = some ((.tup []), F66_2_d7 a6 a7 a8 a9 a1 x10)) apn)))
         ·
          rw [← sj h]
          exact fc ([(212, .d false), (6000, .d true)] ++ kH k40) (k40.b (av h9 apn))
        ·
         rw [← sj h]
         exact fc ([(194, .d false), (208, .d false), (6000, .d true)] ++ kH k35) (k35.b (av h7 (av h8 apn)))
     ·
      apply bi h <;> intro h6 h
      ·
       have k41 := k26.a [(180, .d false), (194, .d true)] (av h5 (av h6 apn))
       apply bi h <;> intro h7 h
       ·
        apply bn h; intro x8 h8 h
        have q42 := ((hF66_2 a1 a2 a3 x4_0 (w6 (Int.fdiv (IntKind.wrap .u64 (w6 (a3 + a5))) (2 ^ (min (Int.toNat 1) (IntKind.bits .u64))))) a6 a7 a8 a9 a10 h8) : CS prg 66 [.sl 2 a1 3 0 a2, i6 a3, i6 x4_0, (i6 (w6 (Int.fdiv (IntKind.wrap .u64 (w6 (a3 + a5))) (2 ^ (min (Int.toNat 1) (IntKind.bits .u64)))))), (.fn 44 [])] (F66_2_d5 a6 a7 a8 a9 a1 a10) = some ((.tup []), F66_2_d12 a6 a7 a8 a9 a1 x8))
        have k43 := k41.a [(198, .d true), (205, .r (.tup []) (F66_2_d12 a6 a7 a8 a9 a1 x8))] (av h7 (apc q42 apn))
        apply bi h <;> intro h9 h
        ·
         apply bi h <;> intro h10 h
         ·
          apply bn h; intro x11 h11 h
          rw [← sj h]
          exact fc ([(208, .d true), (212, .d true), (219, .r (.tup []) (F66_2_d10 a6 a7 a8 a9 a1 x11)), (6000, .d true)] ++ kH k43) (k43.b (av h9 (av h10 (apc ((hF66_2 a1 a2 (w6 (Int.fdiv (IntKind.wrap .u64 (w6 (a3 + a5))) (2 ^ (min (Int.toNat 1) (IntKind.bits .u64))))) (w6 ((w6 ((w6 (Int.fdiv (IntKind.wrap .u64 (w6 (a3 + a5))) (2 ^ (min (Int.toNat 1) (IntKind.bits .u64))))) + a4)) - x4_0)) a5 a6 a7 a8 a9 x8 h11) : CS prg 66 [.sl 2 a1 3 0 a2, (i6 (w6 (Int.fdiv (IntKind.wrap .u64 (w6 (a3 + a5))) (2 ^ (min (Int.toNat 1) (IntKind.bits .u64)))))), (i6 (w6 ((w6 ((w6 (Int.fdiv (IntKind.wrap .u64 (w6 (a3 + a5))) (2 ^ (min (Int.toNat 1) (IntKind.bits .u64))))) + a4)) - x4_0))), i6 a5, (.fn 44 [])] (F66_2_d12 a6 a7 a8 a9 a1 x8) = some ((.tup []), F66_2_d10 a6 a7 a8 a9 a1 x11)) apn))))
         ·
          rw [← sj h]
          exact fc ([(208, .d true), (212, .d false), (6000, .d true)] ++ kH k43) (k43.b (av h9 (av h10 apn)))
        ·
         rw [← sj h]
         exact fc ([(208, .d false), (6000, .d true)] ++ kH k43) (k43.b (av h9 apn))
       ·
        apply bi h <;> intro h8 h
        ·
         have k44 := k41.a [(198, .d false), (208, .d true)] (av h7 (av h8 apn))
         apply bi h <;> intro h9 h
         ·
          apply bn h; intro x10 h10 h
          rw [← sj h]
          exact fc ([(212, .d true), (219, .r (.tup []) (F66_2_d7 a6 a7 a8 a9 a1 x10)), (6000, .d true)] ++ kH k44) (k44.b (av h9 (apc ((hF66_2 a1 a2 (w6 (Int.fdiv (IntKind.wrap .u64 (w6 (a3 + a5))) (2 ^ (min (Int.toNat 1) (IntKind.bits .u64))))) (w6 ((w6 ((w6 (Int.fdiv (IntKind.wrap .u64 (w6 (a3 + a5))) (2 ^ (min (Int.toNat 1) (IntKind.bits .u64))))) + a4)) - x4_0)) a5 a6 a7 a8 a9 a10 h10) : CS prg 66 [.sl 2 a1 3 0 a2, (i6 (w6 (Int.fdiv (IntKind.wrap .u64 (w6 (a3 + a5))) (2 ^ (min (Int.toNat 1) (IntKind.bits .u64)))))), (i6 (w6 ((w6 ((w6 (Int.fdiv (IntKind.wrap .u64 (w6 (a3 + a5))) (2 ^ (min (Int.toNat 1) (IntKind.bits .u64))))) + a4)) - x4_0))), i6 a5, (.fn 44 [])] (F66_2_d5 a6 a7 a8 a9 a1 a10) = some ((.tup []), F66_2_d7 a6 a7 a8 a9 a1 x10)) apn)))
         ·
          rw [← sj h]
          exact fc ([(212, .d false), (6000, .d true)] ++ kH k44) (k44.b (av h9 apn))
        ·
         rw [← sj h]
         exact fc ([(198, .d false), (208, .d false), (6000, .d true)] ++ kH k41) (k41.b (av h7 (av h8 apn)))
      ·
       have k45 := k26.a [(180, .d false), (194, .d false)] (av h5 (av h6 apn))
       apply bi h <;> intro h7 h
       ·
        apply bi h <;> intro h8 h
        ·
         apply bn h; intro x9 h9 h
         rw [← sj h]
         exact fc ([(208, .d true), (212, .d true), (219, .r (.tup []) (F66_2_d11 a6 a7 a8 a9 a1 x9)), (6000, .d true)] ++ kH k45) (k45.b (av h7 (av h8 (apc ((hF66_2 a1 a2 (w6 (Int.fdiv (IntKind.wrap .u64 (w6 (a3 + a5))) (2 ^ (min (Int.toNat 1) (IntKind.bits .u64))))) (w6 ((w6 ((w6 (Int.fdiv (IntKind.wrap .u64 (w6 (a3 + a5))) (2 ^ (min (Int.toNat 1) (IntKind.bits .u64))))) + a4)) - x4_0)) a5 a6 a7 a8 a9 a10 h9) : CS prg 66 [.sl 2 a1 3 0 a2, (i6 (w6 (Int.fdiv (IntKind.wrap .u64 (w6 (a3 + a5))) (2 ^ (min (Int.toNat 1) (IntKind.bits .u64)))))), (i6 (w6 ((w6 ((w6 (Int.fdiv (IntKind.wrap .u64 (w6 (a3 + a5))) (2 ^ (min (Int.toNat 1) (IntKind.bits .u64))))) + a4)) - x4_0))), i6 a5, (.fn 44 [])] (F66_2_d5 a6 a7 a8 a9 a1 a10) = some ((.tup []), F66_2_d11 a6 a7 a8 a9 a1 x9)) apn))))
        ·
         rw [← sj h]
         exact fc ([(208, .d true), (212, .d false), (6000, .d true)] ++ kH k45) (k45.b (av h7 (av h8 apn)))
       ·
        rw [← sj h]
        exact fc ([(208, .d false), (6000, .d true)] ++ kH k45) (k45.b (av h7 apn))
def F66_2 : Nat → T_F66_2
  | 0 => fun _ _ _ _ _ _ _ _ _ _ => none
  | Nf + 1 => F66_2_b (F66_2 Nf)
theorem F66_2_ok (Nf : Nat) : H_F66_2 (F66_2 Nf) := by
  induction Nf with
  | zero => intro a1 a2 a3 a4 a5 a6 a7 a8 a9 a10 r h; have h : (none : Option (List EditD)) = some r := h; cases h
  | succ Nf ih => intro a1 a2 a3 a4 a5 a6 a7 a8 a9 a10 r h; exact F66_2_bok (F66_2 Nf) ih a1 a2 a3 a4 a5 a6 a7 a8 a9 a10 h
inductive E_L55_0_2 where
  | k0 (x0 x1 : Int) (x2 : List EditD)
def L55_0_2 (Nf : Nat) (a1 a2 : Nat) (a3 a4 : Int) (a6 : List EditD) (v1 v2 : Int) (v3 : List EditD) : Option (E_L55_0_2 ⊕ (Int × Int × (List EditD))) :=
  (bif (decide (v2 ≤ a3)) then ((F66_2 Nf a1 a2 v1 (IntKind.wrap .i64 (v1 + a4)) v2 0 a6 0 a6 v3).bind fun x2 => (some (.inr (v2, (IntKind.wrap .i64 (v2 + (IntKind.wrap .i64 (2 * a4)))), x2)))) else (some (.inl (.k0 v1 v2 v3))))
def L55_0_2_s (a1 a2 : Nat) (a3 a4 : Int) (a6 : List EditD) (v1 v2 : Int) (v3 : List EditD) : St := ⟨fr 63 ug [(0, .sl 2 a1 3 0 a2), (1, i6 a3), (2, (.fn 44 [])), (6, i6 a4), (7, i6 v1), (8, i6 v2)], [yE 0 a6, yE 0 a6, yE a1 v3]⟩
theorem L55_0_2_k (a1 a2 : Nat) (a3 a4 : Int) (a6 : List EditD) (v1 v2 : Int) (v3 : List EditD) : okT 3 (L55_0_2_s a1 a2 a3 a4 a6 v1 v2 v3).h = true := (okT_of rfl (ar (ar (ar rfl))))
abbrev L55_0_2_e (a1 a2 : Nat) (a3 a4 : Int) (a6 : List EditD) (v1 v2 : Int) (v3 : List EditD) := evH prg 3 [0, 1, 2, 6, 7, 8] ir55_l0 (L55_0_2_s a1 a2 a3 a4 a6 v1 v2 v3)
def L55_0_2_x (a1 a2 : Nat) (a3 a4 : Int) (a6 : List EditD) (e : E_L55_0_2) (r : Option (Out × St)) : Prop := match e with | .k0 x0 x1 x2 => ∃ g, r = some ((.brk 4), ⟨fr 63 g [(0, .sl 2 a1 3 0 a2), (1, i6 a3), (2, (.fn 44 [])), (6, i6 a4), (7, i6 x0), (8, i6 x1)], [yE 0 a6, yE 0 a6, yE a1 x2]⟩)
abbrev L55_0_2_d0 (a6 : List EditD) (a1 : Nat) (x2 : List EditD) : List AB := [yE 0 a6, yE 0 a6, yE a1 x2]
theorem L55_0_2_ok (Nf : Nat) (a1 a2 : Nat) (a3 a4 : Int) (a6 : List EditD) (v1 v2 : Int) (v3 : List EditD) {r : E_L55_0_2 ⊕ (Int × Int × (List EditD))} (h : L55_0_2 Nf a1 a2 a3 a4 a6 v1 v2 v3 = some r) : OkR (fun e => L55_0_2_x a1 a2 a3 a4 a6 e (L55_0_2_e a1 a2 a3 a4 a6 v1 v2 v3)) (fun s => L55_0_2_e a1 a2 a3 a4 a6 v1 v2 v3 = L55_0_2_e a1 a2 a3 a4 a6 s.1 s.2.1 s.2.2) r := by
 unfold L55_0_2 at h
 apply bi h <;> intro h1 h
 ·
  apply bn h; intro x2 h2 h
  rw [← sj h]
  exact rn [(35, .d true), (43, .r (.tup []) (L55_0_2_d0 a6 a1 x2)), (6000, .d true)] (av h1 (apc ((F66_2_ok Nf a1 a2 v1 (w6 (v1 + a4)) v2 0 a6 0 a6 v3 h2) : CS prg 66 [.sl 2 a1 3 0 a2, i6 v1, (i6 (w6 (v1 + a4))), i6 v2, (.fn 44 [])] [yE 0 a6, yE 0 a6, yE a1 v3] = some ((.tup []), L55_0_2_d0 a6 a1 x2)) (apc (L55_0_2_k a1 a2 a3 a4 a6 v2 (w6 (v2 + (w6 (2 * a4)))) x2) apn)))
 ·
  rw [← sj h]
  exact xb [(35, .d false), (6000, .d true)] (av h1 apn)
theorem L55_0_2_run (Nf : Nat) (a1 a2 : Nat) (a3 a4 : Int) (a6 : List EditD) (s0 : Int × Int × (List EditD)) (e : E_L55_0_2) (h : runL (fun s => L55_0_2 Nf a1 a2 a3 a4 a6 s.1 s.2.1 s.2.2) s0 = some e) : L55_0_2_x a1 a2 a3 a4 a6 e (L55_0_2_e a1 a2 a3 a4 a6 s0.1 s0.2.1 s0.2.2) := by
  have q := @loop_sound' (Int × Int × (List EditD)) E_L55_0_2 (fun s => L55_0_2 Nf a1 a2 a3 a4 a6 s.1 s.2.1 s.2.2) (fun s => L55_0_2_e a1 a2 a3 a4 a6 s.1 s.2.1 s.2.2) (L55_0_2_x a1 a2 a3 a4 a6) (fun s r h => L55_0_2_ok Nf a1 a2 a3 a4 a6 s.1 s.2.1 s.2.2 h) s0 e h
  exact q
inductive E_L55_1 where
  | k0 (x0 : Int) (x1 x2 : List EditD)
def L55_1 (Nf : Nat) (a1 a2 : Nat) (a3 : Int) (v1 : Int) (v2 v3 : List EditD) : Option (E_L55_1 ⊕ (Int × (List EditD) × (List EditD))) :=
  (bif (decide (v1 < a3)) then ((runL (fun s => L55_0_2 Nf a1 a2 a3 v1 v2 s.1 s.2.1 s.2.2) (0, (IntKind.wrap .i64 (2 * v1)), v3)).bind fun r2 => match r2 with | .k0 x2_0 x2_1 x2_2 => (bif (decide ((IntKind.wrap .i64 (x2_0 + v1)) < a3)) then ((F66_2 Nf a1 a2 x2_0 (IntKind.wrap .i64 (x2_0 + v1)) a3 0 v2 0 v2 x2_2).bind fun x4 => (some (.inr ((IntKind.wrap .i64 (v1 * 2)), v2, x4)))) else (some (.inr ((IntKind.wrap .i64 (v1 * 2)), v2, x2_2))))) else (some (.inl (.k0 v1 v2 v3))))
def L55_1_s (a1 a2 : Nat) (a3 : Int) (v1 : Int) (v2 v3 : List EditD) : St := ⟨fr 63 ug [(0, .sl 2 a1 3 0 a2), (1, i6 a3), (2, (.fn 44 [])), (6, i6 v1)], [yE 0 v2, yE 0 v2, yE a1 v3]⟩
theorem L55_1_k (a1 a2 : Nat) (a3 : Int) (v1 : Int) (v2 v3 : List EditD) : okT 3 (L55_1_s a1 a2 a3 v1 v2 v3).h = true := (okT_of rfl (ar (ar (ar rfl))))
abbrev L55_1_e (a1 a2 : Nat) (a3 : Int) (v1 : Int) (v2 v3 : List EditD) := evH prg 3 [0, 1, 2, 6] ir55_l1 (L55_1_s a1 a2 a3 v1 v2 v3)
def L55_1_x (a1 a2 : Nat) (a3 : Int) (e : E_L55_1) (r : Option (Out × St)) : Prop := match e with | .k0 x0 x1 x2 => ∃ g, r = some ((.brk 2), ⟨fr 63 g [(0, .sl 2 a1 3 0 a2), (1, i6 a3), (2, (.fn 44 [])), (6, i6 x0)], [yE 0 x1, yE 0 x1, yE a1 x2]⟩)
abbrev L55_1_d0 (g2 : Nat → AV) (a1 a2 : Nat) (a3 v1 x2_0 x2_1 : Int) (v2 x2_2 : List EditD) : St := ⟨fr 63 g2 [(0, .sl 2 a1 3 0 a2), (1, i6 a3), (2, (.fn 44 [])), (6, i6 v1), (7, i6 x2_0), (8, i6 x2_1)], [yE 0 v2, yE 0 v2, yE a1 x2_2]⟩
abbrev L55_1_d1 (v2 : List EditD) (a1 : Nat) (x4 : List EditD) : List AB := [yE 0 v2, yE 0 v2, yE a1 x4]
theorem L55_1_ok (Nf : Nat) (a1 a2 : Nat) (a3 : Int) (v1 : Int) (v2 v3 : List EditD) {r : E_L55_1 ⊕ (Int × (List EditD) × (List EditD))} (h : L55_1 Nf a1 a2 a3 v1 v2 v3 = some r) : OkR (fun e => L55_1_x a1 a2 a3 e (L55_1_e a1 a2 a3 v1 v2 v3)) (fun s => L55_1_e a1 a2 a3 v1 v2 v3 = L55_1_e a1 a2 a3 s.1 s.2.1 s.2.2) r := by
 unfold L55_1 at h
 have q0 := (L55_0_2_k a1 a2 a3 v1 v2 0 (w6 (2 * v1)) v3)
 apply bi h <;> intro h1 h
 ·
  apply bn h; intro r2 h2 h
  cases r2 with
  | k0 x2_0 x2_1 x2_2 =>
   obtain ⟨g2, e2⟩ := L55_0_2_run Nf a1 a2 a3 v1 v2 (0, (w6 (2 * v1)), v3) _ h2
   have q1 := (e2 : L55_0_2_e a1 a2 a3 v1 v2 0 (w6 (2 * v1)) v3 = some ((.brk 4), L55_1_d0 g2 a1 a2 a3 v1 x2_0 x2_1 v2 x2_2))
   have k2 := ka [(30, .d true), (2004, .l (.brk 4) (L55_1_d0 g2 a1 a2 a3 v1 x2_0 x2_1 v2 x2_2))] (av h1 (apc q0 (apc q1 apn)))
   apply bi h <;> intro h3 h
   ·
    apply bn h; intro x4 h4 h
    rw [← sj h]
    exact rn ([(54, .d true), (60, .r (.tup []) (L55_1_d1 v2 a1 x4)), (6000, .d true)] ++ kH k2) (k2.b (av h3 (apc ((F66_2_ok Nf a1 a2 x2_0 (w6 (x2_0 + v1)) a3 0 v2 0 v2 x2_2 h4) : CS prg 66 [.sl 2 a1 3 0 a2, i6 x2_0, (i6 (w6 (x2_0 + v1))), i6 a3, (.fn 44 [])] [yE 0 v2, yE 0 v2, yE a1 x2_2] = some ((.tup []), L55_1_d1 v2 a1 x4)) (apc (L55_1_k a1 a2 a3 (w6 (v1 * 2)) v2 x4) apn))))
   ·
    rw [← sj h]
    exact rn ([(54, .d false), (6000, .d true)] ++ kH k2) (k2.b (av h3 (apc (L55_1_k a1 a2 a3 (w6 (v1 * 2)) v2 x2_2) apn)))
 ·
  rw [← sj h]
  exact xb [(30, .d false), (6000, .d true)] (av h1 apn)
theorem L55_1_run (Nf : Nat) (a1 a2 : Nat) (a3 : Int) (s0 : Int × (List EditD) × (List EditD)) (e : E_L55_1) (h : runL (fun s => L55_1 Nf a1 a2 a3 s.1 s.2.1 s.2.2) s0 = some e) : L55_1_x a1 a2 a3 e (L55_1_e a1 a2 a3 s0.1 s0.2.1 s0.2.2) := by
  have q := @loop_sound' (Int × (List EditD) × (List EditD)) E_L55_1 (fun s => L55_1 Nf a1 a2 a3 s.1 s.2.1 s.2.2) (fun s => L55_1_e a1 a2 a3 s.1 s.2.1 s.2.2) (L55_1_x a1 a2 a3) (fun s r h => L55_1_ok Nf a1 a2 a3 s.1 s.2.1 s.2.2 h) s0 e h
  exact q
inductive R_F55 where
  | k0 (x0 x1 : List EditD)
def F55_v (a1 a2 : Nat) (a3 : Int) (a4 : List EditD) (r : R_F55) : AV := match r with | .k0 x0 x1 => (.tup [])
def F55_h (a1 a2 : Nat) (a3 : Int) (a4 : List EditD) (r : R_F55) : List AB := match r with | .k0 x0 x1 => [yE 0 x0, yE 0 x0, yE a1 x1]
def F55 (Nf : Nat) (a1 a2 : Nat) (a3 : Int) (a4 : List EditD) : Option R_F55 :=
  ((runL (fun s => L55_2 a2 a3 s.1 s.2.1 s.2.2) (0, 20, a4)).bind fun r1 => match r1 with | .k0 x1_0 x1_1 x1_2 => ((F65_2 a2 x1_0 a3 x1_2).bind fun x2 => ((runL (fun s => L55_1 Nf a1 a2 a3 s.1 s.2.1 s.2.2) (20, [], x2)).bind fun r3 => match r3 with | .k0 x3_0 x3_1 x3_2 => (some (.k0 x3_1 x3_2)))))
abbrev F55_d0 (g1 : Nat → AV) (a1 a2 : Nat) (a3 x1_0 x1_1 : Int) (x1_2 : List EditD) : St := ⟨fr 63 g1 [(0, .sl 2 a1 3 0 a2), (1, i6 a3), (2, (.fn 44 [])), (6, i6 20), (7, i6 x1_0), (8, i6 x1_1)], [yE0, yE0, yE a1 x1_2]⟩
abbrev F55_d1 (a1 : Nat) (x2 : List EditD) : List AB := [yE0, yE0, yE a1 x2]
abbrev F55_d2 (g3 : Nat → AV) (a1 a2 : Nat) (a3 x3_0 : Int) (x3_1 x3_2 : List EditD) : St := ⟨fr 63 g3 [(0, .sl 2 a1 3 0 a2), (1, i6 a3), (2, (.fn 44 [])), (6, i6 x3_0)], [yE 0 x3_1, yE 0 x3_1, yE a1 x3_2]⟩
theorem F55_ok (Nf : Nat) (a1 a2 : Nat) (a3 : Int) (a4 : List EditD) {r : R_F55} (h : F55 Nf a1 a2 a3 a4 = some r) : CS prg 55 [.sl 2 a1 3 0 a2, i6 a3, (.fn 44 [])] [yE0, yE0, yE a1 a4] = some (F55_v a1 a2 a3 a4 r, F55_h a1 a2 a3 a4 r) := by
 unfold F55 at h
 apply bn h; intro r1 h1 h
 cases r1 with
 | k0 x1_0 x1_1 x1_2 =>
  obtain ⟨g1, e1⟩ := L55_2_run a1 a2 a3 (0, 20, a4) _ h1
  apply bn h; intro x2 h2 h
  apply bn h; intro r3 h3 h
  cases r3 with
  | k0 x3_0 x3_1 x3_2 =>
   obtain ⟨g3, e3⟩ := L55_1_run Nf a1 a2 a3 (20, [], x2) _ h3
   rw [← sj h]
   exact fc [(2000, .l (.brk 0) (F55_d0 g1 a1 a2 a3 x1_0 x1_1 x1_2)), (27, .r (.tup []) (F55_d1 a1 x2)), (2002, .l (.brk 2) (F55_d2 g3 a1 a2 a3 x3_0 x3_1 x3_2)), (6000, .d true)] (apc (L55_2_k a1 a2 a3 0 20 a4) (apc (e1 : L55_2_e a1 a2 a3 0 20 a4 = some ((.brk 0), F55_d0 g1 a1 a2 a3 x1_0 x1_1 x1_2)) (apc ((F65_2_ok a1 a2 x1_0 a3 x1_2 h2) : CS prg 65 [.sl 2 a1 3 0 a2, i6 x1_0, i6 a3, (.fn 44 [])] [yE0, yE0, yE a1 x1_2] = some ((.tup []), F55_d1 a1 x2)) (apc (L55_1_k a1 a2 a3 20 ([]) x2) (apc (e3 : L55_1_e a1 a2 a3 20 ([]) x2 = some ((.brk 2), F55_d2 g3 a1 a2 a3 x3_0 x3_1 x3_2)) apn)))))
inductive R_F43 where
  | k0 (x0 x1 : List EditD)
def F43_v (a1 a2 : Nat) (a3 : List EditD) (r : R_F43) : AV := match r with | .k0 x0 x1 => (.tup [])
def F43_h (a1 a2 : Nat) (a3 : List EditD) (r : R_F43) : List AB := match r with | .k0 x0 x1 => [yE 0 x0, yE 0 x0, yE a1 x1]
def F43 (Nf : Nat) (a1 a2 : Nat) (a3 : List EditD) : Option R_F43 :=
  ((F55 Nf a1 a2 ((a2 : Nat) : Int) a3).bind fun r1 => match r1 with | .k0 x1_0 x1_1 => (some (.k0 x1_0 x1_1)))
abbrev F43_d0 (x1_0 : List EditD) (a1 : Nat) (x1_1 : List EditD) : List AB := [yE 0 x1_0, yE 0 x1_0, yE a1 x1_1]
theorem F43_ok (Nf : Nat) (a1 a2 : Nat) (a3 : List EditD) {r : R_F43} (h : F43 Nf a1 a2 a3 = some r) : CS prg 43 [.sl 2 a1 3 0 a2, (.fn 44 [])] [yE0, yE0, yE a1 a3] = some (F43_v a1 a2 a3 r, F43_h a1 a2 a3 r) := by
 unfold F43 at h
 apply bn h; intro r1 h1 h
 cases r1 with
 | k0 x1_0 x1_1 =>
  rw [← sj h]
  exact fc [(8, .r (.tup []) (F43_d0 x1_0 a1 x1_1))] (apc ((F55_ok Nf a1 a2 ((a2 : Nat) : Int) a3 h1) : CS prg 55 [.sl 2 a1 3 0 a2, (i6 ((a2 : Nat) : Int)), (.fn 44 [])] [yE0, yE0, yE a1 a3] = some ((.tup []), F43_d0 x1_0 a1 x1_1)) apn)
inductive E_L25_0 where
  | k0 (x0 x1 : Int) (x2 : ByteArray) (x3 x4 : Int)
  | k1
section
variable (a1 a2 : Nat) (a3 : Int) (a4 a5 : List EditD)
abbrev L25_0_p (l : List AB) : List AB := yE 0 a4 :: yE 0 a4 :: yE a1 a5 :: l
def L25_0 (v1 : Int) : Option (E_L25_0 ⊕ (Int)) :=
  (bif (decide (v1 < a3)) then ((ixN a2 v1).bind fun x2 => ((a5[x2]?).bind fun x3 => (bif (v1 == 0) then (some (.inr ((IntKind.wrap .i64 (v1 + 1))))) else ((ixN a2 (IntKind.wrap .i64 (v1 - 1))).bind fun x5 => ((a5[x5]?).bind fun x6 => (bif (decide (x3.frm < x6.til)) then (some (.inl (.k0 x3.frm x3.til x3.text x6.frm x6.til))) else (bif ((x3.frm == x6.frm) && ((x3.til == x6.til) && true)) then (bif (x3.frm == x3.til) then (some (.inl (.k0 x3.frm x3.til x3.text x6.frm x6.til))) else (some (.inr ((IntKind.wrap .i64 (v1 + 1)))))) else (some (.inr ((IntKind.wrap .i64 (v1 + 1)))))))))))) else (some (.inl (.k1))))
def L25_0_s (v1 : Int) : St := ⟨fr 53 ug [(4, .sl 2 a1 3 0 a2), (5, vb true), (13, .sl 2 a1 3 0 a2), (14, i6 a3), (15, i6 v1)], (L25_0_p a1 a4 a5 [])⟩
theorem L25_0_k (v1 : Int) : okT 3 (L25_0_s a1 a2 a3 a4 a5 v1).h = true := (okT_of rfl (ar (ar (ar rfl))))
abbrev L25_0_e (v1 : Int) := evH prg 3 [4, 5, 13, 14, 15] ir25_l0 (L25_0_s a1 a2 a3 a4 a5 v1)
def L25_0_x (e : E_L25_0) (r : Option (Out × St)) : Prop := match e with | .k0 x0 x1 x2 x3 x4 => ∃ g, r = some ((.brk 0), ⟨fr 53 g [(4, .sl 2 a1 3 0 a2), (5, vb false), (13, .sl 2 a1 3 0 a2)], (L25_0_p a1 a4 a5 [.cells 34 [i6 x0, i6 x1, vs x2], .cells 32 [i6 x3, i6 x4]])⟩) | .k1 => ∃ g, r = some ((.brk 0), ⟨fr 53 g [(4, .sl 2 a1 3 0 a2), (5, vb true), (13, .sl 2 a1 3 0 a2)], (L25_0_p a1 a4 a5 [])⟩)
theorem L25_0_ok (v1 : Int) {r : E_L25_0 ⊕ (Int)} (h : L25_0 a2 a3 a5 v1 = some r) : OkR (fun e => L25_0_x a1 a2 a4 a5 e (L25_0_e a1 a2 a3 a4 a5 v1)) (fun s => L25_0_e a1 a2 a3 a4 a5 v1 = L25_0_e a1 a2 a3 a4 a5 s) r := by
 unfold L25_0 at h
 apply bi h <;> intro h1 h
 ·
  apply bn h; intro x2 h2 h
  have q0 := ((idx_sl h2) : idxA 3 (.sl 2 a1 3 0 a2) (i6 v1) = some (.rp 2 a1 3 x2 0))
  have k1 := ka [(16, .d true), (18, .v (.rp 2 a1 3 x2 0))] (av h1 (apc q0 apn))
  apply bn h; intro x3 h3 h
  have q2 := ((ld_row rfl h3 rfl) : ldA (L25_0_p a1 a4 a5 []) .true 3 (.rp 2 a1 3 x2 0) = some (aE x3))
  apply bi h <;> intro h4 h
  ·
   rw [← sj h]
   exact rn ([(19, .v (aE x3)), (21, .d true), (6000, .d true)] ++ kH k1) (k1.b (apc q2 (av h4 (apc (L25_0_k a1 a2 a3 a4 a5 (w6 (v1 + 1))) apn))))
  ·
   have k3 := k1.a [(19, .v (aE x3)), (21, .d false)] (apc q2 (av h4 apn))
   apply bn h; intro x5 h5 h
   have q4 := ((idx_sl h5) : idxA 3 (.sl 2 a1 3 0 a2) (i6 (w6 (v1 - 1))) = some (.rp 2 a1 3 x5 0))
   apply bn h; intro x6 h6 h
   have q5 := ((ld_row rfl h6 rfl) : ldA (L25_0_p a1 a4 a5 [.cells 34 ((eEdit x3).map .p)]) .true 2 (.rp 2 a1 3 x5 0) = some (.agg ((List.take 2 (eEdit x6)).map .p)))
   have k6 := k3.a [(25, .v (.rp 2 a1 3 x5 0)), (27, .v (.agg ((List.take 2 (eEdit x6)).map .p)))] (apc q4 (apc q5 apn))
   apply bi h <;> intro h7 h
   ·
    rw [← sj h]
    exact xb ([(33, .d true), (6000, .d true)] ++ kH k6) (k6.b (av h7 apn))
   ·
    apply bi h <;> intro h8 h
    ·
     have k7 := k6.a [(33, .d false), (38, .d true)] (av h7 (av h8 apn))
     apply bi h <;> intro h9 h
     ·
      rw [← sj h]
      exact xb ([(46, .d true), (6000, .d true)] ++ kH k7) (k7.b (av h9 apn))
     ·
      rw [← sj h]
      exact rn ([(46, .d false), (6000, .d true)] ++ kH k7) (k7.b (av h9 (apc (L25_0_k a1 a2 a3 a4 a5 (w6 (v1 + 1))) apn)))
    ·
     rw [← sj h]
     exact rn ([(33, .d false), (38, .d false), (6000, .d true)] ++ kH k6) (k6.b (av h7 (av h8 (apc (L25_0_k a1 a2 a3 a4 a5 (w6 (v1 + 1))) apn))))
 ·
  rw [← sj h]
  exact xb [(16, .d false), (6000, .d true)] (av h1 apn)
theorem L25_0_run (s0 : Int) (e : E_L25_0) (h : runL (fun s => L25_0 a2 a3 a5 s) s0 = some e) : L25_0_x a1 a2 a4 a5 e (L25_0_e a1 a2 a3 a4 a5 s0) := by
  have q := @loop_sound' (Int) E_L25_0 (fun s => L25_0 a2 a3 a5 s) (fun s => L25_0_e a1 a2 a3 a4 a5 s) (L25_0_x a1 a2 a4 a5) (fun s r h => L25_0_ok a1 a2 a3 a4 a5 s h) s0 e h
  exact q
end
inductive E_L25_1 where
  | k0 (x0 x1 : Int) (x2 : ByteArray) (x3 x4 : Int)
  | k1
section
variable (a1 a2 : Nat) (a3 a4 : List EditD)
abbrev L25_1_p (l : List AB) : List AB := yE 0 a3 :: yE 0 a3 :: yE a1 a4 :: l
def L25_1 : Option (E_L25_1 ⊕ (Unit)) :=
  ((runL (fun s => L25_0 a2 ((a2 : Nat) : Int) a4 s) 0).bind fun r1 => match r1 with | .k0 x1_0 x1_1 x1_2 x1_3 x1_4 => (some (.inl (.k0 x1_0 x1_1 x1_2 x1_3 x1_4))) | .k1 => (some (.inl (.k1))))
def L25_1_s : St := ⟨fr 53 ug [(4, .sl 2 a1 3 0 a2), (5, vb true)], (L25_1_p a1 a3 a4 [])⟩
theorem L25_1_k : okT 3 (L25_1_s a1 a2 a3 a4).h = true := (okT_of rfl (ar (ar (ar rfl))))
abbrev L25_1_e := evH prg 3 [4, 5] ir25_l1 (L25_1_s a1 a2 a3 a4)
def L25_1_x (e : E_L25_1) (r : Option (Out × St)) : Prop := match e with | .k0 x0 x1 x2 x3 x4 => ∃ g, r = some (.ret, ⟨fr 53 g [(2, .sl 5 0 3 0 0), (3, i6 110)], (L25_1_p a1 a3 a4 [.cells 34 [i6 x0, i6 x1, vs x2], .cells 32 [i6 x3, i6 x4], yE0])⟩) | .k1 => ∃ g, r = some (.ret, ⟨fr 53 g [(2, .sl 2 a1 3 0 a2), (3, i6 0)], (L25_1_p a1 a3 a4 [])⟩)
abbrev L25_1_d0 (g1 : Nat → AV) (x1_0 x1_1 : Int) (x1_2 : ByteArray) (x1_3 x1_4 : Int) : St := ⟨fr 53 g1 [(4, .sl 2 a1 3 0 a2), (5, vb false), (13, .sl 2 a1 3 0 a2)], (L25_1_p a1 a3 a4 [.cells 34 [i6 x1_0, i6 x1_1, vs x1_2], .cells 32 [i6 x1_3, i6 x1_4]])⟩
abbrev L25_1_d1 (g1 : Nat → AV) : St := ⟨fr 53 g1 [(4, .sl 2 a1 3 0 a2), (5, vb true), (13, .sl 2 a1 3 0 a2)], (L25_1_p a1 a3 a4 [])⟩
theorem L25_1_ok {r : E_L25_1 ⊕ (Unit)} (h : L25_1 a2 a4 = some r) : OkR (fun e => L25_1_x a1 a2 a3 a4 e (L25_1_e a1 a2 a3 a4)) (fun s => L25_1_e a1 a2 a3 a4 = L25_1_e a1 a2 a3 a4) r := by
 unfold L25_1 at h
 apply bn h; intro r1 h1 h
 cases r1 with
 | k0 x1_0 x1_1 x1_2 x1_3 x1_4 =>
  obtain ⟨g1, e1⟩ := L25_0_run a1 a2 ((a2 : Nat) : Int) a3 a4 0 _ h1
  rw [← sj h]
  exact xr [(2000, .l (.brk 0) (L25_1_d0 a1 a2 a3 a4 g1 x1_0 x1_1 x1_2 x1_3 x1_4)), (6000, .d true)] (apc (L25_0_k a1 a2 ((a2 : Nat) : Int) a3 a4 0) (apc (e1 : L25_0_e a1 a2 ((a2 : Nat) : Int) a3 a4 0 = some ((.brk 0), L25_1_d0 a1 a2 a3 a4 g1 x1_0 x1_1 x1_2 x1_3 x1_4)) apn))
 | k1 =>
  obtain ⟨g1, e1⟩ := L25_0_run a1 a2 ((a2 : Nat) : Int) a3 a4 0 _ h1
  rw [← sj h]
  exact xr [(2000, .l (.brk 0) (L25_1_d1 a1 a2 a3 a4 g1)), (6000, .d true)] (apc (L25_0_k a1 a2 ((a2 : Nat) : Int) a3 a4 0) (apc (e1 : L25_0_e a1 a2 ((a2 : Nat) : Int) a3 a4 0 = some ((.brk 0), L25_1_d1 a1 a2 a3 a4 g1)) apn))
theorem L25_1_run (s0 : Unit) (e : E_L25_1) (h : runL (fun s => L25_1 a2 a4) s0 = some e) : L25_1_x a1 a2 a3 a4 e (L25_1_e a1 a2 a3 a4) := by
  have q := @loop_sound' (Unit) E_L25_1 (fun s => L25_1 a2 a4) (fun s => L25_1_e a1 a2 a3 a4) (L25_1_x a1 a2 a3 a4) (fun s r h => L25_1_ok a1 a2 a3 a4 h) s0 e h
  exact q
end
inductive R_F25 where
  | k0 (x0 : List EditD) (x1 : Int)
def F25_v (a1 : List EditD) (r : R_F25) : AV := match r with | .k0 x0 x1 => (.tup [ls 3 eEdit x0, i6 x1])
def F25 (Nf : Nat) (a1 : List EditD) : Option R_F25 :=
  (bif (clOk a1.length 32) then ((F43 Nf (gnz a1) a1.length a1).bind fun r2 => match r2 with | .k0 x2_0 x2_1 => ((runL (fun s => L25_1 a1.length x2_1) ()).bind fun r3 => match r3 with | .k0 x3_0 x3_1 x3_2 x3_3 x3_4 => (some (.k0 ([]) 110)) | .k1 => (bif (decide (a1.length ≤ x2_1.length)) then (some (.k0 (x2_1.take a1.length) 0)) else none))) else none)
abbrev F25_d0 (a1 : List EditD) : List AB := [yE0, yE0, yE (gnz a1) a1]
abbrev F25_d1 (x2_0 a1 x2_1 : List EditD) : List AB := [yE 0 x2_0, yE 0 x2_0, yE (gnz a1) x2_1]
abbrev F25_d2 (g3 : Nat → AV) (x2_0 a1 x2_1 : List EditD) (x3_0 x3_1 : Int) (x3_2 : ByteArray) (x3_3 x3_4 : Int) : St := ⟨fr 53 g3 [(2, .sl 5 0 3 0 0), (3, i6 110)], [yE 0 x2_0, yE 0 x2_0, yE (gnz a1) x2_1, .cells 34 [i6 x3_0, i6 x3_1, vs x3_2], .cells 32 [i6 x3_3, i6 x3_4], yE0]⟩
abbrev F25_d3 (g3 : Nat → AV) (a1 x2_0 x2_1 : List EditD) : St := ⟨fr 53 g3 [(2, (.sl 2 (gnz a1) 3 0 a1.length)), (3, i6 0)], [yE 0 x2_0, yE 0 x2_0, yE (gnz a1) x2_1]⟩
theorem F25_ok (Nf : Nat) (a1 : List EditD) {r : R_F25} (h : F25 Nf a1 = some r) : PR2 prg 25 [ls 3 eEdit a1] (F25_v a1 r) := by
 unfold F25 at h
 apply bi h <;> intro h1 h
 ·
  have q0 := ((cs_cl (e := eEdit) (xs := a1) rfl (fun _ _ => rfl) h1 [yE0]) : CS prg 42 [ls 3 eEdit a1] [yE0] = some ((.sl 2 (gnz a1) 3 0 a1.length), F25_d0 a1))
  have k1 := ka [(10, .r (.sl 2 (gnz a1) 3 0 a1.length) (F25_d0 a1))] (apc q0 apn)
  apply bn h; intro r2 h2 h
  cases r2 with
  | k0 x2_0 x2_1 =>
   have q2 := ((F43_ok Nf (gnz a1) a1.length a1 h2) : CS prg 43 [(.sl 2 (gnz a1) 3 0 a1.length), (.fn 44 [])] (F25_d0 a1) = some ((.tup []), F25_d1 x2_0 a1 x2_1))
   have k3 := k1.a [(12, .r (.tup []) (F25_d1 x2_0 a1 x2_1))] (apc q2 apn)
   apply bn h; intro r3 h3 h
   cases r3 with
   | k0 x3_0 x3_1 x3_2 x3_3 x3_4 =>
    obtain ⟨g3, e3⟩ := L25_1_run (gnz a1) a1.length x2_0 x2_1 () _ h3
    rw [← sj h]
    exact fpn (v := (.tup [.sl 5 0 3 0 0, i6 110])) (h' := [yE 0 x2_0, yE 0 x2_0, yE (gnz a1) x2_1, .cells 34 [i6 x3_0, i6 x3_1, vs x3_2], .cells 32 [i6 x3_3, i6 x3_4], yE0]) ([(2002000, .l .ret (F25_d2 g3 x2_0 a1 x2_1 x3_0 x3_1 x3_2 x3_3 x3_4)), (6000, .d true)] ++ kH k3) (k3.b (apc (L25_1_k (gnz a1) a1.length x2_0 x2_1) (apc (e3 : L25_1_e (gnz a1) a1.length x2_0 x2_1 = some (.ret, F25_d2 g3 x2_0 a1 x2_1 x3_0 x3_1 x3_2 x3_3 x3_4)) apn))) (purA_tup (purAs_cons (purA_sl (e := eEdit) (xs := []) rfl rfl) (purAs_cons rfl purAs_nil))) rfl (purA_tup (purAs_cons (purA_sl (e := eEdit) (xs := []) (getq rfl (nols_ra (fun _ => rfl))) rfl) (purAs_cons rfl purAs_nil))) (by kernel_rfl)
   | k1 =>
    obtain ⟨g3, e3⟩ := L25_1_run (gnz a1) a1.length x2_0 x2_1 () _ h3
    have q4 := (e3 : L25_1_e (gnz a1) a1.length x2_0 x2_1 = some (.ret, F25_d3 g3 a1 x2_0 x2_1))
    have k5 := k3.a [(2002000, .l .ret (F25_d3 g3 a1 x2_0 x2_1))] (apc (L25_1_k (gnz a1) a1.length x2_0 x2_1) (apc q4 apn))
    apply bi h <;> intro h4 h
    ·
     rw [← sj h]
     exact fpn (v := (.tup [(.sl 2 (gnz a1) 3 0 a1.length), i6 0])) (h' := (F25_d1 x2_0 a1 x2_1)) ([(6000, .d true)] ++ kH k5) (k5.b apn) (purA_tup (purAs_cons (purA_sl (e := eEdit) rfl h4) (purAs_cons rfl purAs_nil))) rfl (purA_tup (purAs_cons (purA_sl (e := eEdit) (getq rfl (nols_ra (fun _ => rfl))) h4) (purAs_cons rfl purAs_nil))) (by kernel_rfl)
    ·
     cases h
 ·
  cases h
def F52_2_v (a1 : Bool) (a2 a3 : Nat) (a4 : Int) (a5 : List Int) (a6 : EditD) (x0 : Bool) : AV := (.tup [])
def F52_2_h (a1 : Bool) (a2 a3 : Nat) (a4 : Int) (a5 : List Int) (a6 : EditD) (x0 : Bool) : List AB := [.cells 63 [sp x0 0 0, .sl 1 a2 1 0 a3, i6 a4], yU a2 a5, .cells 34 ((eEdit a6).map .p)]
def F52_2 (a1 : Bool) : Option Bool :=
  (bif a1 then (some a1) else (some true))
abbrev F52_2_d0 (a1 : Bool) (a2 a3 : Nat) (a4 : Int) (a5 : List Int) (a6 : EditD) : List AB := [.cells 63 [sp a1 0 0, .sl 1 a2 1 0 a3, i6 a4], yU a2 a5, .cells 34 ((eEdit a6).map .p)]
theorem F52_2_ok (a1 : Bool) (a2 a3 : Nat) (a4 : Int) (a5 : List Int) (a6 : EditD) {r : Bool} (h : F52_2 a1 = some r) : CS prg 52 [.ptr 0 0] [.cells 63 [sp a1 0 0, .sl 1 a2 1 0 a3, i6 a4], yU a2 a5, .cells 34 ((eEdit a6).map .p)] = some (F52_2_v a1 a2 a3 a4 a5 a6 r, F52_2_h a1 a2 a3 a4 a5 a6 r) := by
 unfold F52_2 at h
 apply bi h <;> intro h1 h
 ·
  have q0 := (((rfl : ldA (F52_2_d0 a1 a2 a3 a4 a5 a6) .false 1 (.ptr 0 0) = some (sp a1 0 0)).trans (congrArg some (sp_t h1))) : ldA (F52_2_d0 a1 a2 a3 a4 a5 a6) .false 1 (.ptr 0 0) = some (.ptr 0 0))
  rw [← sj h]
  exact fc [(5, .v (.ptr 0 0)), (17, .v (.ptr 0 0))] (apc q0 (apc q0 apn))
 ·
  rw [← sj h]
  exact fc [(5, .v (.p (.val (.pointer .none))))] (apc (((rfl : ldA (F52_2_d0 a1 a2 a3 a4 a5 a6) .false 1 (.ptr 0 0) = some (sp a1 0 0)).trans (congrArg some (sp_f h1))) : ldA (F52_2_d0 a1 a2 a3 a4 a5 a6) .false 1 (.ptr 0 0) = some (.p (.val (.pointer .none)))) apn)
inductive R_F37_4 where
  | k0 (x0 : Int) (x1 : Bool) (x2 : Nat) (x3 : List Int)
def F37_4_v (a1 : ByteArray) (a2 : Bool) (a3 a4 : Nat) (a5 : Int) (a6 : List Int) (a7 : EditD) (r : R_F37_4) : AV := match r with | .k0 x0 x1 x2 x3 => (.tup [i6 x0, (.p (.val .nilIface))])
def F37_4_h (a1 : ByteArray) (a2 : Bool) (a3 a4 : Nat) (a5 : Int) (a6 : List Int) (a7 : EditD) (r : R_F37_4) : List AB := match r with | .k0 x0 x1 x2 x3 => [.cells 63 [sp x1 0 0, (.sl 1 x2 1 0 (a4 + (sbytes a1).length)), i6 a5], yU x2 x3, .cells 34 ((eEdit a7).map .p)]
def F37_4 (a1 : ByteArray) (a2 : Bool) (a3 a4 : Nat) (a6 : List Int) : Option R_F37_4 :=
  ((F52_2 a2).bind fun x1 => (bif (apOk a4 (sbytes a1).length a6.length 1) then (bif (decide (a4 + (sbytes a1).length ≤ a6.length)) then (some (.k0 (a1.size : Int) x1 a3 (splice a6 a4 (sbytes a1)))) else (some (.k0 (a1.size : Int) x1 (a3 + 1) (a6.take a4 ++ (sbytes a1))))) else none))
abbrev F37_4_d0 (x1 : Bool) (a3 a4 : Nat) (a5 : Int) (a6 : List Int) (a7 : EditD) : List AB := [.cells 63 [sp x1 0 0, .sl 1 a3 1 0 a4, i6 a5], yU a3 a6, .cells 34 ((eEdit a7).map .p)]
abbrev F37_4_d1 (x1 : Bool) (a3 a4 : Nat) (a5 : Int) (a6 : List Int) (a1 : ByteArray) (a7 : EditD) : List AB := [.cells 63 [sp x1 0 0, .sl 1 a3 1 0 a4, i6 a5], yU a3 (splice a6 a4 (sbytes a1)), .cells 34 ((eEdit a7).map .p)]
abbrev F37_4_d2 (x1 : Bool) (a3 a4 : Nat) (a5 : Int) (a6 : List Int) (a1 : ByteArray) (a7 : EditD) : List AB := [.cells 63 [sp x1 0 0, .sl 1 a3 1 0 a4, i6 a5], yU (a3 + 1) (a6.take a4 ++ (sbytes a1)), .cells 34 ((eEdit a7).map .p)]
theorem F37_4_ok (a1 : ByteArray) (a2 : Bool) (a3 a4 : Nat) (a5 : Int) (a6 : List Int) (a7 : EditD) {r : R_F37_4} (h : F37_4 a1 a2 a3 a4 a6 = some r) : CS prg 37 [.ptr 0 0, vs a1] [.cells 63 [sp a2 0 0, .sl 1 a3 1 0 a4, i6 a5], yU a3 a6, .cells 34 ((eEdit a7).map .p)] = some (F37_4_v a1 a2 a3 a4 a5 a6 a7 r, F37_4_h a1 a2 a3 a4 a5 a6 a7 r) := by
 unfold F37_4 at h
 apply bn h; intro x1 h1 h
 have q0 := ((F52_2_ok a2 a3 a4 a5 a6 a7 h1) : CS prg 52 [.ptr 0 0] [.cells 63 [sp a2 0 0, .sl 1 a3 1 0 a4, i6 a5], yU a3 a6, .cells 34 ((eEdit a7).map .p)] = some ((.tup []), F37_4_d0 x1 a3 a4 a5 a6 a7))
 have k1 := ka [(7, .r (.tup []) (F37_4_d0 x1 a3 a4 a5 a6 a7))] (apc q0 apn)
 apply bi h <;> intro h2 h
 ·
  apply bi h <;> intro h3 h
  ·
   rw [← sj h]
   exact fc ([(14, .r (.sl 1 a3 1 0 (a4 + (sbytes a1).length)) (F37_4_d1 x1 a3 a4 a5 a6 a1 a7))] ++ kH k1) (k1.b (apc ((ap_in (e := eU8) (xs := a6) (news := (sbytes a1)) rfl rows_s rfl h2 h3) : appA (F37_4_d0 x1 a3 a4 a5 a6 a7) 5 1 1 (.sl 1 a3 1 0 a4) (vs a1) = some ((.sl 1 a3 1 0 (a4 + (sbytes a1).length)), F37_4_d1 x1 a3 a4 a5 a6 a1 a7)) apn))
  ·
   rw [← sj h]
   exact fc ([(14, .r (.sl 1 (a3 + 1) 1 0 (a4 + (sbytes a1).length)) (F37_4_d2 x1 a3 a4 a5 a6 a1 a7))] ++ kH k1) (k1.b (apc ((ap_out (e := eU8) (xs := a6) (news := (sbytes a1)) rfl rows_s rfl h2 h3) : appA (F37_4_d0 x1 a3 a4 a5 a6 a7) 5 1 1 (.sl 1 a3 1 0 a4) (vs a1) = some ((.sl 1 (a3 + 1) 1 0 (a4 + (sbytes a1).length)), F37_4_d2 x1 a3 a4 a5 a6 a1 a7)) apn))
 ·
  cases h
inductive R_F26_4 where
  | k0 (x0 : Bool) (x1 x2 : Nat) (x3 : List Int)
def F26_4_v (a1 : ByteArray) (a2 : Bool) (a3 a4 : Nat) (a5 : Int) (a6 : List Int) (a7 : EditD) (r : R_F26_4) : AV := match r with | .k0 x0 x1 x2 x3 => (.tup [])
def F26_4_h (a1 : ByteArray) (a2 : Bool) (a3 a4 : Nat) (a5 : Int) (a6 : List Int) (a7 : EditD) (r : R_F26_4) : List AB := match r with | .k0 x0 x1 x2 x3 => [.cells 63 [sp x0 0 0, .sl 1 x1 1 0 x2, (i6 (w6 (a5 + (a1.size : Int))))], yU x1 x3, .cells 34 ((eEdit a7).map .p)]
def F26_4 (a1 : ByteArray) (a2 : Bool) (a3 a4 : Nat) (a5 : Int) (a6 : List Int) : Option R_F26_4 :=
  (bif (decide ((IntKind.wrap .i64 (a5 + (a1.size : Int))) ≤ 1048576)) then ((F37_4 a1 a2 a3 a4 a6).bind fun r2 => match r2 with | .k0 x2_0 x2_1 x2_2 x2_3 => (some (.k0 x2_1 x2_2 (a4 + (sbytes a1).length) x2_3))) else (some (.k0 a2 a3 a4 a6)))
abbrev F26_4_d0 (x2_1 : Bool) (x2_2 a4 : Nat) (a1 : ByteArray) (a5 : Int) (x2_3 : List Int) (a7 : EditD) : List AB := [.cells 63 [sp x2_1 0 0, (.sl 1 x2_2 1 0 (a4 + (sbytes a1).length)), (i6 (w6 (a5 + (a1.size : Int))))], yU x2_2 x2_3, .cells 34 ((eEdit a7).map .p)]
theorem F26_4_ok (a1 : ByteArray) (a2 : Bool) (a3 a4 : Nat) (a5 : Int) (a6 : List Int) (a7 : EditD) {r : R_F26_4} (h : F26_4 a1 a2 a3 a4 a5 a6 = some r) : CS prg 26 [.ptr 0 0, vs a1] [.cells 63 [sp a2 0 0, .sl 1 a3 1 0 a4, i6 a5], yU a3 a6, .cells 34 ((eEdit a7).map .p)] = some (F26_4_v a1 a2 a3 a4 a5 a6 a7 r, F26_4_h a1 a2 a3 a4 a5 a6 a7 r) := by
 unfold F26_4 at h
 apply bi h <;> intro h1 h
 ·
  apply bn h; intro r2 h2 h
  cases r2 with
  | k0 x2_0 x2_1 x2_2 x2_3 =>
   rw [← sj h]
   exact fc [(17, .d true), (22, .r (.tup [i6 x2_0, (.p (.val .nilIface))]) (F26_4_d0 x2_1 x2_2 a4 a1 a5 x2_3 a7))] (av h1 (apc ((F37_4_ok a1 a2 a3 a4 (w6 (a5 + (a1.size : Int))) a6 a7 h2) : CS prg 37 [.ptr 0 0, vs a1] [.cells 63 [sp a2 0 0, .sl 1 a3 1 0 a4, (i6 (w6 (a5 + (a1.size : Int))))], yU a3 a6, .cells 34 ((eEdit a7).map .p)] = some ((.tup [i6 x2_0, (.p (.val .nilIface))]), F26_4_d0 x2_1 x2_2 a4 a1 a5 x2_3 a7)) apn))
 ·
  rw [← sj h]
  exact fc [(17, .d false)] (av h1 apn)
inductive R_F37_2 where
  | k0 (x0 : Int) (x1 : Bool) (x2 : Nat) (x3 : List Int)
def F37_2_v (a1 : EditD) (a2 : Bool) (a3 a4 : Nat) (a5 : Int) (a6 : List Int) (r : R_F37_2) : AV := match r with | .k0 x0 x1 x2 x3 => (.tup [i6 x0, (.p (.val .nilIface))])
def F37_2_h (a1 : EditD) (a2 : Bool) (a3 a4 : Nat) (a5 : Int) (a6 : List Int) (r : R_F37_2) : List AB := match r with | .k0 x0 x1 x2 x3 => [.cells 63 [sp x1 0 0, (.sl 1 x2 1 0 (a4 + (sbytes a1.text).length)), i6 a5], yU x2 x3, .cells 34 ((eEdit a1).map .p)]
def F37_2 (a1 : EditD) (a2 : Bool) (a3 a4 : Nat) (a6 : List Int) : Option R_F37_2 :=
  ((F52_2 a2).bind fun x1 => (bif (apOk a4 (sbytes a1.text).length a6.length 1) then (bif (decide (a4 + (sbytes a1.text).length ≤ a6.length)) then (some (.k0 (a1.text.size : Int) x1 a3 (splice a6 a4 (sbytes a1.text)))) else (some (.k0 (a1.text.size : Int) x1 (a3 + 1) (a6.take a4 ++ (sbytes a1.text))))) else none))
abbrev F37_2_d0 (x1 : Bool) (a3 a4 : Nat) (a5 : Int) (a6 : List Int) (a1 : EditD) : List AB := [.cells 63 [sp x1 0 0, .sl 1 a3 1 0 a4, i6 a5], yU a3 a6, .cells 34 ((eEdit a1).map .p)]
abbrev F37_2_d1 (x1 : Bool) (a3 a4 : Nat) (a5 : Int) (a6 : List Int) (a1 : EditD) : List AB := [.cells 63 [sp x1 0 0, .sl 1 a3 1 0 a4, i6 a5], yU a3 (splice a6 a4 (sbytes a1.text)), .cells 34 ((eEdit a1).map .p)]
abbrev F37_2_d2 (x1 : Bool) (a3 a4 : Nat) (a5 : Int) (a6 : List Int) (a1 : EditD) : List AB := [.cells 63 [sp x1 0 0, .sl 1 a3 1 0 a4, i6 a5], yU (a3 + 1) (a6.take a4 ++ (sbytes a1.text)), .cells 34 ((eEdit a1).map .p)]
theorem F37_2_ok (a1 : EditD) (a2 : Bool) (a3 a4 : Nat) (a5 : Int) (a6 : List Int) {r : R_F37_2} (h : F37_2 a1 a2 a3 a4 a6 = some r) : CS prg 37 [.ptr 0 0, vs a1.text] [.cells 63 [sp a2 0 0, .sl 1 a3 1 0 a4, i6 a5], yU a3 a6, .cells 34 ((eEdit a1).map .p)] = some (F37_2_v a1 a2 a3 a4 a5 a6 r, F37_2_h a1 a2 a3 a4 a5 a6 r) := by
 unfold F37_2 at h
 apply bn h; intro x1 h1 h
 have q0 := ((F52_2_ok a2 a3 a4 a5 a6 a1 h1) : CS prg 52 [.ptr 0 0] [.cells 63 [sp a2 0 0, .sl 1 a3 1 0 a4, i6 a5], yU a3 a6, .cells 34 ((eEdit a1).map .p)] = some ((.tup []), F37_2_d0 x1 a3 a4 a5 a6 a1))
 have k1 := ka [(7, .r (.tup []) (F37_2_d0 x1 a3 a4 a5 a6 a1))] (apc q0 apn)
 apply bi h <;> intro h2 h
 ·
  apply bi h <;> intro h3 h
  ·
   rw [← sj h]
   exact fc ([(14, .r (.sl 1 a3 1 0 (a4 + (sbytes a1.text).length)) (F37_2_d1 x1 a3 a4 a5 a6 a1))] ++ kH k1) (k1.b (apc ((ap_in (e := eU8) (xs := a6) (news := (sbytes a1.text)) rfl rows_s rfl h2 h3) : appA (F37_2_d0 x1 a3 a4 a5 a6 a1) 5 1 1 (.sl 1 a3 1 0 a4) (vs a1.text) = some ((.sl 1 a3 1 0 (a4 + (sbytes a1.text).length)), F37_2_d1 x1 a3 a4 a5 a6 a1)) apn))
  ·
   rw [← sj h]
   exact fc ([(14, .r (.sl 1 (a3 + 1) 1 0 (a4 + (sbytes a1.text).length)) (F37_2_d2 x1 a3 a4 a5 a6 a1))] ++ kH k1) (k1.b (apc ((ap_out (e := eU8) (xs := a6) (news := (sbytes a1.text)) rfl rows_s rfl h2 h3) : appA (F37_2_d0 x1 a3 a4 a5 a6 a1) 5 1 1 (.sl 1 a3 1 0 a4) (vs a1.text) = some ((.sl 1 (a3 + 1) 1 0 (a4 + (sbytes a1.text).length)), F37_2_d2 x1 a3 a4 a5 a6 a1)) apn))
 ·
  cases h
inductive R_F26_2 where
  | k0 (x0 : Bool) (x1 x2 : Nat) (x3 : List Int)
def F26_2_v (a1 : EditD) (a2 : Bool) (a3 a4 : Nat) (a5 : Int) (a6 : List Int) (r : R_F26_2) : AV := match r with | .k0 x0 x1 x2 x3 => (.tup [])
def F26_2_h (a1 : EditD) (a2 : Bool) (a3 a4 : Nat) (a5 : Int) (a6 : List Int) (r : R_F26_2) : List AB := match r with | .k0 x0 x1 x2 x3 => [.cells 63 [sp x0 0 0, .sl 1 x1 1 0 x2, (i6 (w6 (a5 + (a1.text.size : Int))))], yU x1 x3, .cells 34 ((eEdit a1).map .p)]
def F26_2 (a1 : EditD) (a2 : Bool) (a3 a4 : Nat) (a5 : Int) (a6 : List Int) : Option R_F26_2 :=
  (bif (decide ((IntKind.wrap .i64 (a5 + (a1.text.size : Int))) ≤ 1048576)) then ((F37_2 a1 a2 a3 a4 a6).bind fun r2 => match r2 with | .k0 x2_0 x2_1 x2_2 x2_3 => (some (.k0 x2_1 x2_2 (a4 + (sbytes a1.text).length) x2_3))) else (some (.k0 a2 a3 a4 a6)))
abbrev F26_2_d0 (x2_1 : Bool) (x2_2 a4 : Nat) (a1 : EditD) (a5 : Int) (x2_3 : List Int) : List AB := [.cells 63 [sp x2_1 0 0, (.sl 1 x2_2 1 0 (a4 + (sbytes a1.text).length)), (i6 (w6 (a5 + (a1.text.size : Int))))], yU x2_2 x2_3, .cells 34 ((eEdit a1).map .p)]
theorem F26_2_ok (a1 : EditD) (a2 : Bool) (a3 a4 : Nat) (a5 : Int) (a6 : List Int) {r : R_F26_2} (h : F26_2 a1 a2 a3 a4 a5 a6 = some r) : CS prg 26 [.ptr 0 0, vs a1.text] [.cells 63 [sp a2 0 0, .sl 1 a3 1 0 a4, i6 a5], yU a3 a6, .cells 34 ((eEdit a1).map .p)] = some (F26_2_v a1 a2 a3 a4 a5 a6 r, F26_2_h a1 a2 a3 a4 a5 a6 r) := by
 unfold F26_2 at h
 apply bi h <;> intro h1 h
 ·
  apply bn h; intro r2 h2 h
  cases r2 with
  | k0 x2_0 x2_1 x2_2 x2_3 =>
   rw [← sj h]
   exact fc [(17, .d true), (22, .r (.tup [i6 x2_0, (.p (.val .nilIface))]) (F26_2_d0 x2_1 x2_2 a4 a1 a5 x2_3))] (av h1 (apc ((F37_2_ok a1 a2 a3 a4 (w6 (a5 + (a1.text.size : Int))) a6 h2) : CS prg 37 [.ptr 0 0, vs a1.text] [.cells 63 [sp a2 0 0, .sl 1 a3 1 0 a4, (i6 (w6 (a5 + (a1.text.size : Int))))], yU a3 a6, .cells 34 ((eEdit a1).map .p)] = some ((.tup [i6 x2_0, (.p (.val .nilIface))]), F26_2_d0 x2_1 x2_2 a4 a1 a5 x2_3)) apn))
 ·
  rw [← sj h]
  exact fc [(17, .d false)] (av h1 apn)
inductive E_L13_0 where
  | k0 (x0 : Int) (x1 : Bool) (x2 x3 : Nat) (x4 : Int) (x5 : List Int)
section
variable (a1 : ByteArray) (a2 : List EditD) (a3 : Int)
def L13_0 (v1 v2 : Int) (v3 : Bool) (v4 v5 : Nat) (v6 : Int) (v7 : List Int) : Option (E_L13_0 ⊕ (Int × Int × Bool × Nat × Nat × Int × (List Int))) :=
  (bif (decide (v2 < a3)) then ((getI a2 v2).bind fun x2 => (bif (sl_ok v1 x2.frm a1.size) then ((F26_4 (a1.extract (Int.toNat v1) (Int.toNat x2.frm)) v3 v4 v5 v6 v7).bind fun r4 => match r4 with | .k0 x4_0 x4_1 x4_2 x4_3 => ((F26_2 x2 x4_0 x4_1 x4_2 (IntKind.wrap .i64 (v6 + ((a1.extract (Int.toNat v1) (Int.toNat x2.frm)).size : Int))) x4_3).bind fun r5 => match r5 with | .k0 x5_0 x5_1 x5_2 x5_3 => (some (.inr (x2.til, (IntKind.wrap .i64 (v2 + 1)), x5_0, x5_1, x5_2, (IntKind.wrap .i64 ((IntKind.wrap .i64 (v6 + ((a1.extract (Int.toNat v1) (Int.toNat x2.frm)).size : Int))) + (x2.text.size : Int))), x5_3))))) else none)) else (some (.inl (.k0 v1 v3 v4 v5 v6 v7))))
def L13_0_s (v1 v2 : Int) (v3 : Bool) (v4 v5 : Nat) (v6 : Int) (v7 : List Int) : St := ⟨fr 66 ug [(0, vs a1), (8, .ptr 0 0), (9, i6 v1), (30, ls 3 eEdit a2), (31, i6 a3), (32, i6 v2)], [.cells 63 [sp v3 0 0, .sl 1 v4 1 0 v5, i6 v6], yU v4 v7]⟩
theorem L13_0_k (v1 v2 : Int) (v3 : Bool) (v4 v5 : Nat) (v6 : Int) (v7 : List Int) : okT 2 (L13_0_s a1 a2 a3 v1 v2 v3 v4 v5 v6 v7).h = true := (okT_of rfl (abl_cons (blw_sp rfl (blw_c rfl (blw_c rfl rfl))) (ar rfl)))
abbrev L13_0_e (v1 v2 : Int) (v3 : Bool) (v4 v5 : Nat) (v6 : Int) (v7 : List Int) := evH prg 2 [0, 8, 9, 30, 31, 32, 1000801000501] ir13_l0 (L13_0_s a1 a2 a3 v1 v2 v3 v4 v5 v6 v7)
def L13_0_x (e : E_L13_0) (r : Option (Out × St)) : Prop := match e with | .k0 x0 x1 x2 x3 x4 x5 => ∃ g, r = some ((.brk 0), ⟨fr 66 g [(0, vs a1), (8, .ptr 0 0), (9, i6 x0), (30, ls 3 eEdit a2)], [.cells 63 [sp x1 0 0, .sl 1 x2 1 0 x3, i6 x4], yU x2 x5]⟩)
abbrev L13_0_d0 (x4_0 : Bool) (x4_1 x4_2 : Nat) (v6 v1 : Int) (x2 : EditD) (x4_3 : List Int) : List AB := [.cells 63 [sp x4_0 0 0, .sl 1 x4_1 1 0 x4_2, (i6 (w6 (v6 + ((a1.extract (Int.toNat v1) (Int.toNat x2.frm)).size : Int))))], yU x4_1 x4_3, .cells 34 ((eEdit x2).map .p)]
abbrev L13_0_d1 (x5_0 : Bool) (x5_1 x5_2 : Nat) (v6 v1 : Int) (x2 : EditD) (x5_3 : List Int) : List AB := [.cells 63 [sp x5_0 0 0, .sl 1 x5_1 1 0 x5_2, (i6 (w6 ((w6 (v6 + ((a1.extract (Int.toNat v1) (Int.toNat x2.frm)).size : Int))) + (x2.text.size : Int))))], yU x5_1 x5_3, .cells 34 ((eEdit x2).map .p)]
theorem L13_0_ok (v1 v2 : Int) (v3 : Bool) (v4 v5 : Nat) (v6 : Int) (v7 : List Int) {r : E_L13_0 ⊕ (Int × Int × Bool × Nat × Nat × Int × (List Int))} (h : L13_0 a1 a2 a3 v1 v2 v3 v4 v5 v6 v7 = some r) : OkR (fun e => L13_0_x a1 a2 e (L13_0_e a1 a2 a3 v1 v2 v3 v4 v5 v6 v7)) (fun s => L13_0_e a1 a2 a3 v1 v2 v3 v4 v5 v6 v7 = L13_0_e a1 a2 a3 s.1 s.2.1 s.2.2.1 s.2.2.2.1 s.2.2.2.2.1 s.2.2.2.2.2.1 s.2.2.2.2.2.2) r := by
 unfold L13_0 at h
 apply bi h <;> intro h1 h
 ·
  apply bn h; intro x2 h2 h
  have k0 := ka [(33, .d true), (34, .v (.ro (eEdit x2)))] (av h1 (apc (ig eEdit 3 .i64 h2) apn))
  apply bi h <;> intro h3 h
  ·
   apply bn h; intro r4 h4 h
   cases r4 with
   | k0 x4_0 x4_1 x4_2 x4_3 =>
    apply bn h; intro r5 h5 h
    cases r5 with
    | k0 x5_0 x5_1 x5_2 x5_3 =>
     rw [← sj h]
     exact rn ([(42, .v (vs (a1.extract (Int.toNat v1) (Int.toNat x2.frm)))), (43, .r (.tup []) (L13_0_d0 a1 x4_0 x4_1 x4_2 v6 v1 x2 x4_3)), (47, .r (.tup []) (L13_0_d1 a1 x5_0 x5_1 x5_2 v6 v1 x2 x5_3)), (6000, .d true)] ++ kH k0) (k0.b (apc ((sl_str h3) : slS (vs a1) (some v1) (some x2.frm) = some (vs (a1.extract (Int.toNat v1) (Int.toNat x2.frm)))) (apc ((F26_4_ok (a1.extract (Int.toNat v1) (Int.toNat x2.frm)) v3 v4 v5 v6 v7 x2 h4) : CS prg 26 [.ptr 0 0, (vs (a1.extract (Int.toNat v1) (Int.toNat x2.frm)))] [.cells 63 [sp v3 0 0, .sl 1 v4 1 0 v5, i6 v6], yU v4 v7, .cells 34 ((eEdit x2).map .p)] = some ((.tup []), L13_0_d0 a1 x4_0 x4_1 x4_2 v6 v1 x2 x4_3)) (apc ((F26_2_ok x2 x4_0 x4_1 x4_2 (w6 (v6 + ((a1.extract (Int.toNat v1) (Int.toNat x2.frm)).size : Int))) x4_3 h5) : CS prg 26 [.ptr 0 0, vs x2.text] (L13_0_d0 a1 x4_0 x4_1 x4_2 v6 v1 x2 x4_3) = some ((.tup []), L13_0_d1 a1 x5_0 x5_1 x5_2 v6 v1 x2 x5_3)) (apc (L13_0_k a1 a2 a3 x2.til (w6 (v2 + 1)) x5_0 x5_1 x5_2 (w6 ((w6 (v6 + ((a1.extract (Int.toNat v1) (Int.toNat x2.frm)).size : Int))) + (x2.text.size : Int))) x5_3) apn)))))
  ·
   cases h
 ·
  rw [← sj h]
  exact xb [(33, .d false), (6000, .d true)] (av h1 apn)
theorem L13_0_run (s0 : Int × Int × Bool × Nat × Nat × Int × (List Int)) (e : E_L13_0) (h : runL (fun s => L13_0 a1 a2 a3 s.1 s.2.1 s.2.2.1 s.2.2.2.1 s.2.2.2.2.1 s.2.2.2.2.2.1 s.2.2.2.2.2.2) s0 = some e) : L13_0_x a1 a2 e (L13_0_e a1 a2 a3 s0.1 s0.2.1 s0.2.2.1 s0.2.2.2.1 s0.2.2.2.2.1 s0.2.2.2.2.2.1 s0.2.2.2.2.2.2) := by
  have q := @loop_sound' (Int × Int × Bool × Nat × Nat × Int × (List Int)) E_L13_0 (fun s => L13_0 a1 a2 a3 s.1 s.2.1 s.2.2.1 s.2.2.2.1 s.2.2.2.2.1 s.2.2.2.2.2.1 s.2.2.2.2.2.2) (fun s => L13_0_e a1 a2 a3 s.1 s.2.1 s.2.2.1 s.2.2.2.1 s.2.2.2.2.1 s.2.2.2.2.2.1 s.2.2.2.2.2.2) (L13_0_x a1 a2) (fun s r h => L13_0_ok a1 a2 a3 s.1 s.2.1 s.2.2.1 s.2.2.2.1 s.2.2.2.2.1 s.2.2.2.2.2.1 s.2.2.2.2.2.2 h) s0 e h
  exact q
end
def F52_4_v (a1 : Bool) (a2 a3 : Nat) (a4 : Int) (a5 : List Int) (x0 : Bool) : AV := (.tup [])
def F52_4_h (a1 : Bool) (a2 a3 : Nat) (a4 : Int) (a5 : List Int) (x0 : Bool) : List AB := [.cells 63 [sp x0 0 0, .sl 1 a2 1 0 a3, i6 a4], yU a2 a5]
def F52_4 (a1 : Bool) : Option Bool :=
  (bif a1 then (some a1) else (some true))
abbrev F52_4_d0 (a1 : Bool) (a2 a3 : Nat) (a4 : Int) (a5 : List Int) : List AB := [.cells 63 [sp a1 0 0, .sl 1 a2 1 0 a3, i6 a4], yU a2 a5]
theorem F52_4_ok (a1 : Bool) (a2 a3 : Nat) (a4 : Int) (a5 : List Int) {r : Bool} (h : F52_4 a1 = some r) : CS prg 52 [.ptr 0 0] [.cells 63 [sp a1 0 0, .sl 1 a2 1 0 a3, i6 a4], yU a2 a5] = some (F52_4_v a1 a2 a3 a4 a5 r, F52_4_h a1 a2 a3 a4 a5 r) := by
 unfold F52_4 at h
 apply bi h <;> intro h1 h
 ·
  have q0 := (((rfl : ldA (F52_4_d0 a1 a2 a3 a4 a5) .false 1 (.ptr 0 0) = some (sp a1 0 0)).trans (congrArg some (sp_t h1))) : ldA (F52_4_d0 a1 a2 a3 a4 a5) .false 1 (.ptr 0 0) = some (.ptr 0 0))
  rw [← sj h]
  exact fc [(5, .v (.ptr 0 0)), (17, .v (.ptr 0 0))] (apc q0 (apc q0 apn))
 ·
  rw [← sj h]
  exact fc [(5, .v (.p (.val (.pointer .none))))] (apc (((rfl : ldA (F52_4_d0 a1 a2 a3 a4 a5) .false 1 (.ptr 0 0) = some (sp a1 0 0)).trans (congrArg some (sp_f h1))) : ldA (F52_4_d0 a1 a2 a3 a4 a5) .false 1 (.ptr 0 0) = some (.p (.val (.pointer .none)))) apn)
inductive R_F37_5 where
  | k0 (x0 : Int) (x1 : Bool) (x2 : Nat) (x3 : List Int)
def F37_5_v (a1 : ByteArray) (a2 : Bool) (a3 a4 : Nat) (a5 : Int) (a6 : List Int) (r : R_F37_5) : AV := match r with | .k0 x0 x1 x2 x3 => (.tup [i6 x0, (.p (.val .nilIface))])
def F37_5_h (a1 : ByteArray) (a2 : Bool) (a3 a4 : Nat) (a5 : Int) (a6 : List Int) (r : R_F37_5) : List AB := match r with | .k0 x0 x1 x2 x3 => [.cells 63 [sp x1 0 0, (.sl 1 x2 1 0 (a4 + (sbytes a1).length)), i6 a5], yU x2 x3]
def F37_5 (a1 : ByteArray) (a2 : Bool) (a3 a4 : Nat) (a6 : List Int) : Option R_F37_5 :=
  ((F52_4 a2).bind fun x1 => (bif (apOk a4 (sbytes a1).length a6.length 1) then (bif (decide (a4 + (sbytes a1).length ≤ a6.length)) then (some (.k0 (a1.size : Int) x1 a3 (splice a6 a4 (sbytes a1)))) else (some (.k0 (a1.size : Int) x1 (a3 + 1) (a6.take a4 ++ (sbytes a1))))) else none))
abbrev F37_5_d0 (x1 : Bool) (a3 a4 : Nat) (a5 : Int) (a6 : List Int) : List AB := [.cells 63 [sp x1 0 0, .sl 1 a3 1 0 a4, i6 a5], yU a3 a6]
abbrev F37_5_d1 (x1 : Bool) (a3 a4 : Nat) (a5 : Int) (a6 : List Int) (a1 : ByteArray) : List AB := [.cells 63 [sp x1 0 0, .sl 1 a3 1 0 a4, i6 a5], yU a3 (splice a6 a4 (sbytes a1))]
abbrev F37_5_d2 (x1 : Bool) (a3 a4 : Nat) (a5 : Int) (a6 : List Int) (a1 : ByteArray) : List AB := [.cells 63 [sp x1 0 0, .sl 1 a3 1 0 a4, i6 a5], yU (a3 + 1) (a6.take a4 ++ (sbytes a1))]
theorem F37_5_ok (a1 : ByteArray) (a2 : Bool) (a3 a4 : Nat) (a5 : Int) (a6 : List Int) {r : R_F37_5} (h : F37_5 a1 a2 a3 a4 a6 = some r) : CS prg 37 [.ptr 0 0, vs a1] [.cells 63 [sp a2 0 0, .sl 1 a3 1 0 a4, i6 a5], yU a3 a6] = some (F37_5_v a1 a2 a3 a4 a5 a6 r, F37_5_h a1 a2 a3 a4 a5 a6 r) := by
 unfold F37_5 at h
 apply bn h; intro x1 h1 h
 have q0 := ((F52_4_ok a2 a3 a4 a5 a6 h1) : CS prg 52 [.ptr 0 0] [.cells 63 [sp a2 0 0, .sl 1 a3 1 0 a4, i6 a5], yU a3 a6] = some ((.tup []), F37_5_d0 x1 a3 a4 a5 a6))
 have k1 := ka [(7, .r (.tup []) (F37_5_d0 x1 a3 a4 a5 a6))] (apc q0 apn)
 apply bi h <;> intro h2 h
 ·
  apply bi h <;> intro h3 h
  ·
   rw [← sj h]
   exact fc ([(14, .r (.sl 1 a3 1 0 (a4 + (sbytes a1).length)) (F37_5_d1 x1 a3 a4 a5 a6 a1))] ++ kH k1) (k1.b (apc ((ap_in (e := eU8) (xs := a6) (news := (sbytes a1)) rfl rows_s rfl h2 h3) : appA (F37_5_d0 x1 a3 a4 a5 a6) 5 1 1 (.sl 1 a3 1 0 a4) (vs a1) = some ((.sl 1 a3 1 0 (a4 + (sbytes a1).length)), F37_5_d1 x1 a3 a4 a5 a6 a1)) apn))
  ·
   rw [← sj h]
   exact fc ([(14, .r (.sl 1 (a3 + 1) 1 0 (a4 + (sbytes a1).length)) (F37_5_d2 x1 a3 a4 a5 a6 a1))] ++ kH k1) (k1.b (apc ((ap_out (e := eU8) (xs := a6) (news := (sbytes a1)) rfl rows_s rfl h2 h3) : appA (F37_5_d0 x1 a3 a4 a5 a6) 5 1 1 (.sl 1 a3 1 0 a4) (vs a1) = some ((.sl 1 (a3 + 1) 1 0 (a4 + (sbytes a1).length)), F37_5_d2 x1 a3 a4 a5 a6 a1)) apn))
 ·
  cases h
inductive R_F26_5 where
  | k0 (x0 : Bool) (x1 x2 : Nat) (x3 : List Int)
def F26_5_v (a1 : ByteArray) (a2 : Bool) (a3 a4 : Nat) (a5 : Int) (a6 : List Int) (r : R_F26_5) : AV := match r with | .k0 x0 x1 x2 x3 => (.tup [])
def F26_5_h (a1 : ByteArray) (a2 : Bool) (a3 a4 : Nat) (a5 : Int) (a6 : List Int) (r : R_F26_5) : List AB := match r with | .k0 x0 x1 x2 x3 => [.cells 63 [sp x0 0 0, .sl 1 x1 1 0 x2, (i6 (w6 (a5 + (a1.size : Int))))], yU x1 x3]
def F26_5 (a1 : ByteArray) (a2 : Bool) (a3 a4 : Nat) (a5 : Int) (a6 : List Int) : Option R_F26_5 :=
  (bif (decide ((IntKind.wrap .i64 (a5 + (a1.size : Int))) ≤ 1048576)) then ((F37_5 a1 a2 a3 a4 a6).bind fun r2 => match r2 with | .k0 x2_0 x2_1 x2_2 x2_3 => (some (.k0 x2_1 x2_2 (a4 + (sbytes a1).length) x2_3))) else (some (.k0 a2 a3 a4 a6)))
abbrev F26_5_d0 (x2_1 : Bool) (x2_2 a4 : Nat) (a1 : ByteArray) (a5 : Int) (x2_3 : List Int) : List AB := [.cells 63 [sp x2_1 0 0, (.sl 1 x2_2 1 0 (a4 + (sbytes a1).length)), (i6 (w6 (a5 + (a1.size : Int))))], yU x2_2 x2_3]
theorem F26_5_ok (a1 : ByteArray) (a2 : Bool) (a3 a4 : Nat) (a5 : Int) (a6 : List Int) {r : R_F26_5} (h : F26_5 a1 a2 a3 a4 a5 a6 = some r) : CS prg 26 [.ptr 0 0, vs a1] [.cells 63 [sp a2 0 0, .sl 1 a3 1 0 a4, i6 a5], yU a3 a6] = some (F26_5_v a1 a2 a3 a4 a5 a6 r, F26_5_h a1 a2 a3 a4 a5 a6 r) := by
 unfold F26_5 at h
 apply bi h <;> intro h1 h
 ·
  apply bn h; intro r2 h2 h
  cases r2 with
  | k0 x2_0 x2_1 x2_2 x2_3 =>
   rw [← sj h]
   exact fc [(17, .d true), (22, .r (.tup [i6 x2_0, (.p (.val .nilIface))]) (F26_5_d0 x2_1 x2_2 a4 a1 a5 x2_3))] (av h1 (apc ((F37_5_ok a1 a2 a3 a4 (w6 (a5 + (a1.size : Int))) a6 h2) : CS prg 37 [.ptr 0 0, vs a1] [.cells 63 [sp a2 0 0, .sl 1 a3 1 0 a4, (i6 (w6 (a5 + (a1.size : Int))))], yU a3 a6] = some ((.tup [i6 x2_0, (.p (.val .nilIface))]), F26_5_d0 x2_1 x2_2 a4 a1 a5 x2_3)) apn))
 ·
  rw [← sj h]
  exact fc [(17, .d false)] (av h1 apn)
inductive R_F27 where
  | k0 (x0 : ByteArray)
  | k1 (x0 : ByteArray)
def F27_v (a1 : Bool) (a2 a3 : Nat) (a4 : Int) (a5 : List Int) (r : R_F27) : AV := match r with | .k0 x0 => (vs x0) | .k1 x0 => (vs x0)
def F27_h (a1 : Bool) (a2 a3 : Nat) (a4 : Int) (a5 : List Int) (r : R_F27) : List AB := match r with | .k0 x0 => [.cells 63 [sp a1 0 0, .sl 1 a2 1 0 a3, i6 a4], .dead] | .k1 x0 => [.cells 63 [sp a1 0 0, .sl 1 a2 1 0 a3, i6 a4], yU a2 a5]
def F27 (a3 : Nat) (a5 : List Int) : Option R_F27 :=
  (bif (decide (0 < a3)) then (bif (usOk a3 a5.length) then (some (.k0 (bstr (a5.take a3)))) else none) else (some (.k1 ByteArray.empty)))
abbrev F27_d0 (a1 : Bool) (a2 a3 : Nat) (a4 : Int) (a5 : List Int) : List AB := [.cells 63 [sp a1 0 0, .sl 1 a2 1 0 a3, i6 a4], yU a2 a5]
theorem F27_ok (a1 : Bool) (a2 a3 : Nat) (a4 : Int) (a5 : List Int) {r : R_F27} (h : F27 a3 a5 = some r) : CS prg 27 [.ptr 0 0] [.cells 63 [sp a1 0 0, .sl 1 a2 1 0 a3, i6 a4], yU a2 a5] = some (F27_v a1 a2 a3 a4 a5 r, F27_h a1 a2 a3 a4 a5 r) := by
 unfold F27 at h
 apply bi h <;> intro h1 h
 ·
  have q0 := ((sd_t (e := eU8) (xs := a5) rfl h1) : sdA (F27_d0 a1 a2 a3 a4 a5) (.sl 1 a2 1 0 a3) = some (.rp 1 a2 1 0 0))
  apply bi h <;> intro h2 h
  ·
   rw [← sj h]
   exact fc [(7, .v (.rp 1 a2 1 0 0)), (13, .r (vs (bstr (a5.take a3))) [.cells 63 [sp a1 0 0, .sl 1 a2 1 0 a3, i6 a4], .dead])] (apc q0 (apc ((us_t (e := eU8) (xs := a5) rfl h1 h2) : uSA (F27_d0 a1 a2 a3 a4 a5) 5 (.rp 1 a2 1 0 0) (i6 ((a3 : Nat) : Int)) = some ((vs (bstr (a5.take a3))), [.cells 63 [sp a1 0 0, .sl 1 a2 1 0 a3, i6 a4], .dead])) apn))
  ·
   cases h
 ·
  rw [← sj h]
  exact fc [(7, .v .anyp), (13, .r (vs ByteArray.empty) (F27_d0 a1 a2 a3 a4 a5))] (apc ((sd_f (e := eU8) (xs := a5) rfl h1) : sdA (F27_d0 a1 a2 a3 a4 a5) (.sl 1 a2 1 0 a3) = some .anyp) (apc ((us_f h1) : uSA (F27_d0 a1 a2 a3 a4 a5) 5 .anyp (i6 ((a3 : Nat) : Int)) = some ((vs ByteArray.empty), F27_d0 a1 a2 a3 a4 a5)) apn))
inductive R_F13 where
  | k0 (x0 : ByteArray) (x1 : Int)
def F13_v (a1 : ByteArray) (a2 : List EditD) (r : R_F13) : AV := match r with | .k0 x0 x1 => (.tup [vs x0, i6 x1])
def F13 (Nf : Nat) (a1 : ByteArray) (a2 : List EditD) : Option R_F13 :=
  (bif (decide ((a1.size : Int) > 1048576)) then (some (.k0 (⟨([] : List UInt8).toArray⟩ : ByteArray) 3)) else ((F24 (a1.size : Int) a2).bind fun x2 => (bif x2 then ((F25 Nf a2).bind fun r4 => match r4 with | .k0 x4_0 x4_1 => (bif (x4_1 != 0) then (some (.k0 (⟨([] : List UInt8).toArray⟩ : ByteArray) x4_1)) else ((runL (fun s => L13_0 a1 x4_0 (x4_0.length : Int) s.1 s.2.1 s.2.2.1 s.2.2.2.1 s.2.2.2.2.1 s.2.2.2.2.2.1 s.2.2.2.2.2.2) (0, 0, false, 0, 0, 0, [])).bind fun r6 => match r6 with | .k0 x6_0 x6_1 x6_2 x6_3 x6_4 x6_5 => (bif (sl_ok x6_0 (a1.size : Int) a1.size) then ((F26_5 (a1.extract (Int.toNat x6_0) (Int.toNat (a1.size : Int))) x6_1 x6_2 x6_3 x6_4 x6_5).bind fun r8 => match r8 with | .k0 x8_0 x8_1 x8_2 x8_3 => (bif (decide ((IntKind.wrap .i64 (x6_4 + ((a1.extract (Int.toNat x6_0) (Int.toNat (a1.size : Int))).size : Int))) > 1048576)) then (some (.k0 (⟨([] : List UInt8).toArray⟩ : ByteArray) 3)) else ((F27 x8_2 x8_3).bind fun r10 => match r10 with | .k0 x10_0 => (some (.k0 x10_0 0)) | .k1 x10_0 => (some (.k0 x10_0 0))))) else none)))) else (some (.k0 (⟨([] : List UInt8).toArray⟩ : ByteArray) 4)))))
abbrev F13_d0 (g6 : Nat → AV) (a1 : ByteArray) (x6_0 : Int) (x4_0 : List EditD) (x6_1 : Bool) (x6_2 x6_3 : Nat) (x6_4 : Int) (x6_5 : List Int) : St := ⟨fr 66 g6 [(0, vs a1), (8, .ptr 0 0), (9, i6 x6_0), (30, ls 3 eEdit x4_0)], [.cells 63 [sp x6_1 0 0, .sl 1 x6_2 1 0 x6_3, i6 x6_4], yU x6_2 x6_5]⟩
abbrev F13_d1 (x8_0 : Bool) (x8_1 x8_2 : Nat) (x6_4 : Int) (a1 : ByteArray) (x6_0 : Int) (x8_3 : List Int) : List AB := [.cells 63 [sp x8_0 0 0, .sl 1 x8_1 1 0 x8_2, (i6 (w6 (x6_4 + ((a1.extract (Int.toNat x6_0) (Int.toNat (a1.size : Int))).size : Int))))], yU x8_1 x8_3]
abbrev F13_d2 (x8_0 : Bool) (x8_1 x8_2 : Nat) (x6_4 : Int) (a1 : ByteArray) (x6_0 : Int) : List AB := [.cells 63 [sp x8_0 0 0, .sl 1 x8_1 1 0 x8_2, (i6 (w6 (x6_4 + ((a1.extract (Int.toNat x6_0) (Int.toNat (a1.size : Int))).size : Int))))], .dead]
theorem F13_ok (Nf : Nat) (a1 : ByteArray) (a2 : List EditD) {r : R_F13} (h : F13 Nf a1 a2 = some r) : PR1 prg 13 [vs a1, ls 3 eEdit a2] (F13_v a1 a2 r) := by
 unfold F13 at h
 apply bi h <;> intro h1 h
 ·
  rw [← sj h]
  exact fq [(14, .d true)] (av h1 apn)
 ·
  apply bn h; intro x2 h2 h
  apply bi h <;> intro h3 h
  ·
   have q0 := ((((F24_ok (a1.size : Int) a2 h2).cp rfl _).trans (congrArg (fun z => some (vb z)) h3)) : CP prg 24 [(i6 (a1.size : Int)), ls 3 eEdit a2] [] = some (vb true))
   have k1 := ka [(14, .d false), (18, .v (vb true))] (av h1 (apc q0 apn))
   apply bn h; intro r4 h4 h
   cases r4 with
   | k0 x4_0 x4_1 =>
    have q2 := (((F25_ok Nf a2 h4).cp rfl _) : CP prg 25 [ls 3 eEdit a2] [] = some (.tup [ls 3 eEdit x4_0, i6 x4_1]))
    have k3 := k1.a [(22, .v (.tup [ls 3 eEdit x4_0, i6 x4_1]))] (apc q2 apn)
    apply bi h <;> intro h5 h
    ·
     rw [← sj h]
     exact fq ([(26, .d true)] ++ kH k3) (k3.b (av h5 apn))
    ·
     have k4 := k3.a [(26, .d false), (31, .v (i6 (x4_0.length : Int)))] (av h5 (apc (lg x4_0 eEdit 3) apn))
     apply bn h; intro r6 h6 h
     cases r6 with
     | k0 x6_0 x6_1 x6_2 x6_3 x6_4 x6_5 =>
      obtain ⟨g6, e6⟩ := L13_0_run a1 x4_0 (x4_0.length : Int) (0, 0, false, 0, 0, 0, []) _ h6
      have q5 := (e6 : L13_0_e a1 x4_0 (x4_0.length : Int) 0 0 false 0 0 0 ([]) = some ((.brk 0), F13_d0 g6 a1 x6_0 x4_0 x6_1 x6_2 x6_3 x6_4 x6_5))
      have k6 := k4.a [(2000, .l (.brk 0) (F13_d0 g6 a1 x6_0 x4_0 x6_1 x6_2 x6_3 x6_4 x6_5))] (apc (L13_0_k a1 x4_0 (x4_0.length : Int) 0 0 false 0 0 0 ([])) (apc q5 apn))
      apply bi h <;> intro h7 h
      ·
       have q7 := ((sl_str h7) : slS (vs a1) (some x6_0) (some (a1.size : Int)) = some (vs (a1.extract (Int.toNat x6_0) (Int.toNat (a1.size : Int)))))
       have k8 := k6.a [(55, .v (vs (a1.extract (Int.toNat x6_0) (Int.toNat (a1.size : Int)))))] (apc q7 apn)
       apply bn h; intro r8 h8 h
       cases r8 with
       | k0 x8_0 x8_1 x8_2 x8_3 =>
        have q9 := ((F26_5_ok (a1.extract (Int.toNat x6_0) (Int.toNat (a1.size : Int))) x6_1 x6_2 x6_3 x6_4 x6_5 h8) : CS prg 26 [.ptr 0 0, (vs (a1.extract (Int.toNat x6_0) (Int.toNat (a1.size : Int))))] [.cells 63 [sp x6_1 0 0, .sl 1 x6_2 1 0 x6_3, i6 x6_4], yU x6_2 x6_5] = some ((.tup []), F13_d1 x8_0 x8_1 x8_2 x6_4 a1 x6_0 x8_3))
        have k10 := k8.a [(56, .r (.tup []) (F13_d1 x8_0 x8_1 x8_2 x6_4 a1 x6_0 x8_3))] (apc q9 apn)
        apply bi h <;> intro h9 h
        ·
         rw [← sj h]
         exact fq ([(61, .d true), (6000, .d true)] ++ kH k10) (k10.b (av h9 apn))
        ·
         apply bn h; intro r10 h10 h
         cases r10 with
         | k0 x10_0 =>
          rw [← sj h]
          exact fq ([(61, .d false), (65, .r (vs x10_0) (F13_d2 x8_0 x8_1 x8_2 x6_4 a1 x6_0)), (6000, .d true)] ++ kH k10) (k10.b (av h9 (apc ((F27_ok x8_0 x8_1 x8_2 (w6 (x6_4 + ((a1.extract (Int.toNat x6_0) (Int.toNat (a1.size : Int))).size : Int))) x8_3 h10) : CS prg 27 [.ptr 0 0] (F13_d1 x8_0 x8_1 x8_2 x6_4 a1 x6_0 x8_3) = some ((vs x10_0), F13_d2 x8_0 x8_1 x8_2 x6_4 a1 x6_0)) apn)))
         | k1 x10_0 =>
          rw [← sj h]
          exact fq ([(61, .d false), (65, .r (vs x10_0) (F13_d1 x8_0 x8_1 x8_2 x6_4 a1 x6_0 x8_3)), (6000, .d true)] ++ kH k10) (k10.b (av h9 (apc ((F27_ok x8_0 x8_1 x8_2 (w6 (x6_4 + ((a1.extract (Int.toNat x6_0) (Int.toNat (a1.size : Int))).size : Int))) x8_3 h10) : CS prg 27 [.ptr 0 0] (F13_d1 x8_0 x8_1 x8_2 x6_4 a1 x6_0 x8_3) = some ((vs x10_0), F13_d1 x8_0 x8_1 x8_2 x6_4 a1 x6_0 x8_3)) apn)))
      ·
       cases h
  ·
   rw [← sj h]
   exact fq [(14, .d false), (18, .v (vb false))] (av h1 (apc ((((F24_ok (a1.size : Int) a2 h2).cp rfl _).trans (congrArg (fun z => some (vb z)) h3)) : CP prg 24 [(i6 (a1.size : Int)), ls 3 eEdit a2] [] = some (vb false)) apn))
def F8_v (a1 a2 : Int) (x0 : Bool) : AV := (vb x0)
def F8 (Nf : Nat) (a1 a2 : Int) : Option Bool :=
  (bif (decide (a1 < 0)) then ((F9).bind fun x2 => (some x2)) else (bif (decide (a1 > 3)) then ((F9).bind fun x3 => (some x3)) else (bif (decide (a2 < 0)) then ((F9).bind fun x4 => (some x4)) else (bif (decide (a2 > 3)) then ((F9).bind fun x5 => (some x5)) else ((F21 (⟨([120] : List UInt8).toArray⟩ : ByteArray) (IntKind.wrap .i64 (1048575 + a1))).bind fun x5 => ((F10_2 x5).bind fun r6 => match r6 with | .k0 x6_0 x6_1 x6_2 => ((F11_2 x5).bind fun x7 => ((F21 (⟨([121] : List UInt8).toArray⟩ : ByteArray) a2).bind fun x8 => ((F13 Nf x5 ([(⟨0, 0, x8⟩ : EditD)])).bind fun r9 => match r9 with | .k0 x9_0 x9_1 => (bif (decide (a1 > 1)) then (bif (x6_2 == 3) then (bif (x7 == 3) then (bif (x9_0.toList == (⟨([] : List UInt8).toArray⟩ : ByteArray).toList) then (bif (x9_1 == 3) then ((F9).bind fun x15 => (some x15)) else (some false)) else (some false)) else (some false)) else (some false)) else (bif (decide ((IntKind.wrap .i64 (a1 + a2)) > 1)) then (bif (x6_2 == 0) then (bif (x7 == 0) then (bif (x9_0.toList == (⟨([] : List UInt8).toArray⟩ : ByteArray).toList) then (bif (x9_1 == 3) then ((F9).bind fun x16 => (some x16)) else (some false)) else (some false)) else (some false)) else (some false)) else (bif (x6_2 == 0) then (bif (x7 == 0) then (bif ((x9_0.size : Int) == (IntKind.wrap .i64 ((x5.size : Int) + a2))) then (bif (x9_1 == 0) then ((F9).bind fun x16 => (some x16)) else (some false)) else (some false)) else (some false)) else (some false)))))))))))))
abbrev F8_d0 (x6_0 x6_1 : Int) (x8 : ByteArray) : List AB := [.cells 23 [i6 x6_0, i6 x6_1], .row 34 3 0 [[i6 0, i6 0, vs x8]]]
theorem F8_ok (Nf : Nat) (a1 a2 : Int) {r : Bool} (h : F8 Nf a1 a2 = some r) : PR1 prg 8 [i6 a1, i6 a2] (F8_v a1 a2 r) := by
 unfold F8 at h
 apply bi h <;> intro h1 h
 ·
  apply bn h; intro x2 h2 h
  rw [← sj h]
  exact fq [(13, .d true), (26, .v (vb x2))] (av h1 (apc (((F9_ok  h2).cp rfl _) : CP prg 9 [] [] = some (vb x2)) apn))
 ·
  apply bi h <;> intro h2 h
  ·
   apply bn h; intro x3 h3 h
   rw [← sj h]
   exact fq [(13, .d false), (16, .d true), (26, .v (vb x3))] (av h1 (av h2 (apc (((F9_ok  h3).cp rfl _) : CP prg 9 [] [] = some (vb x3)) apn)))
  ·
   have k0 := ka [(13, .d false), (16, .d false)] (av h1 (av h2 apn))
   apply bi h <;> intro h3 h
   ·
    apply bn h; intro x4 h4 h
    rw [← sj h]
    exact fq ([(20, .d true), (26, .v (vb x4))] ++ kH k0) (k0.b (av h3 (apc (((F9_ok  h4).cp rfl _) : CP prg 9 [] [] = some (vb x4)) apn)))
   ·
    apply bi h <;> intro h4 h
    ·
     apply bn h; intro x5 h5 h
     rw [← sj h]
     exact fq ([(20, .d false), (24, .d true), (26, .v (vb x5))] ++ kH k0) (k0.b (av h3 (av h4 (apc (((F9_ok  h5).cp rfl _) : CP prg 9 [] [] = some (vb x5)) apn))))
    ·
     have k1 := k0.a [(20, .d false), (24, .d false)] (av h3 (av h4 apn))
     apply bn h; intro x5 h5 h
     have q2 := (((F21_ok (⟨([120] : List UInt8).toArray⟩ : ByteArray) (w6 (1048575 + a1)) h5).cp rfl _) : CP prg 21 [(vs (⟨([120] : List UInt8).toArray⟩ : ByteArray)), (i6 (w6 (1048575 + a1)))] [] = some (vs x5))
     apply bn h; intro r6 h6 h
     cases r6 with
     | k0 x6_0 x6_1 x6_2 =>
      have q3 := (((F10_2_ok x5 h6).cp rfl _) : CP prg 10 [vs x5, i6 0] [] = some (.tup [(.agg [i6 x6_0, i6 x6_1]), i6 x6_2]))
      have k4 := k1.a [(29, .v (vs x5)), (32, .v (.tup [(.agg [i6 x6_0, i6 x6_1]), i6 x6_2]))] (apc q2 (apc q3 apn))
      apply bn h; intro x7 h7 h
      have q5 := (((F11_2_ok x5 h7).cp rfl _) : CP prg 11 [vs x5, (.agg [i6 1, i6 1])] [.cells 23 [i6 x6_0, i6 x6_1]] = some (.tup [i6 0, i6 x7]))
      apply bn h; intro x8 h8 h
      have q6 := (((F21_ok (⟨([121] : List UInt8).toArray⟩ : ByteArray) a2 h8).cp rfl _) : CP prg 21 [(vs (⟨([121] : List UInt8).toArray⟩ : ByteArray)), i6 a2] [.cells 23 [i6 x6_0, i6 x6_1]] = some (vs x8))
      have k7 := k4.a [(38, .v (.tup [i6 0, i6 x7])), (44, .v (vs x8))] (apc q5 (apc q6 apn))
      apply bn h; intro r9 h9 h
      cases r9 with
      | k0 x9_0 x9_1 =>
       have q8 := (((F13_ok Nf x5 ([(⟨0, 0, x8⟩ : EditD)]) h9).own rfl (purAs_cons rfl (purAs_cons (purA_sl (e := eEdit) (xs := [(⟨0, 0, x8⟩ : EditD)]) rfl rfl) purAs_nil)) rfl) : CP prg 13 [vs x5, .sl 1 0 3 0 1] (F8_d0 x6_0 x6_1 x8) = some (.tup [vs x9_0, i6 x9_1]))
       apply bi h <;> intro h10 h
       ·
        have k9 := k7.a [(47, .v (.tup [vs x9_0, i6 x9_1])), (51, .d true)] (apc q8 (av h10 apn))
        apply bi h <;> intro h11 h
        ·
         apply bi h <;> intro h12 h
         ·
          have k10 := k9.a [(53, .d true), (56, .d true)] (av h11 (av h12 apn))
          apply bi h <;> intro h13 h
          ·
           apply bi h <;> intro h14 h
           ·
            apply bn h; intro x15 h15 h
            rw [← sj h]
            exact fq ([(60, .d true), (64, .d true), (67, .v (vb x15))] ++ kH k10) (k10.b (av h13 (av h14 (apc (((F9_ok  h15).cp rfl _) : CP prg 9 [] (F8_d0 x6_0 x6_1 x8) = some (vb x15)) apn))))
           ·
            rw [← sj h]
            exact fq ([(60, .d true), (64, .d false)] ++ kH k10) (k10.b (av h13 (av h14 apn)))
          ·
           rw [← sj h]
           exact fq ([(60, .d false)] ++ kH k10) (k10.b (av h13 apn))
         ·
          rw [← sj h]
          exact fq ([(53, .d true), (56, .d false)] ++ kH k9) (k9.b (av h11 (av h12 apn)))
        ·
         rw [← sj h]
         exact fq ([(53, .d false)] ++ kH k9) (k9.b (av h11 apn))
       ·
        have k11 := k7.a [(47, .v (.tup [vs x9_0, i6 x9_1])), (51, .d false)] (apc q8 (av h10 apn))
        apply bi h <;> intro h11 h
        ·
         apply bi h <;> intro h12 h
         ·
          have k12 := k11.a [(72, .d true), (74, .d true)] (av h11 (av h12 apn))
          apply bi h <;> intro h13 h
          ·
           apply bi h <;> intro h14 h
           ·
            have k13 := k12.a [(77, .d true), (81, .d true)] (av h13 (av h14 apn))
            apply bi h <;> intro h15 h
            ·
             apply bn h; intro x16 h16 h
             rw [← sj h]
             exact fq ([(85, .d true), (88, .v (vb x16))] ++ kH k13) (k13.b (av h15 (apc (((F9_ok  h16).cp rfl _) : CP prg 9 [] (F8_d0 x6_0 x6_1 x8) = some (vb x16)) apn)))
            ·
             rw [← sj h]
             exact fq ([(85, .d false)] ++ kH k13) (k13.b (av h15 apn))
           ·
            rw [← sj h]
            exact fq ([(77, .d true), (81, .d false)] ++ kH k12) (k12.b (av h13 (av h14 apn)))
          ·
           rw [← sj h]
           exact fq ([(77, .d false)] ++ kH k12) (k12.b (av h13 apn))
         ·
          rw [← sj h]
          exact fq ([(72, .d true), (74, .d false)] ++ kH k11) (k11.b (av h11 (av h12 apn)))
        ·
         apply bi h <;> intro h12 h
         ·
          have k14 := k11.a [(72, .d false), (91, .d true)] (av h11 (av h12 apn))
          apply bi h <;> intro h13 h
          ·
           apply bi h <;> intro h14 h
           ·
            have k15 := k14.a [(94, .d true), (103, .d true)] (av h13 (av h14 apn))
            apply bi h <;> intro h15 h
            ·
             apply bn h; intro x16 h16 h
             rw [← sj h]
             exact fq ([(107, .d true), (110, .v (vb x16))] ++ kH k15) (k15.b (av h15 (apc (((F9_ok  h16).cp rfl _) : CP prg 9 [] (F8_d0 x6_0 x6_1 x8) = some (vb x16)) apn)))
            ·
             rw [← sj h]
             exact fq ([(107, .d false)] ++ kH k15) (k15.b (av h15 apn))
           ·
            rw [← sj h]
            exact fq ([(94, .d true), (103, .d false)] ++ kH k14) (k14.b (av h13 (av h14 apn)))
          ·
           rw [← sj h]
           exact fq ([(94, .d false)] ++ kH k14) (k14.b (av h13 apn))
         ·
          rw [← sj h]
          exact fq ([(72, .d false), (91, .d false)] ++ kH k11) (k11.b (av h11 (av h12 apn)))
end
end Go.Proofs.Tryd
