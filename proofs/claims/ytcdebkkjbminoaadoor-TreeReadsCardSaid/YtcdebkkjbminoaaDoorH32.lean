/- Decompiled by a program: functions as plain data see them, part 1. -/
import Derived.Test.YtcdebkkjbminoaaDoorW31
namespace Go.Proofs.Tryd
set_option linter.unusedSimpArgs false
set_option linter.unusedVariables false
set_option maxHeartbeats 4000000
open Go Go.Vs
noncomputable section
section
variable [ErC]
abbrev T_F72 := TreeD → Int → TreeD → Bool → Option Bool
def F54 (a1 : TreeD) (a3 : Bool) : Option Bool :=
  (bif (decide (a1.prod < (-1))) then (some true) else (bif (decide (a1.prod > 2147483647)) then (some true) else (bif (a1.prod == (-1)) then (bif (decide ((a1.kids.length : Int) > 0)) then (some true) else (bif (decide (a1.prod ≥ 0)) then (bif (a1.byte != 0) then (some true) else (some a3)) else (some a3))) else (bif (decide (a1.prod ≥ 0)) then (bif (a1.byte != 0) then (some true) else (some a3)) else (some a3)))))
inductive E_L72_0 where
  | k0 (x0 : Bool)
def L72_0 (rF72 : T_F72) (a1 : Int) (a2 : TreeD) (a3 : Int) (a4 : TreeD) (v1 : Int) (v2 : Bool) : Option (E_L72_0 ⊕ (Int × Bool)) :=
  (bif (decide (v1 < a3)) then ((getI a2.kids v1).bind fun x2 => ((rF72 x2 (IntKind.wrap .i64 (a1 - 1)) a4 v2).bind fun x3 => (some (.inr ((IntKind.wrap .i64 (v1 + 1)), x3))))) else (some (.inl (.k0 v2))))
def F72_b (rF72 : T_F72) (a1 : TreeD) (a2 : Int) (a3 : TreeD) (a4 : Bool) : Option Bool :=
  (bif (a2 == 0) then none else ((F54 a1 a4).bind fun x2 => ((runL (fun s => L72_0 rF72 a2 a1 (a1.kids.length : Int) a3 s.1 s.2) (0, x2)).bind fun r3 => match r3 with | .k0 x3_0 => (some x3_0))))
def F72 : Nat → T_F72
  | 0 => fun _ _ _ _ => none
  | Nf + 1 => F72_b (F72 Nf)
end
end
end Go.Proofs.Tryd
