/- Decompiled by a program: functions as plain data see them, part 1. -/
import Derived.Test.YtcdebkkjbminoaaDoorW82
namespace Go.Proofs.Tryd
set_option linter.unusedSimpArgs false
set_option linter.unusedVariables false
set_option linter.unusedSectionVars false
set_option maxHeartbeats 4000000
open Go Go.Vs
noncomputable section
section
variable [ErC]
inductive R_F48_3 where
  | k0 (x0 : Nat) (x1 : List Int) (x2 : Bool) (x3 : Nat)
def F48_3_v (a1 a2 : TreeD) (a3 : Nat) (a4 : List Int) (a5 : Bool) (a6 : Nat) (r : R_F48_3) : AV := match r with | .k0 x0 x1 x2 x3 => (.tup [])
def F48_3_h (a1 a2 : TreeD) (a3 : Nat) (a4 : List Int) (a5 : Bool) (a6 : Nat) (r : R_F48_3) : List AB := match r with | .k0 x0 x1 x2 x3 => [.cells 25 ((cT a2).map .p), yU x0 x1, .cells 87 [sp x2 2 0, .sl 1 x0 1 0 x3]]
abbrev T_F48_3 := TreeD → TreeD → Nat → (List Int) → Bool → Nat → Option R_F48_3
abbrev H_F48_3 (f : T_F48_3) : Prop := ∀ (a1 a2 : TreeD) (a3 : Nat) (a4 : List Int) (a5 : Bool) (a6 : Nat) {r : R_F48_3}, f a1 a2 a3 a4 a5 a6 = some r → ∀ hx : List AB, CS pg 48 [.ptr 2 0, (.agg ((cT a1).map .p))] ([.cells 25 ((cT a2).map .p), yU a3 a4, .cells 87 [sp a5 2 0, .sl 1 a3 1 0 a6]] ++ hx) = some (F48_3_v a1 a2 a3 a4 a5 a6 r, F48_3_h a1 a2 a3 a4 a5 a6 r ++ hx)
def F82_5_v (a1 : TreeD) (a2 : Nat) (a3 : List Int) (a4 : Bool) (a5 : Nat) (a6 : TreeD) (a7 a8 : Int) (x0 : Bool) : AV := (.tup [])
def F82_5_h (a1 : TreeD) (a2 : Nat) (a3 : List Int) (a4 : Bool) (a5 : Nat) (a6 : TreeD) (a7 a8 : Int) (x0 : Bool) : List AB := [.cells 25 ((cT a1).map .p), yU a2 a3, .cells 87 [sp x0 2 0, .sl 1 a2 1 0 a5], .cells 25 ((cT a6).map .p), .row 5 1 0 [[vi .u8 120], [vi .u8 a7], [vi .u8 a8]]]
def F82_5 (a4 : Bool) : Option Bool :=
  (bif a4 then (some a4) else (some true))
abbrev F82_5_d0 (a1 : TreeD) (a2 : Nat) (a3 : List Int) (a4 : Bool) (a5 : Nat) (a6 : TreeD) (a7 a8 : Int) : List AB := [.cells 25 ((cT a1).map .p), yU a2 a3, .cells 87 [sp a4 2 0, .sl 1 a2 1 0 a5], .cells 25 ((cT a6).map .p), .row 5 1 0 [[vi .u8 120], [vi .u8 a7], [vi .u8 a8]]]
theorem F82_5_ok (a1 : TreeD) (a2 : Nat) (a3 : List Int) (a4 : Bool) (a5 : Nat) (a6 : TreeD) (a7 a8 : Int) {r : Bool} (h : F82_5 a4 = some r) : CS pg 82 [.ptr 2 0] [.cells 25 ((cT a1).map .p), yU a2 a3, .cells 87 [sp a4 2 0, .sl 1 a2 1 0 a5], .cells 25 ((cT a6).map .p), .row 5 1 0 [[vi .u8 120], [vi .u8 a7], [vi .u8 a8]]] = some (F82_5_v a1 a2 a3 a4 a5 a6 a7 a8 r, F82_5_h a1 a2 a3 a4 a5 a6 a7 a8 r) := by
 unfold F82_5 at h
 apply bi h <;> intro h1 h
 ·
  have q0 := (((rfl : ldA (F82_5_d0 a1 a2 a3 a4 a5 a6 a7 a8) .false 1 (.ptr 2 0) = some (sp a4 2 0)).trans (congrArg some (sp_t h1))) : ldA (F82_5_d0 a1 a2 a3 a4 a5 a6 a7 a8) .false 1 (.ptr 2 0) = some (.ptr 2 0))
  rw [← sj h]
  exact fc [(5, .v (.ptr 2 0)), (17, .v (.ptr 2 0))] (apc q0 (apc q0 apn))
 ·
  rw [← sj h]
  exact fc [(5, .v (.p (.val (.pointer .none))))] (apc (((rfl : ldA (F82_5_d0 a1 a2 a3 a4 a5 a6 a7 a8) .false 1 (.ptr 2 0) = some (sp a4 2 0)).trans (congrArg some (sp_f h1))) : ldA (F82_5_d0 a1 a2 a3 a4 a5 a6 a7 a8) .false 1 (.ptr 2 0) = some (.p (.val (.pointer .none)))) apn)
inductive R_F68_3 where
  | k0 (x0 : Nat) (x1 : List Int) (x2 : Bool)
def F68_3_v (a1 : TreeD) (a2 : Nat) (a3 : List Int) (a4 : Bool) (a5 : Nat) (a6 : TreeD) (a7 a8 : Int) (r : R_F68_3) : AV := match r with | .k0 x0 x1 x2 => (.tup [i6 3, (.p (.val .nilIface))])
def F68_3_h (a1 : TreeD) (a2 : Nat) (a3 : List Int) (a4 : Bool) (a5 : Nat) (a6 : TreeD) (a7 a8 : Int) (r : R_F68_3) : List AB := match r with | .k0 x0 x1 x2 => [.cells 25 ((cT a1).map .p), yU x0 x1, .cells 87 [sp x2 2 0, (.sl 1 x0 1 0 (a5 + 3))], .cells 25 ((cT a6).map .p), .row 5 1 0 [[vi .u8 120], [vi .u8 a7], [vi .u8 a8]]]
def F68_3 (a2 : Nat) (a3 : List Int) (a4 : Bool) (a5 : Nat) (a7 a8 : Int) : Option R_F68_3 :=
  ((F82_5 a4).bind fun x1 => (bif (apOk a5 3 a3.length 1) then (bif (decide (a5 + 3 ≤ a3.length)) then (some (.k0 a2 (splice a3 a5 [120, a7, a8]) x1)) else (some (.k0 (a2 + 1) (a3.take a5 ++ [120, a7, a8]) x1))) else none))
abbrev F68_3_d0 (a1 : TreeD) (a2 : Nat) (a3 : List Int) (x1 : Bool) (a5 : Nat) (a6 : TreeD) (a7 a8 : Int) : List AB := [.cells 25 ((cT a1).map .p), yU a2 a3, .cells 87 [sp x1 2 0, .sl 1 a2 1 0 a5], .cells 25 ((cT a6).map .p), .row 5 1 0 [[vi .u8 120], [vi .u8 a7], [vi .u8 a8]]]
abbrev F68_3_d1 (a1 : TreeD) (a2 : Nat) (a3 : List Int) (a5 : Nat) (a7 a8 : Int) (x1 : Bool) (a6 : TreeD) : List AB := [.cells 25 ((cT a1).map .p), yU a2 (splice a3 a5 [120, a7, a8]), .cells 87 [sp x1 2 0, .sl 1 a2 1 0 a5], .cells 25 ((cT a6).map .p), .row 5 1 0 [[vi .u8 120], [vi .u8 a7], [vi .u8 a8]]]
abbrev F68_3_d2 (a1 : TreeD) (a2 : Nat) (a3 : List Int) (a5 : Nat) (a7 a8 : Int) (x1 : Bool) (a6 : TreeD) : List AB := [.cells 25 ((cT a1).map .p), yU (a2 + 1) (a3.take a5 ++ [120, a7, a8]), .cells 87 [sp x1 2 0, .sl 1 a2 1 0 a5], .cells 25 ((cT a6).map .p), .row 5 1 0 [[vi .u8 120], [vi .u8 a7], [vi .u8 a8]]]
theorem F68_3_ok (a1 : TreeD) (a2 : Nat) (a3 : List Int) (a4 : Bool) (a5 : Nat) (a6 : TreeD) (a7 a8 : Int) {r : R_F68_3} (h : F68_3 a2 a3 a4 a5 a7 a8 = some r) : CS pg 68 [.ptr 2 0, .sl 4 0 1 0 3] [.cells 25 ((cT a1).map .p), yU a2 a3, .cells 87 [sp a4 2 0, .sl 1 a2 1 0 a5], .cells 25 ((cT a6).map .p), .row 5 1 0 [[vi .u8 120], [vi .u8 a7], [vi .u8 a8]]] = some (F68_3_v a1 a2 a3 a4 a5 a6 a7 a8 r, F68_3_h a1 a2 a3 a4 a5 a6 a7 a8 r) := by
 unfold F68_3 at h
 apply bn h; intro x1 h1 h
 have q0 := ((F82_5_ok a1 a2 a3 a4 a5 a6 a7 a8 h1) : CS pg 82 [.ptr 2 0] [.cells 25 ((cT a1).map .p), yU a2 a3, .cells 87 [sp a4 2 0, .sl 1 a2 1 0 a5], .cells 25 ((cT a6).map .p), .row 5 1 0 [[vi .u8 120], [vi .u8 a7], [vi .u8 a8]]] = some ((.tup []), F68_3_d0 a1 a2 a3 x1 a5 a6 a7 a8))
 have k1 := ka [(7, .r (.tup []) (F68_3_d0 a1 a2 a3 x1 a5 a6 a7 a8))] (apc q0 apn)
 apply bi h <;> intro h2 h
 ·
  apply bi h <;> intro h3 h
  ·
   rw [← sj h]
   exact fc ([(14, .r (.sl 1 a2 1 0 (a5 + 3)) (F68_3_d1 a1 a2 a3 a5 a7 a8 x1 a6))] ++ kH k1) (k1.b (apc ((ap_in (e := eU8) (xs := a3) (news := [120, a7, a8]) rfl (rows_x (e := eU8) (xs := [120, a7, a8]) rfl) rfl h2 h3) : appA (F68_3_d0 a1 a2 a3 x1 a5 a6 a7 a8) 5 1 1 (.sl 1 a2 1 0 a5) (.sl 4 0 1 0 3) = some ((.sl 1 a2 1 0 (a5 + 3)), F68_3_d1 a1 a2 a3 a5 a7 a8 x1 a6)) apn))
  ·
   rw [← sj h]
   exact fc ([(14, .r (.sl 1 (a2 + 1) 1 0 (a5 + 3)) (F68_3_d2 a1 a2 a3 a5 a7 a8 x1 a6))] ++ kH k1) (k1.b (apc ((ap_out (e := eU8) (xs := a3) (news := [120, a7, a8]) rfl (rows_x (e := eU8) (xs := [120, a7, a8]) rfl) rfl h2 h3) : appA (F68_3_d0 a1 a2 a3 x1 a5 a6 a7 a8) 5 1 1 (.sl 1 a2 1 0 a5) (.sl 4 0 1 0 3) = some ((.sl 1 (a2 + 1) 1 0 (a5 + 3)), F68_3_d2 a1 a2 a3 a5 a7 a8 x1 a6)) apn))
 ·
  cases h
def F82_6_v (a1 : TreeD) (a2 : Nat) (a3 : List Int) (a4 : Bool) (a5 : Nat) (a6 : TreeD) (x0 : Bool) : AV := (.tup [])
def F82_6_h (a1 : TreeD) (a2 : Nat) (a3 : List Int) (a4 : Bool) (a5 : Nat) (a6 : TreeD) (x0 : Bool) : List AB := [.cells 25 ((cT a1).map .p), yU a2 a3, .cells 87 [sp x0 2 0, .sl 1 a2 1 0 a5], .cells 25 ((cT a6).map .p)]
def F82_6 (a4 : Bool) : Option Bool :=
  (bif a4 then (some a4) else (some true))
abbrev F82_6_d0 (a1 : TreeD) (a2 : Nat) (a3 : List Int) (a4 : Bool) (a5 : Nat) (a6 : TreeD) : List AB := [.cells 25 ((cT a1).map .p), yU a2 a3, .cells 87 [sp a4 2 0, .sl 1 a2 1 0 a5], .cells 25 ((cT a6).map .p)]
theorem F82_6_ok (a1 : TreeD) (a2 : Nat) (a3 : List Int) (a4 : Bool) (a5 : Nat) (a6 : TreeD) {r : Bool} (h : F82_6 a4 = some r) : CS pg 82 [.ptr 2 0] [.cells 25 ((cT a1).map .p), yU a2 a3, .cells 87 [sp a4 2 0, .sl 1 a2 1 0 a5], .cells 25 ((cT a6).map .p)] = some (F82_6_v a1 a2 a3 a4 a5 a6 r, F82_6_h a1 a2 a3 a4 a5 a6 r) := by
 unfold F82_6 at h
 apply bi h <;> intro h1 h
 ·
  have q0 := (((rfl : ldA (F82_6_d0 a1 a2 a3 a4 a5 a6) .false 1 (.ptr 2 0) = some (sp a4 2 0)).trans (congrArg some (sp_t h1))) : ldA (F82_6_d0 a1 a2 a3 a4 a5 a6) .false 1 (.ptr 2 0) = some (.ptr 2 0))
  rw [← sj h]
  exact fc [(5, .v (.ptr 2 0)), (17, .v (.ptr 2 0))] (apc q0 (apc q0 apn))
 ·
  rw [← sj h]
  exact fc [(5, .v (.p (.val (.pointer .none))))] (apc (((rfl : ldA (F82_6_d0 a1 a2 a3 a4 a5 a6) .false 1 (.ptr 2 0) = some (sp a4 2 0)).trans (congrArg some (sp_f h1))) : ldA (F82_6_d0 a1 a2 a3 a4 a5 a6) .false 1 (.ptr 2 0) = some (.p (.val (.pointer .none)))) apn)
inductive R_F69_3 where
  | k0 (x0 : Int) (x1 : Nat) (x2 : List Int) (x3 : Bool)
def F69_3_v (a1 : ByteArray) (a2 : TreeD) (a3 : Nat) (a4 : List Int) (a5 : Bool) (a6 : Nat) (a7 : TreeD) (r : R_F69_3) : AV := match r with | .k0 x0 x1 x2 x3 => (.tup [i6 x0, (.p (.val .nilIface))])
def F69_3_h (a1 : ByteArray) (a2 : TreeD) (a3 : Nat) (a4 : List Int) (a5 : Bool) (a6 : Nat) (a7 : TreeD) (r : R_F69_3) : List AB := match r with | .k0 x0 x1 x2 x3 => [.cells 25 ((cT a2).map .p), yU x1 x2, .cells 87 [sp x3 2 0, (.sl 1 x1 1 0 (a6 + (sbytes a1).length))], .cells 25 ((cT a7).map .p)]
def F69_3 (a1 : ByteArray) (a3 : Nat) (a4 : List Int) (a5 : Bool) (a6 : Nat) : Option R_F69_3 :=
  ((F82_6 a5).bind fun x1 => (bif (apOk a6 (sbytes a1).length a4.length 1) then (bif (decide (a6 + (sbytes a1).length ≤ a4.length)) then (some (.k0 (a1.size : Int) a3 (splice a4 a6 (sbytes a1)) x1)) else (some (.k0 (a1.size : Int) (a3 + 1) (a4.take a6 ++ (sbytes a1)) x1))) else none))
abbrev F69_3_d0 (a2 : TreeD) (a3 : Nat) (a4 : List Int) (x1 : Bool) (a6 : Nat) (a7 : TreeD) : List AB := [.cells 25 ((cT a2).map .p), yU a3 a4, .cells 87 [sp x1 2 0, .sl 1 a3 1 0 a6], .cells 25 ((cT a7).map .p)]
abbrev F69_3_d1 (a2 : TreeD) (a3 : Nat) (a4 : List Int) (a6 : Nat) (a1 : ByteArray) (x1 : Bool) (a7 : TreeD) : List AB := [.cells 25 ((cT a2).map .p), yU a3 (splice a4 a6 (sbytes a1)), .cells 87 [sp x1 2 0, .sl 1 a3 1 0 a6], .cells 25 ((cT a7).map .p)]
abbrev F69_3_d2 (a2 : TreeD) (a3 : Nat) (a4 : List Int) (a6 : Nat) (a1 : ByteArray) (x1 : Bool) (a7 : TreeD) : List AB := [.cells 25 ((cT a2).map .p), yU (a3 + 1) (a4.take a6 ++ (sbytes a1)), .cells 87 [sp x1 2 0, .sl 1 a3 1 0 a6], .cells 25 ((cT a7).map .p)]
theorem F69_3_ok (a1 : ByteArray) (a2 : TreeD) (a3 : Nat) (a4 : List Int) (a5 : Bool) (a6 : Nat) (a7 : TreeD) {r : R_F69_3} (h : F69_3 a1 a3 a4 a5 a6 = some r) : CS pg 69 [.ptr 2 0, vs a1] [.cells 25 ((cT a2).map .p), yU a3 a4, .cells 87 [sp a5 2 0, .sl 1 a3 1 0 a6], .cells 25 ((cT a7).map .p)] = some (F69_3_v a1 a2 a3 a4 a5 a6 a7 r, F69_3_h a1 a2 a3 a4 a5 a6 a7 r) := by
 unfold F69_3 at h
 apply bn h; intro x1 h1 h
 have q0 := ((F82_6_ok a2 a3 a4 a5 a6 a7 h1) : CS pg 82 [.ptr 2 0] [.cells 25 ((cT a2).map .p), yU a3 a4, .cells 87 [sp a5 2 0, .sl 1 a3 1 0 a6], .cells 25 ((cT a7).map .p)] = some ((.tup []), F69_3_d0 a2 a3 a4 x1 a6 a7))
 have k1 := ka [(7, .r (.tup []) (F69_3_d0 a2 a3 a4 x1 a6 a7))] (apc q0 apn)
 apply bi h <;> intro h2 h
 ·
  apply bi h <;> intro h3 h
  ·
   rw [← sj h]
   exact fc ([(14, .r (.sl 1 a3 1 0 (a6 + (sbytes a1).length)) (F69_3_d1 a2 a3 a4 a6 a1 x1 a7))] ++ kH k1) (k1.b (apc ((ap_in (e := eU8) (xs := a4) (news := (sbytes a1)) rfl rows_s rfl h2 h3) : appA (F69_3_d0 a2 a3 a4 x1 a6 a7) 5 1 1 (.sl 1 a3 1 0 a6) (vs a1) = some ((.sl 1 a3 1 0 (a6 + (sbytes a1).length)), F69_3_d1 a2 a3 a4 a6 a1 x1 a7)) apn))
  ·
   rw [← sj h]
   exact fc ([(14, .r (.sl 1 (a3 + 1) 1 0 (a6 + (sbytes a1).length)) (F69_3_d2 a2 a3 a4 a6 a1 x1 a7))] ++ kH k1) (k1.b (apc ((ap_out (e := eU8) (xs := a4) (news := (sbytes a1)) rfl rows_s rfl h2 h3) : appA (F69_3_d0 a2 a3 a4 x1 a6 a7) 5 1 1 (.sl 1 a3 1 0 a6) (vs a1) = some ((.sl 1 (a3 + 1) 1 0 (a6 + (sbytes a1).length)), F69_3_d2 a2 a3 a4 a6 a1 x1 a7)) apn))
 ·
  cases h
def F82_7_v (a1 : TreeD) (a2 : Nat) (a3 : List Int) (a4 : Bool) (a5 : Nat) (a6 a7 : TreeD) (x0 : Bool) : AV := (.tup [])
def F82_7_h (a1 : TreeD) (a2 : Nat) (a3 : List Int) (a4 : Bool) (a5 : Nat) (a6 a7 : TreeD) (x0 : Bool) : List AB := [.cells 25 ((cT a1).map .p), yU a2 a3, .cells 87 [sp x0 2 0, .sl 1 a2 1 0 a5], .cells 25 ((cT a6).map .p), yT0, .cells 25 ((cT a7).map .p)]
def F82_7 (a4 : Bool) : Option Bool :=
  (bif a4 then (some a4) else (some true))
abbrev F82_7_d0 (a1 : TreeD) (a2 : Nat) (a3 : List Int) (a4 : Bool) (a5 : Nat) (a6 a7 : TreeD) : List AB := [.cells 25 ((cT a1).map .p), yU a2 a3, .cells 87 [sp a4 2 0, .sl 1 a2 1 0 a5], .cells 25 ((cT a6).map .p), yT0, .cells 25 ((cT a7).map .p)]
theorem F82_7_ok (a1 : TreeD) (a2 : Nat) (a3 : List Int) (a4 : Bool) (a5 : Nat) (a6 a7 : TreeD) {r : Bool} (h : F82_7 a4 = some r) : CS pg 82 [.ptr 2 0] [.cells 25 ((cT a1).map .p), yU a2 a3, .cells 87 [sp a4 2 0, .sl 1 a2 1 0 a5], .cells 25 ((cT a6).map .p), yT0, .cells 25 ((cT a7).map .p)] = some (F82_7_v a1 a2 a3 a4 a5 a6 a7 r, F82_7_h a1 a2 a3 a4 a5 a6 a7 r) := by
 unfold F82_7 at h
 apply bi h <;> intro h1 h
 ·
  have q0 := (((rfl : ldA (F82_7_d0 a1 a2 a3 a4 a5 a6 a7) .false 1 (.ptr 2 0) = some (sp a4 2 0)).trans (congrArg some (sp_t h1))) : ldA (F82_7_d0 a1 a2 a3 a4 a5 a6 a7) .false 1 (.ptr 2 0) = some (.ptr 2 0))
  rw [← sj h]
  exact fc [(5, .v (.ptr 2 0)), (17, .v (.ptr 2 0))] (apc q0 (apc q0 apn))
 ·
  rw [← sj h]
  exact fc [(5, .v (.p (.val (.pointer .none))))] (apc (((rfl : ldA (F82_7_d0 a1 a2 a3 a4 a5 a6 a7) .false 1 (.ptr 2 0) = some (sp a4 2 0)).trans (congrArg some (sp_f h1))) : ldA (F82_7_d0 a1 a2 a3 a4 a5 a6 a7) .false 1 (.ptr 2 0) = some (.p (.val (.pointer .none)))) apn)
inductive R_F70_2 where
  | k0 (x0 : Nat) (x1 : List Int) (x2 : Bool)
def F70_2_v (a1 : TreeD) (a2 : Nat) (a3 : List Int) (a4 : Bool) (a5 : Nat) (a6 a7 : TreeD) (r : R_F70_2) : AV := match r with | .k0 x0 x1 x2 => (.p (.val .nilIface))
def F70_2_h (a1 : TreeD) (a2 : Nat) (a3 : List Int) (a4 : Bool) (a5 : Nat) (a6 a7 : TreeD) (r : R_F70_2) : List AB := match r with | .k0 x0 x1 x2 => [.cells 25 ((cT a1).map .p), yU x0 x1, .cells 87 [sp x2 2 0, (.sl 1 x0 1 0 (a5 + 1))], .cells 25 ((cT a6).map .p), yT0, .cells 25 ((cT a7).map .p), .row 5 1 0 [[vi .u8 32]]]
def F70_2 (a2 : Nat) (a3 : List Int) (a4 : Bool) (a5 : Nat) : Option R_F70_2 :=
  ((F82_7 a4).bind fun x1 => (bif (apOk a5 1 a3.length 1) then (bif (decide (a5 + 1 ≤ a3.length)) then (some (.k0 a2 (splice a3 a5 [32]) x1)) else (some (.k0 (a2 + 1) (a3.take a5 ++ [32]) x1))) else none))
abbrev F70_2_d0 (a1 : TreeD) (a2 : Nat) (a3 : List Int) (x1 : Bool) (a5 : Nat) (a6 a7 : TreeD) : List AB := [.cells 25 ((cT a1).map .p), yU a2 a3, .cells 87 [sp x1 2 0, .sl 1 a2 1 0 a5], .cells 25 ((cT a6).map .p), yT0, .cells 25 ((cT a7).map .p)]
abbrev F70_2_d1 (a1 : TreeD) (a2 : Nat) (a3 : List Int) (a5 : Nat) (x1 : Bool) (a6 a7 : TreeD) : List AB := [.cells 25 ((cT a1).map .p), yU a2 (splice a3 a5 [32]), .cells 87 [sp x1 2 0, .sl 1 a2 1 0 a5], .cells 25 ((cT a6).map .p), yT0, .cells 25 ((cT a7).map .p), .row 5 1 0 [[vi .u8 32]]]
abbrev F70_2_d2 (a1 : TreeD) (a2 : Nat) (a3 : List Int) (x1 : Bool) (a5 : Nat) (a6 a7 : TreeD) : List AB := [.cells 25 ((cT a1).map .p), yU a2 a3, .cells 87 [sp x1 2 0, .sl 1 a2 1 0 a5], .cells 25 ((cT a6).map .p), yT0, .cells 25 ((cT a7).map .p), .row 5 1 0 [[vi .u8 32]]]
abbrev F70_2_d3 (a1 : TreeD) (a2 : Nat) (a3 : List Int) (a5 : Nat) (x1 : Bool) (a6 a7 : TreeD) : List AB := [.cells 25 ((cT a1).map .p), yU (a2 + 1) (a3.take a5 ++ [32]), .cells 87 [sp x1 2 0, .sl 1 a2 1 0 a5], .cells 25 ((cT a6).map .p), yT0, .cells 25 ((cT a7).map .p), .row 5 1 0 [[vi .u8 32]]]
theorem F70_2_ok (a1 : TreeD) (a2 : Nat) (a3 : List Int) (a4 : Bool) (a5 : Nat) (a6 a7 : TreeD) {r : R_F70_2} (h : F70_2 a2 a3 a4 a5 = some r) : CS pg 70 [.ptr 2 0, vi .u8 32] [.cells 25 ((cT a1).map .p), yU a2 a3, .cells 87 [sp a4 2 0, .sl 1 a2 1 0 a5], .cells 25 ((cT a6).map .p), yT0, .cells 25 ((cT a7).map .p)] = some (F70_2_v a1 a2 a3 a4 a5 a6 a7 r, F70_2_h a1 a2 a3 a4 a5 a6 a7 r) := by
 unfold F70_2 at h
 apply bn h; intro x1 h1 h
 have q0 := ((F82_7_ok a1 a2 a3 a4 a5 a6 a7 h1) : CS pg 82 [.ptr 2 0] [.cells 25 ((cT a1).map .p), yU a2 a3, .cells 87 [sp a4 2 0, .sl 1 a2 1 0 a5], .cells 25 ((cT a6).map .p), yT0, .cells 25 ((cT a7).map .p)] = some ((.tup []), F70_2_d0 a1 a2 a3 x1 a5 a6 a7))
 have k1 := ka [(6, .r (.tup []) (F70_2_d0 a1 a2 a3 x1 a5 a6 a7))] (apc q0 apn)
 apply bi h <;> intro h2 h
 ·
  apply bi h <;> intro h3 h
  ·
   rw [← sj h]
   exact fc ([(14, .r (.sl 1 a2 1 0 (a5 + 1)) (F70_2_d1 a1 a2 a3 a5 x1 a6 a7))] ++ kH k1) (k1.b (apc ((ap_in (e := eU8) (xs := a3) (news := [32]) rfl (rows_x (e := eU8) (xs := [32]) rfl) rfl h2 h3) : appA (F70_2_d2 a1 a2 a3 x1 a5 a6 a7) 5 1 1 (.sl 1 a2 1 0 a5) (.sl 6 0 1 0 1) = some ((.sl 1 a2 1 0 (a5 + 1)), F70_2_d1 a1 a2 a3 a5 x1 a6 a7)) apn))
  ·
   rw [← sj h]
   exact fc ([(14, .r (.sl 1 (a2 + 1) 1 0 (a5 + 1)) (F70_2_d3 a1 a2 a3 a5 x1 a6 a7))] ++ kH k1) (k1.b (apc ((ap_out (e := eU8) (xs := a3) (news := [32]) rfl (rows_x (e := eU8) (xs := [32]) rfl) rfl h2 h3) : appA (F70_2_d2 a1 a2 a3 x1 a5 a6 a7) 5 1 1 (.sl 1 a2 1 0 a5) (.sl 6 0 1 0 1) = some ((.sl 1 (a2 + 1) 1 0 (a5 + 1)), F70_2_d3 a1 a2 a3 a5 x1 a6 a7)) apn))
 ·
  cases h
inductive E_L48_0_3 where
  | k0 (x0 : Nat) (x1 : List Int) (x2 : Bool) (x3 : Nat)
def L48_0_3 (rF48_3 : T_F48_3) (a1 : TreeD) (a2 : Int) (a3 : TreeD) (v1 : Int) (v2 : Nat) (v3 : List Int) (v4 : Bool) (v5 : Nat) : Option (E_L48_0_3 ⊕ (Int × Nat × (List Int) × Bool × Nat)) :=
  (bif (decide (v1 < a2)) then ((getI a1.kids v1).bind fun x2 => (bif (decide (v1 > 0)) then ((F70_2 v2 v3 v4 v5).bind fun r4 => match r4 with | .k0 x4_0 x4_1 x4_2 => ((rF48_3 x2 a3 x4_0 x4_1 x4_2 (v5 + 1)).bind fun r5 => match r5 with | .k0 x5_0 x5_1 x5_2 x5_3 => (some (.inr ((IntKind.wrap .i64 (v1 + 1)), x5_0, x5_1, x5_2, x5_3))))) else ((rF48_3 x2 a3 v2 v3 v4 v5).bind fun r4 => match r4 with | .k0 x4_0 x4_1 x4_2 x4_3 => (some (.inr ((IntKind.wrap .i64 (v1 + 1)), x4_0, x4_1, x4_2, x4_3)))))) else (some (.inl (.k0 v2 v3 v4 v5))))
def L48_0_3_s (a1 : TreeD) (a2 : Int) (a3 : TreeD) (v1 : Int) (v2 : Nat) (v3 : List Int) (v4 : Bool) (v5 : Nat) : St := ⟨fr 44 ug [(0, .ptr 2 0), (27, (.p (.lst 3 (eTrees a1.kids)))), (28, i6 a2), (29, i6 v1)], [.cells 25 ((cT a3).map .p), yU v2 v3, .cells 87 [sp v4 2 0, .sl 1 v2 1 0 v5], .cells 25 ((cT a1).map .p)]⟩
theorem L48_0_3_k (a1 : TreeD) (a2 : Int) (a3 : TreeD) (v1 : Int) (v2 : Nat) (v3 : List Int) (v4 : Bool) (v5 : Nat) : okT 4 (L48_0_3_s a1 a2 a3 v1 v2 v3 v4 v5).h = true := (okT_of rfl (ac (ar (abl_cons (blw_sp rfl (blw_c rfl rfl)) (ac rfl)))))
abbrev L48_0_3_e (a1 : TreeD) (a2 : Int) (a3 : TreeD) (v1 : Int) (v2 : Nat) (v3 : List Int) (v4 : Bool) (v5 : Nat) := evH pg 4 [0, 27, 28, 29] ir48_l0 (L48_0_3_s a1 a2 a3 v1 v2 v3 v4 v5)
def L48_0_3_x (a1 : TreeD) (a2 : Int) (a3 : TreeD) (e : E_L48_0_3) (r : Option (Out × St)) : Prop := match e with | .k0 x0 x1 x2 x3 => ∃ g, r = some ((.brk 0), ⟨fr 44 g [(0, .ptr 2 0), (27, (.p (.lst 3 (eTrees a1.kids))))], [.cells 25 ((cT a3).map .p), yU x0 x1, .cells 87 [sp x2 2 0, .sl 1 x0 1 0 x3], .cells 25 ((cT a1).map .p)]⟩)
abbrev L48_0_3_d0 (a3 : TreeD) (x4_0 : Nat) (x4_1 : List Int) (x4_2 : Bool) (v5 : Nat) (a1 x2 : TreeD) : List AB := [.cells 25 ((cT a3).map .p), yU x4_0 x4_1, .cells 87 [sp x4_2 2 0, (.sl 1 x4_0 1 0 (v5 + 1))], .cells 25 ((cT a1).map .p), yT0, .cells 25 ((cT x2).map .p), .row 5 1 0 [[vi .u8 32]]]
abbrev L48_0_3_d1 (a3 : TreeD) (x5_0 : Nat) (x5_1 : List Int) (x5_2 : Bool) (x5_3 : Nat) (a1 x2 : TreeD) : List AB := [.cells 25 ((cT a3).map .p), yU x5_0 x5_1, .cells 87 [sp x5_2 2 0, .sl 1 x5_0 1 0 x5_3], .cells 25 ((cT a1).map .p), yT0, .cells 25 ((cT x2).map .p), .row 5 1 0 [[vi .u8 32]]]
abbrev L48_0_3_d2 (a3 : TreeD) (v2 : Nat) (v3 : List Int) (v4 : Bool) (v5 : Nat) (a1 x2 : TreeD) : List AB := [.cells 25 ((cT a3).map .p), yU v2 v3, .cells 87 [sp v4 2 0, .sl 1 v2 1 0 v5], .cells 25 ((cT a1).map .p), yT0, .cells 25 ((cT x2).map .p)]
abbrev L48_0_3_d3 (a3 : TreeD) (x4_0 : Nat) (x4_1 : List Int) (x4_2 : Bool) (x4_3 : Nat) (a1 x2 : TreeD) : List AB := [.cells 25 ((cT a3).map .p), yU x4_0 x4_1, .cells 87 [sp x4_2 2 0, .sl 1 x4_0 1 0 x4_3], .cells 25 ((cT a1).map .p), yT0, .cells 25 ((cT x2).map .p)]
theorem L48_0_3_ok (rF48_3 : T_F48_3) (hF48_3 : H_F48_3 rF48_3) (a1 : TreeD) (a2 : Int) (a3 : TreeD) (v1 : Int) (v2 : Nat) (v3 : List Int) (v4 : Bool) (v5 : Nat) {r : E_L48_0_3 ⊕ (Int × Nat × (List Int) × Bool × Nat)} (h : L48_0_3 rF48_3 a1 a2 a3 v1 v2 v3 v4 v5 = some r) : OkR (fun e => L48_0_3_x a1 a2 a3 e (L48_0_3_e a1 a2 a3 v1 v2 v3 v4 v5)) (fun s => L48_0_3_e a1 a2 a3 v1 v2 v3 v4 v5 = L48_0_3_e a1 a2 a3 s.1 s.2.1 s.2.2.1 s.2.2.2.1 s.2.2.2.2) r := by
 unfold L48_0_3 at h
 apply bi h <;> intro h1 h
 ·
  apply bn h; intro x2 h2 h
  have q0 := ((igr tr_map h2) : idxA 3 (.p (.lst 3 (eTrees a1.kids))) (i6 v1) = some (.ro (cT x2)))
  have k1 := ka [(30, .d true), (32, .v (.ro (cT x2)))] (av h1 (apc q0 apn))
  apply bi h <;> intro h3 h
  ·
   apply bn h; intro r4 h4 h
   cases r4 with
   | k0 x4_0 x4_1 x4_2 =>
    apply bn h; intro r5 h5 h
    cases r5 with
    | k0 x5_0 x5_1 x5_2 x5_3 =>
     rw [← sj h]
     exact rn ([(35, .d true), (37, .r (.p (.val .nilIface)) (L48_0_3_d0 a3 x4_0 x4_1 x4_2 v5 a1 x2)), (40, .r (.tup []) (L48_0_3_d1 a3 x5_0 x5_1 x5_2 x5_3 a1 x2)), (6000, .d true)] ++ kH k1) (k1.b (av h3 (apc ((F70_2_ok a3 v2 v3 v4 v5 a1 x2 h4) : CS pg 70 [.ptr 2 0, vi .u8 32] (L48_0_3_d2 a3 v2 v3 v4 v5 a1 x2) = some ((.p (.val .nilIface)), L48_0_3_d0 a3 x4_0 x4_1 x4_2 v5 a1 x2)) (apc ((hF48_3 x2 a3 x4_0 x4_1 x4_2 (v5 + 1) h5 [.cells 25 ((cT a1).map .p), yT0, .cells 25 ((cT x2).map .p), .row 5 1 0 [[vi .u8 32]]]) : CS pg 48 [.ptr 2 0, (.agg ((cT x2).map .p))] (L48_0_3_d0 a3 x4_0 x4_1 x4_2 v5 a1 x2) = some ((.tup []), L48_0_3_d1 a3 x5_0 x5_1 x5_2 x5_3 a1 x2)) (apc (L48_0_3_k a1 a2 a3 (w6 (v1 + 1)) x5_0 x5_1 x5_2 x5_3) apn)))))
  ·
   apply bn h; intro r4 h4 h
   cases r4 with
   | k0 x4_0 x4_1 x4_2 x4_3 =>
    rw [← sj h]
    exact rn ([(35, .d false), (40, .r (.tup []) (L48_0_3_d3 a3 x4_0 x4_1 x4_2 x4_3 a1 x2)), (6000, .d true)] ++ kH k1) (k1.b (av h3 (apc ((hF48_3 x2 a3 v2 v3 v4 v5 h4 [.cells 25 ((cT a1).map .p), yT0, .cells 25 ((cT x2).map .p)]) : CS pg 48 [.ptr 2 0, (.agg ((cT x2).map .p))] (L48_0_3_d2 a3 v2 v3 v4 v5 a1 x2) = some ((.tup []), L48_0_3_d3 a3 x4_0 x4_1 x4_2 x4_3 a1 x2)) (apc (L48_0_3_k a1 a2 a3 (w6 (v1 + 1)) x4_0 x4_1 x4_2 x4_3) apn))))
 ·
  rw [← sj h]
  exact xb [(30, .d false), (6000, .d true)] (av h1 apn)
theorem L48_0_3_run (rF48_3 : T_F48_3) (hF48_3 : H_F48_3 rF48_3) (a1 : TreeD) (a2 : Int) (a3 : TreeD) (s0 : Int × Nat × (List Int) × Bool × Nat) (e : E_L48_0_3) (h : runL (fun s => L48_0_3 rF48_3 a1 a2 a3 s.1 s.2.1 s.2.2.1 s.2.2.2.1 s.2.2.2.2) s0 = some e) : L48_0_3_x a1 a2 a3 e (L48_0_3_e a1 a2 a3 s0.1 s0.2.1 s0.2.2.1 s0.2.2.2.1 s0.2.2.2.2) := by
  have q := @loop_sound' (Int × Nat × (List Int) × Bool × Nat) E_L48_0_3 (fun s => L48_0_3 rF48_3 a1 a2 a3 s.1 s.2.1 s.2.2.1 s.2.2.2.1 s.2.2.2.2) (fun s => L48_0_3_e a1 a2 a3 s.1 s.2.1 s.2.2.1 s.2.2.2.1 s.2.2.2.2) (L48_0_3_x a1 a2 a3) (fun s r h => L48_0_3_ok rF48_3 hF48_3 a1 a2 a3 s.1 s.2.1 s.2.2.1 s.2.2.2.1 s.2.2.2.2 h) s0 e h
  exact q
inductive R_F70 where
  | k0 (x0 : Nat) (x1 : List Int) (x2 : Bool)
def F70_v (a1 : TreeD) (a2 : Nat) (a3 : List Int) (a4 : Bool) (a5 : Nat) (a6 : TreeD) (r : R_F70) : AV := match r with | .k0 x0 x1 x2 => (.p (.val .nilIface))
def F70_h (a1 : TreeD) (a2 : Nat) (a3 : List Int) (a4 : Bool) (a5 : Nat) (a6 : TreeD) (r : R_F70) : List AB := match r with | .k0 x0 x1 x2 => [.cells 25 ((cT a1).map .p), yU x0 x1, .cells 87 [sp x2 2 0, (.sl 1 x0 1 0 (a5 + 1))], .cells 25 ((cT a6).map .p), .row 5 1 0 [[vi .u8 41]]]
def F70 (a2 : Nat) (a3 : List Int) (a4 : Bool) (a5 : Nat) : Option R_F70 :=
  ((F82_6 a4).bind fun x1 => (bif (apOk a5 1 a3.length 1) then (bif (decide (a5 + 1 ≤ a3.length)) then (some (.k0 a2 (splice a3 a5 [41]) x1)) else (some (.k0 (a2 + 1) (a3.take a5 ++ [41]) x1))) else none))
abbrev F70_d0 (a1 : TreeD) (a2 : Nat) (a3 : List Int) (x1 : Bool) (a5 : Nat) (a6 : TreeD) : List AB := [.cells 25 ((cT a1).map .p), yU a2 a3, .cells 87 [sp x1 2 0, .sl 1 a2 1 0 a5], .cells 25 ((cT a6).map .p)]
abbrev F70_d1 (a1 : TreeD) (a2 : Nat) (a3 : List Int) (a5 : Nat) (x1 : Bool) (a6 : TreeD) : List AB := [.cells 25 ((cT a1).map .p), yU a2 (splice a3 a5 [41]), .cells 87 [sp x1 2 0, .sl 1 a2 1 0 a5], .cells 25 ((cT a6).map .p), .row 5 1 0 [[vi .u8 41]]]
abbrev F70_d2 (a1 : TreeD) (a2 : Nat) (a3 : List Int) (x1 : Bool) (a5 : Nat) (a6 : TreeD) : List AB := [.cells 25 ((cT a1).map .p), yU a2 a3, .cells 87 [sp x1 2 0, .sl 1 a2 1 0 a5], .cells 25 ((cT a6).map .p), .row 5 1 0 [[vi .u8 41]]]
abbrev F70_d3 (a1 : TreeD) (a2 : Nat) (a3 : List Int) (a5 : Nat) (x1 : Bool) (a6 : TreeD) : List AB := [.cells 25 ((cT a1).map .p), yU (a2 + 1) (a3.take a5 ++ [41]), .cells 87 [sp x1 2 0, .sl 1 a2 1 0 a5], .cells 25 ((cT a6).map .p), .row 5 1 0 [[vi .u8 41]]]
theorem F70_ok (a1 : TreeD) (a2 : Nat) (a3 : List Int) (a4 : Bool) (a5 : Nat) (a6 : TreeD) {r : R_F70} (h : F70 a2 a3 a4 a5 = some r) : CS pg 70 [.ptr 2 0, vi .u8 41] [.cells 25 ((cT a1).map .p), yU a2 a3, .cells 87 [sp a4 2 0, .sl 1 a2 1 0 a5], .cells 25 ((cT a6).map .p)] = some (F70_v a1 a2 a3 a4 a5 a6 r, F70_h a1 a2 a3 a4 a5 a6 r) := by
 unfold F70 at h
 apply bn h; intro x1 h1 h
 have q0 := ((F82_6_ok a1 a2 a3 a4 a5 a6 h1) : CS pg 82 [.ptr 2 0] [.cells 25 ((cT a1).map .p), yU a2 a3, .cells 87 [sp a4 2 0, .sl 1 a2 1 0 a5], .cells 25 ((cT a6).map .p)] = some ((.tup []), F70_d0 a1 a2 a3 x1 a5 a6))
 have k1 := ka [(6, .r (.tup []) (F70_d0 a1 a2 a3 x1 a5 a6))] (apc q0 apn)
 apply bi h <;> intro h2 h
 ·
  apply bi h <;> intro h3 h
  ·
   rw [← sj h]
   exact fc ([(14, .r (.sl 1 a2 1 0 (a5 + 1)) (F70_d1 a1 a2 a3 a5 x1 a6))] ++ kH k1) (k1.b (apc ((ap_in (e := eU8) (xs := a3) (news := [41]) rfl (rows_x (e := eU8) (xs := [41]) rfl) rfl h2 h3) : appA (F70_d2 a1 a2 a3 x1 a5 a6) 5 1 1 (.sl 1 a2 1 0 a5) (.sl 4 0 1 0 1) = some ((.sl 1 a2 1 0 (a5 + 1)), F70_d1 a1 a2 a3 a5 x1 a6)) apn))
  ·
   rw [← sj h]
   exact fc ([(14, .r (.sl 1 (a2 + 1) 1 0 (a5 + 1)) (F70_d3 a1 a2 a3 a5 x1 a6))] ++ kH k1) (k1.b (apc ((ap_out (e := eU8) (xs := a3) (news := [41]) rfl (rows_x (e := eU8) (xs := [41]) rfl) rfl h2 h3) : appA (F70_d2 a1 a2 a3 x1 a5 a6) 5 1 1 (.sl 1 a2 1 0 a5) (.sl 4 0 1 0 1) = some ((.sl 1 (a2 + 1) 1 0 (a5 + 1)), F70_d3 a1 a2 a3 a5 x1 a6)) apn))
 ·
  cases h
def F48_3_b (rF48_3 : T_F48_3) (a1 a2 : TreeD) (a3 : Nat) (a4 : List Int) (a5 : Bool) (a6 : Nat) : Option R_F48_3 :=
  (bif (decide (a1.prod < 0)) then ((getI (⟨([48, 49, 50, 51, 52, 53, 54, 55, 56, 57, 97, 98, 99, 100, 101, 102] : List UInt8).toArray⟩ : ByteArray).data.toList (Int.fdiv a1.byte (2 ^ (min (Int.toNat 4) (IntKind.bits .u8))))).bind fun x2 => ((getI (⟨([48, 49, 50, 51, 52, 53, 54, 55, 56, 57, 97, 98, 99, 100, 101, 102] : List UInt8).toArray⟩ : ByteArray).data.toList (IntKind.wrap .u8 ((BitVec.ofInt (IntKind.bits .u8) a1.byte &&& BitVec.ofInt (IntKind.bits .u8) 15).toNat : Int))).bind fun x3 => ((F68_3 a3 a4 a5 a6 (x2.toNat : Int) (x3.toNat : Int)).bind fun r4 => match r4 with | .k0 x4_0 x4_1 x4_2 => (some (.k0 x4_0 x4_1 x4_2 (a6 + 3)))))) else ((I42 a1.prod).bind fun x2 => (bif (decide (x2.size + (⟨([40] : List UInt8).toArray⟩ : ByteArray).size ≤ 9223372036854775807)) then ((F69_3 (x2 ++ (⟨([40] : List UInt8).toArray⟩ : ByteArray)) a3 a4 a5 a6).bind fun r4 => match r4 with | .k0 x4_0 x4_1 x4_2 x4_3 => ((runL (fun s => L48_0_3 rF48_3 a1 (a1.kids.length : Int) a2 s.1 s.2.1 s.2.2.1 s.2.2.2.1 s.2.2.2.2) (0, x4_1, x4_2, x4_3, (a6 + (sbytes (x2 ++ (⟨([40] : List UInt8).toArray⟩ : ByteArray))).length))).bind fun r5 => match r5 with | .k0 x5_0 x5_1 x5_2 x5_3 => ((F70 x5_0 x5_1 x5_2 x5_3).bind fun r6 => match r6 with | .k0 x6_0 x6_1 x6_2 => (some (.k0 x6_0 x6_1 x6_2 (x5_3 + 1)))))) else none)))
abbrev F48_3_d1 (a2 : TreeD) (a3 : Nat) (a4 : List Int) (a5 : Bool) (a6 : Nat) (a1 : TreeD) : List AB := [.cells 25 ((cT a2).map .p), yU a3 a4, .cells 87 [sp a5 2 0, .sl 1 a3 1 0 a6], .cells 25 ((cT a1).map .p)]
abbrev F48_3_d2 (a2 : TreeD) (x6_0 : Nat) (x6_1 : List Int) (x6_2 : Bool) (x5_3 : Nat) (a1 : TreeD) : List AB := [.cells 25 ((cT a2).map .p), yU x6_0 x6_1, .cells 87 [sp x6_2 2 0, (.sl 1 x6_0 1 0 (x5_3 + 1))], .cells 25 ((cT a1).map .p), .row 5 1 0 [[vi .u8 41]]]
abbrev F48_3_d4 (g5 : Nat → AV) (a1 a2 : TreeD) (x5_0 : Nat) (x5_1 : List Int) (x5_2 : Bool) (x5_3 : Nat) : St := ⟨fr 44 g5 [(0, .ptr 2 0), (27, (.p (.lst 3 (eTrees a1.kids))))], [.cells 25 ((cT a2).map .p), yU x5_0 x5_1, .cells 87 [sp x5_2 2 0, .sl 1 x5_0 1 0 x5_3], .cells 25 ((cT a1).map .p)]⟩
theorem F48_3_bok (rF48_3 : T_F48_3) (hF48_3 : H_F48_3 rF48_3) (a1 a2 : TreeD) (a3 : Nat) (a4 : List Int) (a5 : Bool) (a6 : Nat) {r : R_F48_3} (h : F48_3_b rF48_3 a1 a2 a3 a4 a5 a6 = some r) : ∀ hx : List AB, CS pg 48 [.ptr 2 0, (.agg ((cT a1).map .p))] ([.cells 25 ((cT a2).map .p), yU a3 a4, .cells 87 [sp a5 2 0, .sl 1 a3 1 0 a6]] ++ hx) = some (F48_3_v a1 a2 a3 a4 a5 a6 r, F48_3_h a1 a2 a3 a4 a5 a6 r ++ hx) := by
 unfold F48_3_b at h
 apply bi h <;> intro h1 h
 ·
  apply bn h; intro x2 h2 h
  apply bn h; intro x3 h3 h
  apply bn h; intro r4 h4 h
  cases r4 with
  | k0 x4_0 x4_1 x4_2 =>
   rw [← sj h]
   exact fcF (m := 3) (v := (.tup [])) (h' := [.cells 25 ((cT a2).map .p), yU x4_0 x4_1, .cells 87 [sp x4_2 2 0, (.sl 1 x4_0 1 0 (a6 + 3))], .cells 25 ((cT a1).map .p), .row 5 1 0 [[vi .u8 120], [(vi .u8 (x2.toNat : Int))], [(vi .u8 (x3.toNat : Int))]]]) [(8, .d true), (12, .v (vi .u8 (Int.fdiv a1.byte (2 ^ (min (Int.toNat 4) (IntKind.bits .u8)))))), (13, .v (vi .u8 (x2.toNat : Int))), (17, .v (vi .u8 (x3.toNat : Int))), (19, .r (.tup [i6 3, (.p (.val .nilIface))]) [.cells 25 ((cT a2).map .p), yU x4_0 x4_1, .cells 87 [sp x4_2 2 0, (.sl 1 x4_0 1 0 (a6 + 3))], .cells 25 ((cT a1).map .p), .row 5 1 0 [[vi .u8 120], [(vi .u8 (x2.toNat : Int))], [(vi .u8 (x3.toNat : Int))]]])] (av h1 (apc ((sh_shr (by decide)) : binA .shr (vi .u8 a1.byte) (vi .u64 4) = some (vi .u8 (Int.fdiv a1.byte (2 ^ (min (Int.toNat 4) (IntKind.bits .u8)))))) (apc ((ix_str h2) : ixS (vs (⟨([48, 49, 50, 51, 52, 53, 54, 55, 56, 57, 97, 98, 99, 100, 101, 102] : List UInt8).toArray⟩ : ByteArray)) (vi .u8 (Int.fdiv a1.byte (2 ^ (min (Int.toNat 4) (IntKind.bits .u8))))) = some (vi .u8 (x2.toNat : Int))) (apc ((ix_str h3) : ixS (vs (⟨([48, 49, 50, 51, 52, 53, 54, 55, 56, 57, 97, 98, 99, 100, 101, 102] : List UInt8).toArray⟩ : ByteArray)) (vi .u8 (IntKind.wrap .u8 ((BitVec.ofInt (IntKind.bits .u8) a1.byte &&& BitVec.ofInt (IntKind.bits .u8) 15).toNat : Int))) = some (vi .u8 (x3.toNat : Int))) (apc ((F68_3_ok a2 a3 a4 a5 a6 a1 (x2.toNat : Int) (x3.toNat : Int) h4) : CS pg 68 [.ptr 2 0, .sl 4 0 1 0 3] [.cells 25 ((cT a2).map .p), yU a3 a4, .cells 87 [sp a5 2 0, .sl 1 a3 1 0 a6], .cells 25 ((cT a1).map .p), .row 5 1 0 [[vi .u8 120], [(vi .u8 (x2.toNat : Int))], [(vi .u8 (x3.toNat : Int))]]] = some ((.tup [i6 3, (.p (.val .nilIface))]), [.cells 25 ((cT a2).map .p), yU x4_0 x4_1, .cells 87 [sp x4_2 2 0, (.sl 1 x4_0 1 0 (a6 + 3))], .cells 25 ((cT a1).map .p), .row 5 1 0 [[vi .u8 120], [(vi .u8 (x2.toNat : Int))], [(vi .u8 (x3.toNat : Int))]]])) apn))))) rfl (ac (ar (abl_cons (blw_sp rfl (blw_c rfl rfl)) rfl))) rfl (ac (ar (abl_cons (blw_sp rfl (blw_c rfl rfl)) rfl))) rfl (by kernel_rfl)
 ·
  apply bn h; intro x2 h2 h
  have q0 := (((I42_ok a1.prod h2).cp rfl _) : CP pg 42 [i6 a1.prod] (F48_3_d1 a2 a3 a4 a5 a6 a1) = some (vs x2))
  apply bi h <;> intro h3 h
  ·
   apply bn h; intro r4 h4 h
   cases r4 with
   | k0 x4_0 x4_1 x4_2 x4_3 =>
    apply bn h; intro r5 h5 h
    cases r5 with
    | k0 x5_0 x5_1 x5_2 x5_3 =>
     obtain ⟨g5, e5⟩ := L48_0_3_run rF48_3 hF48_3 a1 (a1.kids.length : Int) a2 (0, x4_1, x4_2, x4_3, (a6 + (sbytes (x2 ++ (⟨([40] : List UInt8).toArray⟩ : ByteArray))).length)) _ h5
     apply bn h; intro r6 h6 h
     cases r6 with
     | k0 x6_0 x6_1 x6_2 =>
      rw [← sj h]
      exact fcF (m := 3) (v := (.tup [])) (h' := (F48_3_d2 a2 x6_0 x6_1 x6_2 x5_3 a1)) [(8, .d false), (23, .v (vs x2)), (24, .v (vs (x2 ++ (⟨([40] : List UInt8).toArray⟩ : ByteArray)))), (25, .r (.tup [i6 x4_0, (.p (.val .nilIface))]) [.cells 25 ((cT a2).map .p), yU x4_1 x4_2, .cells 87 [sp x4_3 2 0, (.sl 1 x4_1 1 0 (a6 + (sbytes (x2 ++ (⟨([40] : List UInt8).toArray⟩ : ByteArray))).length))], .cells 25 ((cT a1).map .p)]), (28, .v (i6 (a1.kids.length : Int))), (2000, .l (.brk 0) (F48_3_d4 g5 a1 a2 x5_0 x5_1 x5_2 x5_3)), (43, .r (.p (.val .nilIface)) (F48_3_d2 a2 x6_0 x6_1 x6_2 x5_3 a1)), (6000, .d true)] (av h1 (apc q0 (apc ((st_add h3) : binA .add (vs x2) (vs (⟨([40] : List UInt8).toArray⟩ : ByteArray)) = some (vs (x2 ++ (⟨([40] : List UInt8).toArray⟩ : ByteArray)))) (apc ((F69_3_ok (x2 ++ (⟨([40] : List UInt8).toArray⟩ : ByteArray)) a2 a3 a4 a5 a6 a1 h4) : CS pg 69 [.ptr 2 0, (vs (x2 ++ (⟨([40] : List UInt8).toArray⟩ : ByteArray)))] (F48_3_d1 a2 a3 a4 a5 a6 a1) = some ((.tup [i6 x4_0, (.p (.val .nilIface))]), [.cells 25 ((cT a2).map .p), yU x4_1 x4_2, .cells 87 [sp x4_3 2 0, (.sl 1 x4_1 1 0 (a6 + (sbytes (x2 ++ (⟨([40] : List UInt8).toArray⟩ : ByteArray))).length))], .cells 25 ((cT a1).map .p)])) (apc ((lgr tr_map) : lnA (.p (.lst 3 (eTrees a1.kids))) = some (i6 (a1.kids.length : Int))) (apc (L48_0_3_k a1 (a1.kids.length : Int) a2 0 x4_1 x4_2 x4_3 (a6 + (sbytes (x2 ++ (⟨([40] : List UInt8).toArray⟩ : ByteArray))).length)) (apc (e5 : L48_0_3_e a1 (a1.kids.length : Int) a2 0 x4_1 x4_2 x4_3 (a6 + (sbytes (x2 ++ (⟨([40] : List UInt8).toArray⟩ : ByteArray))).length) = some ((.brk 0), F48_3_d4 g5 a1 a2 x5_0 x5_1 x5_2 x5_3)) (apc ((F70_ok a2 x5_0 x5_1 x5_2 x5_3 a1 h6) : CS pg 70 [.ptr 2 0, vi .u8 41] [.cells 25 ((cT a2).map .p), yU x5_0 x5_1, .cells 87 [sp x5_2 2 0, .sl 1 x5_0 1 0 x5_3], .cells 25 ((cT a1).map .p)] = some ((.p (.val .nilIface)), F48_3_d2 a2 x6_0 x6_1 x6_2 x5_3 a1)) apn)))))))) rfl (ac (ar (abl_cons (blw_sp rfl (blw_c rfl rfl)) rfl))) rfl (ac (ar (abl_cons (blw_sp rfl (blw_c rfl rfl)) rfl))) rfl (by kernel_rfl)
  ·
   cases h
def F48_3 : Nat → T_F48_3
  | 0 => fun _ _ _ _ _ _ => none
  | Nf + 1 => F48_3_b (F48_3 Nf)
theorem F48_3_ok (Nf : Nat) : H_F48_3 (F48_3 Nf) := by
  induction Nf with
  | zero => intro a1 a2 a3 a4 a5 a6 r h; have h : (none : Option R_F48_3) = some r := h; cases h
  | succ Nf ih => intro a1 a2 a3 a4 a5 a6 r h; exact F48_3_bok (F48_3 Nf) ih a1 a2 a3 a4 a5 a6 h
def F49_v (a1 : TreeD) (a2 : Nat) (a3 : List Int) (a4 : Bool) (a5 : Nat) (x0 : Int) : AV := (i6 x0)
def F49_h (a1 : TreeD) (a2 : Nat) (a3 : List Int) (a4 : Bool) (a5 : Nat) (x0 : Int) : List AB := [.cells 25 ((cT a1).map .p), yU a2 a3, .cells 87 [sp a4 2 0, .sl 1 a2 1 0 a5]]
def F49 (a5 : Nat) : Option Int :=
  (some ((a5 : Nat) : Int))
theorem F49_ok (a1 : TreeD) (a2 : Nat) (a3 : List Int) (a4 : Bool) (a5 : Nat) {r : Int} (h : F49 a5 = some r) : CS pg 49 [.ptr 2 0] [.cells 25 ((cT a1).map .p), yU a2 a3, .cells 87 [sp a4 2 0, .sl 1 a2 1 0 a5]] = some (F49_v a1 a2 a3 a4 a5 r, F49_h a1 a2 a3 a4 a5 r) := by
 unfold F49 at h
 rw [← sj h]
 exact fc [] apn
inductive R_F50 where
  | k0 (x0 : ByteArray)
  | k1 (x0 : ByteArray)
def F50_v (a1 : TreeD) (a2 : Nat) (a3 : List Int) (a4 : Bool) (a5 : Nat) (r : R_F50) : AV := match r with | .k0 x0 => (vs x0) | .k1 x0 => (vs x0)
def F50_h (a1 : TreeD) (a2 : Nat) (a3 : List Int) (a4 : Bool) (a5 : Nat) (r : R_F50) : List AB := match r with | .k0 x0 => [.cells 25 ((cT a1).map .p), .dead, .cells 87 [sp a4 2 0, .sl 1 a2 1 0 a5]] | .k1 x0 => [.cells 25 ((cT a1).map .p), yU a2 a3, .cells 87 [sp a4 2 0, .sl 1 a2 1 0 a5]]
def F50 (a3 : List Int) (a5 : Nat) : Option R_F50 :=
  (bif (decide (0 < a5)) then (bif (usOk a5 a3.length) then (some (.k0 (bstr (a3.take a5)))) else none) else (some (.k1 ByteArray.empty)))
abbrev F50_d0 (a1 : TreeD) (a2 : Nat) (a3 : List Int) (a4 : Bool) (a5 : Nat) : List AB := [.cells 25 ((cT a1).map .p), yU a2 a3, .cells 87 [sp a4 2 0, .sl 1 a2 1 0 a5]]
abbrev F50_d1 (a1 : TreeD) (a4 : Bool) (a2 a5 : Nat) : List AB := [.cells 25 ((cT a1).map .p), .dead, .cells 87 [sp a4 2 0, .sl 1 a2 1 0 a5]]
theorem F50_ok (a1 : TreeD) (a2 : Nat) (a3 : List Int) (a4 : Bool) (a5 : Nat) {r : R_F50} (h : F50 a3 a5 = some r) : CS pg 50 [.ptr 2 0] [.cells 25 ((cT a1).map .p), yU a2 a3, .cells 87 [sp a4 2 0, .sl 1 a2 1 0 a5]] = some (F50_v a1 a2 a3 a4 a5 r, F50_h a1 a2 a3 a4 a5 r) := by
 unfold F50 at h
 apply bi h <;> intro h1 h
 ·
  have q0 := ((sd_t (e := eU8) (xs := a3) rfl h1) : sdA (F50_d0 a1 a2 a3 a4 a5) (.sl 1 a2 1 0 a5) = some (.rp 1 a2 1 0 0))
  apply bi h <;> intro h2 h
  ·
   rw [← sj h]
   exact fc [(7, .v (.rp 1 a2 1 0 0)), (13, .r (vs (bstr (a3.take a5))) (F50_d1 a1 a4 a2 a5))] (apc q0 (apc ((us_t (e := eU8) (xs := a3) rfl h1 h2) : uSA (F50_d0 a1 a2 a3 a4 a5) 5 (.rp 1 a2 1 0 0) (i6 ((a5 : Nat) : Int)) = some ((vs (bstr (a3.take a5))), F50_d1 a1 a4 a2 a5)) apn))
  ·
   cases h
 ·
  rw [← sj h]
  exact fc [(7, .v .anyp), (13, .r (vs ByteArray.empty) (F50_d0 a1 a2 a3 a4 a5))] (apc ((sd_f (e := eU8) (xs := a3) rfl h1) : sdA (F50_d0 a1 a2 a3 a4 a5) (.sl 1 a2 1 0 a5) = some .anyp) (apc ((us_f h1) : uSA (F50_d0 a1 a2 a3 a4 a5) 5 .anyp (i6 ((a5 : Nat) : Int)) = some ((vs ByteArray.empty), F50_d0 a1 a2 a3 a4 a5)) apn))
inductive R_F20 where
  | k0 (x0 : ByteArray) (x1 : Int)
def F20_v (a1 : TreeD) (r : R_F20) : AV := match r with | .k0 x0 x1 => (.tup [vs x0, i6 x1])
def F20 (Nf : Nat) (a1 : TreeD) : Option R_F20 :=
  ((F23 a1).bind fun x1 => (bif (x1 != 0) then (some (.k0 (⟨([] : List UInt8).toArray⟩ : ByteArray) x1)) else ((F48_3 Nf a1 a1 0 ([]) false 0).bind fun r3 => match r3 with | .k0 x3_0 x3_1 x3_2 x3_3 => ((F49 x3_3).bind fun x4 => (bif (decide (x4 > 1048576)) then (some (.k0 (⟨([] : List UInt8).toArray⟩ : ByteArray) 3)) else ((F50 x3_1 x3_3).bind fun r6 => match r6 with | .k0 x6_0 => (some (.k0 x6_0 0)) | .k1 x6_0 => (some (.k0 x6_0 0))))))))
abbrev F20_d0 (a1 : TreeD) (x3_0 : Nat) (x3_1 : List Int) (x3_2 : Bool) (x3_3 : Nat) : List AB := [.cells 25 ((cT a1).map .p), yU x3_0 x3_1, .cells 87 [sp x3_2 2 0, .sl 1 x3_0 1 0 x3_3]]
abbrev F20_d1 (a1 : TreeD) (x3_2 : Bool) (x3_0 x3_3 : Nat) : List AB := [.cells 25 ((cT a1).map .p), .dead, .cells 87 [sp x3_2 2 0, .sl 1 x3_0 1 0 x3_3]]
theorem F20_ok (Nf : Nat) (a1 : TreeD) {r : R_F20} (h : F20 Nf a1 = some r) : PR1 pg 20 [(.agg ((cT a1).map .p))] (F20_v a1 r) := by
 unfold F20 at h
 apply bn h; intro x1 h1 h
 have q0 := (((F23_ok a1 h1).cp rfl _) : CP pg 23 [(.agg ((cT a1).map .p))] [.cells 25 ((cT a1).map .p)] = some (i6 x1))
 apply bi h <;> intro h2 h
 ·
  rw [← sj h]
  exact fq [(7, .v (i6 x1)), (9, .d true)] (apc q0 (av h2 apn))
 ·
  have k1 := ka [(7, .v (i6 x1)), (9, .d false)] (apc q0 (av h2 apn))
  apply bn h; intro r3 h3 h
  cases r3 with
  | k0 x3_0 x3_1 x3_2 x3_3 =>
   have q2 := ((F48_3_ok Nf a1 a1 0 ([]) false 0 h3 []) : CS pg 48 [.ptr 2 0, (.agg ((cT a1).map .p))] [.cells 25 ((cT a1).map .p), yU0, .cells 87 [sp false 2 0, .sl 1 0 1 0 0]] = some ((.tup []), F20_d0 a1 x3_0 x3_1 x3_2 x3_3))
   have k3 := k1.a [(12, .r (.tup []) (F20_d0 a1 x3_0 x3_1 x3_2 x3_3))] (apc q2 apn)
   apply bn h; intro x4 h4 h
   have q4 := ((F49_ok a1 x3_0 x3_1 x3_2 x3_3 h4) : CS pg 49 [.ptr 2 0] (F20_d0 a1 x3_0 x3_1 x3_2 x3_3) = some ((i6 x4), F20_d0 a1 x3_0 x3_1 x3_2 x3_3))
   have k5 := k3.a [(13, .r (i6 x4) (F20_d0 a1 x3_0 x3_1 x3_2 x3_3))] (apc q4 apn)
   apply bi h <;> intro h5 h
   ·
    rw [← sj h]
    exact fq ([(14, .d true)] ++ kH k5) (k5.b (av h5 apn))
   ·
    apply bn h; intro r6 h6 h
    cases r6 with
    | k0 x6_0 =>
     rw [← sj h]
     exact fq ([(14, .d false), (15, .r (vs x6_0) (F20_d1 a1 x3_2 x3_0 x3_3))] ++ kH k5) (k5.b (av h5 (apc ((F50_ok a1 x3_0 x3_1 x3_2 x3_3 h6) : CS pg 50 [.ptr 2 0] (F20_d0 a1 x3_0 x3_1 x3_2 x3_3) = some ((vs x6_0), F20_d1 a1 x3_2 x3_0 x3_3)) apn)))
    | k1 x6_0 =>
     rw [← sj h]
     exact fq ([(14, .d false), (15, .r (vs x6_0) (F20_d0 a1 x3_0 x3_1 x3_2 x3_3))] ++ kH k5) (k5.b (av h5 (apc ((F50_ok a1 x3_0 x3_1 x3_2 x3_3 h6) : CS pg 50 [.ptr 2 0] (F20_d0 a1 x3_0 x3_1 x3_2 x3_3) = some ((vs x6_0), F20_d0 a1 x3_0 x3_1 x3_2 x3_3)) apn)))
def F15_v (a1 : Int) (x0 : Int) : AV := (i6 x0)
def F15 (a1 : Int) : Option Int :=
  (some a1)
theorem F15_ok (a1 : Int) {r : Int} (h : F15 a1 = some r) : PR1 pg 15 [i6 a1] (F15_v a1 r) := by
 unfold F15 at h
 rw [← sj h]
 exact fq [] apn
section
variable (a1 : ByteArray) (a2 a3 : TreeD)
end
end
end
end Go.Proofs.Tryd
