/- Decompiled by a program: functions as plain data see them, part 1. -/
import Derived.Test.YtcdebkkjbminoaaDoorW103
namespace Go.Proofs.Tryd
set_option linter.unusedSimpArgs false
set_option linter.unusedVariables false
set_option linter.unusedSectionVars false
set_option maxHeartbeats 4000000
open Go Go.Vs
noncomputable section
section
variable [PutC]
inductive E_L10_0 where
  | k0
  | k1 (x0 : Int)
def L10_0 (Nf : Nat) (a3 : TreeD) (a5 : List Int) (a9 : List TreeD) (v1 v2 : Int) : Option (E_L10_0 ⊕ (Int × Int)) :=
  (bif (decide (v2 < (a9.length : Int))) then (bif (apOk 0 a5.length ([] : List Int).length 8) then (bif (decide (0 + a5.length ≤ ([] : List Int).length)) then (bif (apOk (0 + a5.length) 1 (splice ([]) 0 a5).length 8) then (bif (decide ((0 + a5.length) + 1 ≤ (splice ([]) 0 a5).length)) then (bif (decide (((0 + a5.length) + 1) ≤ (splice (splice ([]) 0 a5) (0 + a5.length) [v2]).length)) then ((F32 Nf a3 ((splice (splice ([]) 0 a5) (0 + a5.length) [v2]).take ((0 + a5.length) + 1))).bind fun r7 => match r7 with | .k0 x7_0 x7_1 x7_2 => ((F15 x7_2).bind fun x8 => (bif (x8 != 0) then (some (.inl (.k0))) else (bif (x7_0 != v1) then (some (.inl (.k0))) else (bif (decide (x7_1 < x7_0)) then (some (.inl (.k0))) else (some (.inr (x7_1, (IntKind.wrap .i64 (v2 + 1)))))))))) else none) else (bif (decide (((0 + a5.length) + 1) ≤ ((splice ([]) 0 a5).take (0 + a5.length) ++ [v2]).length)) then ((F32 Nf a3 (((splice ([]) 0 a5).take (0 + a5.length) ++ [v2]).take ((0 + a5.length) + 1))).bind fun r7 => match r7 with | .k0 x7_0 x7_1 x7_2 => ((F15 x7_2).bind fun x8 => (bif (x8 != 0) then (some (.inl (.k0))) else (bif (x7_0 != v1) then (some (.inl (.k0))) else (bif (decide (x7_1 < x7_0)) then (some (.inl (.k0))) else (some (.inr (x7_1, (IntKind.wrap .i64 (v2 + 1)))))))))) else none)) else none) else (bif (apOk (0 + a5.length) 1 (([] : List Int).take 0 ++ a5).length 8) then (bif (decide ((0 + a5.length) + 1 ≤ (([] : List Int).take 0 ++ a5).length)) then (bif (decide (((0 + a5.length) + 1) ≤ (splice (([] : List Int).take 0 ++ a5) (0 + a5.length) [v2]).length)) then ((F32 Nf a3 ((splice (([] : List Int).take 0 ++ a5) (0 + a5.length) [v2]).take ((0 + a5.length) + 1))).bind fun r7 => match r7 with | .k0 x7_0 x7_1 x7_2 => ((F15 x7_2).bind fun x8 => (bif (x8 != 0) then (some (.inl (.k0))) else (bif (x7_0 != v1) then (some (.inl (.k0))) else (bif (decide (x7_1 < x7_0)) then (some (.inl (.k0))) else (some (.inr (x7_1, (IntKind.wrap .i64 (v2 + 1)))))))))) else none) else (bif (decide (((0 + a5.length) + 1) ≤ ((([] : List Int).take 0 ++ a5).take (0 + a5.length) ++ [v2]).length)) then ((F32 Nf a3 (((([] : List Int).take 0 ++ a5).take (0 + a5.length) ++ [v2]).take ((0 + a5.length) + 1))).bind fun r7 => match r7 with | .k0 x7_0 x7_1 x7_2 => ((F15 x7_2).bind fun x8 => (bif (x8 != 0) then (some (.inl (.k0))) else (bif (x7_0 != v1) then (some (.inl (.k0))) else (bif (decide (x7_1 < x7_0)) then (some (.inl (.k0))) else (some (.inr (x7_1, (IntKind.wrap .i64 (v2 + 1)))))))))) else none)) else none)) else none) else (some (.inl (.k1 v1))))
def L10_0_s (a1 : Int) (a3 a4 : TreeD) (a5 : List Int) (a6 a7 a8 : Int) (a9 : List TreeD) (a10 a11 : Int) (a12 : List TreeD) (a13 a14 : Int) (a15 : List TreeD) (a16 a17 : Int) (a18 : List TreeD) (v1 v2 : Int) : St := ⟨fr 247 ug [(3, .ptr 0 0), (5, .ptr 2 0), (7, .ptr 5 0), (16, i6 a1), (21, i6 v1), (22, i6 v2)], [.cells 25 ((cT a3).map .p), .cells 25 ((cT a4).map .p), .cells 61 [ls 1 eI64 a5, i6 a6], .row 25 3 0 [[i6 a3.prod, vi .u8 a3.byte, (.p (.lst 3 (eTrees a3.kids)))], [i6 a4.prod, vi .u8 a4.byte, (.p (.lst 3 (eTrees a4.kids)))]], yT0, .cells 25 [i6 a7, vi .u8 a8, (.p (.lst 3 (eTrees a9)))], yT0, .cells 25 [i6 a10, vi .u8 a11, (.p (.lst 3 (eTrees a12)))], yT0, .cells 25 [i6 a13, vi .u8 a14, (.p (.lst 3 (eTrees a15)))], yT0, .cells 25 [i6 a16, vi .u8 a17, (.p (.lst 3 (eTrees a18)))]]⟩
theorem L10_0_k (a1 : Int) (a3 a4 : TreeD) (a5 : List Int) (a6 a7 a8 : Int) (a9 : List TreeD) (a10 a11 : Int) (a12 : List TreeD) (a13 a14 : Int) (a15 : List TreeD) (a16 a17 : Int) (a18 : List TreeD) (v1 v2 : Int) : okT 12 (L10_0_s a1 a3 a4 a5 a6 a7 a8 a9 a10 a11 a12 a13 a14 a15 a16 a17 a18 v1 v2).h = true := (okT_of rfl (ac (ac (ac (ac (ar (ac (ar (ac (ar (ac (ar (ac rfl)))))))))))))
abbrev L10_0_e (a1 : Int) (a3 a4 : TreeD) (a5 : List Int) (a6 a7 a8 : Int) (a9 : List TreeD) (a10 a11 : Int) (a12 : List TreeD) (a13 a14 : Int) (a15 : List TreeD) (a16 a17 : Int) (a18 : List TreeD) (v1 v2 : Int) := evH pg 12 [3, 5, 7, 16, 21, 22] ir10_l0 (L10_0_s a1 a3 a4 a5 a6 a7 a8 a9 a10 a11 a12 a13 a14 a15 a16 a17 a18 v1 v2)
def L10_0_x (a1 : Int) (a3 a4 : TreeD) (a5 : List Int) (a6 a7 a8 : Int) (a9 : List TreeD) (a10 a11 : Int) (a12 : List TreeD) (a13 a14 : Int) (a15 : List TreeD) (a16 a17 : Int) (a18 : List TreeD) (e : E_L10_0) (r : Option (Out × St)) : Prop := match e with | .k0 => ∃ g y, r = some (.ret, ⟨fr 247 g [(6, vb false)], y⟩) | .k1 x0 => ∃ g, r = some ((.brk 0), ⟨fr 247 g [(3, .ptr 0 0), (5, .ptr 2 0), (7, .ptr 5 0), (16, i6 a1), (21, i6 x0)], [.cells 25 ((cT a3).map .p), .cells 25 ((cT a4).map .p), .cells 61 [ls 1 eI64 a5, i6 a6], .row 25 3 0 [[i6 a3.prod, vi .u8 a3.byte, (.p (.lst 3 (eTrees a3.kids)))], [i6 a4.prod, vi .u8 a4.byte, (.p (.lst 3 (eTrees a4.kids)))]], yT0, .cells 25 [i6 a7, vi .u8 a8, (.p (.lst 3 (eTrees a9)))], yT0, .cells 25 [i6 a10, vi .u8 a11, (.p (.lst 3 (eTrees a12)))], yT0, .cells 25 [i6 a13, vi .u8 a14, (.p (.lst 3 (eTrees a15)))], yT0, .cells 25 [i6 a16, vi .u8 a17, (.p (.lst 3 (eTrees a18)))]]⟩)
abbrev L10_0_d0 (a3 a4 : TreeD) (a5 : List Int) (a6 a7 a8 : Int) (a9 : List TreeD) (a10 a11 : Int) (a12 : List TreeD) (a13 a14 : Int) (a15 : List TreeD) (a16 a17 : Int) (a18 : List TreeD) : List AB := [.cells 25 ((cT a3).map .p), .cells 25 ((cT a4).map .p), .cells 61 [ls 1 eI64 a5, i6 a6], .row 25 3 0 [[i6 a3.prod, vi .u8 a3.byte, (.p (.lst 3 (eTrees a3.kids)))], [i6 a4.prod, vi .u8 a4.byte, (.p (.lst 3 (eTrees a4.kids)))]], yT0, .cells 25 [i6 a7, vi .u8 a8, (.p (.lst 3 (eTrees a9)))], yT0, .cells 25 [i6 a10, vi .u8 a11, (.p (.lst 3 (eTrees a12)))], yT0, .cells 25 [i6 a13, vi .u8 a14, (.p (.lst 3 (eTrees a15)))], yT0, .cells 25 [i6 a16, vi .u8 a17, (.p (.lst 3 (eTrees a18)))], yI0, .hole]
abbrev L10_0_d1 (a3 a4 : TreeD) (a5 : List Int) (a6 a7 a8 : Int) (a9 : List TreeD) (a10 a11 : Int) (a12 : List TreeD) (a13 a14 : Int) (a15 : List TreeD) (a16 a17 : Int) (a18 : List TreeD) : List AB := [.cells 25 ((cT a3).map .p), .cells 25 ((cT a4).map .p), .cells 61 [ls 1 eI64 a5, i6 a6], .row 25 3 0 [[i6 a3.prod, vi .u8 a3.byte, (.p (.lst 3 (eTrees a3.kids)))], [i6 a4.prod, vi .u8 a4.byte, (.p (.lst 3 (eTrees a4.kids)))]], yT0, .cells 25 [i6 a7, vi .u8 a8, (.p (.lst 3 (eTrees a9)))], yT0, .cells 25 [i6 a10, vi .u8 a11, (.p (.lst 3 (eTrees a12)))], yT0, .cells 25 [i6 a13, vi .u8 a14, (.p (.lst 3 (eTrees a15)))], yT0, .cells 25 [i6 a16, vi .u8 a17, (.p (.lst 3 (eTrees a18)))], yI 0 (splice ([]) 0 a5), .hole]
abbrev L10_0_d2 (a3 a4 : TreeD) (a5 : List Int) (a6 a7 a8 : Int) (a9 : List TreeD) (a10 a11 : Int) (a12 : List TreeD) (a13 a14 : Int) (a15 : List TreeD) (a16 a17 : Int) (a18 : List TreeD) (v2 : Int) : List AB := [.cells 25 ((cT a3).map .p), .cells 25 ((cT a4).map .p), .cells 61 [ls 1 eI64 a5, i6 a6], .row 25 3 0 [[i6 a3.prod, vi .u8 a3.byte, (.p (.lst 3 (eTrees a3.kids)))], [i6 a4.prod, vi .u8 a4.byte, (.p (.lst 3 (eTrees a4.kids)))]], yT0, .cells 25 [i6 a7, vi .u8 a8, (.p (.lst 3 (eTrees a9)))], yT0, .cells 25 [i6 a10, vi .u8 a11, (.p (.lst 3 (eTrees a12)))], yT0, .cells 25 [i6 a13, vi .u8 a14, (.p (.lst 3 (eTrees a15)))], yT0, .cells 25 [i6 a16, vi .u8 a17, (.p (.lst 3 (eTrees a18)))], yI 0 (splice ([]) 0 a5), .row 3 1 0 [[i6 v2]]]
abbrev L10_0_d3 (a3 a4 : TreeD) (a5 : List Int) (a6 a7 a8 : Int) (a9 : List TreeD) (a10 a11 : Int) (a12 : List TreeD) (a13 a14 : Int) (a15 : List TreeD) (a16 a17 : Int) (a18 : List TreeD) (v2 : Int) : List AB := [.cells 25 ((cT a3).map .p), .cells 25 ((cT a4).map .p), .cells 61 [ls 1 eI64 a5, i6 a6], .row 25 3 0 [[i6 a3.prod, vi .u8 a3.byte, (.p (.lst 3 (eTrees a3.kids)))], [i6 a4.prod, vi .u8 a4.byte, (.p (.lst 3 (eTrees a4.kids)))]], yT0, .cells 25 [i6 a7, vi .u8 a8, (.p (.lst 3 (eTrees a9)))], yT0, .cells 25 [i6 a10, vi .u8 a11, (.p (.lst 3 (eTrees a12)))], yT0, .cells 25 [i6 a13, vi .u8 a14, (.p (.lst 3 (eTrees a15)))], yT0, .cells 25 [i6 a16, vi .u8 a17, (.p (.lst 3 (eTrees a18)))], yI 0 (splice (splice ([]) 0 a5) (0 + a5.length) [v2]), .row 3 1 0 [[i6 v2]]]
abbrev L10_0_d4 (a3 a4 : TreeD) (a5 : List Int) (a6 a7 a8 : Int) (a9 : List TreeD) (a10 a11 : Int) (a12 : List TreeD) (a13 a14 : Int) (a15 : List TreeD) (a16 a17 : Int) (a18 : List TreeD) (v2 : Int) : List AB := [.cells 25 ((cT a3).map .p), .cells 25 ((cT a4).map .p), .cells 61 [ls 1 eI64 a5, i6 a6], .row 25 3 0 [[i6 a3.prod, vi .u8 a3.byte, (.p (.lst 3 (eTrees a3.kids)))], [i6 a4.prod, vi .u8 a4.byte, (.p (.lst 3 (eTrees a4.kids)))]], yT0, .cells 25 [i6 a7, vi .u8 a8, (.p (.lst 3 (eTrees a9)))], yT0, .cells 25 [i6 a10, vi .u8 a11, (.p (.lst 3 (eTrees a12)))], yT0, .cells 25 [i6 a13, vi .u8 a14, (.p (.lst 3 (eTrees a15)))], yT0, .cells 25 [i6 a16, vi .u8 a17, (.p (.lst 3 (eTrees a18)))], yI 1 ((splice ([]) 0 a5).take (0 + a5.length) ++ [v2]), .row 3 1 0 [[i6 v2]]]
abbrev L10_0_d5 (a3 a4 : TreeD) (a5 : List Int) (a6 a7 a8 : Int) (a9 : List TreeD) (a10 a11 : Int) (a12 : List TreeD) (a13 a14 : Int) (a15 : List TreeD) (a16 a17 : Int) (a18 : List TreeD) : List AB := [.cells 25 ((cT a3).map .p), .cells 25 ((cT a4).map .p), .cells 61 [ls 1 eI64 a5, i6 a6], .row 25 3 0 [[i6 a3.prod, vi .u8 a3.byte, (.p (.lst 3 (eTrees a3.kids)))], [i6 a4.prod, vi .u8 a4.byte, (.p (.lst 3 (eTrees a4.kids)))]], yT0, .cells 25 [i6 a7, vi .u8 a8, (.p (.lst 3 (eTrees a9)))], yT0, .cells 25 [i6 a10, vi .u8 a11, (.p (.lst 3 (eTrees a12)))], yT0, .cells 25 [i6 a13, vi .u8 a14, (.p (.lst 3 (eTrees a15)))], yT0, .cells 25 [i6 a16, vi .u8 a17, (.p (.lst 3 (eTrees a18)))], yI 1 (([] : List Int).take 0 ++ a5), .hole]
abbrev L10_0_d6 (a3 a4 : TreeD) (a5 : List Int) (a6 a7 a8 : Int) (a9 : List TreeD) (a10 a11 : Int) (a12 : List TreeD) (a13 a14 : Int) (a15 : List TreeD) (a16 a17 : Int) (a18 : List TreeD) (v2 : Int) : List AB := [.cells 25 ((cT a3).map .p), .cells 25 ((cT a4).map .p), .cells 61 [ls 1 eI64 a5, i6 a6], .row 25 3 0 [[i6 a3.prod, vi .u8 a3.byte, (.p (.lst 3 (eTrees a3.kids)))], [i6 a4.prod, vi .u8 a4.byte, (.p (.lst 3 (eTrees a4.kids)))]], yT0, .cells 25 [i6 a7, vi .u8 a8, (.p (.lst 3 (eTrees a9)))], yT0, .cells 25 [i6 a10, vi .u8 a11, (.p (.lst 3 (eTrees a12)))], yT0, .cells 25 [i6 a13, vi .u8 a14, (.p (.lst 3 (eTrees a15)))], yT0, .cells 25 [i6 a16, vi .u8 a17, (.p (.lst 3 (eTrees a18)))], yI 1 (([] : List Int).take 0 ++ a5), .row 3 1 0 [[i6 v2]]]
abbrev L10_0_d7 (a3 a4 : TreeD) (a5 : List Int) (a6 a7 a8 : Int) (a9 : List TreeD) (a10 a11 : Int) (a12 : List TreeD) (a13 a14 : Int) (a15 : List TreeD) (a16 a17 : Int) (a18 : List TreeD) (v2 : Int) : List AB := [.cells 25 ((cT a3).map .p), .cells 25 ((cT a4).map .p), .cells 61 [ls 1 eI64 a5, i6 a6], .row 25 3 0 [[i6 a3.prod, vi .u8 a3.byte, (.p (.lst 3 (eTrees a3.kids)))], [i6 a4.prod, vi .u8 a4.byte, (.p (.lst 3 (eTrees a4.kids)))]], yT0, .cells 25 [i6 a7, vi .u8 a8, (.p (.lst 3 (eTrees a9)))], yT0, .cells 25 [i6 a10, vi .u8 a11, (.p (.lst 3 (eTrees a12)))], yT0, .cells 25 [i6 a13, vi .u8 a14, (.p (.lst 3 (eTrees a15)))], yT0, .cells 25 [i6 a16, vi .u8 a17, (.p (.lst 3 (eTrees a18)))], yI 1 (splice (([] : List Int).take 0 ++ a5) (0 + a5.length) [v2]), .row 3 1 0 [[i6 v2]]]
abbrev L10_0_d8 (a3 a4 : TreeD) (a5 : List Int) (a6 a7 a8 : Int) (a9 : List TreeD) (a10 a11 : Int) (a12 : List TreeD) (a13 a14 : Int) (a15 : List TreeD) (a16 a17 : Int) (a18 : List TreeD) (v2 : Int) : List AB := [.cells 25 ((cT a3).map .p), .cells 25 ((cT a4).map .p), .cells 61 [ls 1 eI64 a5, i6 a6], .row 25 3 0 [[i6 a3.prod, vi .u8 a3.byte, (.p (.lst 3 (eTrees a3.kids)))], [i6 a4.prod, vi .u8 a4.byte, (.p (.lst 3 (eTrees a4.kids)))]], yT0, .cells 25 [i6 a7, vi .u8 a8, (.p (.lst 3 (eTrees a9)))], yT0, .cells 25 [i6 a10, vi .u8 a11, (.p (.lst 3 (eTrees a12)))], yT0, .cells 25 [i6 a13, vi .u8 a14, (.p (.lst 3 (eTrees a15)))], yT0, .cells 25 [i6 a16, vi .u8 a17, (.p (.lst 3 (eTrees a18)))], yI 2 ((([] : List Int).take 0 ++ a5).take (0 + a5.length) ++ [v2]), .row 3 1 0 [[i6 v2]]]
theorem L10_0_ok (Nf : Nat) (a1 : Int) (a3 a4 : TreeD) (a5 : List Int) (a6 a7 a8 : Int) (a9 : List TreeD) (a10 a11 : Int) (a12 : List TreeD) (a13 a14 : Int) (a15 : List TreeD) (a16 a17 : Int) (a18 : List TreeD) (v1 v2 : Int) {r : E_L10_0 ⊕ (Int × Int)} (h : L10_0 Nf a3 a5 a9 v1 v2 = some r) : OkR (fun e => L10_0_x a1 a3 a4 a5 a6 a7 a8 a9 a10 a11 a12 a13 a14 a15 a16 a17 a18 e (L10_0_e a1 a3 a4 a5 a6 a7 a8 a9 a10 a11 a12 a13 a14 a15 a16 a17 a18 v1 v2)) (fun s => L10_0_e a1 a3 a4 a5 a6 a7 a8 a9 a10 a11 a12 a13 a14 a15 a16 a17 a18 v1 v2 = L10_0_e a1 a3 a4 a5 a6 a7 a8 a9 a10 a11 a12 a13 a14 a15 a16 a17 a18 s.1 s.2) r := by
 unfold L10_0 at h
 have q0 := ((lgr tr_map) : lnA (.p (.lst 3 (eTrees a9))) = some (i6 (a9.length : Int)))
 apply bi h <;> intro h1 h
 ·
  have k1 := ka [(156, .v (i6 (a9.length : Int))), (157, .d true)] (apc q0 (av h1 apn))
  apply bi h <;> intro h2 h
  ·
   apply bi h <;> intro h3 h
   ·
    have q2 := ((ap_in (e := eI64) (xs := []) (news := a5) rfl rows_l rfl h2 h3) : appA (L10_0_d0 a3 a4 a5 a6 a7 a8 a9 a10 a11 a12 a13 a14 a15 a16 a17 a18) 3 1 8 (.sl 12 0 1 0 0) (ls 1 eI64 a5) = some ((.sl 12 0 1 0 (0 + a5.length)), L10_0_d1 a3 a4 a5 a6 a7 a8 a9 a10 a11 a12 a13 a14 a15 a16 a17 a18))
    have k3 := k1.a [(165, .r (.sl 12 0 1 0 (0 + a5.length)) (L10_0_d1 a3 a4 a5 a6 a7 a8 a9 a10 a11 a12 a13 a14 a15 a16 a17 a18))] (apc q2 apn)
    apply bi h <;> intro h4 h
    ·
     apply bi h <;> intro h5 h
     ·
      have q4 := ((ap_in (e := eI64) (xs := (splice ([]) 0 a5)) (news := [v2]) rfl (rows_x (e := eI64) (xs := [v2]) rfl) rfl h4 h5) : appA (L10_0_d2 a3 a4 a5 a6 a7 a8 a9 a10 a11 a12 a13 a14 a15 a16 a17 a18 v2) 3 1 8 (.sl 12 0 1 0 (0 + a5.length)) (.sl 13 0 1 0 1) = some ((.sl 12 0 1 0 ((0 + a5.length) + 1)), L10_0_d3 a3 a4 a5 a6 a7 a8 a9 a10 a11 a12 a13 a14 a15 a16 a17 a18 v2))
      have k5 := k3.a [(168, .r (.sl 12 0 1 0 ((0 + a5.length) + 1)) (L10_0_d3 a3 a4 a5 a6 a7 a8 a9 a10 a11 a12 a13 a14 a15 a16 a17 a18 v2))] (apc q4 apn)
      apply bi h <;> intro h6 h
      ·
       apply bn h; intro r7 h7 h
       cases r7 with
       | k0 x7_0 x7_1 x7_2 =>
        have q6 := (((F32_ok Nf a3 ((splice (splice ([]) 0 a5) (0 + a5.length) [v2]).take ((0 + a5.length) + 1)) h7).own rfl (purAs_cons rfl (purAs_cons (purA_sl (e := eI64) rfl h6) purAs_nil)) rfl) : CP pg 32 [(.agg ((cT a3).map .p)), (.sl 12 0 1 0 ((0 + a5.length) + 1))] (L10_0_d3 a3 a4 a5 a6 a7 a8 a9 a10 a11 a12 a13 a14 a15 a16 a17 a18 v2) = some (.tup [i6 x7_0, i6 x7_1, i6 x7_2]))
        have k7 := k5.a [(169, .v (.tup [i6 x7_0, i6 x7_1, i6 x7_2]))] (apc q6 apn)
        apply bn h; intro x8 h8 h
        have q8 := (((F15_ok x7_2 h8).cp rfl _) : CP pg 15 [i6 x7_2] (L10_0_d3 a3 a4 a5 a6 a7 a8 a9 a10 a11 a12 a13 a14 a15 a16 a17 a18 v2) = some (i6 x8))
        apply bi h <;> intro h9 h
        ·
         rw [← sj h]
         exact xy ([(174, .v (i6 x8)), (175, .d true), (6000, .d true)] ++ kH k7) (k7.b (apc q8 (av h9 apn)))
        ·
         have k9 := k7.a [(174, .v (i6 x8)), (175, .d false)] (apc q8 (av h9 apn))
         apply bi h <;> intro h10 h
         ·
          rw [← sj h]
          exact xy ([(179, .d true), (6000, .d true)] ++ kH k9) (k9.b (av h10 apn))
         ·
          apply bi h <;> intro h11 h
          ·
           rw [← sj h]
           exact xy ([(179, .d false), (184, .d true), (6000, .d true)] ++ kH k9) (k9.b (av h10 (av h11 apn)))
          ·
           rw [← sj h]
           exact rn ([(179, .d false), (184, .d false), (6000, .d true)] ++ kH k9) (k9.b (av h10 (av h11 (apc (L10_0_k a1 a3 a4 a5 a6 a7 a8 a9 a10 a11 a12 a13 a14 a15 a16 a17 a18 x7_1 (w6 (v2 + 1))) apn))))
      ·
       cases h
     ·
      have q10 := ((ap_out (e := eI64) (xs := (splice ([]) 0 a5)) (news := [v2]) rfl (rows_x (e := eI64) (xs := [v2]) rfl) rfl h4 h5) : appA (L10_0_d2 a3 a4 a5 a6 a7 a8 a9 a10 a11 a12 a13 a14 a15 a16 a17 a18 v2) 3 1 8 (.sl 12 0 1 0 (0 + a5.length)) (.sl 13 0 1 0 1) = some ((.sl 12 1 1 0 ((0 + a5.length) + 1)), L10_0_d4 a3 a4 a5 a6 a7 a8 a9 a10 a11 a12 a13 a14 a15 a16 a17 a18 v2))
      have k11 := k3.a [(168, .r (.sl 12 1 1 0 ((0 + a5.length) + 1)) (L10_0_d4 a3 a4 a5 a6 a7 a8 a9 a10 a11 a12 a13 a14 a15 a16 a17 a18 v2))] (apc q10 apn)
      apply bi h <;> intro h6 h
      ·
       apply bn h; intro r7 h7 h
       cases r7 with
       | k0 x7_0 x7_1 x7_2 =>
        have q12 := (((F32_ok Nf a3 (((splice ([]) 0 a5).take (0 + a5.length) ++ [v2]).take ((0 + a5.length) + 1)) h7).own rfl (purAs_cons rfl (purAs_cons (purA_sl (e := eI64) rfl h6) purAs_nil)) rfl) : CP pg 32 [(.agg ((cT a3).map .p)), (.sl 12 1 1 0 ((0 + a5.length) + 1))] (L10_0_d4 a3 a4 a5 a6 a7 a8 a9 a10 a11 a12 a13 a14 a15 a16 a17 a18 v2) = some (.tup [i6 x7_0, i6 x7_1, i6 x7_2]))
        have k13 := k11.a [(169, .v (.tup [i6 x7_0, i6 x7_1, i6 x7_2]))] (apc q12 apn)
        apply bn h; intro x8 h8 h
        have q14 := (((F15_ok x7_2 h8).cp rfl _) : CP pg 15 [i6 x7_2] (L10_0_d4 a3 a4 a5 a6 a7 a8 a9 a10 a11 a12 a13 a14 a15 a16 a17 a18 v2) = some (i6 x8))
        apply bi h <;> intro h9 h
        ·
         rw [← sj h]
         exact xy ([(174, .v (i6 x8)), (175, .d true), (6000, .d true)] ++ kH k13) (k13.b (apc q14 (av h9 apn)))
        ·
         have k15 := k13.a [(174, .v (i6 x8)), (175, .d false)] (apc q14 (av h9 apn))
         apply bi h <;> intro h10 h
         ·
          rw [← sj h]
          exact xy ([(179, .d true), (6000, .d true)] ++ kH k15) (k15.b (av h10 apn))
         ·
          apply bi h <;> intro h11 h
          ·
           rw [← sj h]
           exact xy ([(179, .d false), (184, .d true), (6000, .d true)] ++ kH k15) (k15.b (av h10 (av h11 apn)))
          ·
           rw [← sj h]
           exact rn ([(179, .d false), (184, .d false), (6000, .d true)] ++ kH k15) (k15.b (av h10 (av h11 (apc (L10_0_k a1 a3 a4 a5 a6 a7 a8 a9 a10 a11 a12 a13 a14 a15 a16 a17 a18 x7_1 (w6 (v2 + 1))) apn))))
      ·
       cases h
    ·
     cases h
   ·
    have q16 := ((ap_out (e := eI64) (xs := []) (news := a5) rfl rows_l rfl h2 h3) : appA (L10_0_d0 a3 a4 a5 a6 a7 a8 a9 a10 a11 a12 a13 a14 a15 a16 a17 a18) 3 1 8 (.sl 12 0 1 0 0) (ls 1 eI64 a5) = some ((.sl 12 1 1 0 (0 + a5.length)), L10_0_d5 a3 a4 a5 a6 a7 a8 a9 a10 a11 a12 a13 a14 a15 a16 a17 a18))
    have k17 := k1.a [(165, .r (.sl 12 1 1 0 (0 + a5.length)) (L10_0_d5 a3 a4 a5 a6 a7 a8 a9 a10 a11 a12 a13 a14 a15 a16 a17 a18))] (apc q16 apn)
    apply bi h <;> intro h4 h
    ·
     apply bi h <;> intro h5 h
     ·
      have q18 := ((ap_in (e := eI64) (xs := (([] : List Int).take 0 ++ a5)) (news := [v2]) rfl (rows_x (e := eI64) (xs := [v2]) rfl) rfl h4 h5) : appA (L10_0_d6 a3 a4 a5 a6 a7 a8 a9 a10 a11 a12 a13 a14 a15 a16 a17 a18 v2) 3 1 8 (.sl 12 1 1 0 (0 + a5.length)) (.sl 13 0 1 0 1) = some ((.sl 12 1 1 0 ((0 + a5.length) + 1)), L10_0_d7 a3 a4 a5 a6 a7 a8 a9 a10 a11 a12 a13 a14 a15 a16 a17 a18 v2))
      have k19 := k17.a [(168, .r (.sl 12 1 1 0 ((0 + a5.length) + 1)) (L10_0_d7 a3 a4 a5 a6 a7 a8 a9 a10 a11 a12 a13 a14 a15 a16 a17 a18 v2))] (apc q18 apn)
      apply bi h <;> intro h6 h
      ·
       apply bn h; intro r7 h7 h
       cases r7 with
       | k0 x7_0 x7_1 x7_2 =>
        have q20 := (((F32_ok Nf a3 ((splice (([] : List Int).take 0 ++ a5) (0 + a5.length) [v2]).take ((0 + a5.length) + 1)) h7).own rfl (purAs_cons rfl (purAs_cons (purA_sl (e := eI64) rfl h6) purAs_nil)) rfl) : CP pg 32 [(.agg ((cT a3).map .p)), (.sl 12 1 1 0 ((0 + a5.length) + 1))] (L10_0_d7 a3 a4 a5 a6 a7 a8 a9 a10 a11 a12 a13 a14 a15 a16 a17 a18 v2) = some (.tup [i6 x7_0, i6 x7_1, i6 x7_2]))
        have k21 := k19.a [(169, .v (.tup [i6 x7_0, i6 x7_1, i6 x7_2]))] (apc q20 apn)
        apply bn h; intro x8 h8 h
        have q22 := (((F15_ok x7_2 h8).cp rfl _) : CP pg 15 [i6 x7_2] (L10_0_d7 a3 a4 a5 a6 a7 a8 a9 a10 a11 a12 a13 a14 a15 a16 a17 a18 v2) = some (i6 x8))
        apply bi h <;> intro h9 h
        ·
         rw [← sj h]
         exact xy ([(174, .v (i6 x8)), (175, .d true), (6000, .d true)] ++ kH k21) (k21.b (apc q22 (av h9 apn)))
        ·
         have k23 := k21.a [(174, .v (i6 x8)), (175, .d false)] (apc q22 (av h9 apn))
         apply bi h <;> intro h10 h
         ·
          rw [← sj h]
          exact xy ([(179, .d true), (6000, .d true)] ++ kH k23) (k23.b (av h10 apn))
         ·
          apply bi h <;> intro h11 h
          ·
           rw [← sj h]
           exact xy ([(179, .d false), (184, .d true), (6000, .d true)] ++ kH k23) (k23.b (av h10 (av h11 apn)))
          ·
           rw [← sj h]
           exact rn ([(179, .d false), (184, .d false), (6000, .d true)] ++ kH k23) (k23.b (av h10 (av h11 (apc (L10_0_k a1 a3 a4 a5 a6 a7 a8 a9 a10 a11 a12 a13 a14 a15 a16 a17 a18 x7_1 (w6 (v2 + 1))) apn))))
      ·
       cases h
     ·
      have q24 := ((ap_out (e := eI64) (xs := (([] : List Int).take 0 ++ a5)) (news := [v2]) rfl (rows_x (e := eI64) (xs := [v2]) rfl) rfl h4 h5) : appA (L10_0_d6 a3 a4 a5 a6 a7 a8 a9 a10 a11 a12 a13 a14 a15 a16 a17 a18 v2) 3 1 8 (.sl 12 1 1 0 (0 + a5.length)) (.sl 13 0 1 0 1) = some ((.sl 12 2 1 0 ((0 + a5.length) + 1)), L10_0_d8 a3 a4 a5 a6 a7 a8 a9 a10 a11 a12 a13 a14 a15 a16 a17 a18 v2))
      have k25 := k17.a [(168, .r (.sl 12 2 1 0 ((0 + a5.length) + 1)) (L10_0_d8 a3 a4 a5 a6 a7 a8 a9 a10 a11 a12 a13 a14 a15 a16 a17 a18 v2))] (apc q24 apn)
      apply bi h <;> intro h6 h
      ·
       apply bn h; intro r7 h7 h
       cases r7 with
       | k0 x7_0 x7_1 x7_2 =>
        have q26 := (((F32_ok Nf a3 (((([] : List Int).take 0 ++ a5).take (0 + a5.length) ++ [v2]).take ((0 + a5.length) + 1)) h7).own rfl (purAs_cons rfl (purAs_cons (purA_sl (e := eI64) rfl h6) purAs_nil)) rfl) : CP pg 32 [(.agg ((cT a3).map .p)), (.sl 12 2 1 0 ((0 + a5.length) + 1))] (L10_0_d8 a3 a4 a5 a6 a7 a8 a9 a10 a11 a12 a13 a14 a15 a16 a17 a18 v2) = some (.tup [i6 x7_0, i6 x7_1, i6 x7_2]))
        have k27 := k25.a [(169, .v (.tup [i6 x7_0, i6 x7_1, i6 x7_2]))] (apc q26 apn)
        apply bn h; intro x8 h8 h
        have q28 := (((F15_ok x7_2 h8).cp rfl _) : CP pg 15 [i6 x7_2] (L10_0_d8 a3 a4 a5 a6 a7 a8 a9 a10 a11 a12 a13 a14 a15 a16 a17 a18 v2) = some (i6 x8))
        apply bi h <;> intro h9 h
        ·
         rw [← sj h]
         exact xy ([(174, .v (i6 x8)), (175, .d true), (6000, .d true)] ++ kH k27) (k27.b (apc q28 (av h9 apn)))
        ·
         have k29 := k27.a [(174, .v (i6 x8)), (175, .d false)] (apc q28 (av h9 apn))
         apply bi h <;> intro h10 h
         ·
          rw [← sj h]
          exact xy ([(179, .d true), (6000, .d true)] ++ kH k29) (k29.b (av h10 apn))
         ·
          apply bi h <;> intro h11 h
          ·
           rw [← sj h]
           exact xy ([(179, .d false), (184, .d true), (6000, .d true)] ++ kH k29) (k29.b (av h10 (av h11 apn)))
          ·
           rw [← sj h]
           exact rn ([(179, .d false), (184, .d false), (6000, .d true)] ++ kH k29) (k29.b (av h10 (av h11 (apc (L10_0_k a1 a3 a4 a5 a6 a7 a8 a9 a10 a11 a12 a13 a14 a15 a16 a17 a18 x7_1 (w6 (v2 + 1))) apn))))
      ·
       cases h
    ·
     cases h
  ·
   cases h
 ·
  rw [← sj h]
  exact xb [(156, .v (i6 (a9.length : Int))), (157, .d false), (6000, .d true)] (apc q0 (av h1 apn))
theorem L10_0_run (Nf : Nat) (a1 : Int) (a3 a4 : TreeD) (a5 : List Int) (a6 a7 a8 : Int) (a9 : List TreeD) (a10 a11 : Int) (a12 : List TreeD) (a13 a14 : Int) (a15 : List TreeD) (a16 a17 : Int) (a18 : List TreeD) (s0 : Int × Int) (e : E_L10_0) (h : runL (fun s => L10_0 Nf a3 a5 a9 s.1 s.2) s0 = some e) : L10_0_x a1 a3 a4 a5 a6 a7 a8 a9 a10 a11 a12 a13 a14 a15 a16 a17 a18 e (L10_0_e a1 a3 a4 a5 a6 a7 a8 a9 a10 a11 a12 a13 a14 a15 a16 a17 a18 s0.1 s0.2) := by
  have q := @loop_sound' (Int × Int) E_L10_0 (fun s => L10_0 Nf a3 a5 a9 s.1 s.2) (fun s => L10_0_e a1 a3 a4 a5 a6 a7 a8 a9 a10 a11 a12 a13 a14 a15 a16 a17 a18 s.1 s.2) (L10_0_x a1 a3 a4 a5 a6 a7 a8 a9 a10 a11 a12 a13 a14 a15 a16 a17 a18) (fun s r h => L10_0_ok Nf a1 a3 a4 a5 a6 a7 a8 a9 a10 a11 a12 a13 a14 a15 a16 a17 a18 s.1 s.2 h) s0 e h
  exact q
def F10_v (a1 a2 : TreeD) (a3 : List Int) (a4 : Int) (x0 : Bool) : AV := (vb x0)
def F10 (Nf : Nat) (a1 a2 : TreeD) (a3 : List Int) (a4 : Int) : Option Bool :=
  ((F16 Nf ([TreeD.mk a1.prod a1.byte a1.kids, TreeD.mk a2.prod a2.byte a2.kids])).bind fun x1 => (bif x1 then (bif (decide ((a3.length : Int) > 2000)) then ((F11).bind fun x4 => (some x4)) else ((F23 a1).bind fun x4 => ((F15 x4).bind fun x5 => (bif (x5 != 0) then ((F11).bind fun x7 => (some x7)) else ((F23 a2).bind fun x7 => ((F15 x7).bind fun x8 => (bif (x8 != 0) then ((F11).bind fun x10 => (some x10)) else ((F31 Nf a1 a3).bind fun r10 => match r10 with | .k0 x10_0 x10_1 x10_2 x10_3 => ((F33 a1 a2 a3).bind fun r11 => match r11 with | .k0 x11_0 x11_1 => ((F15 x10_3).bind fun x12 => (bif (x12 != 0) then ((F15 x10_3).bind fun x14 => ((F15 x11_1).bind fun x15 => (bif (x14 == x15) then ((F11).bind fun x17 => (some x17)) else ((F15 x11_1).bind fun x17 => (bif (x17 == 3) then ((F11).bind fun x19 => (some x19)) else (some false)))))) else ((F15 x11_1).bind fun x14 => (bif (x14 != 0) then ((F15 x10_3).bind fun x16 => ((F15 x11_1).bind fun x17 => (bif (x16 == x17) then ((F11).bind fun x19 => (some x19)) else ((F15 x11_1).bind fun x19 => (bif (x19 == 3) then ((F11).bind fun x21 => (some x21)) else (some false)))))) else ((F31 Nf (TreeD.mk (x11_0).prod (x11_0).byte (x11_0).kids) a3).bind fun r16 => match r16 with | .k0 x16_0 x16_1 x16_2 x16_3 => ((F33 (TreeD.mk (x11_0).prod (x11_0).byte (x11_0).kids) (TreeD.mk x10_0 x10_1 x10_2) a3).bind fun r17 => match r17 with | .k0 x17_0 x17_1 => ((F15 x16_3).bind fun x18 => (bif (x18 != 0) then (some false) else ((F15 x17_1).bind fun x20 => (bif (x20 != 0) then (some false) else ((F24 Nf (TreeD.mk x16_0 x16_1 x16_2) a2).bind fun x22 => (bif x22 then ((F24 Nf (TreeD.mk (x17_0).prod (x17_0).byte (x17_0).kids) a1).bind fun x24 => (bif x24 then ((F32 Nf a1 a3).bind fun r26 => match r26 with | .k0 x26_0 x26_1 x26_2 => ((F19 Nf (TreeD.mk x10_0 x10_1 x10_2)).bind fun r27 => match r27 with | .k0 x27_0 x27_1 x27_2 => ((F15 x26_2).bind fun x28 => (bif (x28 != 0) then (some false) else (bif ((IntKind.wrap .i64 (x26_1 - x26_0)) != x27_1) then (some false) else ((runL (fun s => L10_0 Nf a1 a3 x10_2 s.1 s.2) (x26_0, 0)).bind fun r31 => match r31 with | .k0 => (some false) | .k1 x31_0 => (bif (decide (x10_0 ≥ 0)) then (bif (x31_0 != x26_1) then (some false) else ((F34 Nf a1 a4).bind fun r34 => match r34 with | .k0 x34_0 x34_1 => ((F15 x34_1).bind fun x35 => (bif (x35 != 0) then ((F11).bind fun x37 => (some x37)) else ((F32 Nf a1 x34_0).bind fun r37 => match r37 with | .k0 x37_0 x37_1 x37_2 => ((F31 Nf a1 x34_0).bind fun r38 => match r38 with | .k0 x38_0 x38_1 x38_2 x38_3 => ((F15 x37_2).bind fun x39 => (bif (x39 == 0) then ((F15 x38_3).bind fun x41 => (bif (x41 == 0) then (bif (decide (x37_0 ≤ a4)) then (bif (decide (a4 < x37_1)) then (bif (decide (x38_0 ≥ 0)) then ((F11).bind fun x46 => (some x46)) else (some false)) else (some false)) else (some false)) else (some false))) else (some false))))))))) else ((F34 Nf a1 a4).bind fun r33 => match r33 with | .k0 x33_0 x33_1 => ((F15 x33_1).bind fun x34 => (bif (x34 != 0) then ((F11).bind fun x36 => (some x36)) else ((F32 Nf a1 x33_0).bind fun r36 => match r36 with | .k0 x36_0 x36_1 x36_2 => ((F31 Nf a1 x33_0).bind fun r37 => match r37 with | .k0 x37_0 x37_1 x37_2 x37_3 => ((F15 x36_2).bind fun x38 => (bif (x38 == 0) then ((F15 x37_3).bind fun x40 => (bif (x40 == 0) then (bif (decide (x36_0 ≤ a4)) then (bif (decide (a4 < x36_1)) then (bif (decide (x37_0 ≥ 0)) then ((F11).bind fun x45 => (some x45)) else (some false)) else (some false)) else (some false)) else (some false))) else (some false))))))))))))))) else (some false))) else (some false)))))))))))))))))))))) else ((F11).bind fun x3 => (some x3))))
abbrev F10_d0 (a1 a2 : TreeD) (a3 : List Int) (a4 : Int) : List AB := [.cells 25 ((cT a1).map .p), .cells 25 ((cT a2).map .p), .cells 61 [ls 1 eI64 a3, i6 a4], .row 25 3 0 [[i6 a1.prod, vi .u8 a1.byte, (.p (.lst 3 (eTrees a1.kids)))], [i6 a2.prod, vi .u8 a2.byte, (.p (.lst 3 (eTrees a2.kids)))]]]
abbrev F10_d1 (a1 a2 : TreeD) (a3 : List Int) (a4 x10_0 x10_1 : Int) (x10_2 : List TreeD) (x11_0 : TreeD) : List AB := [.cells 25 ((cT a1).map .p), .cells 25 ((cT a2).map .p), .cells 61 [ls 1 eI64 a3, i6 a4], .row 25 3 0 [[i6 a1.prod, vi .u8 a1.byte, (.p (.lst 3 (eTrees a1.kids)))], [i6 a2.prod, vi .u8 a2.byte, (.p (.lst 3 (eTrees a2.kids)))]], yT0, .cells 25 [i6 x10_0, vi .u8 x10_1, (.p (.lst 3 (eTrees x10_2)))], yT0, .cells 25 [(i6 (x11_0).prod), (vi .u8 (x11_0).byte), (.p (.lst 3 (eTrees ((x11_0).kids))))]]
abbrev F10_d2 (a1 a2 : TreeD) (a3 : List Int) (a4 x10_0 x10_1 : Int) (x10_2 : List TreeD) (x11_0 : TreeD) (x16_0 x16_1 : Int) (x16_2 : List TreeD) (x17_0 : TreeD) : List AB := [.cells 25 ((cT a1).map .p), .cells 25 ((cT a2).map .p), .cells 61 [ls 1 eI64 a3, i6 a4], .row 25 3 0 [[i6 a1.prod, vi .u8 a1.byte, (.p (.lst 3 (eTrees a1.kids)))], [i6 a2.prod, vi .u8 a2.byte, (.p (.lst 3 (eTrees a2.kids)))]], yT0, .cells 25 [i6 x10_0, vi .u8 x10_1, (.p (.lst 3 (eTrees x10_2)))], yT0, .cells 25 [(i6 (x11_0).prod), (vi .u8 (x11_0).byte), (.p (.lst 3 (eTrees ((x11_0).kids))))], yT0, .cells 25 [i6 x16_0, vi .u8 x16_1, (.p (.lst 3 (eTrees x16_2)))], yT0, .cells 25 [(i6 (x17_0).prod), (vi .u8 (x17_0).byte), (.p (.lst 3 (eTrees ((x17_0).kids))))]]
abbrev F10_d3 (g31 : Nat → AV) (x26_1 x31_0 : Int) (a1 a2 : TreeD) (a3 : List Int) (a4 x10_0 x10_1 : Int) (x10_2 : List TreeD) (x11_0 : TreeD) (x16_0 x16_1 : Int) (x16_2 : List TreeD) (x17_0 : TreeD) : St := ⟨fr 247 g31 [(3, .ptr 0 0), (5, .ptr 2 0), (7, .ptr 5 0), (16, i6 x26_1), (21, i6 x31_0)], [.cells 25 ((cT a1).map .p), .cells 25 ((cT a2).map .p), .cells 61 [ls 1 eI64 a3, i6 a4], .row 25 3 0 [[i6 a1.prod, vi .u8 a1.byte, (.p (.lst 3 (eTrees a1.kids)))], [i6 a2.prod, vi .u8 a2.byte, (.p (.lst 3 (eTrees a2.kids)))]], yT0, .cells 25 [i6 x10_0, vi .u8 x10_1, (.p (.lst 3 (eTrees x10_2)))], yT0, .cells 25 [(i6 ((x11_0).prod)), (vi .u8 ((x11_0).byte)), (.p (.lst 3 (eTrees ((x11_0).kids))))], yT0, .cells 25 [i6 x16_0, vi .u8 x16_1, (.p (.lst 3 (eTrees x16_2)))], yT0, .cells 25 [(i6 ((x17_0).prod)), (vi .u8 ((x17_0).byte)), (.p (.lst 3 (eTrees ((x17_0).kids))))]]⟩
abbrev F10_d4 (a1 a2 : TreeD) (a3 : List Int) (a4 x10_0 x10_1 : Int) (x10_2 : List TreeD) (x11_0 : TreeD) (x16_0 x16_1 : Int) (x16_2 : List TreeD) (x17_0 : TreeD) : List AB := [.cells 25 ((cT a1).map .p), .cells 25 ((cT a2).map .p), .cells 61 [ls 1 eI64 a3, i6 a4], .row 25 3 0 [[i6 a1.prod, vi .u8 a1.byte, (.p (.lst 3 (eTrees a1.kids)))], [i6 a2.prod, vi .u8 a2.byte, (.p (.lst 3 (eTrees a2.kids)))]], yT0, .cells 25 [i6 x10_0, vi .u8 x10_1, (.p (.lst 3 (eTrees x10_2)))], yT0, .cells 25 [(i6 ((x11_0).prod)), (vi .u8 ((x11_0).byte)), (.p (.lst 3 (eTrees ((x11_0).kids))))], yT0, .cells 25 [i6 x16_0, vi .u8 x16_1, (.p (.lst 3 (eTrees x16_2)))], yT0, .cells 25 [(i6 ((x17_0).prod)), (vi .u8 ((x17_0).byte)), (.p (.lst 3 (eTrees ((x17_0).kids))))]]
abbrev F10_d5 (a1 a2 : TreeD) (a3 : List Int) (a4 x10_0 x10_1 : Int) (x10_2 : List TreeD) (x11_0 : TreeD) (x16_0 x16_1 : Int) (x16_2 : List TreeD) (x17_0 : TreeD) (x38_0 x38_1 : Int) (x38_2 : List TreeD) : List AB := [.cells 25 ((cT a1).map .p), .cells 25 ((cT a2).map .p), .cells 61 [ls 1 eI64 a3, i6 a4], .row 25 3 0 [[i6 a1.prod, vi .u8 a1.byte, (.p (.lst 3 (eTrees a1.kids)))], [i6 a2.prod, vi .u8 a2.byte, (.p (.lst 3 (eTrees a2.kids)))]], yT0, .cells 25 [i6 x10_0, vi .u8 x10_1, (.p (.lst 3 (eTrees x10_2)))], yT0, .cells 25 [(i6 ((x11_0).prod)), (vi .u8 ((x11_0).byte)), (.p (.lst 3 (eTrees ((x11_0).kids))))], yT0, .cells 25 [i6 x16_0, vi .u8 x16_1, (.p (.lst 3 (eTrees x16_2)))], yT0, .cells 25 [(i6 ((x17_0).prod)), (vi .u8 ((x17_0).byte)), (.p (.lst 3 (eTrees ((x17_0).kids))))], yT0, .cells 25 [i6 x38_0, vi .u8 x38_1, (.p (.lst 3 (eTrees x38_2)))]]
theorem F10_ok (Nf : Nat) (a1 a2 : TreeD) (a3 : List Int) (a4 : Int) {r : Bool} (h : F10 Nf a1 a2 a3 a4 = some r) : PR1 pg 10 [(.agg ((cT a1).map .p)), (.agg ((cT a2).map .p)), (.agg [ls 1 eI64 a3, i6 a4])] (F10_v a1 a2 a3 a4 r) := by
 unfold F10 at h
 apply bn h; intro x1 h1 h
 apply bi h <;> intro h2 h
 ·
  have q0 := ((((F16_ok Nf ([TreeD.mk a1.prod a1.byte a1.kids, TreeD.mk a2.prod a2.byte a2.kids]) h1).own rfl (purAs_cons (purA_slr (e := cT) tr_map (xs := [TreeD.mk a1.prod a1.byte a1.kids, TreeD.mk a2.prod a2.byte a2.kids]) rfl rfl) purAs_nil) rfl).trans (congrArg (fun z => some (vb z)) h2)) : CP pg 16 [.sl 3 0 3 0 2] (F10_d0 a1 a2 a3 a4) = some (vb true))
  have k1 := ka [(36, .v (vb true)), (41, .v (i6 (a3.length : Int)))] (apc q0 (apc (lg a3 eI64 1) apn))
  apply bi h <;> intro h3 h
  ·
   apply bn h; intro x4 h4 h
   rw [← sj h]
   exact fq ([(42, .d true), (56, .v (vb x4))] ++ kH k1) (k1.b (av h3 (apc (((F11_ok  h4).cp rfl _) : CP pg 11 [] (F10_d0 a1 a2 a3 a4) = some (vb x4)) apn)))
  ·
   apply bn h; intro x4 h4 h
   have q2 := (((F23_ok a1 h4).cp rfl _) : CP pg 23 [(.agg ((cT a1).map .p))] (F10_d0 a1 a2 a3 a4) = some (i6 x4))
   have k3 := k1.a [(42, .d false), (46, .v (i6 x4))] (av h3 (apc q2 apn))
   apply bn h; intro x5 h5 h
   have q4 := (((F15_ok x4 h5).cp rfl _) : CP pg 15 [i6 x4] (F10_d0 a1 a2 a3 a4) = some (i6 x5))
   apply bi h <;> intro h6 h
   ·
    apply bn h; intro x7 h7 h
    rw [← sj h]
    exact fq ([(47, .v (i6 x5)), (48, .d true), (56, .v (vb x7))] ++ kH k3) (k3.b (apc q4 (av h6 (apc (((F11_ok  h7).cp rfl _) : CP pg 11 [] (F10_d0 a1 a2 a3 a4) = some (vb x7)) apn))))
   ·
    have k5 := k3.a [(47, .v (i6 x5)), (48, .d false)] (apc q4 (av h6 apn))
    apply bn h; intro x7 h7 h
    have q6 := (((F23_ok a2 h7).cp rfl _) : CP pg 23 [(.agg ((cT a2).map .p))] (F10_d0 a1 a2 a3 a4) = some (i6 x7))
    apply bn h; intro x8 h8 h
    have q7 := (((F15_ok x7 h8).cp rfl _) : CP pg 15 [i6 x7] (F10_d0 a1 a2 a3 a4) = some (i6 x8))
    have k8 := k5.a [(52, .v (i6 x7)), (53, .v (i6 x8))] (apc q6 (apc q7 apn))
    apply bi h <;> intro h9 h
    ·
     apply bn h; intro x10 h10 h
     rw [← sj h]
     exact fq ([(54, .d true), (56, .v (vb x10))] ++ kH k8) (k8.b (av h9 (apc (((F11_ok  h10).cp rfl _) : CP pg 11 [] (F10_d0 a1 a2 a3 a4) = some (vb x10)) apn)))
    ·
     apply bn h; intro r10 h10 h
     cases r10 with
     | k0 x10_0 x10_1 x10_2 x10_3 =>
      have q9 := (((F31_ok Nf a1 a3 h10).cp rfl _) : CP pg 31 [(.agg ((cT a1).map .p)), ls 1 eI64 a3] (F10_d0 a1 a2 a3 a4) = some (.tup [(.agg [i6 x10_0, vi .u8 x10_1, (.p (.lst 3 (eTrees x10_2)))]), i6 x10_3]))
      have k10 := k8.a [(54, .d false), (61, .v (.tup [(.agg [i6 x10_0, vi .u8 x10_1, (.p (.lst 3 (eTrees x10_2)))]), i6 x10_3]))] (av h9 (apc q9 apn))
      apply bn h; intro r11 h11 h
      cases r11 with
      | k0 x11_0 x11_1 =>
       have q11 := (((F33_ok a1 a2 a3 h11).cp rfl _) : CP pg 33 [(.agg ((cT a1).map .p)), (.agg ((cT a2).map .p)), ls 1 eI64 a3] [.cells 25 ((cT a1).map .p), .cells 25 ((cT a2).map .p), .cells 61 [ls 1 eI64 a3, i6 a4], .row 25 3 0 [[i6 a1.prod, vi .u8 a1.byte, (.p (.lst 3 (eTrees a1.kids)))], [i6 a2.prod, vi .u8 a2.byte, (.p (.lst 3 (eTrees a2.kids)))]], yT0, .cells 25 [i6 x10_0, vi .u8 x10_1, (.p (.lst 3 (eTrees x10_2)))]] = some (.tup [(.agg [(i6 (x11_0).prod), (vi .u8 (x11_0).byte), (.p (.lst 3 (eTrees ((x11_0).kids))))]), i6 x11_1]))
       have k12 := k10.a [(69, .v (.tup [(.agg [(i6 (x11_0).prod), (vi .u8 (x11_0).byte), (.p (.lst 3 (eTrees ((x11_0).kids))))]), i6 x11_1]))] (apc q11 apn)
       apply bn h; intro x12 h12 h
       have q13 := (((F15_ok x10_3 h12).cp rfl _) : CP pg 15 [i6 x10_3] (F10_d1 a1 a2 a3 a4 x10_0 x10_1 x10_2 x11_0) = some (i6 x12))
       apply bi h <;> intro h13 h
       ·
        have k14 := k12.a [(73, .v (i6 x12)), (74, .d true)] (apc q13 (av h13 apn))
        apply bn h; intro x14 h14 h
        have q15 := (((F15_ok x10_3 h14).cp rfl _) : CP pg 15 [i6 x10_3] (F10_d1 a1 a2 a3 a4 x10_0 x10_1 x10_2 x11_0) = some (i6 x14))
        apply bn h; intro x15 h15 h
        have q16 := (((F15_ok x11_1 h15).cp rfl _) : CP pg 15 [i6 x11_1] (F10_d1 a1 a2 a3 a4 x10_0 x10_1 x10_2 x11_0) = some (i6 x15))
        have k17 := k14.a [(81, .v (i6 x14)), (83, .v (i6 x15))] (apc q15 (apc q16 apn))
        apply bi h <;> intro h16 h
        ·
         apply bn h; intro x17 h17 h
         rw [← sj h]
         exact fq ([(84, .d true), (91, .v (vb x17))] ++ kH k17) (k17.b (av h16 (apc (((F11_ok  h17).cp rfl _) : CP pg 11 [] (F10_d1 a1 a2 a3 a4 x10_0 x10_1 x10_2 x11_0) = some (vb x17)) apn)))
        ·
         apply bn h; intro x17 h17 h
         have q18 := (((F15_ok x11_1 h17).cp rfl _) : CP pg 15 [i6 x11_1] (F10_d1 a1 a2 a3 a4 x10_0 x10_1 x10_2 x11_0) = some (i6 x17))
         have k19 := k17.a [(84, .d false), (87, .v (i6 x17))] (av h16 (apc q18 apn))
         apply bi h <;> intro h18 h
         ·
          apply bn h; intro x19 h19 h
          rw [← sj h]
          exact fq ([(88, .d true), (91, .v (vb x19))] ++ kH k19) (k19.b (av h18 (apc (((F11_ok  h19).cp rfl _) : CP pg 11 [] (F10_d1 a1 a2 a3 a4 x10_0 x10_1 x10_2 x11_0) = some (vb x19)) apn)))
         ·
          rw [← sj h]
          exact fq ([(88, .d false)] ++ kH k19) (k19.b (av h18 apn))
       ·
        have k20 := k12.a [(73, .v (i6 x12)), (74, .d false)] (apc q13 (av h13 apn))
        apply bn h; intro x14 h14 h
        have q21 := (((F15_ok x11_1 h14).cp rfl _) : CP pg 15 [i6 x11_1] (F10_d1 a1 a2 a3 a4 x10_0 x10_1 x10_2 x11_0) = some (i6 x14))
        apply bi h <;> intro h15 h
        ·
         have k22 := k20.a [(77, .v (i6 x14)), (78, .d true)] (apc q21 (av h15 apn))
         apply bn h; intro x16 h16 h
         have q23 := (((F15_ok x10_3 h16).cp rfl _) : CP pg 15 [i6 x10_3] (F10_d1 a1 a2 a3 a4 x10_0 x10_1 x10_2 x11_0) = some (i6 x16))
         apply bn h; intro x17 h17 h
         have q24 := (((F15_ok x11_1 h17).cp rfl _) : CP pg 15 [i6 x11_1] (F10_d1 a1 a2 a3 a4 x10_0 x10_1 x10_2 x11_0) = some (i6 x17))
         have k25 := k22.a [(81, .v (i6 x16)), (83, .v (i6 x17))] (apc q23 (apc q24 apn))
         apply bi h <;> intro h18 h
         ·
          apply bn h; intro x19 h19 h
          rw [← sj h]
          exact fq ([(84, .d true), (91, .v (vb x19))] ++ kH k25) (k25.b (av h18 (apc (((F11_ok  h19).cp rfl _) : CP pg 11 [] (F10_d1 a1 a2 a3 a4 x10_0 x10_1 x10_2 x11_0) = some (vb x19)) apn)))
         ·
          apply bn h; intro x19 h19 h
          have q26 := (((F15_ok x11_1 h19).cp rfl _) : CP pg 15 [i6 x11_1] (F10_d1 a1 a2 a3 a4 x10_0 x10_1 x10_2 x11_0) = some (i6 x19))
          have k27 := k25.a [(84, .d false), (87, .v (i6 x19))] (av h18 (apc q26 apn))
          apply bi h <;> intro h20 h
          ·
           apply bn h; intro x21 h21 h
           rw [← sj h]
           exact fq ([(88, .d true), (91, .v (vb x21))] ++ kH k27) (k27.b (av h20 (apc (((F11_ok  h21).cp rfl _) : CP pg 11 [] (F10_d1 a1 a2 a3 a4 x10_0 x10_1 x10_2 x11_0) = some (vb x21)) apn)))
          ·
           rw [← sj h]
           exact fq ([(88, .d false)] ++ kH k27) (k27.b (av h20 apn))
        ·
         have k28 := k20.a [(77, .v (i6 x14)), (78, .d false)] (apc q21 (av h15 apn))
         apply bn h; intro r16 h16 h
         cases r16 with
         | k0 x16_0 x16_1 x16_2 x16_3 =>
          have q29 := (((F31_ok Nf (TreeD.mk (x11_0).prod (x11_0).byte (x11_0).kids) a3 h16).cp rfl _) : CP pg 31 [(.agg [(i6 (x11_0).prod), (vi .u8 (x11_0).byte), (.p (.lst 3 (eTrees ((x11_0).kids))))]), ls 1 eI64 a3] (F10_d1 a1 a2 a3 a4 x10_0 x10_1 x10_2 x11_0) = some (.tup [(.agg [i6 x16_0, vi .u8 x16_1, (.p (.lst 3 (eTrees x16_2)))]), i6 x16_3]))
          have k30 := k28.a [(97, .v (.tup [(.agg [i6 x16_0, vi .u8 x16_1, (.p (.lst 3 (eTrees x16_2)))]), i6 x16_3]))] (apc q29 apn)
          apply bn h; intro r17 h17 h
          cases r17 with
          | k0 x17_0 x17_1 =>
           have q31 := (((F33_ok (TreeD.mk (x11_0).prod (x11_0).byte (x11_0).kids) (TreeD.mk x10_0 x10_1 x10_2) a3 h17).cp rfl _) : CP pg 33 [(.agg [(i6 (x11_0).prod), (vi .u8 (x11_0).byte), (.p (.lst 3 (eTrees ((x11_0).kids))))]), (.agg [i6 x10_0, vi .u8 x10_1, (.p (.lst 3 (eTrees x10_2)))]), ls 1 eI64 a3] [.cells 25 ((cT a1).map .p), .cells 25 ((cT a2).map .p), .cells 61 [ls 1 eI64 a3, i6 a4], .row 25 3 0 [[i6 a1.prod, vi .u8 a1.byte, (.p (.lst 3 (eTrees a1.kids)))], [i6 a2.prod, vi .u8 a2.byte, (.p (.lst 3 (eTrees a2.kids)))]], yT0, .cells 25 [i6 x10_0, vi .u8 x10_1, (.p (.lst 3 (eTrees x10_2)))], yT0, .cells 25 [(i6 (x11_0).prod), (vi .u8 (x11_0).byte), (.p (.lst 3 (eTrees ((x11_0).kids))))], yT0, .cells 25 [i6 x16_0, vi .u8 x16_1, (.p (.lst 3 (eTrees x16_2)))]] = some (.tup [(.agg [(i6 (x17_0).prod), (vi .u8 (x17_0).byte), (.p (.lst 3 (eTrees ((x17_0).kids))))]), i6 x17_1]))
           have k32 := k30.a [(105, .v (.tup [(.agg [(i6 (x17_0).prod), (vi .u8 (x17_0).byte), (.p (.lst 3 (eTrees ((x17_0).kids))))]), i6 x17_1]))] (apc q31 apn)
           apply bn h; intro x18 h18 h
           have q33 := (((F15_ok x16_3 h18).cp rfl _) : CP pg 15 [i6 x16_3] (F10_d2 a1 a2 a3 a4 x10_0 x10_1 x10_2 x11_0 x16_0 x16_1 x16_2 x17_0) = some (i6 x18))
           apply bi h <;> intro h19 h
           ·
            rw [← sj h]
            exact fq ([(109, .v (i6 x18)), (110, .d true)] ++ kH k32) (k32.b (apc q33 (av h19 apn)))
           ·
            have k34 := k32.a [(109, .v (i6 x18)), (110, .d false)] (apc q33 (av h19 apn))
            apply bn h; intro x20 h20 h
            have q35 := (((F15_ok x17_1 h20).cp rfl _) : CP pg 15 [i6 x17_1] (F10_d2 a1 a2 a3 a4 x10_0 x10_1 x10_2 x11_0 x16_0 x16_1 x16_2 x17_0) = some (i6 x20))
            apply bi h <;> intro h21 h
            ·
             rw [← sj h]
             exact fq ([(113, .v (i6 x20)), (114, .d true)] ++ kH k34) (k34.b (apc q35 (av h21 apn)))
            ·
             have k36 := k34.a [(113, .v (i6 x20)), (114, .d false)] (apc q35 (av h21 apn))
             apply bn h; intro x22 h22 h
             apply bi h <;> intro h23 h
             ·
              have q37 := ((((F24_ok Nf (TreeD.mk x16_0 x16_1 x16_2) a2 h22).cp rfl _).trans (congrArg (fun z => some (vb z)) h23)) : CP pg 24 [(.agg [i6 x16_0, vi .u8 x16_1, (.p (.lst 3 (eTrees x16_2)))]), (.agg ((cT a2).map .p))] (F10_d2 a1 a2 a3 a4 x10_0 x10_1 x10_2 x11_0 x16_0 x16_1 x16_2 x17_0) = some (vb true))
              apply bn h; intro x24 h24 h
              apply bi h <;> intro h25 h
              ·
               have q38 := ((((F24_ok Nf (TreeD.mk (x17_0).prod (x17_0).byte (x17_0).kids) a1 h24).cp rfl _).trans (congrArg (fun z => some (vb z)) h25)) : CP pg 24 [(.agg [(i6 (x17_0).prod), (vi .u8 (x17_0).byte), (.p (.lst 3 (eTrees ((x17_0).kids))))]), (.agg ((cT a1).map .p))] (F10_d2 a1 a2 a3 a4 x10_0 x10_1 x10_2 x11_0 x16_0 x16_1 x16_2 x17_0) = some (vb true))
               have k39 := k36.a [(119, .v (vb true)), (125, .v (vb true))] (apc q37 (apc q38 apn))
               apply bn h; intro r26 h26 h
               cases r26 with
               | k0 x26_0 x26_1 x26_2 =>
                have q40 := (((F32_ok Nf a1 a3 h26).cp rfl _) : CP pg 32 [(.agg ((cT a1).map .p)), ls 1 eI64 a3] (F10_d2 a1 a2 a3 a4 x10_0 x10_1 x10_2 x11_0 x16_0 x16_1 x16_2 x17_0) = some (.tup [i6 x26_0, i6 x26_1, i6 x26_2]))
                have q41 := (L10_0_k x26_1 a1 a2 a3 a4 x10_0 x10_1 x10_2 ((x11_0).prod) ((x11_0).byte) ((x11_0).kids) x16_0 x16_1 x16_2 ((x17_0).prod) ((x17_0).byte) ((x17_0).kids) x26_0 0)
                have k42 := k39.a [(132, .v (.tup [i6 x26_0, i6 x26_1, i6 x26_2]))] (apc q40 apn)
                apply bn h; intro r27 h27 h
                cases r27 with
                | k0 x27_0 x27_1 x27_2 =>
                 have q43 := (((F19_ok Nf (TreeD.mk x10_0 x10_1 x10_2) h27).cp rfl _) : CP pg 19 [(.agg [i6 x10_0, vi .u8 x10_1, (.p (.lst 3 (eTrees x10_2)))])] (F10_d2 a1 a2 a3 a4 x10_0 x10_1 x10_2 x11_0 x16_0 x16_1 x16_2 x17_0) = some (.tup [i6 x27_0, i6 x27_1, i6 x27_2]))
                 have k44 := k42.a [(138, .v (.tup [i6 x27_0, i6 x27_1, i6 x27_2]))] (apc q43 apn)
                 apply bn h; intro x28 h28 h
                 have q45 := (((F15_ok x26_2 h28).cp rfl _) : CP pg 15 [i6 x26_2] (F10_d2 a1 a2 a3 a4 x10_0 x10_1 x10_2 x11_0 x16_0 x16_1 x16_2 x17_0) = some (i6 x28))
                 apply bi h <;> intro h29 h
                 ·
                  rw [← sj h]
                  exact fq ([(143, .v (i6 x28)), (144, .d true)] ++ kH k44) (k44.b (apc q45 (av h29 apn)))
                 ·
                  have k46 := k44.a [(143, .v (i6 x28)), (144, .d false)] (apc q45 (av h29 apn))
                  apply bi h <;> intro h30 h
                  ·
                   rw [← sj h]
                   exact fq ([(150, .d true)] ++ kH k46) (k46.b (av h30 apn))
                  ·
                   apply bn h; intro r31 h31 h
                   cases r31 with
                   | k0 =>
                    obtain ⟨g31, y31, e31⟩ := L10_0_run Nf x26_1 a1 a2 a3 a4 x10_0 x10_1 x10_2 ((x11_0).prod) ((x11_0).byte) ((x11_0).kids) x16_0 x16_1 x16_2 ((x17_0).prod) ((x17_0).byte) ((x17_0).kids) (x26_0, 0) _ h31
                    rw [← sj h]
                    exact fq ([(150, .d false), (2000, .l .ret ⟨fr 247 g31 [(6, vb false)], y31⟩), (6000, .d true)] ++ kH k46) (k46.b (av h30 (apc q41 (apc (e31 : L10_0_e x26_1 a1 a2 a3 a4 x10_0 x10_1 x10_2 ((x11_0).prod) ((x11_0).byte) ((x11_0).kids) x16_0 x16_1 x16_2 ((x17_0).prod) ((x17_0).byte) ((x17_0).kids) x26_0 0 = some (.ret, ⟨fr 247 g31 [(6, vb false)], y31⟩)) apn))))
                   | k1 x31_0 =>
                    obtain ⟨g31, e31⟩ := L10_0_run Nf x26_1 a1 a2 a3 a4 x10_0 x10_1 x10_2 ((x11_0).prod) ((x11_0).byte) ((x11_0).kids) x16_0 x16_1 x16_2 ((x17_0).prod) ((x17_0).byte) ((x17_0).kids) (x26_0, 0) _ h31
                    have q47 := (e31 : L10_0_e x26_1 a1 a2 a3 a4 x10_0 x10_1 x10_2 ((x11_0).prod) ((x11_0).byte) ((x11_0).kids) x16_0 x16_1 x16_2 ((x17_0).prod) ((x17_0).byte) ((x17_0).kids) x26_0 0 = some ((.brk 0), F10_d3 g31 x26_1 x31_0 a1 a2 a3 a4 x10_0 x10_1 x10_2 x11_0 x16_0 x16_1 x16_2 x17_0))
                    have k48 := k46.a [(150, .d false), (2000, .l (.brk 0) (F10_d3 g31 x26_1 x31_0 a1 a2 a3 a4 x10_0 x10_1 x10_2 x11_0 x16_0 x16_1 x16_2 x17_0))] (av h30 (apc q41 (apc q47 apn)))
                    apply bi h <;> intro h32 h
                    ·
                     apply bi h <;> intro h33 h
                     ·
                      rw [← sj h]
                      exact fq ([(189, .d true), (193, .d true), (6000, .d true)] ++ kH k48) (k48.b (av h32 (av h33 apn)))
                     ·
                      have k49 := k48.a [(189, .d true), (193, .d false)] (av h32 (av h33 apn))
                      apply bn h; intro r34 h34 h
                      cases r34 with
                      | k0 x34_0 x34_1 =>
                       have q50 := (((F34_ok Nf a1 a4 h34).cp rfl _) : CP pg 34 [(.agg ((cT a1).map .p)), i6 a4] (F10_d4 a1 a2 a3 a4 x10_0 x10_1 x10_2 x11_0 x16_0 x16_1 x16_2 x17_0) = some (.tup [ls 1 eI64 x34_0, i6 x34_1]))
                       have k51 := k49.a [(199, .v (.tup [ls 1 eI64 x34_0, i6 x34_1]))] (apc q50 apn)
                       apply bn h; intro x35 h35 h
                       have q52 := (((F15_ok x34_1 h35).cp rfl _) : CP pg 15 [i6 x34_1] (F10_d4 a1 a2 a3 a4 x10_0 x10_1 x10_2 x11_0 x16_0 x16_1 x16_2 x17_0) = some (i6 x35))
                       apply bi h <;> intro h36 h
                       ·
                        apply bn h; intro x37 h37 h
                        rw [← sj h]
                        exact fq ([(203, .v (i6 x35)), (204, .d true), (205, .v (vb x37)), (6000, .d true)] ++ kH k51) (k51.b (apc q52 (av h36 (apc (((F11_ok  h37).cp rfl _) : CP pg 11 [] (F10_d4 a1 a2 a3 a4 x10_0 x10_1 x10_2 x11_0 x16_0 x16_1 x16_2 x17_0) = some (vb x37)) apn))))
                       ·
                        have k53 := k51.a [(203, .v (i6 x35)), (204, .d false)] (apc q52 (av h36 apn))
                        apply bn h; intro r37 h37 h
                        cases r37 with
                        | k0 x37_0 x37_1 x37_2 =>
                         have q54 := (((F32_ok Nf a1 x34_0 h37).cp rfl _) : CP pg 32 [(.agg ((cT a1).map .p)), ls 1 eI64 x34_0] (F10_d4 a1 a2 a3 a4 x10_0 x10_1 x10_2 x11_0 x16_0 x16_1 x16_2 x17_0) = some (.tup [i6 x37_0, i6 x37_1, i6 x37_2]))
                         have k55 := k53.a [(209, .v (.tup [i6 x37_0, i6 x37_1, i6 x37_2]))] (apc q54 apn)
                         apply bn h; intro r38 h38 h
                         cases r38 with
                         | k0 x38_0 x38_1 x38_2 x38_3 =>
                          have q56 := (((F31_ok Nf a1 x34_0 h38).cp rfl _) : CP pg 31 [(.agg ((cT a1).map .p)), ls 1 eI64 x34_0] (F10_d4 a1 a2 a3 a4 x10_0 x10_1 x10_2 x11_0 x16_0 x16_1 x16_2 x17_0) = some (.tup [(.agg [i6 x38_0, vi .u8 x38_1, (.p (.lst 3 (eTrees x38_2)))]), i6 x38_3]))
                          have k57 := k55.a [(216, .v (.tup [(.agg [i6 x38_0, vi .u8 x38_1, (.p (.lst 3 (eTrees x38_2)))]), i6 x38_3]))] (apc q56 apn)
                          apply bn h; intro x39 h39 h
                          have q58 := (((F15_ok x37_2 h39).cp rfl _) : CP pg 15 [i6 x37_2] (F10_d5 a1 a2 a3 a4 x10_0 x10_1 x10_2 x11_0 x16_0 x16_1 x16_2 x17_0 x38_0 x38_1 x38_2) = some (i6 x39))
                          apply bi h <;> intro h40 h
                          ·
                           have k59 := k57.a [(220, .v (i6 x39)), (221, .d true)] (apc q58 (av h40 apn))
                           apply bn h; intro x41 h41 h
                           have q60 := (((F15_ok x38_3 h41).cp rfl _) : CP pg 15 [i6 x38_3] (F10_d5 a1 a2 a3 a4 x10_0 x10_1 x10_2 x11_0 x16_0 x16_1 x16_2 x17_0 x38_0 x38_1 x38_2) = some (i6 x41))
                           apply bi h <;> intro h42 h
                           ·
                            have k61 := k59.a [(224, .v (i6 x41)), (225, .d true)] (apc q60 (av h42 apn))
                            apply bi h <;> intro h43 h
                            ·
                             apply bi h <;> intro h44 h
                             ·
                              have k62 := k61.a [(231, .d true), (237, .d true)] (av h43 (av h44 apn))
                              apply bi h <;> intro h45 h
                              ·
                               apply bn h; intro x46 h46 h
                               rw [← sj h]
                               exact fq ([(242, .d true), (245, .v (vb x46)), (6000, .d true)] ++ kH k62) (k62.b (av h45 (apc (((F11_ok  h46).cp rfl _) : CP pg 11 [] (F10_d5 a1 a2 a3 a4 x10_0 x10_1 x10_2 x11_0 x16_0 x16_1 x16_2 x17_0 x38_0 x38_1 x38_2) = some (vb x46)) apn)))
                              ·
                               rw [← sj h]
                               exact fq ([(242, .d false), (6000, .d true)] ++ kH k62) (k62.b (av h45 apn))
                             ·
                              rw [← sj h]
                              exact fq ([(231, .d true), (237, .d false), (6000, .d true)] ++ kH k61) (k61.b (av h43 (av h44 apn)))
                            ·
                             rw [← sj h]
                             exact fq ([(231, .d false), (6000, .d true)] ++ kH k61) (k61.b (av h43 apn))
                           ·
                            rw [← sj h]
                            exact fq ([(224, .v (i6 x41)), (225, .d false), (6000, .d true)] ++ kH k59) (k59.b (apc q60 (av h42 apn)))
                          ·
                           rw [← sj h]
                           exact fq ([(220, .v (i6 x39)), (221, .d false), (6000, .d true)] ++ kH k57) (k57.b (apc q58 (av h40 apn)))
                    ·
                     apply bn h; intro r33 h33 h
                     cases r33 with
                     | k0 x33_0 x33_1 =>
                      have q63 := (((F34_ok Nf a1 a4 h33).cp rfl _) : CP pg 34 [(.agg ((cT a1).map .p)), i6 a4] (F10_d4 a1 a2 a3 a4 x10_0 x10_1 x10_2 x11_0 x16_0 x16_1 x16_2 x17_0) = some (.tup [ls 1 eI64 x33_0, i6 x33_1]))
                      have k64 := k48.a [(189, .d false), (199, .v (.tup [ls 1 eI64 x33_0, i6 x33_1]))] (av h32 (apc q63 apn))
                      apply bn h; intro x34 h34 h
                      have q65 := (((F15_ok x33_1 h34).cp rfl _) : CP pg 15 [i6 x33_1] (F10_d4 a1 a2 a3 a4 x10_0 x10_1 x10_2 x11_0 x16_0 x16_1 x16_2 x17_0) = some (i6 x34))
                      apply bi h <;> intro h35 h
                      ·
                       apply bn h; intro x36 h36 h
                       rw [← sj h]
                       exact fq ([(203, .v (i6 x34)), (204, .d true), (205, .v (vb x36)), (6000, .d true)] ++ kH k64) (k64.b (apc q65 (av h35 (apc (((F11_ok  h36).cp rfl _) : CP pg 11 [] (F10_d4 a1 a2 a3 a4 x10_0 x10_1 x10_2 x11_0 x16_0 x16_1 x16_2 x17_0) = some (vb x36)) apn))))
                      ·
                       have k66 := k64.a [(203, .v (i6 x34)), (204, .d false)] (apc q65 (av h35 apn))
                       apply bn h; intro r36 h36 h
                       cases r36 with
                       | k0 x36_0 x36_1 x36_2 =>
                        have q67 := (((F32_ok Nf a1 x33_0 h36).cp rfl _) : CP pg 32 [(.agg ((cT a1).map .p)), ls 1 eI64 x33_0] (F10_d4 a1 a2 a3 a4 x10_0 x10_1 x10_2 x11_0 x16_0 x16_1 x16_2 x17_0) = some (.tup [i6 x36_0, i6 x36_1, i6 x36_2]))
                        have k68 := k66.a [(209, .v (.tup [i6 x36_0, i6 x36_1, i6 x36_2]))] (apc q67 apn)
                        apply bn h; intro r37 h37 h
                        cases r37 with
                        | k0 x37_0 x37_1 x37_2 x37_3 =>
                         have q69 := (((F31_ok Nf a1 x33_0 h37).cp rfl _) : CP pg 31 [(.agg ((cT a1).map .p)), ls 1 eI64 x33_0] (F10_d4 a1 a2 a3 a4 x10_0 x10_1 x10_2 x11_0 x16_0 x16_1 x16_2 x17_0) = some (.tup [(.agg [i6 x37_0, vi .u8 x37_1, (.p (.lst 3 (eTrees x37_2)))]), i6 x37_3]))
                         have k70 := k68.a [(216, .v (.tup [(.agg [i6 x37_0, vi .u8 x37_1, (.p (.lst 3 (eTrees x37_2)))]), i6 x37_3]))] (apc q69 apn)
                         apply bn h; intro x38 h38 h
                         have q71 := (((F15_ok x36_2 h38).cp rfl _) : CP pg 15 [i6 x36_2] [.cells 25 ((cT a1).map .p), .cells 25 ((cT a2).map .p), .cells 61 [ls 1 eI64 a3, i6 a4], .row 25 3 0 [[i6 a1.prod, vi .u8 a1.byte, (.p (.lst 3 (eTrees a1.kids)))], [i6 a2.prod, vi .u8 a2.byte, (.p (.lst 3 (eTrees a2.kids)))]], yT0, .cells 25 [i6 x10_0, vi .u8 x10_1, (.p (.lst 3 (eTrees x10_2)))], yT0, .cells 25 [(i6 ((x11_0).prod)), (vi .u8 ((x11_0).byte)), (.p (.lst 3 (eTrees ((x11_0).kids))))], yT0, .cells 25 [i6 x16_0, vi .u8 x16_1, (.p (.lst 3 (eTrees x16_2)))], yT0, .cells 25 [(i6 ((x17_0).prod)), (vi .u8 ((x17_0).byte)), (.p (.lst 3 (eTrees ((x17_0).kids))))], yT0, .cells 25 [i6 x37_0, vi .u8 x37_1, (.p (.lst 3 (eTrees x37_2)))]] = some (i6 x38))
                         apply bi h <;> intro h39 h
                         ·
                          have k72 := k70.a [(220, .v (i6 x38)), (221, .d true)] (apc q71 (av h39 apn))
                          apply bn h; intro x40 h40 h
                          have q73 := (((F15_ok x37_3 h40).cp rfl _) : CP pg 15 [i6 x37_3] [.cells 25 ((cT a1).map .p), .cells 25 ((cT a2).map .p), .cells 61 [ls 1 eI64 a3, i6 a4], .row 25 3 0 [[i6 a1.prod, vi .u8 a1.byte, (.p (.lst 3 (eTrees a1.kids)))], [i6 a2.prod, vi .u8 a2.byte, (.p (.lst 3 (eTrees a2.kids)))]], yT0, .cells 25 [i6 x10_0, vi .u8 x10_1, (.p (.lst 3 (eTrees x10_2)))], yT0, .cells 25 [(i6 ((x11_0).prod)), (vi .u8 ((x11_0).byte)), (.p (.lst 3 (eTrees ((x11_0).kids))))], yT0, .cells 25 [i6 x16_0, vi .u8 x16_1, (.p (.lst 3 (eTrees x16_2)))], yT0, .cells 25 [(i6 ((x17_0).prod)), (vi .u8 ((x17_0).byte)), (.p (.lst 3 (eTrees ((x17_0).kids))))], yT0, .cells 25 [i6 x37_0, vi .u8 x37_1, (.p (.lst 3 (eTrees x37_2)))]] = some (i6 x40))
                          apply bi h <;> intro h41 h
                          ·
                           have k74 := k72.a [(224, .v (i6 x40)), (225, .d true)] (apc q73 (av h41 apn))
                           apply bi h <;> intro h42 h
                           ·
                            apply bi h <;> intro h43 h
                            ·
                             have k75 := k74.a [(231, .d true), (237, .d true)] (av h42 (av h43 apn))
                             apply bi h <;> intro h44 h
                             ·
                              apply bn h; intro x45 h45 h
                              rw [← sj h]
                              exact fq ([(242, .d true), (245, .v (vb x45)), (6000, .d true)] ++ kH k75) (k75.b (av h44 (apc (((F11_ok  h45).cp rfl _) : CP pg 11 [] [.cells 25 ((cT a1).map .p), .cells 25 ((cT a2).map .p), .cells 61 [ls 1 eI64 a3, i6 a4], .row 25 3 0 [[i6 a1.prod, vi .u8 a1.byte, (.p (.lst 3 (eTrees a1.kids)))], [i6 a2.prod, vi .u8 a2.byte, (.p (.lst 3 (eTrees a2.kids)))]], yT0, .cells 25 [i6 x10_0, vi .u8 x10_1, (.p (.lst 3 (eTrees x10_2)))], yT0, .cells 25 [(i6 ((x11_0).prod)), (vi .u8 ((x11_0).byte)), (.p (.lst 3 (eTrees ((x11_0).kids))))], yT0, .cells 25 [i6 x16_0, vi .u8 x16_1, (.p (.lst 3 (eTrees x16_2)))], yT0, .cells 25 [(i6 ((x17_0).prod)), (vi .u8 ((x17_0).byte)), (.p (.lst 3 (eTrees ((x17_0).kids))))], yT0, .cells 25 [i6 x37_0, vi .u8 x37_1, (.p (.lst 3 (eTrees x37_2)))]] = some (vb x45)) apn)))
                             ·
                              rw [← sj h]
                              exact fq ([(242, .d false), (6000, .d true)] ++ kH k75) (k75.b (av h44 apn))
                            ·
                             rw [← sj h]
                             exact fq ([(231, .d true), (237, .d false), (6000, .d true)] ++ kH k74) (k74.b (av h42 (av h43 apn)))
                           ·
                            rw [← sj h]
                            exact fq ([(231, .d false), (6000, .d true)] ++ kH k74) (k74.b (av h42 apn))
                          ·
                           rw [← sj h]
                           exact fq ([(224, .v (i6 x40)), (225, .d false), (6000, .d true)] ++ kH k72) (k72.b (apc q73 (av h41 apn)))
                         ·
                          rw [← sj h]
                          exact fq ([(220, .v (i6 x38)), (221, .d false), (6000, .d true)] ++ kH k70) (k70.b (apc q71 (av h39 apn)))
              ·
               rw [← sj h]
               exact fq ([(119, .v (vb true)), (125, .v (vb false))] ++ kH k36) (k36.b (apc q37 (apc ((((F24_ok Nf (TreeD.mk (x17_0).prod (x17_0).byte (x17_0).kids) a1 h24).cp rfl _).trans (congrArg (fun z => some (vb z)) h25)) : CP pg 24 [(.agg [(i6 (x17_0).prod), (vi .u8 (x17_0).byte), (.p (.lst 3 (eTrees ((x17_0).kids))))]), (.agg ((cT a1).map .p))] (F10_d2 a1 a2 a3 a4 x10_0 x10_1 x10_2 x11_0 x16_0 x16_1 x16_2 x17_0) = some (vb false)) apn)))
             ·
              rw [← sj h]
              exact fq ([(119, .v (vb false))] ++ kH k36) (k36.b (apc ((((F24_ok Nf (TreeD.mk x16_0 x16_1 x16_2) a2 h22).cp rfl _).trans (congrArg (fun z => some (vb z)) h23)) : CP pg 24 [(.agg [i6 x16_0, vi .u8 x16_1, (.p (.lst 3 (eTrees x16_2)))]), (.agg ((cT a2).map .p))] (F10_d2 a1 a2 a3 a4 x10_0 x10_1 x10_2 x11_0 x16_0 x16_1 x16_2 x17_0) = some (vb false)) apn))
 ·
  apply bn h; intro x3 h3 h
  rw [← sj h]
  exact fq [(36, .v (vb false)), (56, .v (vb x3))] (apc ((((F16_ok Nf ([TreeD.mk a1.prod a1.byte a1.kids, TreeD.mk a2.prod a2.byte a2.kids]) h1).own rfl (purAs_cons (purA_slr (e := cT) tr_map (xs := [TreeD.mk a1.prod a1.byte a1.kids, TreeD.mk a2.prod a2.byte a2.kids]) rfl rfl) purAs_nil) rfl).trans (congrArg (fun z => some (vb z)) h2)) : CP pg 16 [.sl 3 0 3 0 2] (F10_d0 a1 a2 a3 a4) = some (vb false)) (apc (((F11_ok  h3).cp rfl _) : CP pg 11 [] (F10_d0 a1 a2 a3 a4) = some (vb x3)) apn))
end
end
end Go.Proofs.Tryd
