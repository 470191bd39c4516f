/- Decompiled by a program: functions as plain data see them, part 2. -/
import Derived.Test.YtpoclajcldnjeaaH51
namespace Go.Proofs.Try
set_option linter.unusedSimpArgs false
set_option linter.unusedVariables false
open Go Go.Vs
noncomputable section
inductive E_L24_1_2 where
  | k0 (x0 : Nat) (x1 : List ForbD) (x2 : Nat)
section
variable (a1 a2 : Nat) (a3 : GramD) (a4 : Int) (a5 : List Bool) (a6 : Nat) (a7 : List ByteArray) (a8 : Nat) (a9 : List ProdD) (a10 a11 : Nat) (a12 : Int) (a13 a14 : List Int)
def L24_1_2 (v1 : Int) (v2 : Nat) (v3 : List ForbD) (v4 : Nat) : Option (E_L24_1_2 ⊕ (Int × Nat × (List ForbD) × Nat)) :=
  (bif (decide (v1 < a4)) then ((getI a3.forbid v1).bind fun x2 => ((ixN a2 x2.parent).bind fun x3 => ((a14[x3]?).bind fun x4 => ((ixN a2 x2.child).bind fun x5 => ((a14[x5]?).bind fun x6 => (bif (decide (x4 ≥ 0)) then (bif (decide (x6 ≥ 0)) then (bif (apOk v4 1 v3.length 24) then (bif (decide (v4 + 1 ≤ v3.length)) then (some (.inr ((IntKind.wrap .i64 (v1 + 1)), v2, (splice v3 v4 [(⟨x4, x2.at_, x6⟩ : ForbD)]), v4 + 1))) else (some (.inr ((IntKind.wrap .i64 (v1 + 1)), v2 + 1, (v3.take v4 ++ [(⟨x4, x2.at_, x6⟩ : ForbD)]), v4 + 1)))) else none) else (some (.inr ((IntKind.wrap .i64 (v1 + 1)), v2, v3, v4)))) else (some (.inr ((IntKind.wrap .i64 (v1 + 1)), v2, v3, v4))))))))) else (some (.inl (.k0 v2 v3 v4))))
def L24_1_2_s (v1 : Int) (v2 : Nat) (v3 : List ForbD) (v4 : Nat) : St := ⟨fr 212 ug [(1, .ptr 0 0), (2, .ptr 5 0), (8, .ptr 12 0), (9, .sl 13 0 1 0 a1), (10, .sl 14 0 1 0 a2), (154, ls 3 eForb a3.forbid), (155, i6 a4), (156, i6 v1)], [bG a3, yS0, yP0, yF0, yW0, cG 1 0 0 2 0 0 0 3 0 0 4 0 0, yB0, .cells 83 [ls 1 eBool a5], yS a6 a7, yP a8 a9, yF v2 v3, yW0, cG 8 a6 a10 9 a8 a11 a12 10 v2 v4 11 0 0, yI 0 a13, yI 0 a14]⟩
abbrev L24_1_2_e (v1 : Int) (v2 : Nat) (v3 : List ForbD) (v4 : Nat) := evH prg 15 [1, 2, 8, 9, 10, 154, 155, 156] ir24_l1 (L24_1_2_s a1 a2 a3 a4 a5 a6 a7 a8 a9 a10 a11 a12 a13 a14 v1 v2 v3 v4)
def L24_1_2_x (e : E_L24_1_2) (r : Option (Out × St)) : Prop := match e with | .k0 x0 x1 x2 => ∃ g, r = some ((.brk 6), ⟨fr 212 g [(1, .ptr 0 0), (2, .ptr 5 0), (8, .ptr 12 0), (9, .sl 13 0 1 0 a1), (10, .sl 14 0 1 0 a2), (154, ls 3 eForb a3.forbid)], [bG a3, yS0, yP0, yF0, yW0, cG 1 0 0 2 0 0 0 3 0 0 4 0 0, yB0, .cells 83 [ls 1 eBool a5], yS a6 a7, yP a8 a9, yF x0 x1, yW0, cG 8 a6 a10 9 a8 a11 a12 10 x0 x2 11 0 0, yI 0 a13, yI 0 a14]⟩)
abbrev L24_1_2_d0 (v2 : Nat) (v3 : List ForbD) (v4 : Nat) (x2 : ForbD) : List AB := [bG a3, yS0, yP0, yF0, yW0, cG 1 0 0 2 0 0 0 3 0 0 4 0 0, yB0, .cells 83 [ls 1 eBool a5], yS a6 a7, yP a8 a9, yF v2 v3, yW0, cG 8 a6 a10 9 a8 a11 a12 10 v2 v4 11 0 0, yI 0 a13, yI 0 a14, .cells 78 ((eForb x2).map .p)]
abbrev L24_1_2_d1 (v2 : Nat) (v3 : List ForbD) (v4 : Nat) (x4 : Int) (x2 : ForbD) (x6 : Int) : List AB := [bG a3, yS0, yP0, yF0, yW0, cG 1 0 0 2 0 0 0 3 0 0 4 0 0, yB0, .cells 83 [ls 1 eBool a5], yS a6 a7, yP a8 a9, yF v2 (splice v3 v4 [(⟨x4, x2.at_, x6⟩ : ForbD)]), yW0, cG 8 a6 a10 9 a8 a11 a12 10 v2 v4 11 0 0, yI 0 a13, yI 0 a14, .cells 78 ((eForb x2).map .p), .row 78 3 0 [[i6 x4, i6 x2.at_, i6 x6]]]
abbrev L24_1_2_d2 (v2 : Nat) (v3 : List ForbD) (v4 : Nat) (x2 : ForbD) (x4 x6 : Int) : List AB := [bG a3, yS0, yP0, yF0, yW0, cG 1 0 0 2 0 0 0 3 0 0 4 0 0, yB0, .cells 83 [ls 1 eBool a5], yS a6 a7, yP a8 a9, yF v2 v3, yW0, cG 8 a6 a10 9 a8 a11 a12 10 v2 v4 11 0 0, yI 0 a13, yI 0 a14, .cells 78 ((eForb x2).map .p), .row 78 3 0 [[i6 x4, i6 x2.at_, i6 x6]]]
abbrev L24_1_2_d3 (v2 : Nat) (v3 : List ForbD) (v4 : Nat) (x4 : Int) (x2 : ForbD) (x6 : Int) : List AB := [bG a3, yS0, yP0, yF0, yW0, cG 1 0 0 2 0 0 0 3 0 0 4 0 0, yB0, .cells 83 [ls 1 eBool a5], yS a6 a7, yP a8 a9, yF (v2 + 1) (v3.take v4 ++ [(⟨x4, x2.at_, x6⟩ : ForbD)]), yW0, cG 8 a6 a10 9 a8 a11 a12 10 v2 v4 11 0 0, yI 0 a13, yI 0 a14, .cells 78 ((eForb x2).map .p), .row 78 3 0 [[i6 x4, i6 x2.at_, i6 x6]]]
theorem L24_1_2_ok (v1 : Int) (v2 : Nat) (v3 : List ForbD) (v4 : Nat) {r : E_L24_1_2 ⊕ (Int × Nat × (List ForbD) × Nat)} (h : L24_1_2 a2 a3 a4 a14 v1 v2 v3 v4 = some r) : OkR (fun e => L24_1_2_x a1 a2 a3 a5 a6 a7 a8 a9 a10 a11 a12 a13 a14 e (L24_1_2_e a1 a2 a3 a4 a5 a6 a7 a8 a9 a10 a11 a12 a13 a14 v1 v2 v3 v4)) (fun s => L24_1_2_e a1 a2 a3 a4 a5 a6 a7 a8 a9 a10 a11 a12 a13 a14 v1 v2 v3 v4 = L24_1_2_e a1 a2 a3 a4 a5 a6 a7 a8 a9 a10 a11 a12 a13 a14 s.1 s.2.1 s.2.2.1 s.2.2.2) r := by
 unfold L24_1_2 at h
 refine bi h ?_ ?_ <;> intro h1 h
 ·
  refine bn h fun x2 h2 h => ?_
  refine bn h fun x3 h3 h => ?_
  have q2 := ((idx_sl h3) : idxA 1 (.sl 14 0 1 0 a2) (i6 x2.parent) = some (.rp 14 0 1 x3 0))
  refine bn h fun x4 h4 h => ?_
  have q3 := ((ld_row rfl h4 rfl) : ldA (L24_1_2_d0 a3 a5 a6 a7 a8 a9 a10 a11 a12 a13 a14 v2 v3 v4 x2) .false 1 (.rp 14 0 1 x3 0) = some (i6 x4))
  refine bn h fun x5 h5 h => ?_
  have q4 := ((idx_sl h5) : idxA 1 (.sl 14 0 1 0 a2) (i6 x2.child) = some (.rp 14 0 1 x5 0))
  refine bn h fun x6 h6 h => ?_
  have q5 := ((ld_row rfl h6 rfl) : ldA (L24_1_2_d0 a3 a5 a6 a7 a8 a9 a10 a11 a12 a13 a14 v2 v3 v4 x2) .false 1 (.rp 14 0 1 x5 0) = some (i6 x6))
  refine bi h ?_ ?_ <;> intro h7 h
  ·
   refine bi h ?_ ?_ <;> intro h8 h
   ·
    refine bi h ?_ ?_ <;> intro h9 h
    ·
     refine bi h ?_ ?_ <;> intro h10 h
     ·
      rw [← sj h]
      exact rnd [(157, .d true), (158, .v (.ro (eForb x2))), (163, .v (.rp 14 0 1 x3 0)), (164, .v (i6 x4)), (168, .v (.rp 14 0 1 x5 0)), (169, .v (i6 x6)), (171, .d true), (174, .d true), (184, .r (.sl 10 v2 3 0 (v4 + 1)) (L24_1_2_d1 a3 a5 a6 a7 a8 a9 a10 a11 a12 a13 a14 v2 v3 v4 x4 x2 x6)), (6000, .d true)] (av h1 (apc (ig eForb 3 .i64 h2) (apc q2 (apc q3 (apc q4 (apc q5 (av h7 (av h8 (apc ((ap_in (e := eForb) (xs := v3) (news := [(⟨x4, x2.at_, x6⟩ : ForbD)]) rfl (rows_x (e := eForb) (xs := [(⟨x4, x2.at_, x6⟩ : ForbD)]) rfl) rfl h9 h10) : appA (L24_1_2_d2 a3 a5 a6 a7 a8 a9 a10 a11 a12 a13 a14 v2 v3 v4 x2 x4 x6) 78 3 24 (.sl 10 v2 3 0 v4) (.sl 16 0 3 0 1) = some ((.sl 10 v2 3 0 (v4 + 1)), L24_1_2_d1 a3 a5 a6 a7 a8 a9 a10 a11 a12 a13 a14 v2 v3 v4 x4 x2 x6)) (apc ((oK (ac (ar (ar (ar (ar (ac (ar (ac (ar (ar (ar (ar (ac (ar (ar rfl)))))))))))))))) : okT 15 [bG a3, yS0, yP0, yF0, yW0, cG 1 0 0 2 0 0 0 3 0 0 4 0 0, yB0, .cells 83 [ls 1 eBool a5], yS a6 a7, yP a8 a9, yF v2 (splice v3 v4 [(⟨x4, x2.at_, x6⟩ : ForbD)]), yW0, .cells 27 [.sl 8 a6 1 0 a10, .sl 9 a8 7 0 a11, i6 a12, (.sl 10 v2 3 0 (v4 + 1)), .sl 11 0 5 0 0], yI 0 a13, yI 0 a14, .cells 78 ((eForb x2).map .p), .row 78 3 0 [[i6 x4, i6 x2.at_, i6 x6]]] = true) apn)))))))))) (by kernel_rfl)
     ·
      rw [← sj h]
      exact rnd [(157, .d true), (158, .v (.ro (eForb x2))), (163, .v (.rp 14 0 1 x3 0)), (164, .v (i6 x4)), (168, .v (.rp 14 0 1 x5 0)), (169, .v (i6 x6)), (171, .d true), (174, .d true), (184, .r (.sl 10 (v2 + 1) 3 0 (v4 + 1)) (L24_1_2_d3 a3 a5 a6 a7 a8 a9 a10 a11 a12 a13 a14 v2 v3 v4 x4 x2 x6)), (6000, .d true)] (av h1 (apc (ig eForb 3 .i64 h2) (apc q2 (apc q3 (apc q4 (apc q5 (av h7 (av h8 (apc ((ap_out (e := eForb) (xs := v3) (news := [(⟨x4, x2.at_, x6⟩ : ForbD)]) rfl (rows_x (e := eForb) (xs := [(⟨x4, x2.at_, x6⟩ : ForbD)]) rfl) rfl h9 h10) : appA (L24_1_2_d2 a3 a5 a6 a7 a8 a9 a10 a11 a12 a13 a14 v2 v3 v4 x2 x4 x6) 78 3 24 (.sl 10 v2 3 0 v4) (.sl 16 0 3 0 1) = some ((.sl 10 (v2 + 1) 3 0 (v4 + 1)), L24_1_2_d3 a3 a5 a6 a7 a8 a9 a10 a11 a12 a13 a14 v2 v3 v4 x4 x2 x6)) (apc ((oK (ac (ar (ar (ar (ar (ac (ar (ac (ar (ar (ar (ar (ac (ar (ar rfl)))))))))))))))) : okT 15 [bG a3, yS0, yP0, yF0, yW0, cG 1 0 0 2 0 0 0 3 0 0 4 0 0, yB0, .cells 83 [ls 1 eBool a5], yS a6 a7, yP a8 a9, yF (v2 + 1) (v3.take v4 ++ [(⟨x4, x2.at_, x6⟩ : ForbD)]), yW0, .cells 27 [.sl 8 a6 1 0 a10, .sl 9 a8 7 0 a11, i6 a12, (.sl 10 (v2 + 1) 3 0 (v4 + 1)), .sl 11 0 5 0 0], yI 0 a13, yI 0 a14, .cells 78 ((eForb x2).map .p), .row 78 3 0 [[i6 x4, i6 x2.at_, i6 x6]]] = true) apn)))))))))) (by kernel_rfl)
    ·
     cases h
   ·
    rw [← sj h]
    exact rnd [(157, .d true), (158, .v (.ro (eForb x2))), (163, .v (.rp 14 0 1 x3 0)), (164, .v (i6 x4)), (168, .v (.rp 14 0 1 x5 0)), (169, .v (i6 x6)), (171, .d true), (174, .d false), (6000, .d true)] (av h1 (apc (ig eForb 3 .i64 h2) (apc q2 (apc q3 (apc q4 (apc q5 (av h7 (av h8 (apc ((oK (ac (ar (ar (ar (ar (ac (ar (ac (ar (ar (ar (ar (ac (ar (ar rfl)))))))))))))))) : okT 15 (L24_1_2_d0 a3 a5 a6 a7 a8 a9 a10 a11 a12 a13 a14 v2 v3 v4 x2) = true) apn))))))))) (by kernel_rfl)
  ·
   rw [← sj h]
   exact rnd [(157, .d true), (158, .v (.ro (eForb x2))), (163, .v (.rp 14 0 1 x3 0)), (164, .v (i6 x4)), (168, .v (.rp 14 0 1 x5 0)), (169, .v (i6 x6)), (171, .d false), (6000, .d true)] (av h1 (apc (ig eForb 3 .i64 h2) (apc q2 (apc q3 (apc q4 (apc q5 (av h7 (apc ((oK (ac (ar (ar (ar (ar (ac (ar (ac (ar (ar (ar (ar (ac (ar (ar rfl)))))))))))))))) : okT 15 (L24_1_2_d0 a3 a5 a6 a7 a8 a9 a10 a11 a12 a13 a14 v2 v3 v4 x2) = true) apn)))))))) (by kernel_rfl)
 ·
  rw [← sj h]
  exact xbrk [(157, .d false), (6000, .d true)] (av h1 apn) (by kernel_rfl)
theorem L24_1_2_run (s0 : Int × Nat × (List ForbD) × Nat) (e : E_L24_1_2) (h : runL (fun s => L24_1_2 a2 a3 a4 a14 s.1 s.2.1 s.2.2.1 s.2.2.2) s0 = some e) : L24_1_2_x a1 a2 a3 a5 a6 a7 a8 a9 a10 a11 a12 a13 a14 e (L24_1_2_e a1 a2 a3 a4 a5 a6 a7 a8 a9 a10 a11 a12 a13 a14 s0.1 s0.2.1 s0.2.2.1 s0.2.2.2) := by
  have q := @loop_sound' (Int × Nat × (List ForbD) × Nat) E_L24_1_2 (fun s => L24_1_2 a2 a3 a4 a14 s.1 s.2.1 s.2.2.1 s.2.2.2) (fun s => L24_1_2_e a1 a2 a3 a4 a5 a6 a7 a8 a9 a10 a11 a12 a13 a14 s.1 s.2.1 s.2.2.1 s.2.2.2) (L24_1_2_x a1 a2 a3 a5 a6 a7 a8 a9 a10 a11 a12 a13 a14) (fun s r h => L24_1_2_ok a1 a2 a3 a4 a5 a6 a7 a8 a9 a10 a11 a12 a13 a14 s.1 s.2.1 s.2.2.1 s.2.2.2 h) s0 e h
  exact q
end
inductive E_L24_0_2 where
  | k0 (x0 : Nat) (x1 : List FollD) (x2 : Nat)
section
variable (a1 : Nat) (a2 : GramD) (a3 : Int) (a4 : List Bool) (a5 : Nat) (a6 : List ByteArray) (a7 : Nat) (a8 : List ProdD) (a9 : Nat) (a10 : List ForbD) (a11 a12 : Nat) (a13 : Int) (a14 : Nat) (a15 a16 : List Int)
def L24_0_2 (v1 : Int) (v2 : Nat) (v3 : List FollD) (v4 : Nat) : Option (E_L24_0_2 ⊕ (Int × Nat × (List FollD) × Nat)) :=
  (bif (decide (v1 < a3)) then ((getI a2.follow v1).bind fun x2 => ((ixN a1 x2.sort).bind fun x3 => ((a15[x3]?).bind fun x4 => (bif (decide (x4 ≥ 0)) then (bif (apOk v4 1 v3.length 40) then (bif (decide (v4 + 1 ≤ v3.length)) then (some (.inr ((IntKind.wrap .i64 (v1 + 1)), v2, (splice v3 v4 [(⟨x4, x2.a, x2.b, x2.c, x2.d⟩ : FollD)]), v4 + 1))) else (some (.inr ((IntKind.wrap .i64 (v1 + 1)), v2 + 1, (v3.take v4 ++ [(⟨x4, x2.a, x2.b, x2.c, x2.d⟩ : FollD)]), v4 + 1)))) else none) else (some (.inr ((IntKind.wrap .i64 (v1 + 1)), v2, v3, v4))))))) else (some (.inl (.k0 v2 v3 v4))))
def L24_0_2_s (v1 : Int) (v2 : Nat) (v3 : List FollD) (v4 : Nat) : St := ⟨fr 212 ug [(2, .ptr 5 0), (8, .ptr 12 0), (9, .sl 13 0 1 0 a1), (188, ls 5 eFoll a2.follow), (189, i6 a3), (190, i6 v1)], [bG a2, yS0, yP0, yF0, yW0, cG 1 0 0 2 0 0 0 3 0 0 4 0 0, yB0, .cells 83 [ls 1 eBool a4], yS a5 a6, yP a7 a8, yF a9 a10, yW v2 v3, cG 8 a5 a11 9 a7 a12 a13 10 a9 a14 11 v2 v4, yI 0 a15, yI 0 a16]⟩
abbrev L24_0_2_e (v1 : Int) (v2 : Nat) (v3 : List FollD) (v4 : Nat) := evH prg 15 [2, 8, 9, 188, 189, 190] ir24_l0 (L24_0_2_s a1 a2 a3 a4 a5 a6 a7 a8 a9 a10 a11 a12 a13 a14 a15 a16 v1 v2 v3 v4)
def L24_0_2_x (e : E_L24_0_2) (r : Option (Out × St)) : Prop := match e with | .k0 x0 x1 x2 => ∃ g, r = some ((.brk 8), ⟨fr 212 g [(2, .ptr 5 0), (8, .ptr 12 0), (9, .sl 13 0 1 0 a1), (188, ls 5 eFoll a2.follow)], [bG a2, yS0, yP0, yF0, yW0, cG 1 0 0 2 0 0 0 3 0 0 4 0 0, yB0, .cells 83 [ls 1 eBool a4], yS a5 a6, yP a7 a8, yF a9 a10, yW x0 x1, cG 8 a5 a11 9 a7 a12 a13 10 a9 a14 11 x0 x2, yI 0 a15, yI 0 a16]⟩)
abbrev L24_0_2_d0 (v2 : Nat) (v3 : List FollD) (v4 : Nat) (x2 : FollD) : List AB := [bG a2, yS0, yP0, yF0, yW0, cG 1 0 0 2 0 0 0 3 0 0 4 0 0, yB0, .cells 83 [ls 1 eBool a4], yS a5 a6, yP a7 a8, yF a9 a10, yW v2 v3, cG 8 a5 a11 9 a7 a12 a13 10 a9 a14 11 v2 v4, yI 0 a15, yI 0 a16, .cells 80 ((eFoll x2).map .p)]
abbrev L24_0_2_d1 (v2 : Nat) (v3 : List FollD) (v4 : Nat) (x4 : Int) (x2 : FollD) : List AB := [bG a2, yS0, yP0, yF0, yW0, cG 1 0 0 2 0 0 0 3 0 0 4 0 0, yB0, .cells 83 [ls 1 eBool a4], yS a5 a6, yP a7 a8, yF a9 a10, yW v2 (splice v3 v4 [(⟨x4, x2.a, x2.b, x2.c, x2.d⟩ : FollD)]), cG 8 a5 a11 9 a7 a12 a13 10 a9 a14 11 v2 v4, yI 0 a15, yI 0 a16, .cells 80 ((eFoll x2).map .p), .row 80 5 0 [[i6 x4, vi .u64 x2.a, vi .u64 x2.b, vi .u64 x2.c, vi .u64 x2.d]]]
abbrev L24_0_2_d2 (v2 : Nat) (v3 : List FollD) (v4 : Nat) (x2 : FollD) (x4 : Int) : List AB := [bG a2, yS0, yP0, yF0, yW0, cG 1 0 0 2 0 0 0 3 0 0 4 0 0, yB0, .cells 83 [ls 1 eBool a4], yS a5 a6, yP a7 a8, yF a9 a10, yW v2 v3, cG 8 a5 a11 9 a7 a12 a13 10 a9 a14 11 v2 v4, yI 0 a15, yI 0 a16, .cells 80 ((eFoll x2).map .p), .row 80 5 0 [[i6 x4, vi .u64 x2.a, vi .u64 x2.b, vi .u64 x2.c, vi .u64 x2.d]]]
abbrev L24_0_2_d3 (v2 : Nat) (v3 : List FollD) (v4 : Nat) (x4 : Int) (x2 : FollD) : List AB := [bG a2, yS0, yP0, yF0, yW0, cG 1 0 0 2 0 0 0 3 0 0 4 0 0, yB0, .cells 83 [ls 1 eBool a4], yS a5 a6, yP a7 a8, yF a9 a10, yW (v2 + 1) (v3.take v4 ++ [(⟨x4, x2.a, x2.b, x2.c, x2.d⟩ : FollD)]), cG 8 a5 a11 9 a7 a12 a13 10 a9 a14 11 v2 v4, yI 0 a15, yI 0 a16, .cells 80 ((eFoll x2).map .p), .row 80 5 0 [[i6 x4, vi .u64 x2.a, vi .u64 x2.b, vi .u64 x2.c, vi .u64 x2.d]]]
theorem L24_0_2_ok (v1 : Int) (v2 : Nat) (v3 : List FollD) (v4 : Nat) {r : E_L24_0_2 ⊕ (Int × Nat × (List FollD) × Nat)} (h : L24_0_2 a1 a2 a3 a15 v1 v2 v3 v4 = some r) : OkR (fun e => L24_0_2_x a1 a2 a4 a5 a6 a7 a8 a9 a10 a11 a12 a13 a14 a15 a16 e (L24_0_2_e a1 a2 a3 a4 a5 a6 a7 a8 a9 a10 a11 a12 a13 a14 a15 a16 v1 v2 v3 v4)) (fun s => L24_0_2_e a1 a2 a3 a4 a5 a6 a7 a8 a9 a10 a11 a12 a13 a14 a15 a16 v1 v2 v3 v4 = L24_0_2_e a1 a2 a3 a4 a5 a6 a7 a8 a9 a10 a11 a12 a13 a14 a15 a16 s.1 s.2.1 s.2.2.1 s.2.2.2) r := by
 unfold L24_0_2 at h
 refine bi h ?_ ?_ <;> intro h1 h
 ·
  refine bn h fun x2 h2 h => ?_
  refine bn h fun x3 h3 h => ?_
  have q2 := ((idx_sl h3) : idxA 1 (.sl 13 0 1 0 a1) (i6 x2.sort) = some (.rp 13 0 1 x3 0))
  refine bn h fun x4 h4 h => ?_
  have q3 := ((ld_row rfl h4 rfl) : ldA (L24_0_2_d0 a2 a4 a5 a6 a7 a8 a9 a10 a11 a12 a13 a14 a15 a16 v2 v3 v4 x2) .false 1 (.rp 13 0 1 x3 0) = some (i6 x4))
  refine bi h ?_ ?_ <;> intro h5 h
  ·
   refine bi h ?_ ?_ <;> intro h6 h
   ·
    refine bi h ?_ ?_ <;> intro h7 h
    ·
     rw [← sj h]
     exact rnd [(191, .d true), (192, .v (.ro (eFoll x2))), (197, .v (.rp 13 0 1 x3 0)), (198, .v (i6 x4)), (200, .d true), (208, .r (.sl 11 v2 5 0 (v4 + 1)) (L24_0_2_d1 a2 a4 a5 a6 a7 a8 a9 a10 a11 a12 a13 a14 a15 a16 v2 v3 v4 x4 x2)), (6000, .d true)] (av h1 (apc (ig eFoll 5 .i64 h2) (apc q2 (apc q3 (av h5 (apc ((ap_in (e := eFoll) (xs := v3) (news := [(⟨x4, x2.a, x2.b, x2.c, x2.d⟩ : FollD)]) rfl (rows_x (e := eFoll) (xs := [(⟨x4, x2.a, x2.b, x2.c, x2.d⟩ : FollD)]) rfl) rfl h6 h7) : appA (L24_0_2_d2 a2 a4 a5 a6 a7 a8 a9 a10 a11 a12 a13 a14 a15 a16 v2 v3 v4 x2 x4) 80 5 40 (.sl 11 v2 5 0 v4) (.sl 16 0 5 0 1) = some ((.sl 11 v2 5 0 (v4 + 1)), L24_0_2_d1 a2 a4 a5 a6 a7 a8 a9 a10 a11 a12 a13 a14 a15 a16 v2 v3 v4 x4 x2)) (apc ((oK (ac (ar (ar (ar (ar (ac (ar (ac (ar (ar (ar (ar (ac (ar (ar rfl)))))))))))))))) : okT 15 [bG a2, yS0, yP0, yF0, yW0, cG 1 0 0 2 0 0 0 3 0 0 4 0 0, yB0, .cells 83 [ls 1 eBool a4], yS a5 a6, yP a7 a8, yF a9 a10, yW v2 (splice v3 v4 [(⟨x4, x2.a, x2.b, x2.c, x2.d⟩ : FollD)]), .cells 27 [.sl 8 a5 1 0 a11, .sl 9 a7 7 0 a12, i6 a13, .sl 10 a9 3 0 a14, (.sl 11 v2 5 0 (v4 + 1))], yI 0 a15, yI 0 a16, .cells 80 ((eFoll x2).map .p), .row 80 5 0 [[i6 x4, vi .u64 x2.a, vi .u64 x2.b, vi .u64 x2.c, vi .u64 x2.d]]] = true) apn))))))) (by kernel_rfl)
    ·
     rw [← sj h]
     exact rnd [(191, .d true), (192, .v (.ro (eFoll x2))), (197, .v (.rp 13 0 1 x3 0)), (198, .v (i6 x4)), (200, .d true), (208, .r (.sl 11 (v2 + 1) 5 0 (v4 + 1)) (L24_0_2_d3 a2 a4 a5 a6 a7 a8 a9 a10 a11 a12 a13 a14 a15 a16 v2 v3 v4 x4 x2)), (6000, .d true)] (av h1 (apc (ig eFoll 5 .i64 h2) (apc q2 (apc q3 (av h5 (apc ((ap_out (e := eFoll) (xs := v3) (news := [(⟨x4, x2.a, x2.b, x2.c, x2.d⟩ : FollD)]) rfl (rows_x (e := eFoll) (xs := [(⟨x4, x2.a, x2.b, x2.c, x2.d⟩ : FollD)]) rfl) rfl h6 h7) : appA (L24_0_2_d2 a2 a4 a5 a6 a7 a8 a9 a10 a11 a12 a13 a14 a15 a16 v2 v3 v4 x2 x4) 80 5 40 (.sl 11 v2 5 0 v4) (.sl 16 0 5 0 1) = some ((.sl 11 (v2 + 1) 5 0 (v4 + 1)), L24_0_2_d3 a2 a4 a5 a6 a7 a8 a9 a10 a11 a12 a13 a14 a15 a16 v2 v3 v4 x4 x2)) (apc ((oK (ac (ar (ar (ar (ar (ac (ar (ac (ar (ar (ar (ar (ac (ar (ar rfl)))))))))))))))) : okT 15 [bG a2, yS0, yP0, yF0, yW0, cG 1 0 0 2 0 0 0 3 0 0 4 0 0, yB0, .cells 83 [ls 1 eBool a4], yS a5 a6, yP a7 a8, yF a9 a10, yW (v2 + 1) (v3.take v4 ++ [(⟨x4, x2.a, x2.b, x2.c, x2.d⟩ : FollD)]), .cells 27 [.sl 8 a5 1 0 a11, .sl 9 a7 7 0 a12, i6 a13, .sl 10 a9 3 0 a14, (.sl 11 (v2 + 1) 5 0 (v4 + 1))], yI 0 a15, yI 0 a16, .cells 80 ((eFoll x2).map .p), .row 80 5 0 [[i6 x4, vi .u64 x2.a, vi .u64 x2.b, vi .u64 x2.c, vi .u64 x2.d]]] = true) apn))))))) (by kernel_rfl)
   ·
    cases h
  ·
   rw [← sj h]
   exact rnd [(191, .d true), (192, .v (.ro (eFoll x2))), (197, .v (.rp 13 0 1 x3 0)), (198, .v (i6 x4)), (200, .d false), (6000, .d true)] (av h1 (apc (ig eFoll 5 .i64 h2) (apc q2 (apc q3 (av h5 (apc ((oK (ac (ar (ar (ar (ar (ac (ar (ac (ar (ar (ar (ar (ac (ar (ar rfl)))))))))))))))) : okT 15 (L24_0_2_d0 a2 a4 a5 a6 a7 a8 a9 a10 a11 a12 a13 a14 a15 a16 v2 v3 v4 x2) = true) apn)))))) (by kernel_rfl)
 ·
  rw [← sj h]
  exact xbrk [(191, .d false), (6000, .d true)] (av h1 apn) (by kernel_rfl)
theorem L24_0_2_run (s0 : Int × Nat × (List FollD) × Nat) (e : E_L24_0_2) (h : runL (fun s => L24_0_2 a1 a2 a3 a15 s.1 s.2.1 s.2.2.1 s.2.2.2) s0 = some e) : L24_0_2_x a1 a2 a4 a5 a6 a7 a8 a9 a10 a11 a12 a13 a14 a15 a16 e (L24_0_2_e a1 a2 a3 a4 a5 a6 a7 a8 a9 a10 a11 a12 a13 a14 a15 a16 s0.1 s0.2.1 s0.2.2.1 s0.2.2.2) := by
  have q := @loop_sound' (Int × Nat × (List FollD) × Nat) E_L24_0_2 (fun s => L24_0_2 a1 a2 a3 a15 s.1 s.2.1 s.2.2.1 s.2.2.2) (fun s => L24_0_2_e a1 a2 a3 a4 a5 a6 a7 a8 a9 a10 a11 a12 a13 a14 a15 a16 s.1 s.2.1 s.2.2.1 s.2.2.2) (L24_0_2_x a1 a2 a4 a5 a6 a7 a8 a9 a10 a11 a12 a13 a14 a15 a16) (fun s r h => L24_0_2_ok a1 a2 a3 a4 a5 a6 a7 a8 a9 a10 a11 a12 a13 a14 a15 a16 s.1 s.2.1 s.2.2.1 s.2.2.2 h) s0 e h
  exact q
end
inductive R_F24 where
  | k0 (x0 : Int)
  | k1 (x0 : List ByteArray) (x1 : List ProdD) (x2 : Int) (x3 : List ForbD) (x4 : List FollD)
def F24_v (a1 : GramD) (r : R_F24) : AV := match r with | .k0 x0 => (.tup [(.agg [n0, n0, i6 0, n0, n0]), i6 x0]) | .k1 x0 x1 x2 x3 x4 => (.tup [aH x0 x1 x2 x3 x4, i6 0])
def F24 (Nf : Nat) (a1 : GramD) : Option R_F24 :=
  ((F15 a1).bind fun x1 => (bif (x1 != 0) then (some (.k0 x1)) else ((F36 a1).bind fun x3 => ((getI x3 a1.start).bind fun x4 => (bif x4 then ((F37_2 Nf a1 x3).bind fun x6 => (bif (mkOk (a1.sorts.length : Int) 8) then (bif (mkOk (a1.prods.length : Int) 8) then ((runL (fun s => L24_4 x6 (Int.toNat (a1.sorts.length : Int)) a1 (a1.sorts.length : Int) s.1 s.2.1 s.2.2.1 s.2.2.2.1 s.2.2.2.2) (0, 0, [], 0, (List.replicate (Int.toNat (a1.sorts.length : Int)) 0))).bind fun r9 => match r9 with | .k0 x9_0 x9_1 x9_2 x9_3 => ((ixN (Int.toNat (a1.sorts.length : Int)) a1.start).bind fun x10 => ((x9_3[x10]?).bind fun x11 => ((runL (fun s => L24_3 x6 (Int.toNat (a1.sorts.length : Int)) (Int.toNat (a1.prods.length : Int)) a1 (a1.prods.length : Int) x3 x9_3 s.1 s.2.1 s.2.2.1 s.2.2.2.1 s.2.2.2.2) (0, 0, [], 0, (List.replicate (Int.toNat (a1.prods.length : Int)) 0))).bind fun r12 => match r12 with | .k0 x12_0 x12_1 x12_2 x12_3 => ((runL (fun s => L24_1_2 (Int.toNat (a1.prods.length : Int)) a1 (a1.forbid.length : Int) x12_3 s.1 s.2.1 s.2.2.1 s.2.2.2) (0, 0, [], 0)).bind fun r13 => match r13 with | .k0 x13_0 x13_1 x13_2 => ((runL (fun s => L24_0_2 (Int.toNat (a1.sorts.length : Int)) a1 (a1.follow.length : Int) x9_3 s.1 s.2.1 s.2.2.1 s.2.2.2) (0, 0, [], 0)).bind fun r14 => match r14 with | .k0 x14_0 x14_1 x14_2 => (bif (decide (x9_2 ≤ x9_1.length)) then (bif (decide (x12_2 ≤ x12_1.length)) then (bif (decide (x13_2 ≤ x13_1.length)) then (bif (decide (x14_2 ≤ x14_1.length)) then (some (.k1 (x9_1.take x9_2) (x12_1.take x12_2) x11 (x13_1.take x13_2) (x14_1.take x14_2))) else none) else none) else none) else none))))))) else none) else none)) else (some (.k0 161)))))))
abbrev F24_d0 (a1 : GramD) : List AB := [bG a1, yS0, yP0, yF0, yW0, cG 1 0 0 2 0 0 0 3 0 0 4 0 0]
abbrev F24_d1 (g9 : Nat → AV) (x6 : List Bool) (a1 : GramD) (x3 : List Bool) (x9_0 : Nat) (x9_1 : List ByteArray) (x9_2 : Nat) (x9_3 : List Int) : St := ⟨fr 212 g9 [(1, .ptr 0 0), (2, .ptr 5 0), (6, (.fn 53 [.ptr 7 0])), (7, ls 1 eBool x6), (8, .ptr 12 0), (9, (.sl 13 0 1 0 (tS a1))), (10, (.sl 14 0 1 0 (tP a1))), (52, ls 1 eStr a1.sorts)], [bG a1, yS0, yP0, yF0, yW0, cG 1 0 0 2 0 0 0 3 0 0 4 0 0, yB0, .cells 83 [ls 1 eBool x3], yS x9_0 x9_1, yP0, yF0, yW0, cG 8 x9_0 x9_2 9 0 0 0 10 0 0 11 0 0, yI 0 x9_3, yI 0 (List.replicate (tP a1) 0)]⟩
abbrev F24_d2 (g12 : Nat → AV) (x6 : List Bool) (a1 : GramD) (x3 : List Bool) (x9_0 : Nat) (x9_1 : List ByteArray) (x12_0 : Nat) (x12_1 : List ProdD) (x9_2 x12_2 : Nat) (x11 : Int) (x9_3 x12_3 : List Int) : St := ⟨fr 212 g12 [(1, .ptr 0 0), (2, .ptr 5 0), (6, (.fn 53 [.ptr 7 0])), (7, ls 1 eBool x6), (8, .ptr 12 0), (9, (.sl 13 0 1 0 (tS a1))), (10, (.sl 14 0 1 0 (tP a1))), (86, ls 7 eProd a1.prods)], [bG a1, yS0, yP0, yF0, yW0, cG 1 0 0 2 0 0 0 3 0 0 4 0 0, yB0, .cells 83 [ls 1 eBool x3], yS x9_0 x9_1, yP x12_0 x12_1, yF0, yW0, cG 8 x9_0 x9_2 9 x12_0 x12_2 x11 10 0 0 11 0 0, yI 0 x9_3, yI 0 x12_3]⟩
abbrev F24_d3 (g13 : Nat → AV) (a1 : GramD) (x3 : List Bool) (x9_0 : Nat) (x9_1 : List ByteArray) (x12_0 : Nat) (x12_1 : List ProdD) (x13_0 : Nat) (x13_1 : List ForbD) (x9_2 x12_2 : Nat) (x11 : Int) (x13_2 : Nat) (x9_3 x12_3 : List Int) : St := ⟨fr 212 g13 [(1, .ptr 0 0), (2, .ptr 5 0), (8, .ptr 12 0), (9, (.sl 13 0 1 0 (tS a1))), (10, (.sl 14 0 1 0 (tP a1))), (154, ls 3 eForb a1.forbid)], [bG a1, yS0, yP0, yF0, yW0, cG 1 0 0 2 0 0 0 3 0 0 4 0 0, yB0, .cells 83 [ls 1 eBool x3], yS x9_0 x9_1, yP x12_0 x12_1, yF x13_0 x13_1, yW0, cG 8 x9_0 x9_2 9 x12_0 x12_2 x11 10 x13_0 x13_2 11 0 0, yI 0 x9_3, yI 0 x12_3]⟩
abbrev F24_d4 (g14 : Nat → AV) (a1 : GramD) (x3 : List Bool) (x9_0 : Nat) (x9_1 : List ByteArray) (x12_0 : Nat) (x12_1 : List ProdD) (x13_0 : Nat) (x13_1 : List ForbD) (x14_0 : Nat) (x14_1 : List FollD) (x9_2 x12_2 : Nat) (x11 : Int) (x13_2 x14_2 : Nat) (x9_3 x12_3 : List Int) : St := ⟨fr 212 g14 [(2, .ptr 5 0), (8, .ptr 12 0), (9, (.sl 13 0 1 0 (tS a1))), (188, ls 5 eFoll a1.follow)], [bG a1, yS0, yP0, yF0, yW0, cG 1 0 0 2 0 0 0 3 0 0 4 0 0, yB0, .cells 83 [ls 1 eBool x3], yS x9_0 x9_1, yP x12_0 x12_1, yF x13_0 x13_1, yW x14_0 x14_1, cG 8 x9_0 x9_2 9 x12_0 x12_2 x11 10 x13_0 x13_2 11 x14_0 x14_2, yI 0 x9_3, yI 0 x12_3]⟩
abbrev F24_c0 (a1 : GramD) : List (Nat × Hint) := [(46, .r (.sl 13 0 1 0 (tS a1)) [yI 0 (List.replicate (tS a1) 0)]), (49, .v (i6 (lP a1)))]
abbrev F24_c1 (a1 : GramD) : List (Nat × Hint) := [(50, .r (.sl 14 0 1 0 (tP a1)) [yI 0 (List.replicate (tP a1) 0)]), (53, .v (i6 (lS a1)))]
abbrev F24_c2 (g9 : Nat → AV) (x6 : List Bool) (a1 : GramD) (x3 : List Bool) (x9_0 : Nat) (x9_1 : List ByteArray) (x9_2 : Nat) (x9_3 : List Int) : List (Nat × Hint) := [(2000, .l (.brk 0) (F24_d1 g9 x6 a1 x3 x9_0 x9_1 x9_2 x9_3))]
abbrev F24_c3 (g12 : Nat → AV) (x6 : List Bool) (a1 : GramD) (x3 : List Bool) (x9_0 : Nat) (x9_1 : List ByteArray) (x12_0 : Nat) (x12_1 : List ProdD) (x9_2 x12_2 : Nat) (x11 : Int) (x9_3 x12_3 : List Int) : List (Nat × Hint) := [(2002, .l (.brk 2) (F24_d2 g12 x6 a1 x3 x9_0 x9_1 x12_0 x12_1 x9_2 x12_2 x11 x9_3 x12_3)), (155, .v (i6 (lF a1)))]
abbrev F24_c4 (g13 : Nat → AV) (a1 : GramD) (x3 : List Bool) (x9_0 : Nat) (x9_1 : List ByteArray) (x12_0 : Nat) (x12_1 : List ProdD) (x13_0 : Nat) (x13_1 : List ForbD) (x9_2 x12_2 : Nat) (x11 : Int) (x13_2 : Nat) (x9_3 x12_3 : List Int) : List (Nat × Hint) := [(2006, .l (.brk 6) (F24_d3 g13 a1 x3 x9_0 x9_1 x12_0 x12_1 x13_0 x13_1 x9_2 x12_2 x11 x13_2 x9_3 x12_3)), (189, .v (i6 (lW a1)))]
abbrev F24_c5 (g14 : Nat → AV) (a1 : GramD) (x3 : List Bool) (x9_0 : Nat) (x9_1 : List ByteArray) (x12_0 : Nat) (x12_1 : List ProdD) (x13_0 : Nat) (x13_1 : List ForbD) (x14_0 : Nat) (x14_1 : List FollD) (x9_2 x12_2 : Nat) (x11 : Int) (x13_2 x14_2 : Nat) (x9_3 x12_3 : List Int) : List (Nat × Hint) := [(2008, .l (.brk 8) (F24_d4 g14 a1 x3 x9_0 x9_1 x12_0 x12_1 x13_0 x13_1 x14_0 x14_1 x9_2 x12_2 x11 x13_2 x14_2 x9_3 x12_3))]
theorem F24_ok (Nf : Nat) (a1 : GramD) {r : R_F24} (h : F24 Nf a1 = some r) : PR1 prg 24 [aG a1] (F24_v a1 r) := by
 unfold F24 at h
 refine bn h fun x1 h1 h => ?_
 have q0 := (((F15_ok a1 h1).cp rfl _) : CP prg 15 [aG a1] (F24_d0 a1) = some (i6 x1))
 refine bi h ?_ ?_ <;> intro h2 h
 ·
  rw [← sj h]
  exact fpr [(25, .v (i6 x1)), (27, .d true)] (apc q0 (av h2 apn)) rfl (by kernel_rfl)
 ·
  refine bn h fun x3 h3 h => ?_
  have q2 := (((F36_ok a1 h3).cp rfl _) : CP prg 36 [aG a1] (F24_d0 a1) = some (ls 1 eBool x3))
  refine bn h fun x4 h4 h => ?_
  refine bi h ?_ ?_ <;> intro h5 h
  ·
   refine bn h fun x6 h6 h => ?_
   have q5 := (((F37_2_ok Nf a1 x3 h6).own rfl (purAs_cons rfl (purAs_cons (purA_fn (purAs_cons (purA_ptr rfl (mapO_con rfl rfl)) purAs_nil)) purAs_nil))) : CP prg 37 [aG a1, (.fn 53 [.ptr 7 0])] [bG a1, yS0, yP0, yF0, yW0, cG 1 0 0 2 0 0 0 3 0 0 4 0 0, yB0, .cells 83 [ls 1 eBool x3]] = some (ls 1 eBool x6))
   refine bi h ?_ ?_ <;> intro h7 h
   ·
    have q7 := ((mk_row (e := eI64) (z := 0) h7 rfl) : mkA 3 1 8 [.val (.int .i64 0)] (i6 (lS a1)) (i6 (lS a1)) 13 = some ((.sl 13 0 1 0 (tS a1)), yI 0 (List.replicate (tS a1) 0)))
    refine bi h ?_ ?_ <;> intro h8 h
    ·
     have q9 := ((mk_row (e := eI64) (z := 0) h8 rfl) : mkA 3 1 8 [.val (.int .i64 0)] (i6 (lP a1)) (i6 (lP a1)) 14 = some ((.sl 14 0 1 0 (tP a1)), yI 0 (List.replicate (tP a1) 0)))
     refine bn h fun r9 h9 h => ?_
     cases r9 with
     | k0 x9_0 x9_1 x9_2 x9_3 =>
      obtain ⟨g9, e9⟩ := L24_4_run x6 (tS a1) (tP a1) a1 (lS a1) x3 (List.replicate (tP a1) 0) (0, 0, [], 0, (List.replicate (tS a1) 0)) _ h9
      have q11 := ((oK (ac (ar (ar (ar (ar (ac (ar (ac (ar (ar (ar (ar (ac (ar (ar rfl)))))))))))))))) : okT 15 [bG a1, yS0, yP0, yF0, yW0, cG 1 0 0 2 0 0 0 3 0 0 4 0 0, yB0, .cells 83 [ls 1 eBool x3], yS0, yP0, yF0, yW0, cG 8 0 0 9 0 0 0 10 0 0 11 0 0, yI 0 (List.replicate (tS a1) 0), yI 0 (List.replicate (tP a1) 0)] = true)
      have q12 := (e9 : L24_4_e x6 (tS a1) (tP a1) a1 (lS a1) x3 (List.replicate (tP a1) 0) 0 0 ([]) 0 (List.replicate (tS a1) 0) = some ((.brk 0), F24_d1 g9 x6 a1 x3 x9_0 x9_1 x9_2 x9_3))
      refine bn h fun x10 h10 h => ?_
      have q13 := ((idx_sl h10) : idxA 1 (.sl 13 0 1 0 (tS a1)) (i6 a1.start) = some (.rp 13 0 1 x10 0))
      refine bn h fun x11 h11 h => ?_
      have q14 := ((ld_row rfl h11 rfl) : ldA [bG a1, yS0, yP0, yF0, yW0, cG 1 0 0 2 0 0 0 3 0 0 4 0 0, yB0, .cells 83 [ls 1 eBool x3], yS x9_0 x9_1, yP0, yF0, yW0, cG 8 x9_0 x9_2 9 0 0 0 10 0 0 11 0 0, yI 0 x9_3, yI 0 (List.replicate (tP a1) 0)] .false 1 (.rp 13 0 1 x10 0) = some (i6 x11))
      refine bn h fun r12 h12 h => ?_
      cases r12 with
      | k0 x12_0 x12_1 x12_2 x12_3 =>
       obtain ⟨g12, e12⟩ := L24_3_run x6 (tS a1) (tP a1) a1 (lP a1) x3 x9_0 x9_1 x9_2 x11 x9_3 (0, 0, [], 0, (List.replicate (tP a1) 0)) _ h12
       have q16 := ((oK (ac (ar (ar (ar (ar (ac (ar (ac (ar (ar (ar (ar (ac (ar (ar rfl)))))))))))))))) : okT 15 [bG a1, yS0, yP0, yF0, yW0, cG 1 0 0 2 0 0 0 3 0 0 4 0 0, yB0, .cells 83 [ls 1 eBool x3], yS x9_0 x9_1, yP0, yF0, yW0, cG 8 x9_0 x9_2 9 0 0 x11 10 0 0 11 0 0, yI 0 x9_3, yI 0 (List.replicate (tP a1) 0)] = true)
       have q17 := (e12 : L24_3_e x6 (tS a1) (tP a1) a1 (lP a1) x3 x9_0 x9_1 x9_2 x11 x9_3 0 0 ([]) 0 (List.replicate (tP a1) 0) = some ((.brk 2), F24_d2 g12 x6 a1 x3 x9_0 x9_1 x12_0 x12_1 x9_2 x12_2 x11 x9_3 x12_3))
       refine bn h fun r13 h13 h => ?_
       cases r13 with
       | k0 x13_0 x13_1 x13_2 =>
        obtain ⟨g13, e13⟩ := L24_1_2_run (tS a1) (tP a1) a1 (lF a1) x3 x9_0 x9_1 x12_0 x12_1 x9_2 x12_2 x11 x9_3 x12_3 (0, 0, [], 0) _ h13
        have q19 := ((oK (ac (ar (ar (ar (ar (ac (ar (ac (ar (ar (ar (ar (ac (ar (ar rfl)))))))))))))))) : okT 15 [bG a1, yS0, yP0, yF0, yW0, cG 1 0 0 2 0 0 0 3 0 0 4 0 0, yB0, .cells 83 [ls 1 eBool x3], yS x9_0 x9_1, yP x12_0 x12_1, yF0, yW0, cG 8 x9_0 x9_2 9 x12_0 x12_2 x11 10 0 0 11 0 0, yI 0 x9_3, yI 0 x12_3] = true)
        have q20 := (e13 : L24_1_2_e (tS a1) (tP a1) a1 (lF a1) x3 x9_0 x9_1 x12_0 x12_1 x9_2 x12_2 x11 x9_3 x12_3 0 0 ([]) 0 = some ((.brk 6), F24_d3 g13 a1 x3 x9_0 x9_1 x12_0 x12_1 x13_0 x13_1 x9_2 x12_2 x11 x13_2 x9_3 x12_3))
        refine bn h fun r14 h14 h => ?_
        cases r14 with
        | k0 x14_0 x14_1 x14_2 =>
         obtain ⟨g14, e14⟩ := L24_0_2_run (tS a1) a1 (lW a1) x3 x9_0 x9_1 x12_0 x12_1 x13_0 x13_1 x9_2 x12_2 x11 x13_2 x9_3 x12_3 (0, 0, [], 0) _ h14
         have q22 := ((oK (ac (ar (ar (ar (ar (ac (ar (ac (ar (ar (ar (ar (ac (ar (ar rfl)))))))))))))))) : okT 15 [bG a1, yS0, yP0, yF0, yW0, cG 1 0 0 2 0 0 0 3 0 0 4 0 0, yB0, .cells 83 [ls 1 eBool x3], yS x9_0 x9_1, yP x12_0 x12_1, yF x13_0 x13_1, yW0, cG 8 x9_0 x9_2 9 x12_0 x12_2 x11 10 x13_0 x13_2 11 0 0, yI 0 x9_3, yI 0 x12_3] = true)
         have q23 := (e14 : L24_0_2_e (tS a1) a1 (lW a1) x3 x9_0 x9_1 x12_0 x12_1 x13_0 x13_1 x9_2 x12_2 x11 x13_2 x9_3 x12_3 0 0 ([]) 0 = some ((.brk 8), F24_d4 g14 a1 x3 x9_0 x9_1 x12_0 x12_1 x13_0 x13_1 x14_0 x14_1 x9_2 x12_2 x11 x13_2 x14_2 x9_3 x12_3))
         refine bi h ?_ ?_ <;> intro h15 h
         ·
          refine bi h ?_ ?_ <;> intro h16 h
          ·
           refine bi h ?_ ?_ <;> intro h17 h
           ·
            refine bi h ?_ ?_ <;> intro h18 h
            ·
             rw [← sj h]
             exact fpo (v := (.tup [(.agg [.sl 8 x9_0 1 0 x9_2, .sl 9 x12_0 7 0 x12_2, i6 x11, .sl 10 x13_0 3 0 x13_2, .sl 11 x14_0 5 0 x14_2]), i6 0])) (h' := [bG a1, yS0, yP0, yF0, yW0, cG 8 x9_0 x9_2 9 x12_0 x12_2 x11 10 x13_0 x13_2 11 x14_0 x14_2, yB0, .cells 83 [ls 1 eBool x3], yS x9_0 x9_1, yP x12_0 x12_1, yF x13_0 x13_1, yW x14_0 x14_1, cG 8 x9_0 x9_2 9 x12_0 x12_2 x11 10 x13_0 x13_2 11 x14_0 x14_2, yI 0 x9_3, yI 0 x12_3]) ([(25, .v (i6 x1)), (27, .d false), (31, .v (ls 1 eBool x3)), (35, .v (.ro [.val (.bool x4)])), (36, .d true), (42, .v (ls 1 eBool x6)), (45, .v (i6 (lS a1)))] ++ ((F24_c0 a1) ++ ((F24_c1 a1) ++ ((F24_c2 g9 x6 a1 x3 x9_0 x9_1 x9_2 x9_3) ++ ([(82, .v (.rp 13 0 1 x10 0)), (83, .v (i6 x11)), (87, .v (i6 (lP a1)))] ++ ((F24_c3 g12 x6 a1 x3 x9_0 x9_1 x12_0 x12_1 x9_2 x12_2 x11 x9_3 x12_3) ++ ((F24_c4 g13 a1 x3 x9_0 x9_1 x12_0 x12_1 x13_0 x13_1 x9_2 x12_2 x11 x13_2 x9_3 x12_3) ++ ((F24_c5 g14 a1 x3 x9_0 x9_1 x12_0 x12_1 x13_0 x13_1 x14_0 x14_1 x9_2 x12_2 x11 x13_2 x14_2 x9_3 x12_3) ++ [(6000, .d true)])))))))) (apc q0 (av h2 (apc q2 (apc (ig eBool 1 .i64 h4) (av h5 (apc q5 (apc (lg a1.sorts eStr 1) (apc q7 (apc (lg a1.prods eProd 7) (apc q9 (apc (lg a1.sorts eStr 1) (apc q11 (apc q12 (apc q13 (apc q14 (apc (lg a1.prods eProd 7) (apc q16 (apc q17 (apc (lg a1.forbid eForb 3) (apc q19 (apc q20 (apc (lg a1.follow eFoll 5) (apc q22 (apc q23 apn)))))))))))))))))))))))) (purA_tup (purAs_cons (purA_agg (purAs_cons (purA_sl (e := eStr) rfl h15) (purAs_cons (purA_sl (e := eProd) rfl h16) (purAs_cons rfl (purAs_cons (purA_sl (e := eForb) rfl h17) (purAs_cons (purA_sl (e := eFoll) rfl h18) purAs_nil)))))) (purAs_cons rfl purAs_nil))) (by kernel_rfl)
            ·
             cases h
           ·
            cases h
          ·
           cases h
         ·
          cases h
    ·
     cases h
   ·
    cases h
  ·
   rw [← sj h]
   exact fpr [(25, .v (i6 x1)), (27, .d false), (31, .v (ls 1 eBool x3)), (35, .v (.ro [.val (.bool x4)])), (36, .d false)] (apc q0 (av h2 (apc q2 (apc (ig eBool 1 .i64 h4) (av h5 apn))))) rfl (by kernel_rfl)
inductive E_L18_4 where
  | k0
  | k1
section
variable (a1 a2 : GramD)
def L18_4 (v1 : Int) : Option (E_L18_4 ⊕ (Int)) :=
  (bif (decide (v1 < (a1.sorts.length : Int))) then ((getI a1.sorts v1).bind fun x2 => ((getI a2.sorts v1).bind fun x3 => (bif (!(x2.toList == x3.toList)) then (some (.inl (.k0))) else (some (.inr ((IntKind.wrap .i64 (v1 + 1)))))))) else (some (.inl (.k1))))
def L18_4_s (v1 : Int) : St := ⟨fr 191 ug [(2, .ptr 0 0), (3, .ptr 1 0), (5, i6 v1)], [bG a1, bG a2]⟩
abbrev L18_4_e (v1 : Int) := evH prg 2 [2, 3, 5] ir18_l4 (L18_4_s a1 a2 v1)
def L18_4_x (e : E_L18_4) (r : Option (Out × St)) : Prop := match e with | .k0 => ∃ g y, r = some (.ret, ⟨fr 191 g [(4, vb false)], y⟩) | .k1 => ∃ g, r = some ((.brk 0), ⟨fr 191 g [(2, .ptr 0 0), (3, .ptr 1 0)], [bG a1, bG a2]⟩)
theorem L18_4_ok (v1 : Int) {r : E_L18_4 ⊕ (Int)} (h : L18_4 a1 a2 v1 = some r) : OkR (fun e => L18_4_x a1 a2 e (L18_4_e a1 a2 v1)) (fun s => L18_4_e a1 a2 v1 = L18_4_e a1 a2 s) r := by
 unfold L18_4 at h
 refine bi h ?_ ?_ <;> intro h1 h
 ·
  refine bn h fun x2 h2 h => ?_
  refine bn h fun x3 h3 h => ?_
  refine bi h ?_ ?_ <;> intro h4 h
  ·
   rw [← sj h]
   exact xretY [(56, .v (i6 (lS a1))), (57, .d true), (63, .v (.ro [.val (.string x2)])), (68, .v (.ro [.val (.string x3)])), (70, .d true), (6000, .d true)] (apc (lg a1.sorts eStr 1) (av h1 (apc (ig eStr 1 .i64 h2) (apc (ig eStr 1 .i64 h3) (av h4 apn))))) (by kernel_rfl)
  ·
   rw [← sj h]
   exact rnd [(56, .v (i6 (lS a1))), (57, .d true), (63, .v (.ro [.val (.string x2)])), (68, .v (.ro [.val (.string x3)])), (70, .d false), (6000, .d true)] (apc (lg a1.sorts eStr 1) (av h1 (apc (ig eStr 1 .i64 h2) (apc (ig eStr 1 .i64 h3) (av h4 (apc ((oK (ac (ac rfl))) : okT 2 [bG a1, bG a2] = true) apn)))))) (by kernel_rfl)
 ·
  rw [← sj h]
  exact xbrk [(56, .v (i6 (lS a1))), (57, .d false), (6000, .d true)] (apc (lg a1.sorts eStr 1) (av h1 apn)) (by kernel_rfl)
theorem L18_4_run (s0 : Int) (e : E_L18_4) (h : runL (fun s => L18_4 a1 a2 s) s0 = some e) : L18_4_x a1 a2 e (L18_4_e a1 a2 s0) := by
  have q := @loop_sound' (Int) E_L18_4 (fun s => L18_4 a1 a2 s) (fun s => L18_4_e a1 a2 s) (L18_4_x a1 a2) (fun s r h => L18_4_ok a1 a2 s h) s0 e h
  exact q
end
inductive E_L18_2_2 where
  | k0
  | k1
section
variable (a1 : Int) (a2 a3 : GramD) (a4 a5 : ProdD)
def L18_2_2 (v1 : Int) : Option (E_L18_2_2 ⊕ (Int)) :=
  (bif (decide (v1 < (a4.right.length : Int))) then ((getI a4.right v1).bind fun x2 => ((getI a5.right v1).bind fun x3 => (bif (!((x2.kind == x3.kind) && ((x2.a == x3.a) && ((x2.b == x3.b) && ((x2.c == x3.c) && ((x2.d == x3.d) && ((x2.sort == x3.sort) && true))))))) then (some (.inl (.k0))) else (some (.inr ((IntKind.wrap .i64 (v1 + 1)))))))) else (some (.inl (.k1))))
def L18_2_2_s (v1 : Int) : St := ⟨fr 191 ug [(2, .ptr 0 0), (3, .ptr 1 0), (6, i6 a1), (7, .ptr 3 0), (8, .ptr 5 0), (9, i6 v1)], [bG a2, bG a3, yY0, bP a4, yY0, bP a5]⟩
abbrev L18_2_2_e (v1 : Int) := evH prg 6 [2, 3, 6, 7, 8, 9] ir18_l2 (L18_2_2_s a1 a2 a3 a4 a5 v1)
def L18_2_2_x (e : E_L18_2_2) (r : Option (Out × St)) : Prop := match e with | .k0 => ∃ g y, r = some (.ret, ⟨fr 191 g [(4, vb false)], y⟩) | .k1 => ∃ g, r = some ((.brk 4), ⟨fr 191 g [(2, .ptr 0 0), (3, .ptr 1 0), (6, i6 a1), (7, .ptr 3 0), (8, .ptr 5 0)], [bG a2, bG a3, yY0, bP a4, yY0, bP a5]⟩)
theorem L18_2_2_ok (v1 : Int) {r : E_L18_2_2 ⊕ (Int)} (h : L18_2_2 a4 a5 v1 = some r) : OkR (fun e => L18_2_2_x a1 a2 a3 a4 a5 e (L18_2_2_e a1 a2 a3 a4 a5 v1)) (fun s => L18_2_2_e a1 a2 a3 a4 a5 v1 = L18_2_2_e a1 a2 a3 a4 a5 s) r := by
 unfold L18_2_2 at h
 refine bi h ?_ ?_ <;> intro h1 h
 ·
  refine bn h fun x2 h2 h => ?_
  refine bn h fun x3 h3 h => ?_
  refine bi h ?_ ?_ <;> intro h4 h
  ·
   rw [← sj h]
   exact xretY [(140, .v (i6 (a4.right.length : Int))), (141, .d true), (147, .v (.ro (eSym x2))), (152, .v (.ro (eSym x3))), (154, .d true), (6000, .d true)] (apc (lg a4.right eSym 6) (av h1 (apc (ig eSym 6 .i64 h2) (apc (ig eSym 6 .i64 h3) (av h4 apn))))) (by kernel_rfl)
  ·
   rw [← sj h]
   exact rnd [(140, .v (i6 (a4.right.length : Int))), (141, .d true), (147, .v (.ro (eSym x2))), (152, .v (.ro (eSym x3))), (154, .d false), (6000, .d true)] (apc (lg a4.right eSym 6) (av h1 (apc (ig eSym 6 .i64 h2) (apc (ig eSym 6 .i64 h3) (av h4 (apc ((oK (ac (ac (ar (ac (ar (ac rfl))))))) : okT 6 [bG a2, bG a3, yY0, bP a4, yY0, bP a5] = true) apn)))))) (by kernel_rfl)
 ·
  rw [← sj h]
  exact xbrk [(140, .v (i6 (a4.right.length : Int))), (141, .d false), (6000, .d true)] (apc (lg a4.right eSym 6) (av h1 apn)) (by kernel_rfl)
theorem L18_2_2_run (s0 : Int) (e : E_L18_2_2) (h : runL (fun s => L18_2_2 a4 a5 s) s0 = some e) : L18_2_2_x a1 a2 a3 a4 a5 e (L18_2_2_e a1 a2 a3 a4 a5 s0) := by
  have q := @loop_sound' (Int) E_L18_2_2 (fun s => L18_2_2 a4 a5 s) (fun s => L18_2_2_e a1 a2 a3 a4 a5 s) (L18_2_2_x a1 a2 a3 a4 a5) (fun s r h => L18_2_2_ok a1 a2 a3 a4 a5 s h) s0 e h
  exact q
end
inductive E_L18_3 where
  | k0
  | k1
section
variable (a1 a2 : GramD)
def L18_3 (v1 : Int) : Option (E_L18_3 ⊕ (Int)) :=
  (bif (decide (v1 < (a1.prods.length : Int))) then ((getI a1.prods v1).bind fun x2 => ((getI a2.prods v1).bind fun x3 => (bif (x2.left != x3.left) then (some (.inl (.k0))) else (bif (!(x2.cons.toList == x3.cons.toList)) then (some (.inl (.k0))) else (bif (x2.role != x3.role) then (some (.inl (.k0))) else (bif (!((x2.prefer == x3.prefer) && true)) then (some (.inl (.k0))) else (bif (!((x2.avoid == x3.avoid) && true)) then (some (.inl (.k0))) else (bif (x2.frm != x3.frm) then (some (.inl (.k0))) else (bif ((x2.right.length : Int) != (x3.right.length : Int)) then (some (.inl (.k0))) else ((runL (fun s => L18_2_2 x2 x3 s) 0).bind fun r11 => match r11 with | .k0 => (some (.inl (.k0))) | .k1 => (some (.inr ((IntKind.wrap .i64 (v1 + 1))))))))))))))) else (some (.inl (.k1))))
def L18_3_s (v1 : Int) : St := ⟨fr 191 ug [(2, .ptr 0 0), (3, .ptr 1 0), (6, i6 v1)], [bG a1, bG a2]⟩
abbrev L18_3_e (v1 : Int) := evH prg 2 [2, 3, 6] ir18_l3 (L18_3_s a1 a2 v1)
def L18_3_x (e : E_L18_3) (r : Option (Out × St)) : Prop := match e with | .k0 => ∃ g y, r = some (.ret, ⟨fr 191 g [(4, vb false)], y⟩) | .k1 => ∃ g, r = some ((.brk 2), ⟨fr 191 g [(2, .ptr 0 0), (3, .ptr 1 0)], [bG a1, bG a2]⟩)
abbrev L18_3_d0 (x2 x3 : ProdD) : List AB := [bG a1, bG a2, yY0, bP x2, yY0, bP x3]
abbrev L18_3_d1 (g11 : Nat → AV) (v1 : Int) (x2 x3 : ProdD) : St := ⟨fr 191 g11 [(2, .ptr 0 0), (3, .ptr 1 0), (6, i6 v1), (7, .ptr 3 0), (8, .ptr 5 0)], [bG a1, bG a2, yY0, bP x2, yY0, bP x3]⟩
abbrev L18_3_c0 (x2 x3 : ProdD) : List (Nat × Hint) := [(126, .d false), (131, .v (i6 (x2.right.length : Int))), (134, .v (i6 (x3.right.length : Int)))]
theorem L18_3_ok (v1 : Int) {r : E_L18_3 ⊕ (Int)} (h : L18_3 a1 a2 v1 = some r) : OkR (fun e => L18_3_x a1 a2 e (L18_3_e a1 a2 v1)) (fun s => L18_3_e a1 a2 v1 = L18_3_e a1 a2 s) r := by
 unfold L18_3 at h
 refine bi h ?_ ?_ <;> intro h1 h
 ·
  refine bn h fun x2 h2 h => ?_
  refine bn h fun x3 h3 h => ?_
  refine bi h ?_ ?_ <;> intro h4 h
  ·
   rw [← sj h]
   exact xretY [(74, .v (i6 (lP a1))), (75, .d true), (81, .v (.ro (eProd x2))), (86, .v (.ro (eProd x3))), (92, .d true), (6000, .d true)] (apc (lg a1.prods eProd 7) (av h1 (apc (ig eProd 7 .i64 h2) (apc (ig eProd 7 .i64 h3) (av h4 apn))))) (by kernel_rfl)
  ·
   refine bi h ?_ ?_ <;> intro h5 h
   ·
    rw [← sj h]
    exact xretY [(74, .v (i6 (lP a1))), (75, .d true), (81, .v (.ro (eProd x2))), (86, .v (.ro (eProd x3))), (92, .d false), (98, .d true), (6000, .d true)] (apc (lg a1.prods eProd 7) (av h1 (apc (ig eProd 7 .i64 h2) (apc (ig eProd 7 .i64 h3) (av h4 (av h5 apn)))))) (by kernel_rfl)
   ·
    refine bi h ?_ ?_ <;> intro h6 h
    ·
     rw [← sj h]
     exact xretY [(74, .v (i6 (lP a1))), (75, .d true), (81, .v (.ro (eProd x2))), (86, .v (.ro (eProd x3))), (92, .d false), (98, .d false), (105, .d true), (6000, .d true)] (apc (lg a1.prods eProd 7) (av h1 (apc (ig eProd 7 .i64 h2) (apc (ig eProd 7 .i64 h3) (av h4 (av h5 (av h6 apn))))))) (by kernel_rfl)
    ·
     refine bi h ?_ ?_ <;> intro h7 h
     ·
      rw [← sj h]
      exact xretY [(74, .v (i6 (lP a1))), (75, .d true), (81, .v (.ro (eProd x2))), (86, .v (.ro (eProd x3))), (92, .d false), (98, .d false), (105, .d false), (112, .d true), (6000, .d true)] (apc (lg a1.prods eProd 7) (av h1 (apc (ig eProd 7 .i64 h2) (apc (ig eProd 7 .i64 h3) (av h4 (av h5 (av h6 (av h7 apn)))))))) (by kernel_rfl)
     ·
      refine bi h ?_ ?_ <;> intro h8 h
      ·
       rw [← sj h]
       exact xretY [(74, .v (i6 (lP a1))), (75, .d true), (81, .v (.ro (eProd x2))), (86, .v (.ro (eProd x3))), (92, .d false), (98, .d false), (105, .d false), (112, .d false), (119, .d true), (6000, .d true)] (apc (lg a1.prods eProd 7) (av h1 (apc (ig eProd 7 .i64 h2) (apc (ig eProd 7 .i64 h3) (av h4 (av h5 (av h6 (av h7 (av h8 apn))))))))) (by kernel_rfl)
      ·
       refine bi h ?_ ?_ <;> intro h9 h
       ·
        rw [← sj h]
        exact xretY [(74, .v (i6 (lP a1))), (75, .d true), (81, .v (.ro (eProd x2))), (86, .v (.ro (eProd x3))), (92, .d false), (98, .d false), (105, .d false), (112, .d false), (119, .d false), (126, .d true), (6000, .d true)] (apc (lg a1.prods eProd 7) (av h1 (apc (ig eProd 7 .i64 h2) (apc (ig eProd 7 .i64 h3) (av h4 (av h5 (av h6 (av h7 (av h8 (av h9 apn)))))))))) (by kernel_rfl)
       ·
        refine bi h ?_ ?_ <;> intro h10 h
        ·
         rw [← sj h]
         exact xretY ([(74, .v (i6 (lP a1))), (75, .d true), (81, .v (.ro (eProd x2))), (86, .v (.ro (eProd x3))), (92, .d false), (98, .d false), (105, .d false), (112, .d false), (119, .d false)] ++ ((L18_3_c0 x2 x3) ++ [(135, .d true), (6000, .d true)])) (apc (lg a1.prods eProd 7) (av h1 (apc (ig eProd 7 .i64 h2) (apc (ig eProd 7 .i64 h3) (av h4 (av h5 (av h6 (av h7 (av h8 (av h9 (apc (lg x2.right eSym 6) (apc (lg x3.right eSym 6) (av h10 apn))))))))))))) (by kernel_rfl)
        ·
         refine bn h fun r11 h11 h => ?_
         cases r11 with
         | k0 =>
          obtain ⟨g11, y11, e11⟩ := L18_2_2_run v1 a1 a2 x2 x3 0 _ h11
          rw [← sj h]
          exact xretY ([(74, .v (i6 (lP a1))), (75, .d true), (81, .v (.ro (eProd x2))), (86, .v (.ro (eProd x3))), (92, .d false), (98, .d false), (105, .d false), (112, .d false), (119, .d false)] ++ ((L18_3_c0 x2 x3) ++ [(135, .d false), (2004, .l .ret ⟨fr 191 g11 [(4, vb false)], y11⟩), (6000, .d true)])) (apc (lg a1.prods eProd 7) (av h1 (apc (ig eProd 7 .i64 h2) (apc (ig eProd 7 .i64 h3) (av h4 (av h5 (av h6 (av h7 (av h8 (av h9 (apc (lg x2.right eSym 6) (apc (lg x3.right eSym 6) (av h10 (apc ((oK (ac (ac (ar (ac (ar (ac rfl))))))) : okT 6 (L18_3_d0 a1 a2 x2 x3) = true) (apc (e11 : L18_2_2_e v1 a1 a2 x2 x3 0 = some (.ret, ⟨fr 191 g11 [(4, vb false)], y11⟩)) apn))))))))))))))) (by kernel_rfl)
         | k1 =>
          obtain ⟨g11, e11⟩ := L18_2_2_run v1 a1 a2 x2 x3 0 _ h11
          rw [← sj h]
          exact rnd ([(74, .v (i6 (lP a1))), (75, .d true), (81, .v (.ro (eProd x2))), (86, .v (.ro (eProd x3))), (92, .d false), (98, .d false), (105, .d false), (112, .d false), (119, .d false)] ++ ((L18_3_c0 x2 x3) ++ [(135, .d false), (2004, .l (.brk 4) (L18_3_d1 a1 a2 g11 v1 x2 x3)), (6000, .d true)])) (apc (lg a1.prods eProd 7) (av h1 (apc (ig eProd 7 .i64 h2) (apc (ig eProd 7 .i64 h3) (av h4 (av h5 (av h6 (av h7 (av h8 (av h9 (apc (lg x2.right eSym 6) (apc (lg x3.right eSym 6) (av h10 (apc ((oK (ac (ac (ar (ac (ar (ac rfl))))))) : okT 6 (L18_3_d0 a1 a2 x2 x3) = true) (apc (e11 : L18_2_2_e v1 a1 a2 x2 x3 0 = some ((.brk 4), L18_3_d1 a1 a2 g11 v1 x2 x3)) (apc ((oK (ac (ac rfl))) : okT 2 (L18_3_d0 a1 a2 x2 x3) = true) apn)))))))))))))))) (by kernel_rfl)
 ·
  rw [← sj h]
  exact xbrk [(74, .v (i6 (lP a1))), (75, .d false), (6000, .d true)] (apc (lg a1.prods eProd 7) (av h1 apn)) (by kernel_rfl)
theorem L18_3_run (s0 : Int) (e : E_L18_3) (h : runL (fun s => L18_3 a1 a2 s) s0 = some e) : L18_3_x a1 a2 e (L18_3_e a1 a2 s0) := by
  have q := @loop_sound' (Int) E_L18_3 (fun s => L18_3 a1 a2 s) (fun s => L18_3_e a1 a2 s) (L18_3_x a1 a2) (fun s r h => L18_3_ok a1 a2 s h) s0 e h
  exact q
end
inductive E_L18_1 where
  | k0
  | k1
section
variable (a1 a2 : GramD)
def L18_1 (v1 : Int) : Option (E_L18_1 ⊕ (Int)) :=
  (bif (decide (v1 < (a1.forbid.length : Int))) then ((getI a1.forbid v1).bind fun x2 => ((getI a2.forbid v1).bind fun x3 => (bif (!((x2.parent == x3.parent) && ((x2.at_ == x3.at_) && ((x2.child == x3.child) && true)))) then (some (.inl (.k0))) else (some (.inr ((IntKind.wrap .i64 (v1 + 1)))))))) else (some (.inl (.k1))))
def L18_1_s (v1 : Int) : St := ⟨fr 191 ug [(2, .ptr 0 0), (3, .ptr 1 0), (10, i6 v1)], [bG a1, bG a2]⟩
abbrev L18_1_e (v1 : Int) := evH prg 2 [2, 3, 10] ir18_l1 (L18_1_s a1 a2 v1)
def L18_1_x (e : E_L18_1) (r : Option (Out × St)) : Prop := match e with | .k0 => ∃ g y, r = some (.ret, ⟨fr 191 g [(4, vb false)], y⟩) | .k1 => ∃ g, r = some ((.brk 6), ⟨fr 191 g [(2, .ptr 0 0), (3, .ptr 1 0)], [bG a1, bG a2]⟩)
theorem L18_1_ok (v1 : Int) {r : E_L18_1 ⊕ (Int)} (h : L18_1 a1 a2 v1 = some r) : OkR (fun e => L18_1_x a1 a2 e (L18_1_e a1 a2 v1)) (fun s => L18_1_e a1 a2 v1 = L18_1_e a1 a2 s) r := by
 unfold L18_1 at h
 refine bi h ?_ ?_ <;> intro h1 h
 ·
  refine bn h fun x2 h2 h => ?_
  refine bn h fun x3 h3 h => ?_
  refine bi h ?_ ?_ <;> intro h4 h
  ·
   rw [← sj h]
   exact xretY [(158, .v (i6 (lF a1))), (159, .d true), (165, .v (.ro (eForb x2))), (170, .v (.ro (eForb x3))), (172, .d true), (6000, .d true)] (apc (lg a1.forbid eForb 3) (av h1 (apc (ig eForb 3 .i64 h2) (apc (ig eForb 3 .i64 h3) (av h4 apn))))) (by kernel_rfl)
  ·
   rw [← sj h]
   exact rnd [(158, .v (i6 (lF a1))), (159, .d true), (165, .v (.ro (eForb x2))), (170, .v (.ro (eForb x3))), (172, .d false), (6000, .d true)] (apc (lg a1.forbid eForb 3) (av h1 (apc (ig eForb 3 .i64 h2) (apc (ig eForb 3 .i64 h3) (av h4 (apc ((oK (ac (ac rfl))) : okT 2 [bG a1, bG a2] = true) apn)))))) (by kernel_rfl)
 ·
  rw [← sj h]
  exact xbrk [(158, .v (i6 (lF a1))), (159, .d false), (6000, .d true)] (apc (lg a1.forbid eForb 3) (av h1 apn)) (by kernel_rfl)
theorem L18_1_run (s0 : Int) (e : E_L18_1) (h : runL (fun s => L18_1 a1 a2 s) s0 = some e) : L18_1_x a1 a2 e (L18_1_e a1 a2 s0) := by
  have q := @loop_sound' (Int) E_L18_1 (fun s => L18_1 a1 a2 s) (fun s => L18_1_e a1 a2 s) (L18_1_x a1 a2) (fun s r h => L18_1_ok a1 a2 s h) s0 e h
  exact q
end
inductive E_L18_0 where
  | k0
  | k1
section
variable (a1 a2 : GramD)
def L18_0 (v1 : Int) : Option (E_L18_0 ⊕ (Int)) :=
  (bif (decide (v1 < (a1.follow.length : Int))) then ((getI a1.follow v1).bind fun x2 => ((getI a2.follow v1).bind fun x3 => (bif (!((x2.sort == x3.sort) && ((x2.a == x3.a) && ((x2.b == x3.b) && ((x2.c == x3.c) && ((x2.d == x3.d) && true)))))) then (some (.inl (.k0))) else (some (.inr ((IntKind.wrap .i64 (v1 + 1)))))))) else (some (.inl (.k1))))
def L18_0_s (v1 : Int) : St := ⟨fr 191 ug [(2, .ptr 0 0), (3, .ptr 1 0), (11, i6 v1)], [bG a1, bG a2]⟩
abbrev L18_0_e (v1 : Int) := evH prg 2 [2, 3, 11] ir18_l0 (L18_0_s a1 a2 v1)
def L18_0_x (e : E_L18_0) (r : Option (Out × St)) : Prop := match e with | .k0 => ∃ g y, r = some (.ret, ⟨fr 191 g [(4, vb false)], y⟩) | .k1 => ∃ g, r = some ((.brk 8), ⟨fr 191 g [(2, .ptr 0 0), (3, .ptr 1 0)], [bG a1, bG a2]⟩)
theorem L18_0_ok (v1 : Int) {r : E_L18_0 ⊕ (Int)} (h : L18_0 a1 a2 v1 = some r) : OkR (fun e => L18_0_x a1 a2 e (L18_0_e a1 a2 v1)) (fun s => L18_0_e a1 a2 v1 = L18_0_e a1 a2 s) r := by
 unfold L18_0 at h
 refine bi h ?_ ?_ <;> intro h1 h
 ·
  refine bn h fun x2 h2 h => ?_
  refine bn h fun x3 h3 h => ?_
  refine bi h ?_ ?_ <;> intro h4 h
  ·
   rw [← sj h]
   exact xretY [(176, .v (i6 (lW a1))), (177, .d true), (183, .v (.ro (eFoll x2))), (188, .v (.ro (eFoll x3))), (190, .d true), (6000, .d true)] (apc (lg a1.follow eFoll 5) (av h1 (apc (ig eFoll 5 .i64 h2) (apc (ig eFoll 5 .i64 h3) (av h4 apn))))) (by kernel_rfl)
  ·
   rw [← sj h]
   exact rnd [(176, .v (i6 (lW a1))), (177, .d true), (183, .v (.ro (eFoll x2))), (188, .v (.ro (eFoll x3))), (190, .d false), (6000, .d true)] (apc (lg a1.follow eFoll 5) (av h1 (apc (ig eFoll 5 .i64 h2) (apc (ig eFoll 5 .i64 h3) (av h4 (apc ((oK (ac (ac rfl))) : okT 2 [bG a1, bG a2] = true) apn)))))) (by kernel_rfl)
 ·
  rw [← sj h]
  exact xbrk [(176, .v (i6 (lW a1))), (177, .d false), (6000, .d true)] (apc (lg a1.follow eFoll 5) (av h1 apn)) (by kernel_rfl)
theorem L18_0_run (s0 : Int) (e : E_L18_0) (h : runL (fun s => L18_0 a1 a2 s) s0 = some e) : L18_0_x a1 a2 e (L18_0_e a1 a2 s0) := by
  have q := @loop_sound' (Int) E_L18_0 (fun s => L18_0 a1 a2 s) (fun s => L18_0_e a1 a2 s) (L18_0_x a1 a2) (fun s r h => L18_0_ok a1 a2 s h) s0 e h
  exact q
end
def F18_v (a1 a2 : GramD) (x0 : Bool) : AV := (vb x0)
def F18 (a1 a2 : GramD) : Option Bool :=
  (bif (a1.start != a2.start) then (some false) else (bif ((a1.sorts.length : Int) != (a2.sorts.length : Int)) then (some false) else (bif ((a1.prods.length : Int) != (a2.prods.length : Int)) then (some false) else (bif ((a1.forbid.length : Int) != (a2.forbid.length : Int)) then (some false) else (bif ((a1.follow.length : Int) != (a2.follow.length : Int)) then (some false) else ((runL (fun s => L18_4 a1 a2 s) 0).bind fun r6 => match r6 with | .k0 => (some false) | .k1 => ((runL (fun s => L18_3 a1 a2 s) 0).bind fun r7 => match r7 with | .k0 => (some false) | .k1 => ((runL (fun s => L18_1 a1 a2 s) 0).bind fun r8 => match r8 with | .k0 => (some false) | .k1 => ((runL (fun s => L18_0 a1 a2 s) 0).bind fun r9 => match r9 with | .k0 => (some false) | .k1 => (some true))))))))))
abbrev F18_d0 (g6 : Nat → AV) (a1 a2 : GramD) : St := ⟨fr 191 g6 [(2, .ptr 0 0), (3, .ptr 1 0)], [bG a1, bG a2]⟩
abbrev F18_d1 (g7 : Nat → AV) (a1 a2 : GramD) : St := ⟨fr 191 g7 [(2, .ptr 0 0), (3, .ptr 1 0)], [bG a1, bG a2]⟩
abbrev F18_d2 (g8 : Nat → AV) (a1 a2 : GramD) : St := ⟨fr 191 g8 [(2, .ptr 0 0), (3, .ptr 1 0)], [bG a1, bG a2]⟩
abbrev F18_d3 (g9 : Nat → AV) (a1 a2 : GramD) : St := ⟨fr 191 g9 [(2, .ptr 0 0), (3, .ptr 1 0)], [bG a1, bG a2]⟩
abbrev F18_c0 (a1 a2 : GramD) : List (Nat × Hint) := [(16, .d false), (20, .v (i6 (lS a1))), (23, .v (i6 (lS a2)))]
abbrev F18_c1 (a1 a2 : GramD) : List (Nat × Hint) := [(24, .d false), (29, .v (i6 (lP a1))), (32, .v (i6 (lP a2)))]
abbrev F18_c2 (a1 a2 : GramD) : List (Nat × Hint) := [(33, .d false), (38, .v (i6 (lF a1))), (41, .v (i6 (lF a2)))]
abbrev F18_c3 (a1 a2 : GramD) : List (Nat × Hint) := [(42, .d false), (47, .v (i6 (lW a1))), (50, .v (i6 (lW a2)))]
abbrev F18_c4 (g6 : Nat → AV) (a1 a2 : GramD) : List (Nat × Hint) := [(2000, .l (.brk 0) (F18_d0 g6 a1 a2))]
abbrev F18_c5 (g7 : Nat → AV) (a1 a2 : GramD) : List (Nat × Hint) := [(2002, .l (.brk 2) (F18_d1 g7 a1 a2))]
abbrev F18_c6 (g8 : Nat → AV) (a1 a2 : GramD) : List (Nat × Hint) := [(2006, .l (.brk 6) (F18_d2 g8 a1 a2))]
theorem F18_ok (a1 a2 : GramD) {r : Bool} (h : F18 a1 a2 = some r) : PR1 prg 18 [aG a1, aG a2] (F18_v a1 a2 r) := by
 unfold F18 at h
 refine bi h ?_ ?_ <;> intro h1 h
 ·
  rw [← sj h]
  exact fpr [(16, .d true)] (av h1 apn) rfl (by kernel_rfl)
 ·
  refine bi h ?_ ?_ <;> intro h2 h
  ·
   rw [← sj h]
   exact fpr ((F18_c0 a1 a2) ++ [(24, .d true)]) (av h1 (apc (lg a1.sorts eStr 1) (apc (lg a2.sorts eStr 1) (av h2 apn)))) rfl (by kernel_rfl)
  ·
   refine bi h ?_ ?_ <;> intro h3 h
   ·
    rw [← sj h]
    exact fpr ((F18_c0 a1 a2) ++ ((F18_c1 a1 a2) ++ [(33, .d true)])) (av h1 (apc (lg a1.sorts eStr 1) (apc (lg a2.sorts eStr 1) (av h2 (apc (lg a1.prods eProd 7) (apc (lg a2.prods eProd 7) (av h3 apn))))))) rfl (by kernel_rfl)
   ·
    refine bi h ?_ ?_ <;> intro h4 h
    ·
     rw [← sj h]
     exact fpr ((F18_c0 a1 a2) ++ ((F18_c1 a1 a2) ++ ((F18_c2 a1 a2) ++ [(42, .d true)]))) (av h1 (apc (lg a1.sorts eStr 1) (apc (lg a2.sorts eStr 1) (av h2 (apc (lg a1.prods eProd 7) (apc (lg a2.prods eProd 7) (av h3 (apc (lg a1.forbid eForb 3) (apc (lg a2.forbid eForb 3) (av h4 apn)))))))))) rfl (by kernel_rfl)
    ·
     refine bi h ?_ ?_ <;> intro h5 h
     ·
      rw [← sj h]
      exact fpr ((F18_c0 a1 a2) ++ ((F18_c1 a1 a2) ++ ((F18_c2 a1 a2) ++ ((F18_c3 a1 a2) ++ [(51, .d true)])))) (av h1 (apc (lg a1.sorts eStr 1) (apc (lg a2.sorts eStr 1) (av h2 (apc (lg a1.prods eProd 7) (apc (lg a2.prods eProd 7) (av h3 (apc (lg a1.forbid eForb 3) (apc (lg a2.forbid eForb 3) (av h4 (apc (lg a1.follow eFoll 5) (apc (lg a2.follow eFoll 5) (av h5 apn))))))))))))) rfl (by kernel_rfl)
     ·
      refine bn h fun r6 h6 h => ?_
      cases r6 with
      | k0 =>
       obtain ⟨g6, y6, e6⟩ := L18_4_run a1 a2 0 _ h6
       rw [← sj h]
       exact fpr ((F18_c0 a1 a2) ++ ((F18_c1 a1 a2) ++ ((F18_c2 a1 a2) ++ ((F18_c3 a1 a2) ++ [(51, .d false), (2000, .l .ret ⟨fr 191 g6 [(4, vb false)], y6⟩), (6000, .d true)])))) (av h1 (apc (lg a1.sorts eStr 1) (apc (lg a2.sorts eStr 1) (av h2 (apc (lg a1.prods eProd 7) (apc (lg a2.prods eProd 7) (av h3 (apc (lg a1.forbid eForb 3) (apc (lg a2.forbid eForb 3) (av h4 (apc (lg a1.follow eFoll 5) (apc (lg a2.follow eFoll 5) (av h5 (apc ((oK (ac (ac rfl))) : okT 2 [bG a1, bG a2] = true) (apc (e6 : L18_4_e a1 a2 0 = some (.ret, ⟨fr 191 g6 [(4, vb false)], y6⟩)) apn))))))))))))))) rfl (by kernel_rfl)
      | k1 =>
       obtain ⟨g6, e6⟩ := L18_4_run a1 a2 0 _ h6
       have q13 := ((oK (ac (ac rfl))) : okT 2 [bG a1, bG a2] = true)
       have q14 := (e6 : L18_4_e a1 a2 0 = some ((.brk 0), F18_d0 g6 a1 a2))
       refine bn h fun r7 h7 h => ?_
       cases r7 with
       | k0 =>
        obtain ⟨g7, y7, e7⟩ := L18_3_run a1 a2 0 _ h7
        rw [← sj h]
        exact fpr ((F18_c0 a1 a2) ++ ((F18_c1 a1 a2) ++ ((F18_c2 a1 a2) ++ ((F18_c3 a1 a2) ++ ([(51, .d false)] ++ ((F18_c4 g6 a1 a2) ++ [(2002, .l .ret ⟨fr 191 g7 [(4, vb false)], y7⟩), (6000, .d true)])))))) (av h1 (apc (lg a1.sorts eStr 1) (apc (lg a2.sorts eStr 1) (av h2 (apc (lg a1.prods eProd 7) (apc (lg a2.prods eProd 7) (av h3 (apc (lg a1.forbid eForb 3) (apc (lg a2.forbid eForb 3) (av h4 (apc (lg a1.follow eFoll 5) (apc (lg a2.follow eFoll 5) (av h5 (apc q13 (apc q14 (apc ((oK (ac (ac rfl))) : okT 2 [bG a1, bG a2] = true) (apc (e7 : L18_3_e a1 a2 0 = some (.ret, ⟨fr 191 g7 [(4, vb false)], y7⟩)) apn))))))))))))))))) rfl (by kernel_rfl)
       | k1 =>
        obtain ⟨g7, e7⟩ := L18_3_run a1 a2 0 _ h7
        have q15 := ((oK (ac (ac rfl))) : okT 2 [bG a1, bG a2] = true)
        have q16 := (e7 : L18_3_e a1 a2 0 = some ((.brk 2), F18_d1 g7 a1 a2))
        refine bn h fun r8 h8 h => ?_
        cases r8 with
        | k0 =>
         obtain ⟨g8, y8, e8⟩ := L18_1_run a1 a2 0 _ h8
         rw [← sj h]
         exact fpr ((F18_c0 a1 a2) ++ ((F18_c1 a1 a2) ++ ((F18_c2 a1 a2) ++ ((F18_c3 a1 a2) ++ ([(51, .d false)] ++ ((F18_c4 g6 a1 a2) ++ ((F18_c5 g7 a1 a2) ++ [(2006, .l .ret ⟨fr 191 g8 [(4, vb false)], y8⟩), (6000, .d true)]))))))) (av h1 (apc (lg a1.sorts eStr 1) (apc (lg a2.sorts eStr 1) (av h2 (apc (lg a1.prods eProd 7) (apc (lg a2.prods eProd 7) (av h3 (apc (lg a1.forbid eForb 3) (apc (lg a2.forbid eForb 3) (av h4 (apc (lg a1.follow eFoll 5) (apc (lg a2.follow eFoll 5) (av h5 (apc q13 (apc q14 (apc q15 (apc q16 (apc ((oK (ac (ac rfl))) : okT 2 [bG a1, bG a2] = true) (apc (e8 : L18_1_e a1 a2 0 = some (.ret, ⟨fr 191 g8 [(4, vb false)], y8⟩)) apn))))))))))))))))))) rfl (by kernel_rfl)
        | k1 =>
         obtain ⟨g8, e8⟩ := L18_1_run a1 a2 0 _ h8
         have q17 := ((oK (ac (ac rfl))) : okT 2 [bG a1, bG a2] = true)
         have q18 := (e8 : L18_1_e a1 a2 0 = some ((.brk 6), F18_d2 g8 a1 a2))
         refine bn h fun r9 h9 h => ?_
         cases r9 with
         | k0 =>
          obtain ⟨g9, y9, e9⟩ := L18_0_run a1 a2 0 _ h9
          rw [← sj h]
          exact fpr ((F18_c0 a1 a2) ++ ((F18_c1 a1 a2) ++ ((F18_c2 a1 a2) ++ ((F18_c3 a1 a2) ++ ([(51, .d false)] ++ ((F18_c4 g6 a1 a2) ++ ((F18_c5 g7 a1 a2) ++ ((F18_c6 g8 a1 a2) ++ [(2008, .l .ret ⟨fr 191 g9 [(4, vb false)], y9⟩), (6000, .d true)])))))))) (av h1 (apc (lg a1.sorts eStr 1) (apc (lg a2.sorts eStr 1) (av h2 (apc (lg a1.prods eProd 7) (apc (lg a2.prods eProd 7) (av h3 (apc (lg a1.forbid eForb 3) (apc (lg a2.forbid eForb 3) (av h4 (apc (lg a1.follow eFoll 5) (apc (lg a2.follow eFoll 5) (av h5 (apc q13 (apc q14 (apc q15 (apc q16 (apc q17 (apc q18 (apc ((oK (ac (ac rfl))) : okT 2 [bG a1, bG a2] = true) (apc (e9 : L18_0_e a1 a2 0 = some (.ret, ⟨fr 191 g9 [(4, vb false)], y9⟩)) apn))))))))))))))))))))) rfl (by kernel_rfl)
         | k1 =>
          obtain ⟨g9, e9⟩ := L18_0_run a1 a2 0 _ h9
          rw [← sj h]
          exact fpr ((F18_c0 a1 a2) ++ ((F18_c1 a1 a2) ++ ((F18_c2 a1 a2) ++ ((F18_c3 a1 a2) ++ ([(51, .d false)] ++ ((F18_c4 g6 a1 a2) ++ ((F18_c5 g7 a1 a2) ++ ((F18_c6 g8 a1 a2) ++ [(2008, .l (.brk 8) (F18_d3 g9 a1 a2)), (6000, .d true)])))))))) (av h1 (apc (lg a1.sorts eStr 1) (apc (lg a2.sorts eStr 1) (av h2 (apc (lg a1.prods eProd 7) (apc (lg a2.prods eProd 7) (av h3 (apc (lg a1.forbid eForb 3) (apc (lg a2.forbid eForb 3) (av h4 (apc (lg a1.follow eFoll 5) (apc (lg a2.follow eFoll 5) (av h5 (apc q13 (apc q14 (apc q15 (apc q16 (apc q17 (apc q18 (apc ((oK (ac (ac rfl))) : okT 2 [bG a1, bG a2] = true) (apc (e9 : L18_0_e a1 a2 0 = some ((.brk 8), F18_d3 g9 a1 a2)) apn))))))))))))))))))))) rfl (by kernel_rfl)
def F31_v (a1 : GramD) (x0 : Bool) : AV := (vb x0)
def F31 (a1 : GramD) : Option Bool :=
  (bif (decide (a1.start ≥ 0)) then (some (decide (a1.start < (a1.sorts.length : Int)))) else (some false))
theorem F31_ok (a1 : GramD) {r : Bool} (h : F31 a1 = some r) : PR1 prg 31 [aG a1, i6 a1.start] (F31_v a1 r) := by
 unfold F31 at h
 refine bi h ?_ ?_ <;> intro h1 h
 ·
  rw [← sj h]
  exact fpr [(6, .d true), (11, .v (i6 (lS a1)))] (av h1 (apc (lg a1.sorts eStr 1) apn)) rfl (by kernel_rfl)
 ·
  rw [← sj h]
  exact fpr [(6, .d false)] (av h1 apn) rfl (by kernel_rfl)
inductive E_L12_5_2 where
  | k0
  | k1
section
variable (a1 : Int) (a2 : GramD)
def L12_5_2 (v1 : Int) : Option (E_L12_5_2 ⊕ (Int)) :=
  (bif (decide (v1 < a1)) then ((getI a2.sorts v1).bind fun x2 => ((getI a2.sorts a1).bind fun x3 => (bif (x2.toList == x3.toList) then (some (.inl (.k0))) else (some (.inr ((IntKind.wrap .i64 (v1 + 1)))))))) else (some (.inl (.k1))))
def L12_5_2_s (v1 : Int) : St := ⟨fr 160 ug [(1, .ptr 0 0), (3, i6 a1), (4, i6 v1)], [bG a2]⟩
abbrev L12_5_2_e (v1 : Int) := evH prg 1 [1, 3, 4] ir12_l5 (L12_5_2_s a1 a2 v1)
def L12_5_2_x (e : E_L12_5_2) (r : Option (Out × St)) : Prop := match e with | .k0 => ∃ g y, r = some (.ret, ⟨fr 160 g [(2, i6 160)], y⟩) | .k1 => ∃ g, r = some ((.brk 2), ⟨fr 160 g [(1, .ptr 0 0), (3, i6 a1)], [bG a2]⟩)
theorem L12_5_2_ok (v1 : Int) {r : E_L12_5_2 ⊕ (Int)} (h : L12_5_2 a1 a2 v1 = some r) : OkR (fun e => L12_5_2_x a1 a2 e (L12_5_2_e a1 a2 v1)) (fun s => L12_5_2_e a1 a2 v1 = L12_5_2_e a1 a2 s) r := by
 unfold L12_5_2 at h
 refine bi h ?_ ?_ <;> intro h1 h
 ·
  refine bn h fun x2 h2 h => ?_
  refine bn h fun x3 h3 h => ?_
  refine bi h ?_ ?_ <;> intro h4 h
  ·
   rw [← sj h]
   exact xretY [(57, .d true), (63, .v (.ro [.val (.string x2)])), (68, .v (.ro [.val (.string x3)])), (70, .d true), (6000, .d true)] (av h1 (apc (ig eStr 1 .i64 h2) (apc (ig eStr 1 .i64 h3) (av h4 apn)))) (by kernel_rfl)
  ·
   rw [← sj h]
   exact rnd [(57, .d true), (63, .v (.ro [.val (.string x2)])), (68, .v (.ro [.val (.string x3)])), (70, .d false), (6000, .d true)] (av h1 (apc (ig eStr 1 .i64 h2) (apc (ig eStr 1 .i64 h3) (av h4 (apc ((oK (ac rfl)) : okT 1 [bG a2] = true) apn))))) (by kernel_rfl)
 ·
  rw [← sj h]
  exact xbrk [(57, .d false), (6000, .d true)] (av h1 apn) (by kernel_rfl)
theorem L12_5_2_run (s0 : Int) (e : E_L12_5_2) (h : runL (fun s => L12_5_2 a1 a2 s) s0 = some e) : L12_5_2_x a1 a2 e (L12_5_2_e a1 a2 s0) := by
  have q := @loop_sound' (Int) E_L12_5_2 (fun s => L12_5_2 a1 a2 s) (fun s => L12_5_2_e a1 a2 s) (L12_5_2_x a1 a2) (fun s r h => L12_5_2_ok a1 a2 s h) s0 e h
  exact q
end
inductive E_L12_6 where
  | k0
  | k1
section
variable (a1 : GramD)
def L12_6 (v1 : Int) : Option (E_L12_6 ⊕ (Int)) :=
  (bif (decide (v1 < (a1.sorts.length : Int))) then ((getI a1.sorts v1).bind fun x2 => (bif (x2.toList == (⟨([] : List UInt8).toArray⟩ : ByteArray).toList) then (some (.inl (.k0))) else (bif (decide ((x2.size : Int) > 1000)) then (some (.inl (.k0))) else ((runL (fun s => L12_5_2 v1 a1 s) 0).bind fun r5 => match r5 with | .k0 => (some (.inl (.k0))) | .k1 => (some (.inr ((IntKind.wrap .i64 (v1 + 1))))))))) else (some (.inl (.k1))))
def L12_6_s (v1 : Int) : St := ⟨fr 160 ug [(1, .ptr 0 0), (3, i6 v1)], [bG a1]⟩
abbrev L12_6_e (v1 : Int) := evH prg 1 [1, 3] ir12_l6 (L12_6_s a1 v1)
def L12_6_x (e : E_L12_6) (r : Option (Out × St)) : Prop := match e with | .k0 => ∃ g y, r = some (.ret, ⟨fr 160 g [(2, i6 160)], y⟩) | .k1 => ∃ g, r = some ((.brk 0), ⟨fr 160 g [(1, .ptr 0 0)], [bG a1]⟩)
abbrev L12_6_d0 (g5 : Nat → AV) (v1 : Int) : St := ⟨fr 160 g5 [(1, .ptr 0 0), (3, i6 v1)], [bG a1]⟩
theorem L12_6_ok (v1 : Int) {r : E_L12_6 ⊕ (Int)} (h : L12_6 a1 v1 = some r) : OkR (fun e => L12_6_x a1 e (L12_6_e a1 v1)) (fun s => L12_6_e a1 v1 = L12_6_e a1 s) r := by
 unfold L12_6 at h
 refine bi h ?_ ?_ <;> intro h1 h
 ·
  refine bn h fun x2 h2 h => ?_
  refine bi h ?_ ?_ <;> intro h3 h
  ·
   rw [← sj h]
   exact xretY [(36, .v (i6 (lS a1))), (37, .d true), (43, .v (.ro [.val (.string x2)])), (45, .d true), (6000, .d true)] (apc (lg a1.sorts eStr 1) (av h1 (apc (ig eStr 1 .i64 h2) (av h3 apn)))) (by kernel_rfl)
  ·
   refine bi h ?_ ?_ <;> intro h4 h
   ·
    rw [← sj h]
    exact xretY [(36, .v (i6 (lS a1))), (37, .d true), (43, .v (.ro [.val (.string x2)])), (45, .d false), (50, .v (.ro [.val (.string x2)])), (53, .d true), (6000, .d true)] (apc (lg a1.sorts eStr 1) (av h1 (apc (ig eStr 1 .i64 h2) (av h3 (apc (ig eStr 1 .i64 h2) (av h4 apn)))))) (by kernel_rfl)
   ·
    refine bn h fun r5 h5 h => ?_
    cases r5 with
    | k0 =>
     obtain ⟨g5, y5, e5⟩ := L12_5_2_run v1 a1 0 _ h5
     rw [← sj h]
     exact xretY [(36, .v (i6 (lS a1))), (37, .d true), (43, .v (.ro [.val (.string x2)])), (45, .d false), (50, .v (.ro [.val (.string x2)])), (53, .d false), (2002, .l .ret ⟨fr 160 g5 [(2, i6 160)], y5⟩), (6000, .d true)] (apc (lg a1.sorts eStr 1) (av h1 (apc (ig eStr 1 .i64 h2) (av h3 (apc (ig eStr 1 .i64 h2) (av h4 (apc ((oK (ac rfl)) : okT 1 [bG a1] = true) (apc (e5 : L12_5_2_e v1 a1 0 = some (.ret, ⟨fr 160 g5 [(2, i6 160)], y5⟩)) apn)))))))) (by kernel_rfl)
    | k1 =>
     obtain ⟨g5, e5⟩ := L12_5_2_run v1 a1 0 _ h5
     rw [← sj h]
     exact rnd [(36, .v (i6 (lS a1))), (37, .d true), (43, .v (.ro [.val (.string x2)])), (45, .d false), (50, .v (.ro [.val (.string x2)])), (53, .d false), (2002, .l (.brk 2) (L12_6_d0 a1 g5 v1)), (6000, .d true)] (apc (lg a1.sorts eStr 1) (av h1 (apc (ig eStr 1 .i64 h2) (av h3 (apc (ig eStr 1 .i64 h2) (av h4 (apc ((oK (ac rfl)) : okT 1 [bG a1] = true) (apc (e5 : L12_5_2_e v1 a1 0 = some ((.brk 2), L12_6_d0 a1 g5 v1)) (apc ((oK (ac rfl)) : okT 1 [bG a1] = true) apn))))))))) (by kernel_rfl)
 ·
  rw [← sj h]
  exact xbrk [(36, .v (i6 (lS a1))), (37, .d false), (6000, .d true)] (apc (lg a1.sorts eStr 1) (av h1 apn)) (by kernel_rfl)
theorem L12_6_run (s0 : Int) (e : E_L12_6) (h : runL (fun s => L12_6 a1 s) s0 = some e) : L12_6_x a1 e (L12_6_e a1 s0) := by
  have q := @loop_sound' (Int) E_L12_6 (fun s => L12_6 a1 s) (fun s => L12_6_e a1 s) (L12_6_x a1) (fun s r h => L12_6_ok a1 s h) s0 e h
  exact q
end
def F31_2_v (a1 : GramD) (a2 : ProdD) (x0 : Bool) : AV := (vb x0)
def F31_2 (a1 : GramD) (a2 : ProdD) : Option Bool :=
  (bif (decide (a2.left ≥ 0)) then (some (decide (a2.left < (a1.sorts.length : Int)))) else (some false))
theorem F31_2_ok (a1 : GramD) (a2 : ProdD) {r : Bool} (h : F31_2 a1 a2 = some r) : PR1 prg 31 [aG a1, i6 a2.left] (F31_2_v a1 a2 r) := by
 unfold F31_2 at h
 refine bi h ?_ ?_ <;> intro h1 h
 ·
  rw [← sj h]
  exact fpr [(6, .d true), (11, .v (i6 (lS a1)))] (av h1 (apc (lg a1.sorts eStr 1) apn)) rfl (by kernel_rfl)
 ·
  rw [← sj h]
  exact fpr [(6, .d false)] (av h1 apn) rfl (by kernel_rfl)
def F34_v (a1 : SymD) (x0 : Bool) : AV := (vb x0)
def F34 (a1 : SymD) : Option Bool :=
  (some ((IntKind.wrap .u64 ((BitVec.ofInt (IntKind.bits .u64) (IntKind.wrap .u64 ((BitVec.ofInt (IntKind.bits .u64) (IntKind.wrap .u64 ((BitVec.ofInt (IntKind.bits .u64) a1.a ||| BitVec.ofInt (IntKind.bits .u64) a1.b).toNat : Int)) ||| BitVec.ofInt (IntKind.bits .u64) a1.c).toNat : Int)) ||| BitVec.ofInt (IntKind.bits .u64) a1.d).toNat : Int)) == 0))
theorem F34_ok (a1 : SymD) {r : Bool} (h : F34 a1 = some r) : PR1 prg 34 [(.agg ((List.take 4 (List.drop 1 (eSym a1))).map .p))] (F34_v a1 r) := by
 unfold F34 at h
 rw [← sj h]
 exact fpr [] apn rfl (by kernel_rfl)
def F31_3_v (a1 : GramD) (a2 : SymD) (x0 : Bool) : AV := (vb x0)
def F31_3 (a1 : GramD) (a2 : SymD) : Option Bool :=
  (bif (decide (a2.sort ≥ 0)) then (some (decide (a2.sort < (a1.sorts.length : Int)))) else (some false))
theorem F31_3_ok (a1 : GramD) (a2 : SymD) {r : Bool} (h : F31_3 a1 a2 = some r) : PR1 prg 31 [aG a1, i6 a2.sort] (F31_3_v a1 a2 r) := by
 unfold F31_3 at h
 refine bi h ?_ ?_ <;> intro h1 h
 ·
  rw [← sj h]
  exact fpr [(6, .d true), (11, .v (i6 (lS a1)))] (av h1 (apc (lg a1.sorts eStr 1) apn)) rfl (by kernel_rfl)
 ·
  rw [← sj h]
  exact fpr [(6, .d false)] (av h1 apn) rfl (by kernel_rfl)
inductive E_L32_0 where
  | k0
  | k1
section
variable (a1 : GramD) (a2 : ProdD)
def L32_0 (v1 : Int) : Option (E_L32_0 ⊕ (Int)) :=
  (bif (decide (v1 < (a2.right.length : Int))) then ((getI a2.right v1).bind fun x2 => (bif (x2.kind == 0) then ((F34 x2).bind fun x4 => (bif x4 then (some (.inl (.k0))) else (bif (x2.sort != 0) then (some (.inl (.k0))) else (bif (x2.kind == 1) then ((F34 x2).bind fun x8 => (bif x8 then ((F31_3 a1 x2).bind fun x10 => (bif x10 then (bif (a2.role == 11) then (some (.inl (.k0))) else (bif (x2.kind != 0) then (bif (x2.kind != 1) then (some (.inl (.k0))) else (some (.inr ((IntKind.wrap .i64 (v1 + 1)))))) else (some (.inr ((IntKind.wrap .i64 (v1 + 1))))))) else (some (.inl (.k0))))) else (some (.inl (.k0))))) else (bif (x2.kind != 0) then (bif (x2.kind != 1) then (some (.inl (.k0))) else (some (.inr ((IntKind.wrap .i64 (v1 + 1)))))) else (some (.inr ((IntKind.wrap .i64 (v1 + 1)))))))))) else (bif (x2.kind == 1) then ((F34 x2).bind fun x5 => (bif x5 then ((F31_3 a1 x2).bind fun x7 => (bif x7 then (bif (a2.role == 11) then (some (.inl (.k0))) else (bif (x2.kind != 0) then (bif (x2.kind != 1) then (some (.inl (.k0))) else (some (.inr ((IntKind.wrap .i64 (v1 + 1)))))) else (some (.inr ((IntKind.wrap .i64 (v1 + 1))))))) else (some (.inl (.k0))))) else (some (.inl (.k0))))) else (bif (x2.kind != 0) then (bif (x2.kind != 1) then (some (.inl (.k0))) else (some (.inr ((IntKind.wrap .i64 (v1 + 1)))))) else (some (.inr ((IntKind.wrap .i64 (v1 + 1))))))))) else (some (.inl (.k1))))
def L32_0_s (v1 : Int) : St := ⟨fr 111 ug [(2, .ptr 0 0), (3, .ptr 1 0), (5, i6 v1)], [bG a1, bP a2]⟩
abbrev L32_0_e (v1 : Int) := evH prg 2 [2, 3, 5] ir32_l0 (L32_0_s a1 a2 v1)
def L32_0_x (e : E_L32_0) (r : Option (Out × St)) : Prop := match e with | .k0 => ∃ g y, r = some (.ret, ⟨fr 111 g [(4, vb false)], y⟩) | .k1 => ∃ g, r = some ((.brk 0), ⟨fr 111 g [(2, .ptr 0 0), (3, .ptr 1 0)], [bG a1, bP a2]⟩)
abbrev L32_0_d0 (x2 : SymD) : List AB := [bG a1, bP a2, .cells 68 ((eSym x2).map .p)]
theorem L32_0_ok (v1 : Int) {r : E_L32_0 ⊕ (Int)} (h : L32_0 a1 a2 v1 = some r) : OkR (fun e => L32_0_x a1 a2 e (L32_0_e a1 a2 v1)) (fun s => L32_0_e a1 a2 v1 = L32_0_e a1 a2 s) r := by
 unfold L32_0 at h
 refine bi h ?_ ?_ <;> intro h1 h
 ·
  refine bn h fun x2 h2 h => ?_
  refine bi h ?_ ?_ <;> intro h3 h
  ·
   refine bn h fun x4 h4 h => ?_
   refine bi h ?_ ?_ <;> intro h5 h
   ·
    rw [← sj h]
    exact xretY [(60, .v (i6 (a2.right.length : Int))), (61, .d true), (67, .v (.ro (eSym x2))), (71, .d true), (75, .v (vb true)), (6000, .d true)] (apc (lg a2.right eSym 6) (av h1 (apc (ig eSym 6 .i64 h2) (av h3 (apc ((((F34_ok x2 h4).cp rfl _).trans (congrArg (fun z => some (vb z)) h5)) : CP prg 34 [(.agg ((List.take 4 (List.drop 1 (eSym x2))).map .p))] (L32_0_d0 a1 a2 x2) = some (vb true)) apn))))) (by kernel_rfl)
   ·
    have q4 := ((((F34_ok x2 h4).cp rfl _).trans (congrArg (fun z => some (vb z)) h5)) : CP prg 34 [(.agg ((List.take 4 (List.drop 1 (eSym x2))).map .p))] (L32_0_d0 a1 a2 x2) = some (vb false))
    refine bi h ?_ ?_ <;> intro h6 h
    ·
     rw [← sj h]
     exact xretY [(60, .v (i6 (a2.right.length : Int))), (61, .d true), (67, .v (.ro (eSym x2))), (71, .d true), (75, .v (vb false)), (79, .d true), (6000, .d true)] (apc (lg a2.right eSym 6) (av h1 (apc (ig eSym 6 .i64 h2) (av h3 (apc q4 (av h6 apn)))))) (by kernel_rfl)
    ·
     refine bi h ?_ ?_ <;> intro h7 h
     ·
      refine bn h fun x8 h8 h => ?_
      refine bi h ?_ ?_ <;> intro h9 h
      ·
       have q7 := ((((F34_ok x2 h8).cp rfl _).trans (congrArg (fun z => some (vb z)) h9)) : CP prg 34 [(.agg ((List.take 4 (List.drop 1 (eSym x2))).map .p))] (L32_0_d0 a1 a2 x2) = some (vb true))
       refine bn h fun x10 h10 h => ?_
       refine bi h ?_ ?_ <;> intro h11 h
       ·
        have q8 := ((((F31_3_ok a1 x2 h10).cp rfl _).trans (congrArg (fun z => some (vb z)) h11)) : CP prg 31 [aG a1, i6 x2.sort] (L32_0_d0 a1 a2 x2) = some (vb true))
        refine bi h ?_ ?_ <;> intro h12 h
        ·
         rw [← sj h]
         exact xretY [(60, .v (i6 (a2.right.length : Int))), (61, .d true), (67, .v (.ro (eSym x2))), (71, .d true), (75, .v (vb false)), (79, .d false), (84, .d true), (88, .v (vb true)), (94, .v (vb true)), (100, .d true), (6000, .d true)] (apc (lg a2.right eSym 6) (av h1 (apc (ig eSym 6 .i64 h2) (av h3 (apc q4 (av h6 (av h7 (apc q7 (apc q8 (av h12 apn)))))))))) (by kernel_rfl)
        ·
         refine bi h ?_ ?_ <;> intro h13 h
         ·
          refine bi h ?_ ?_ <;> intro h14 h
          ·
           rw [← sj h]
           exact xretY [(60, .v (i6 (a2.right.length : Int))), (61, .d true), (67, .v (.ro (eSym x2))), (71, .d true), (75, .v (vb false)), (79, .d false), (84, .d true), (88, .v (vb true)), (94, .v (vb true)), (100, .d false), (105, .d true), (109, .d true), (6000, .d true)] (apc (lg a2.right eSym 6) (av h1 (apc (ig eSym 6 .i64 h2) (av h3 (apc q4 (av h6 (av h7 (apc q7 (apc q8 (av h12 (av h13 (av h14 apn)))))))))))) (by kernel_rfl)
          ·
           rw [← sj h]
           exact rnd [(60, .v (i6 (a2.right.length : Int))), (61, .d true), (67, .v (.ro (eSym x2))), (71, .d true), (75, .v (vb false)), (79, .d false), (84, .d true), (88, .v (vb true)), (94, .v (vb true)), (100, .d false), (105, .d true), (109, .d false), (6000, .d true)] (apc (lg a2.right eSym 6) (av h1 (apc (ig eSym 6 .i64 h2) (av h3 (apc q4 (av h6 (av h7 (apc q7 (apc q8 (av h12 (av h13 (av h14 (apc ((oK (ac (ac rfl))) : okT 2 (L32_0_d0 a1 a2 x2) = true) apn))))))))))))) (by kernel_rfl)
         ·
          rw [← sj h]
          exact rnd [(60, .v (i6 (a2.right.length : Int))), (61, .d true), (67, .v (.ro (eSym x2))), (71, .d true), (75, .v (vb false)), (79, .d false), (84, .d true), (88, .v (vb true)), (94, .v (vb true)), (100, .d false), (105, .d false), (6000, .d true)] (apc (lg a2.right eSym 6) (av h1 (apc (ig eSym 6 .i64 h2) (av h3 (apc q4 (av h6 (av h7 (apc q7 (apc q8 (av h12 (av h13 (apc ((oK (ac (ac rfl))) : okT 2 (L32_0_d0 a1 a2 x2) = true) apn)))))))))))) (by kernel_rfl)
       ·
        rw [← sj h]
        exact xretY [(60, .v (i6 (a2.right.length : Int))), (61, .d true), (67, .v (.ro (eSym x2))), (71, .d true), (75, .v (vb false)), (79, .d false), (84, .d true), (88, .v (vb true)), (94, .v (vb false)), (6000, .d true)] (apc (lg a2.right eSym 6) (av h1 (apc (ig eSym 6 .i64 h2) (av h3 (apc q4 (av h6 (av h7 (apc q7 (apc ((((F31_3_ok a1 x2 h10).cp rfl _).trans (congrArg (fun z => some (vb z)) h11)) : CP prg 31 [aG a1, i6 x2.sort] (L32_0_d0 a1 a2 x2) = some (vb false)) apn))))))))) (by kernel_rfl)
      ·
       rw [← sj h]
       exact xretY [(60, .v (i6 (a2.right.length : Int))), (61, .d true), (67, .v (.ro (eSym x2))), (71, .d true), (75, .v (vb false)), (79, .d false), (84, .d true), (88, .v (vb false)), (6000, .d true)] (apc (lg a2.right eSym 6) (av h1 (apc (ig eSym 6 .i64 h2) (av h3 (apc q4 (av h6 (av h7 (apc ((((F34_ok x2 h8).cp rfl _).trans (congrArg (fun z => some (vb z)) h9)) : CP prg 34 [(.agg ((List.take 4 (List.drop 1 (eSym x2))).map .p))] (L32_0_d0 a1 a2 x2) = some (vb false)) apn)))))))) (by kernel_rfl)
     ·
      refine bi h ?_ ?_ <;> intro h8 h
      ·
       refine bi h ?_ ?_ <;> intro h9 h
       ·
        rw [← sj h]
        exact xretY [(60, .v (i6 (a2.right.length : Int))), (61, .d true), (67, .v (.ro (eSym x2))), (71, .d true), (75, .v (vb false)), (79, .d false), (84, .d false), (105, .d true), (109, .d true), (6000, .d true)] (apc (lg a2.right eSym 6) (av h1 (apc (ig eSym 6 .i64 h2) (av h3 (apc q4 (av h6 (av h7 (av h8 (av h9 apn))))))))) (by kernel_rfl)
       ·
        rw [← sj h]
        exact rnd [(60, .v (i6 (a2.right.length : Int))), (61, .d true), (67, .v (.ro (eSym x2))), (71, .d true), (75, .v (vb false)), (79, .d false), (84, .d false), (105, .d true), (109, .d false), (6000, .d true)] (apc (lg a2.right eSym 6) (av h1 (apc (ig eSym 6 .i64 h2) (av h3 (apc q4 (av h6 (av h7 (av h8 (av h9 (apc ((oK (ac (ac rfl))) : okT 2 (L32_0_d0 a1 a2 x2) = true) apn)))))))))) (by kernel_rfl)
      ·
       rw [← sj h]
       exact rnd [(60, .v (i6 (a2.right.length : Int))), (61, .d true), (67, .v (.ro (eSym x2))), (71, .d true), (75, .v (vb false)), (79, .d false), (84, .d false), (105, .d false), (6000, .d true)] (apc (lg a2.right eSym 6) (av h1 (apc (ig eSym 6 .i64 h2) (av h3 (apc q4 (av h6 (av h7 (av h8 (apc ((oK (ac (ac rfl))) : okT 2 (L32_0_d0 a1 a2 x2) = true) apn))))))))) (by kernel_rfl)
  ·
   refine bi h ?_ ?_ <;> intro h4 h
   ·
    refine bn h fun x5 h5 h => ?_
    refine bi h ?_ ?_ <;> intro h6 h
    ·
     have q5 := ((((F34_ok x2 h5).cp rfl _).trans (congrArg (fun z => some (vb z)) h6)) : CP prg 34 [(.agg ((List.take 4 (List.drop 1 (eSym x2))).map .p))] (L32_0_d0 a1 a2 x2) = some (vb true))
     refine bn h fun x7 h7 h => ?_
     refine bi h ?_ ?_ <;> intro h8 h
     ·
      have q6 := ((((F31_3_ok a1 x2 h7).cp rfl _).trans (congrArg (fun z => some (vb z)) h8)) : CP prg 31 [aG a1, i6 x2.sort] (L32_0_d0 a1 a2 x2) = some (vb true))
      refine bi h ?_ ?_ <;> intro h9 h
      ·
       rw [← sj h]
       exact xretY [(60, .v (i6 (a2.right.length : Int))), (61, .d true), (67, .v (.ro (eSym x2))), (71, .d false), (84, .d true), (88, .v (vb true)), (94, .v (vb true)), (100, .d true), (6000, .d true)] (apc (lg a2.right eSym 6) (av h1 (apc (ig eSym 6 .i64 h2) (av h3 (av h4 (apc q5 (apc q6 (av h9 apn)))))))) (by kernel_rfl)
      ·
       refine bi h ?_ ?_ <;> intro h10 h
       ·
        refine bi h ?_ ?_ <;> intro h11 h
        ·
         rw [← sj h]
         exact xretY [(60, .v (i6 (a2.right.length : Int))), (61, .d true), (67, .v (.ro (eSym x2))), (71, .d false), (84, .d true), (88, .v (vb true)), (94, .v (vb true)), (100, .d false), (105, .d true), (109, .d true), (6000, .d true)] (apc (lg a2.right eSym 6) (av h1 (apc (ig eSym 6 .i64 h2) (av h3 (av h4 (apc q5 (apc q6 (av h9 (av h10 (av h11 apn)))))))))) (by kernel_rfl)
        ·
         rw [← sj h]
         exact rnd [(60, .v (i6 (a2.right.length : Int))), (61, .d true), (67, .v (.ro (eSym x2))), (71, .d false), (84, .d true), (88, .v (vb true)), (94, .v (vb true)), (100, .d false), (105, .d true), (109, .d false), (6000, .d true)] (apc (lg a2.right eSym 6) (av h1 (apc (ig eSym 6 .i64 h2) (av h3 (av h4 (apc q5 (apc q6 (av h9 (av h10 (av h11 (apc ((oK (ac (ac rfl))) : okT 2 (L32_0_d0 a1 a2 x2) = true) apn))))))))))) (by kernel_rfl)
       ·
        rw [← sj h]
        exact rnd [(60, .v (i6 (a2.right.length : Int))), (61, .d true), (67, .v (.ro (eSym x2))), (71, .d false), (84, .d true), (88, .v (vb true)), (94, .v (vb true)), (100, .d false), (105, .d false), (6000, .d true)] (apc (lg a2.right eSym 6) (av h1 (apc (ig eSym 6 .i64 h2) (av h3 (av h4 (apc q5 (apc q6 (av h9 (av h10 (apc ((oK (ac (ac rfl))) : okT 2 (L32_0_d0 a1 a2 x2) = true) apn)))))))))) (by kernel_rfl)
     ·
      rw [← sj h]
      exact xretY [(60, .v (i6 (a2.right.length : Int))), (61, .d true), (67, .v (.ro (eSym x2))), (71, .d false), (84, .d true), (88, .v (vb true)), (94, .v (vb false)), (6000, .d true)] (apc (lg a2.right eSym 6) (av h1 (apc (ig eSym 6 .i64 h2) (av h3 (av h4 (apc q5 (apc ((((F31_3_ok a1 x2 h7).cp rfl _).trans (congrArg (fun z => some (vb z)) h8)) : CP prg 31 [aG a1, i6 x2.sort] (L32_0_d0 a1 a2 x2) = some (vb false)) apn))))))) (by kernel_rfl)
    ·
     rw [← sj h]
     exact xretY [(60, .v (i6 (a2.right.length : Int))), (61, .d true), (67, .v (.ro (eSym x2))), (71, .d false), (84, .d true), (88, .v (vb false)), (6000, .d true)] (apc (lg a2.right eSym 6) (av h1 (apc (ig eSym 6 .i64 h2) (av h3 (av h4 (apc ((((F34_ok x2 h5).cp rfl _).trans (congrArg (fun z => some (vb z)) h6)) : CP prg 34 [(.agg ((List.take 4 (List.drop 1 (eSym x2))).map .p))] (L32_0_d0 a1 a2 x2) = some (vb false)) apn)))))) (by kernel_rfl)
   ·
    refine bi h ?_ ?_ <;> intro h5 h
    ·
     refine bi h ?_ ?_ <;> intro h6 h
     ·
      rw [← sj h]
      exact xretY [(60, .v (i6 (a2.right.length : Int))), (61, .d true), (67, .v (.ro (eSym x2))), (71, .d false), (84, .d false), (105, .d true), (109, .d true), (6000, .d true)] (apc (lg a2.right eSym 6) (av h1 (apc (ig eSym 6 .i64 h2) (av h3 (av h4 (av h5 (av h6 apn))))))) (by kernel_rfl)
     ·
      rw [← sj h]
      exact rnd [(60, .v (i6 (a2.right.length : Int))), (61, .d true), (67, .v (.ro (eSym x2))), (71, .d false), (84, .d false), (105, .d true), (109, .d false), (6000, .d true)] (apc (lg a2.right eSym 6) (av h1 (apc (ig eSym 6 .i64 h2) (av h3 (av h4 (av h5 (av h6 (apc ((oK (ac (ac rfl))) : okT 2 (L32_0_d0 a1 a2 x2) = true) apn)))))))) (by kernel_rfl)
    ·
     rw [← sj h]
     exact rnd [(60, .v (i6 (a2.right.length : Int))), (61, .d true), (67, .v (.ro (eSym x2))), (71, .d false), (84, .d false), (105, .d false), (6000, .d true)] (apc (lg a2.right eSym 6) (av h1 (apc (ig eSym 6 .i64 h2) (av h3 (av h4 (av h5 (apc ((oK (ac (ac rfl))) : okT 2 (L32_0_d0 a1 a2 x2) = true) apn))))))) (by kernel_rfl)
 ·
  rw [← sj h]
  exact xbrk [(60, .v (i6 (a2.right.length : Int))), (61, .d false), (6000, .d true)] (apc (lg a2.right eSym 6) (av h1 apn)) (by kernel_rfl)
theorem L32_0_run (s0 : Int) (e : E_L32_0) (h : runL (fun s => L32_0 a1 a2 s) s0 = some e) : L32_0_x a1 a2 e (L32_0_e a1 a2 s0) := by
  have q := @loop_sound' (Int) E_L32_0 (fun s => L32_0 a1 a2 s) (fun s => L32_0_e a1 a2 s) (L32_0_x a1 a2) (fun s r h => L32_0_ok a1 a2 s h) s0 e h
  exact q
end
def F32_v (a1 : GramD) (a2 : ProdD) (x0 : Bool) : AV := (vb x0)
def F32 (a1 : GramD) (a2 : ProdD) : Option Bool :=
  ((F31_2 a1 a2).bind fun x1 => (bif x1 then (bif (decide ((a2.right.length : Int) > 30)) then (some false) else (bif (decide (a2.role < 0)) then (some false) else (bif (decide (a2.role > 11)) then (some false) else (bif (decide (a2.frm < (-1))) then (some false) else (bif (decide ((a2.cons.size : Int) > 64)) then (some false) else (bif (!(a2.cons.toList == (⟨([] : List UInt8).toArray⟩ : ByteArray).toList)) then (bif (a2.role != 0) then (some false) else (bif a2.prefer then (bif a2.avoid then (some false) else ((runL (fun s => L32_0 a1 a2 s) 0).bind fun r12 => match r12 with | .k0 => (some false) | .k1 => (some true))) else ((runL (fun s => L32_0 a1 a2 s) 0).bind fun r11 => match r11 with | .k0 => (some false) | .k1 => (some true)))) else (bif a2.prefer then (bif a2.avoid then (some false) else ((runL (fun s => L32_0 a1 a2 s) 0).bind fun r11 => match r11 with | .k0 => (some false) | .k1 => (some true))) else ((runL (fun s => L32_0 a1 a2 s) 0).bind fun r10 => match r10 with | .k0 => (some false) | .k1 => (some true))))))))) else (some false)))
abbrev F32_d0 (g12 : Nat → AV) (a1 : GramD) (a2 : ProdD) : St := ⟨fr 111 g12 [(2, .ptr 0 0), (3, .ptr 1 0)], [bG a1, bP a2]⟩
abbrev F32_d1 (g11 : Nat → AV) (a1 : GramD) (a2 : ProdD) : St := ⟨fr 111 g11 [(2, .ptr 0 0), (3, .ptr 1 0)], [bG a1, bP a2]⟩
abbrev F32_d2 (g10 : Nat → AV) (a1 : GramD) (a2 : ProdD) : St := ⟨fr 111 g10 [(2, .ptr 0 0), (3, .ptr 1 0)], [bG a1, bP a2]⟩
theorem F32_ok (a1 : GramD) (a2 : ProdD) {r : Bool} (h : F32 a1 a2 = some r) : PR1 prg 32 [aG a1, aP a2] (F32_v a1 a2 r) := by
 unfold F32 at h
 refine bn h fun x1 h1 h => ?_
 refine bi h ?_ ?_ <;> intro h2 h
 ·
  have q0 := ((((F31_2_ok a1 a2 h1).cp rfl _).trans (congrArg (fun z => some (vb z)) h2)) : CP prg 31 [aG a1, i6 a2.left] [bG a1, bP a2] = some (vb true))
  refine bi h ?_ ?_ <;> intro h3 h
  ·
   rw [← sj h]
   exact fpr [(10, .v (vb true)), (15, .v (i6 (a2.right.length : Int))), (16, .d true)] (apc q0 (apc (lg a2.right eSym 6) (av h3 apn))) rfl (by kernel_rfl)
  ·
   refine bi h ?_ ?_ <;> intro h4 h
   ·
    rw [← sj h]
    exact fpr [(10, .v (vb true)), (15, .v (i6 (a2.right.length : Int))), (16, .d false), (21, .d true)] (apc q0 (apc (lg a2.right eSym 6) (av h3 (av h4 apn)))) rfl (by kernel_rfl)
   ·
    refine bi h ?_ ?_ <;> intro h5 h
    ·
     rw [← sj h]
     exact fpr [(10, .v (vb true)), (15, .v (i6 (a2.right.length : Int))), (16, .d false), (21, .d false), (26, .d true)] (apc q0 (apc (lg a2.right eSym 6) (av h3 (av h4 (av h5 apn))))) rfl (by kernel_rfl)
    ·
     refine bi h ?_ ?_ <;> intro h6 h
     ·
      rw [← sj h]
      exact fpr [(10, .v (vb true)), (15, .v (i6 (a2.right.length : Int))), (16, .d false), (21, .d false), (26, .d false), (31, .d true)] (apc q0 (apc (lg a2.right eSym 6) (av h3 (av h4 (av h5 (av h6 apn)))))) rfl (by kernel_rfl)
     ·
      refine bi h ?_ ?_ <;> intro h7 h
      ·
       rw [← sj h]
       exact fpr [(10, .v (vb true)), (15, .v (i6 (a2.right.length : Int))), (16, .d false), (21, .d false), (26, .d false), (31, .d false), (37, .d true)] (apc q0 (apc (lg a2.right eSym 6) (av h3 (av h4 (av h5 (av h6 (av h7 apn))))))) rfl (by kernel_rfl)
      ·
       refine bi h ?_ ?_ <;> intro h8 h
       ·
        refine bi h ?_ ?_ <;> intro h9 h
        ·
         rw [← sj h]
         exact fpr [(10, .v (vb true)), (15, .v (i6 (a2.right.length : Int))), (16, .d false), (21, .d false), (26, .d false), (31, .d false), (37, .d false), (42, .d true), (46, .d true)] (apc q0 (apc (lg a2.right eSym 6) (av h3 (av h4 (av h5 (av h6 (av h7 (av h8 (av h9 apn))))))))) rfl (by kernel_rfl)
        ·
         refine bi h ?_ ?_ <;> intro h10 h
         ·
          refine bi h ?_ ?_ <;> intro h11 h
          ·
           rw [← sj h]
           exact fpr [(10, .v (vb true)), (15, .v (i6 (a2.right.length : Int))), (16, .d false), (21, .d false), (26, .d false), (31, .d false), (37, .d false), (42, .d true), (46, .d false), (51, .d true), (54, .d true)] (apc q0 (apc (lg a2.right eSym 6) (av h3 (av h4 (av h5 (av h6 (av h7 (av h8 (av h9 (av h10 (av h11 apn))))))))))) rfl (by kernel_rfl)
          ·
           refine bn h fun r12 h12 h => ?_
           cases r12 with
           | k0 =>
            obtain ⟨g12, y12, e12⟩ := L32_0_run a1 a2 0 _ h12
            rw [← sj h]
            exact fpr [(10, .v (vb true)), (15, .v (i6 (a2.right.length : Int))), (16, .d false), (21, .d false), (26, .d false), (31, .d false), (37, .d false), (42, .d true), (46, .d false), (51, .d true), (54, .d false), (2000, .l .ret ⟨fr 111 g12 [(4, vb false)], y12⟩), (6000, .d true)] (apc q0 (apc (lg a2.right eSym 6) (av h3 (av h4 (av h5 (av h6 (av h7 (av h8 (av h9 (av h10 (av h11 (apc ((oK (ac (ac rfl))) : okT 2 [bG a1, bP a2] = true) (apc (e12 : L32_0_e a1 a2 0 = some (.ret, ⟨fr 111 g12 [(4, vb false)], y12⟩)) apn))))))))))))) rfl (by kernel_rfl)
           | k1 =>
            obtain ⟨g12, e12⟩ := L32_0_run a1 a2 0 _ h12
            rw [← sj h]
            exact fpr [(10, .v (vb true)), (15, .v (i6 (a2.right.length : Int))), (16, .d false), (21, .d false), (26, .d false), (31, .d false), (37, .d false), (42, .d true), (46, .d false), (51, .d true), (54, .d false), (2000, .l (.brk 0) (F32_d0 g12 a1 a2)), (6000, .d true)] (apc q0 (apc (lg a2.right eSym 6) (av h3 (av h4 (av h5 (av h6 (av h7 (av h8 (av h9 (av h10 (av h11 (apc ((oK (ac (ac rfl))) : okT 2 [bG a1, bP a2] = true) (apc (e12 : L32_0_e a1 a2 0 = some ((.brk 0), F32_d0 g12 a1 a2)) apn))))))))))))) rfl (by kernel_rfl)
         ·
          refine bn h fun r11 h11 h => ?_
          cases r11 with
          | k0 =>
           obtain ⟨g11, y11, e11⟩ := L32_0_run a1 a2 0 _ h11
           rw [← sj h]
           exact fpr [(10, .v (vb true)), (15, .v (i6 (a2.right.length : Int))), (16, .d false), (21, .d false), (26, .d false), (31, .d false), (37, .d false), (42, .d true), (46, .d false), (51, .d false), (2000, .l .ret ⟨fr 111 g11 [(4, vb false)], y11⟩), (6000, .d true)] (apc q0 (apc (lg a2.right eSym 6) (av h3 (av h4 (av h5 (av h6 (av h7 (av h8 (av h9 (av h10 (apc ((oK (ac (ac rfl))) : okT 2 [bG a1, bP a2] = true) (apc (e11 : L32_0_e a1 a2 0 = some (.ret, ⟨fr 111 g11 [(4, vb false)], y11⟩)) apn)))))))))))) rfl (by kernel_rfl)
          | k1 =>
           obtain ⟨g11, e11⟩ := L32_0_run a1 a2 0 _ h11
           rw [← sj h]
           exact fpr [(10, .v (vb true)), (15, .v (i6 (a2.right.length : Int))), (16, .d false), (21, .d false), (26, .d false), (31, .d false), (37, .d false), (42, .d true), (46, .d false), (51, .d false), (2000, .l (.brk 0) (F32_d1 g11 a1 a2)), (6000, .d true)] (apc q0 (apc (lg a2.right eSym 6) (av h3 (av h4 (av h5 (av h6 (av h7 (av h8 (av h9 (av h10 (apc ((oK (ac (ac rfl))) : okT 2 [bG a1, bP a2] = true) (apc (e11 : L32_0_e a1 a2 0 = some ((.brk 0), F32_d1 g11 a1 a2)) apn)))))))))))) rfl (by kernel_rfl)
       ·
        refine bi h ?_ ?_ <;> intro h9 h
        ·
         refine bi h ?_ ?_ <;> intro h10 h
         ·
          rw [← sj h]
          exact fpr [(10, .v (vb true)), (15, .v (i6 (a2.right.length : Int))), (16, .d false), (21, .d false), (26, .d false), (31, .d false), (37, .d false), (42, .d false), (51, .d true), (54, .d true)] (apc q0 (apc (lg a2.right eSym 6) (av h3 (av h4 (av h5 (av h6 (av h7 (av h8 (av h9 (av h10 apn)))))))))) rfl (by kernel_rfl)
         ·
          refine bn h fun r11 h11 h => ?_
          cases r11 with
          | k0 =>
           obtain ⟨g11, y11, e11⟩ := L32_0_run a1 a2 0 _ h11
           rw [← sj h]
           exact fpr [(10, .v (vb true)), (15, .v (i6 (a2.right.length : Int))), (16, .d false), (21, .d false), (26, .d false), (31, .d false), (37, .d false), (42, .d false), (51, .d true), (54, .d false), (2000, .l .ret ⟨fr 111 g11 [(4, vb false)], y11⟩), (6000, .d true)] (apc q0 (apc (lg a2.right eSym 6) (av h3 (av h4 (av h5 (av h6 (av h7 (av h8 (av h9 (av h10 (apc ((oK (ac (ac rfl))) : okT 2 [bG a1, bP a2] = true) (apc (e11 : L32_0_e a1 a2 0 = some (.ret, ⟨fr 111 g11 [(4, vb false)], y11⟩)) apn)))))))))))) rfl (by kernel_rfl)
          | k1 =>
           obtain ⟨g11, e11⟩ := L32_0_run a1 a2 0 _ h11
           rw [← sj h]
           exact fpr [(10, .v (vb true)), (15, .v (i6 (a2.right.length : Int))), (16, .d false), (21, .d false), (26, .d false), (31, .d false), (37, .d false), (42, .d false), (51, .d true), (54, .d false), (2000, .l (.brk 0) (F32_d1 g11 a1 a2)), (6000, .d true)] (apc q0 (apc (lg a2.right eSym 6) (av h3 (av h4 (av h5 (av h6 (av h7 (av h8 (av h9 (av h10 (apc ((oK (ac (ac rfl))) : okT 2 [bG a1, bP a2] = true) (apc (e11 : L32_0_e a1 a2 0 = some ((.brk 0), F32_d1 g11 a1 a2)) apn)))))))))))) rfl (by kernel_rfl)
        ·
         refine bn h fun r10 h10 h => ?_
         cases r10 with
         | k0 =>
          obtain ⟨g10, y10, e10⟩ := L32_0_run a1 a2 0 _ h10
          rw [← sj h]
          exact fpr [(10, .v (vb true)), (15, .v (i6 (a2.right.length : Int))), (16, .d false), (21, .d false), (26, .d false), (31, .d false), (37, .d false), (42, .d false), (51, .d false), (2000, .l .ret ⟨fr 111 g10 [(4, vb false)], y10⟩), (6000, .d true)] (apc q0 (apc (lg a2.right eSym 6) (av h3 (av h4 (av h5 (av h6 (av h7 (av h8 (av h9 (apc ((oK (ac (ac rfl))) : okT 2 [bG a1, bP a2] = true) (apc (e10 : L32_0_e a1 a2 0 = some (.ret, ⟨fr 111 g10 [(4, vb false)], y10⟩)) apn))))))))))) rfl (by kernel_rfl)
         | k1 =>
          obtain ⟨g10, e10⟩ := L32_0_run a1 a2 0 _ h10
          rw [← sj h]
          exact fpr [(10, .v (vb true)), (15, .v (i6 (a2.right.length : Int))), (16, .d false), (21, .d false), (26, .d false), (31, .d false), (37, .d false), (42, .d false), (51, .d false), (2000, .l (.brk 0) (F32_d2 g10 a1 a2)), (6000, .d true)] (apc q0 (apc (lg a2.right eSym 6) (av h3 (av h4 (av h5 (av h6 (av h7 (av h8 (av h9 (apc ((oK (ac (ac rfl))) : okT 2 [bG a1, bP a2] = true) (apc (e10 : L32_0_e a1 a2 0 = some ((.brk 0), F32_d2 g10 a1 a2)) apn))))))))))) rfl (by kernel_rfl)
 ·
  rw [← sj h]
  exact fpr [(10, .v (vb false))] (apc ((((F31_2_ok a1 a2 h1).cp rfl _).trans (congrArg (fun z => some (vb z)) h2)) : CP prg 31 [aG a1, i6 a2.left] [bG a1, bP a2] = some (vb false)) apn) rfl (by kernel_rfl)
inductive E_L12_4 where
  | k0
  | k1
section
variable (a1 : GramD)
def L12_4 (v1 : Int) : Option (E_L12_4 ⊕ (Int)) :=
  (bif (decide (v1 < (a1.prods.length : Int))) then ((getI a1.prods v1).bind fun x2 => ((F32 a1 x2).bind fun x3 => (bif x3 then (some (.inr ((IntKind.wrap .i64 (v1 + 1))))) else (some (.inl (.k0)))))) else (some (.inl (.k1))))
def L12_4_s (v1 : Int) : St := ⟨fr 160 ug [(1, .ptr 0 0), (5, i6 v1)], [bG a1]⟩
abbrev L12_4_e (v1 : Int) := evH prg 1 [1, 5] ir12_l4 (L12_4_s a1 v1)
def L12_4_x (e : E_L12_4) (r : Option (Out × St)) : Prop := match e with | .k0 => ∃ g y, r = some (.ret, ⟨fr 160 g [(2, i6 160)], y⟩) | .k1 => ∃ g, r = some ((.brk 4), ⟨fr 160 g [(1, .ptr 0 0)], [bG a1]⟩)
theorem L12_4_ok (v1 : Int) {r : E_L12_4 ⊕ (Int)} (h : L12_4 a1 v1 = some r) : OkR (fun e => L12_4_x a1 e (L12_4_e a1 v1)) (fun s => L12_4_e a1 v1 = L12_4_e a1 s) r := by
 unfold L12_4 at h
 refine bi h ?_ ?_ <;> intro h1 h
 ·
  refine bn h fun x2 h2 h => ?_
  refine bn h fun x3 h3 h => ?_
  refine bi h ?_ ?_ <;> intro h4 h
  ·
   rw [← sj h]
   exact rnd [(74, .v (i6 (lP a1))), (75, .d true), (82, .v (.ro (eProd x2))), (84, .v (vb true)), (6000, .d true)] (apc (lg a1.prods eProd 7) (av h1 (apc (ig eProd 7 .i64 h2) (apc ((((F32_ok a1 x2 h3).cp rfl _).trans (congrArg (fun z => some (vb z)) h4)) : CP prg 32 [aG a1, aP x2] [bG a1] = some (vb true)) (apc ((oK (ac rfl)) : okT 1 [bG a1] = true) apn))))) (by kernel_rfl)
  ·
   rw [← sj h]
   exact xretY [(74, .v (i6 (lP a1))), (75, .d true), (82, .v (.ro (eProd x2))), (84, .v (vb false)), (6000, .d true)] (apc (lg a1.prods eProd 7) (av h1 (apc (ig eProd 7 .i64 h2) (apc ((((F32_ok a1 x2 h3).cp rfl _).trans (congrArg (fun z => some (vb z)) h4)) : CP prg 32 [aG a1, aP x2] [bG a1] = some (vb false)) apn)))) (by kernel_rfl)
 ·
  rw [← sj h]
  exact xbrk [(74, .v (i6 (lP a1))), (75, .d false), (6000, .d true)] (apc (lg a1.prods eProd 7) (av h1 apn)) (by kernel_rfl)
theorem L12_4_run (s0 : Int) (e : E_L12_4) (h : runL (fun s => L12_4 a1 s) s0 = some e) : L12_4_x a1 e (L12_4_e a1 s0) := by
  have q := @loop_sound' (Int) E_L12_4 (fun s => L12_4 a1 s) (fun s => L12_4_e a1 s) (L12_4_x a1) (fun s r h => L12_4_ok a1 s h) s0 e h
  exact q
end
def F33_v (a1 : GramD) (a2 : ForbD) (x0 : Bool) : AV := (vb x0)
def F33 (a1 : GramD) (a2 : ForbD) : Option Bool :=
  (bif (decide (a2.parent < 0)) then (some false) else (bif (decide (a2.parent ≥ (a1.prods.length : Int))) then (some false) else (bif (decide (a2.child < 0)) then (some false) else (bif (decide (a2.child ≥ (a1.prods.length : Int))) then (some false) else ((getI a1.prods a2.parent).bind fun x5 => (bif (x5.role == 11) then (some false) else ((getI a1.prods a2.child).bind fun x7 => (bif (x7.role == 11) then (some false) else (bif (decide (a2.at_ < 1)) then (some false) else (bif (decide (a2.at_ > (x5.right.length : Int))) then (some false) else ((getI x5.right (IntKind.wrap .i64 (a2.at_ - 1))).bind fun x11 => (bif (x11.kind == 1) then (some (x11.sort == x7.left)) else (some false)))))))))))))
theorem F33_ok (a1 : GramD) (a2 : ForbD) {r : Bool} (h : F33 a1 a2 = some r) : PR1 prg 33 [aG a1, (.agg ((eForb a2).map .p))] (F33_v a1 a2 r) := by
 unfold F33 at h
 refine bi h ?_ ?_ <;> intro h1 h
 ·
  rw [← sj h]
  exact fpr [(8, .d true)] (av h1 apn) rfl (by kernel_rfl)
 ·
  refine bi h ?_ ?_ <;> intro h2 h
  ·
   rw [← sj h]
   exact fpr [(8, .d false), (14, .v (i6 (lP a1))), (15, .d true)] (av h1 (apc (lg a1.prods eProd 7) (av h2 apn))) rfl (by kernel_rfl)
  ·
   refine bi h ?_ ?_ <;> intro h3 h
   ·
    rw [← sj h]
    exact fpr [(8, .d false), (14, .v (i6 (lP a1))), (15, .d false), (20, .d true)] (av h1 (apc (lg a1.prods eProd 7) (av h2 (av h3 apn)))) rfl (by kernel_rfl)
   ·
    refine bi h ?_ ?_ <;> intro h4 h
    ·
     rw [← sj h]
     exact fpr [(8, .d false), (14, .v (i6 (lP a1))), (15, .d false), (20, .d false), (27, .v (i6 (lP a1))), (28, .d true)] (av h1 (apc (lg a1.prods eProd 7) (av h2 (av h3 (apc (lg a1.prods eProd 7) (av h4 apn)))))) rfl (by kernel_rfl)
    ·
     refine bn h fun x5 h5 h => ?_
     refine bi h ?_ ?_ <;> intro h6 h
     ·
      rw [← sj h]
      exact fpr [(8, .d false), (14, .v (i6 (lP a1))), (15, .d false), (20, .d false), (27, .v (i6 (lP a1))), (28, .d false), (35, .v (.ro (eProd x5))), (38, .d true)] (av h1 (apc (lg a1.prods eProd 7) (av h2 (av h3 (apc (lg a1.prods eProd 7) (av h4 (apc (ig eProd 7 .i64 h5) (av h6 apn)))))))) rfl (by kernel_rfl)
     ·
      refine bn h fun x7 h7 h => ?_
      refine bi h ?_ ?_ <;> intro h8 h
      ·
       rw [← sj h]
       exact fpr [(8, .d false), (14, .v (i6 (lP a1))), (15, .d false), (20, .d false), (27, .v (i6 (lP a1))), (28, .d false), (35, .v (.ro (eProd x5))), (38, .d false), (45, .v (.ro (eProd x7))), (48, .d true)] (av h1 (apc (lg a1.prods eProd 7) (av h2 (av h3 (apc (lg a1.prods eProd 7) (av h4 (apc (ig eProd 7 .i64 h5) (av h6 (apc (ig eProd 7 .i64 h7) (av h8 apn)))))))))) rfl (by kernel_rfl)
      ·
       refine bi h ?_ ?_ <;> intro h9 h
       ·
        rw [← sj h]
        exact fpr [(8, .d false), (14, .v (i6 (lP a1))), (15, .d false), (20, .d false), (27, .v (i6 (lP a1))), (28, .d false), (35, .v (.ro (eProd x5))), (38, .d false), (45, .v (.ro (eProd x7))), (48, .d false), (52, .d true)] (av h1 (apc (lg a1.prods eProd 7) (av h2 (av h3 (apc (lg a1.prods eProd 7) (av h4 (apc (ig eProd 7 .i64 h5) (av h6 (apc (ig eProd 7 .i64 h7) (av h8 (av h9 apn))))))))))) rfl (by kernel_rfl)
       ·
        refine bi h ?_ ?_ <;> intro h10 h
        ·
         rw [← sj h]
         exact fpr [(8, .d false), (14, .v (i6 (lP a1))), (15, .d false), (20, .d false), (27, .v (i6 (lP a1))), (28, .d false), (35, .v (.ro (eProd x5))), (38, .d false), (45, .v (.ro (eProd x7))), (48, .d false), (52, .d false), (60, .v (.ro (eProd x5))), (63, .v (i6 (x5.right.length : Int))), (64, .d true)] (av h1 (apc (lg a1.prods eProd 7) (av h2 (av h3 (apc (lg a1.prods eProd 7) (av h4 (apc (ig eProd 7 .i64 h5) (av h6 (apc (ig eProd 7 .i64 h7) (av h8 (av h9 (apc (ig eProd 7 .i64 h5) (apc (lg x5.right eSym 6) (av h10 apn)))))))))))))) rfl (by kernel_rfl)
        ·
         refine bn h fun x11 h11 h => ?_
         refine bi h ?_ ?_ <;> intro h12 h
         ·
          rw [← sj h]
          exact fpr [(8, .d false), (14, .v (i6 (lP a1))), (15, .d false), (20, .d false), (27, .v (i6 (lP a1))), (28, .d false), (35, .v (.ro (eProd x5))), (38, .d false), (45, .v (.ro (eProd x7))), (48, .d false), (52, .d false), (60, .v (.ro (eProd x5))), (63, .v (i6 (x5.right.length : Int))), (64, .d false), (70, .v (.ro (eProd x5))), (76, .v (.ro (eSym x11))), (80, .d true), (88, .v (.ro (eProd x7)))] (av h1 (apc (lg a1.prods eProd 7) (av h2 (av h3 (apc (lg a1.prods eProd 7) (av h4 (apc (ig eProd 7 .i64 h5) (av h6 (apc (ig eProd 7 .i64 h7) (av h8 (av h9 (apc (ig eProd 7 .i64 h5) (apc (lg x5.right eSym 6) (av h10 (apc (ig eProd 7 .i64 h5) (apc (ig eSym 6 .i64 h11) (av h12 (apc (ig eProd 7 .i64 h7) apn)))))))))))))))))) rfl (by kernel_rfl)
         ·
          rw [← sj h]
          exact fpr [(8, .d false), (14, .v (i6 (lP a1))), (15, .d false), (20, .d false), (27, .v (i6 (lP a1))), (28, .d false), (35, .v (.ro (eProd x5))), (38, .d false), (45, .v (.ro (eProd x7))), (48, .d false), (52, .d false), (60, .v (.ro (eProd x5))), (63, .v (i6 (x5.right.length : Int))), (64, .d false), (70, .v (.ro (eProd x5))), (76, .v (.ro (eSym x11))), (80, .d false)] (av h1 (apc (lg a1.prods eProd 7) (av h2 (av h3 (apc (lg a1.prods eProd 7) (av h4 (apc (ig eProd 7 .i64 h5) (av h6 (apc (ig eProd 7 .i64 h7) (av h8 (av h9 (apc (ig eProd 7 .i64 h5) (apc (lg x5.right eSym 6) (av h10 (apc (ig eProd 7 .i64 h5) (apc (ig eSym 6 .i64 h11) (av h12 apn))))))))))))))))) rfl (by kernel_rfl)
inductive E_L12_2_2 where
  | k0
  | k1
section
variable (a1 : Int) (a2 : GramD)
def L12_2_2 (v1 : Int) : Option (E_L12_2_2 ⊕ (Int)) :=
  (bif (decide (v1 < a1)) then ((getI a2.forbid v1).bind fun x2 => ((getI a2.forbid a1).bind fun x3 => (bif ((x2.parent == x3.parent) && ((x2.at_ == x3.at_) && ((x2.child == x3.child) && true))) then (some (.inl (.k0))) else (some (.inr ((IntKind.wrap .i64 (v1 + 1)))))))) else (some (.inl (.k1))))
def L12_2_2_s (v1 : Int) : St := ⟨fr 160 ug [(1, .ptr 0 0), (6, i6 a1), (7, i6 v1)], [bG a2]⟩
abbrev L12_2_2_e (v1 : Int) := evH prg 1 [1, 6, 7] ir12_l2 (L12_2_2_s a1 a2 v1)
def L12_2_2_x (e : E_L12_2_2) (r : Option (Out × St)) : Prop := match e with | .k0 => ∃ g y, r = some (.ret, ⟨fr 160 g [(2, i6 160)], y⟩) | .k1 => ∃ g, r = some ((.brk 8), ⟨fr 160 g [(1, .ptr 0 0), (6, i6 a1)], [bG a2]⟩)
theorem L12_2_2_ok (v1 : Int) {r : E_L12_2_2 ⊕ (Int)} (h : L12_2_2 a1 a2 v1 = some r) : OkR (fun e => L12_2_2_x a1 a2 e (L12_2_2_e a1 a2 v1)) (fun s => L12_2_2_e a1 a2 v1 = L12_2_2_e a1 a2 s) r := by
 unfold L12_2_2 at h
 refine bi h ?_ ?_ <;> intro h1 h
 ·
  refine bn h fun x2 h2 h => ?_
  refine bn h fun x3 h3 h => ?_
  refine bi h ?_ ?_ <;> intro h4 h
  ·
   rw [← sj h]
   exact xretY [(103, .d true), (109, .v (.ro (eForb x2))), (114, .v (.ro (eForb x3))), (116, .d true), (6000, .d true)] (av h1 (apc (ig eForb 3 .i64 h2) (apc (ig eForb 3 .i64 h3) (av h4 apn)))) (by kernel_rfl)
  ·
   rw [← sj h]
   exact rnd [(103, .d true), (109, .v (.ro (eForb x2))), (114, .v (.ro (eForb x3))), (116, .d false), (6000, .d true)] (av h1 (apc (ig eForb 3 .i64 h2) (apc (ig eForb 3 .i64 h3) (av h4 (apc ((oK (ac rfl)) : okT 1 [bG a2] = true) apn))))) (by kernel_rfl)
 ·
  rw [← sj h]
  exact xbrk [(103, .d false), (6000, .d true)] (av h1 apn) (by kernel_rfl)
theorem L12_2_2_run (s0 : Int) (e : E_L12_2_2) (h : runL (fun s => L12_2_2 a1 a2 s) s0 = some e) : L12_2_2_x a1 a2 e (L12_2_2_e a1 a2 s0) := by
  have q := @loop_sound' (Int) E_L12_2_2 (fun s => L12_2_2 a1 a2 s) (fun s => L12_2_2_e a1 a2 s) (L12_2_2_x a1 a2) (fun s r h => L12_2_2_ok a1 a2 s h) s0 e h
  exact q
end
inductive E_L12_3 where
  | k0
  | k1
section
variable (a1 : GramD)
def L12_3 (v1 : Int) : Option (E_L12_3 ⊕ (Int)) :=
  (bif (decide (v1 < (a1.forbid.length : Int))) then ((getI a1.forbid v1).bind fun x2 => ((F33 a1 x2).bind fun x3 => (bif x3 then ((runL (fun s => L12_2_2 v1 a1 s) 0).bind fun r5 => match r5 with | .k0 => (some (.inl (.k0))) | .k1 => (some (.inr ((IntKind.wrap .i64 (v1 + 1)))))) else (some (.inl (.k0)))))) else (some (.inl (.k1))))
def L12_3_s (v1 : Int) : St := ⟨fr 160 ug [(1, .ptr 0 0), (6, i6 v1)], [bG a1]⟩
abbrev L12_3_e (v1 : Int) := evH prg 1 [1, 6] ir12_l3 (L12_3_s a1 v1)
def L12_3_x (e : E_L12_3) (r : Option (Out × St)) : Prop := match e with | .k0 => ∃ g y, r = some (.ret, ⟨fr 160 g [(2, i6 160)], y⟩) | .k1 => ∃ g, r = some ((.brk 6), ⟨fr 160 g [(1, .ptr 0 0)], [bG a1]⟩)
abbrev L12_3_d0 (g5 : Nat → AV) (v1 : Int) : St := ⟨fr 160 g5 [(1, .ptr 0 0), (6, i6 v1)], [bG a1]⟩
theorem L12_3_ok (v1 : Int) {r : E_L12_3 ⊕ (Int)} (h : L12_3 a1 v1 = some r) : OkR (fun e => L12_3_x a1 e (L12_3_e a1 v1)) (fun s => L12_3_e a1 v1 = L12_3_e a1 s) r := by
 unfold L12_3 at h
 refine bi h ?_ ?_ <;> intro h1 h
 ·
  refine bn h fun x2 h2 h => ?_
  refine bn h fun x3 h3 h => ?_
  refine bi h ?_ ?_ <;> intro h4 h
  ·
   have q3 := ((((F33_ok a1 x2 h3).cp rfl _).trans (congrArg (fun z => some (vb z)) h4)) : CP prg 33 [aG a1, (.agg ((eForb x2).map .p))] [bG a1] = some (vb true))
   refine bn h fun r5 h5 h => ?_
   cases r5 with
   | k0 =>
    obtain ⟨g5, y5, e5⟩ := L12_2_2_run v1 a1 0 _ h5
    rw [← sj h]
    exact xretY [(89, .v (i6 (lF a1))), (90, .d true), (97, .v (.ro (eForb x2))), (99, .v (vb true)), (2008, .l .ret ⟨fr 160 g5 [(2, i6 160)], y5⟩), (6000, .d true)] (apc (lg a1.forbid eForb 3) (av h1 (apc (ig eForb 3 .i64 h2) (apc q3 (apc ((oK (ac rfl)) : okT 1 [bG a1] = true) (apc (e5 : L12_2_2_e v1 a1 0 = some (.ret, ⟨fr 160 g5 [(2, i6 160)], y5⟩)) apn)))))) (by kernel_rfl)
   | k1 =>
    obtain ⟨g5, e5⟩ := L12_2_2_run v1 a1 0 _ h5
    rw [← sj h]
    exact rnd [(89, .v (i6 (lF a1))), (90, .d true), (97, .v (.ro (eForb x2))), (99, .v (vb true)), (2008, .l (.brk 8) (L12_3_d0 a1 g5 v1)), (6000, .d true)] (apc (lg a1.forbid eForb 3) (av h1 (apc (ig eForb 3 .i64 h2) (apc q3 (apc ((oK (ac rfl)) : okT 1 [bG a1] = true) (apc (e5 : L12_2_2_e v1 a1 0 = some ((.brk 8), L12_3_d0 a1 g5 v1)) (apc ((oK (ac rfl)) : okT 1 [bG a1] = true) apn))))))) (by kernel_rfl)
  ·
   rw [← sj h]
   exact xretY [(89, .v (i6 (lF a1))), (90, .d true), (97, .v (.ro (eForb x2))), (99, .v (vb false)), (6000, .d true)] (apc (lg a1.forbid eForb 3) (av h1 (apc (ig eForb 3 .i64 h2) (apc ((((F33_ok a1 x2 h3).cp rfl _).trans (congrArg (fun z => some (vb z)) h4)) : CP prg 33 [aG a1, (.agg ((eForb x2).map .p))] [bG a1] = some (vb false)) apn)))) (by kernel_rfl)
 ·
  rw [← sj h]
  exact xbrk [(89, .v (i6 (lF a1))), (90, .d false), (6000, .d true)] (apc (lg a1.forbid eForb 3) (av h1 apn)) (by kernel_rfl)
theorem L12_3_run (s0 : Int) (e : E_L12_3) (h : runL (fun s => L12_3 a1 s) s0 = some e) : L12_3_x a1 e (L12_3_e a1 s0) := by
  have q := @loop_sound' (Int) E_L12_3 (fun s => L12_3 a1 s) (fun s => L12_3_e a1 s) (L12_3_x a1) (fun s r h => L12_3_ok a1 s h) s0 e h
  exact q
end
def F31_4_v (a1 : GramD) (a2 : FollD) (x0 : Bool) : AV := (vb x0)
def F31_4 (a1 : GramD) (a2 : FollD) : Option Bool :=
  (bif (decide (a2.sort ≥ 0)) then (some (decide (a2.sort < (a1.sorts.length : Int)))) else (some false))
theorem F31_4_ok (a1 : GramD) (a2 : FollD) {r : Bool} (h : F31_4 a1 a2 = some r) : PR1 prg 31 [aG a1, i6 a2.sort] (F31_4_v a1 a2 r) := by
 unfold F31_4 at h
 refine bi h ?_ ?_ <;> intro h1 h
 ·
  rw [← sj h]
  exact fpr [(6, .d true), (11, .v (i6 (lS a1)))] (av h1 (apc (lg a1.sorts eStr 1) apn)) rfl (by kernel_rfl)
 ·
  rw [← sj h]
  exact fpr [(6, .d false)] (av h1 apn) rfl (by kernel_rfl)
def F34_2_v (a1 : FollD) (x0 : Bool) : AV := (vb x0)
def F34_2 (a1 : FollD) : Option Bool :=
  (some ((IntKind.wrap .u64 ((BitVec.ofInt (IntKind.bits .u64) (IntKind.wrap .u64 ((BitVec.ofInt (IntKind.bits .u64) (IntKind.wrap .u64 ((BitVec.ofInt (IntKind.bits .u64) a1.a ||| BitVec.ofInt (IntKind.bits .u64) a1.b).toNat : Int)) ||| BitVec.ofInt (IntKind.bits .u64) a1.c).toNat : Int)) ||| BitVec.ofInt (IntKind.bits .u64) a1.d).toNat : Int)) == 0))
theorem F34_2_ok (a1 : FollD) {r : Bool} (h : F34_2 a1 = some r) : PR1 prg 34 [(.agg ((List.drop 1 (eFoll a1)).map .p))] (F34_2_v a1 r) := by
 unfold F34_2 at h
 rw [← sj h]
 exact fpr [] apn rfl (by kernel_rfl)
inductive E_L12_0_2 where
  | k0
  | k1
section
variable (a1 : Int) (a2 : GramD)
def L12_0_2 (v1 : Int) : Option (E_L12_0_2 ⊕ (Int)) :=
  (bif (decide (v1 < a1)) then ((getI a2.follow v1).bind fun x2 => ((getI a2.follow a1).bind fun x3 => (bif (x2.sort == x3.sort) then (some (.inl (.k0))) else (some (.inr ((IntKind.wrap .i64 (v1 + 1)))))))) else (some (.inl (.k1))))
def L12_0_2_s (v1 : Int) : St := ⟨fr 160 ug [(1, .ptr 0 0), (8, i6 a1), (9, i6 v1)], [bG a2]⟩
abbrev L12_0_2_e (v1 : Int) := evH prg 1 [1, 8, 9] ir12_l0 (L12_0_2_s a1 a2 v1)
def L12_0_2_x (e : E_L12_0_2) (r : Option (Out × St)) : Prop := match e with | .k0 => ∃ g y, r = some (.ret, ⟨fr 160 g [(2, i6 160)], y⟩) | .k1 => ∃ g, r = some ((.brk 12), ⟨fr 160 g [(1, .ptr 0 0), (8, i6 a1)], [bG a2]⟩)
theorem L12_0_2_ok (v1 : Int) {r : E_L12_0_2 ⊕ (Int)} (h : L12_0_2 a1 a2 v1 = some r) : OkR (fun e => L12_0_2_x a1 a2 e (L12_0_2_e a1 a2 v1)) (fun s => L12_0_2_e a1 a2 v1 = L12_0_2_e a1 a2 s) r := by
 unfold L12_0_2 at h
 refine bi h ?_ ?_ <;> intro h1 h
 ·
  refine bn h fun x2 h2 h => ?_
  refine bn h fun x3 h3 h => ?_
  refine bi h ?_ ?_ <;> intro h4 h
  ·
   rw [← sj h]
   exact xretY [(144, .d true), (150, .v (.ro (eFoll x2))), (156, .v (.ro (eFoll x3))), (159, .d true), (6000, .d true)] (av h1 (apc (ig eFoll 5 .i64 h2) (apc (ig eFoll 5 .i64 h3) (av h4 apn)))) (by kernel_rfl)
  ·
   rw [← sj h]
   exact rnd [(144, .d true), (150, .v (.ro (eFoll x2))), (156, .v (.ro (eFoll x3))), (159, .d false), (6000, .d true)] (av h1 (apc (ig eFoll 5 .i64 h2) (apc (ig eFoll 5 .i64 h3) (av h4 (apc ((oK (ac rfl)) : okT 1 [bG a2] = true) apn))))) (by kernel_rfl)
 ·
  rw [← sj h]
  exact xbrk [(144, .d false), (6000, .d true)] (av h1 apn) (by kernel_rfl)
theorem L12_0_2_run (s0 : Int) (e : E_L12_0_2) (h : runL (fun s => L12_0_2 a1 a2 s) s0 = some e) : L12_0_2_x a1 a2 e (L12_0_2_e a1 a2 s0) := by
  have q := @loop_sound' (Int) E_L12_0_2 (fun s => L12_0_2 a1 a2 s) (fun s => L12_0_2_e a1 a2 s) (L12_0_2_x a1 a2) (fun s r h => L12_0_2_ok a1 a2 s h) s0 e h
  exact q
end
inductive E_L12_1 where
  | k0
  | k1
section
variable (a1 : GramD)
def L12_1 (v1 : Int) : Option (E_L12_1 ⊕ (Int)) :=
  (bif (decide (v1 < (a1.follow.length : Int))) then ((getI a1.follow v1).bind fun x2 => ((F31_4 a1 x2).bind fun x3 => (bif x3 then ((F34_2 x2).bind fun x5 => (bif x5 then (some (.inl (.k0))) else ((runL (fun s => L12_0_2 v1 a1 s) 0).bind fun r7 => match r7 with | .k0 => (some (.inl (.k0))) | .k1 => (some (.inr ((IntKind.wrap .i64 (v1 + 1)))))))) else (some (.inl (.k0)))))) else (some (.inl (.k1))))
def L12_1_s (v1 : Int) : St := ⟨fr 160 ug [(1, .ptr 0 0), (8, i6 v1)], [bG a1]⟩
abbrev L12_1_e (v1 : Int) := evH prg 1 [1, 8] ir12_l1 (L12_1_s a1 v1)
def L12_1_x (e : E_L12_1) (r : Option (Out × St)) : Prop := match e with | .k0 => ∃ g y, r = some (.ret, ⟨fr 160 g [(2, i6 160)], y⟩) | .k1 => ∃ g, r = some ((.brk 10), ⟨fr 160 g [(1, .ptr 0 0)], [bG a1]⟩)
abbrev L12_1_d0 (g7 : Nat → AV) (v1 : Int) : St := ⟨fr 160 g7 [(1, .ptr 0 0), (8, i6 v1)], [bG a1]⟩
theorem L12_1_ok (v1 : Int) {r : E_L12_1 ⊕ (Int)} (h : L12_1 a1 v1 = some r) : OkR (fun e => L12_1_x a1 e (L12_1_e a1 v1)) (fun s => L12_1_e a1 v1 = L12_1_e a1 s) r := by
 unfold L12_1 at h
 refine bi h ?_ ?_ <;> intro h1 h
 ·
  refine bn h fun x2 h2 h => ?_
  refine bn h fun x3 h3 h => ?_
  refine bi h ?_ ?_ <;> intro h4 h
  ·
   have q3 := ((((F31_4_ok a1 x2 h3).cp rfl _).trans (congrArg (fun z => some (vb z)) h4)) : CP prg 31 [aG a1, i6 x2.sort] [bG a1] = some (vb true))
   refine bn h fun x5 h5 h => ?_
   refine bi h ?_ ?_ <;> intro h6 h
   ·
    rw [← sj h]
    exact xretY [(120, .v (i6 (lW a1))), (121, .d true), (128, .v (.ro (eFoll x2))), (131, .v (vb true)), (137, .v (.ro (eFoll x2))), (140, .v (vb true)), (6000, .d true)] (apc (lg a1.follow eFoll 5) (av h1 (apc (ig eFoll 5 .i64 h2) (apc q3 (apc (ig eFoll 5 .i64 h2) (apc ((((F34_2_ok x2 h5).cp rfl _).trans (congrArg (fun z => some (vb z)) h6)) : CP prg 34 [(.agg ((List.drop 1 (eFoll x2)).map .p))] [bG a1] = some (vb true)) apn)))))) (by kernel_rfl)
   ·
    have q5 := ((((F34_2_ok x2 h5).cp rfl _).trans (congrArg (fun z => some (vb z)) h6)) : CP prg 34 [(.agg ((List.drop 1 (eFoll x2)).map .p))] [bG a1] = some (vb false))
    refine bn h fun r7 h7 h => ?_
    cases r7 with
    | k0 =>
     obtain ⟨g7, y7, e7⟩ := L12_0_2_run v1 a1 0 _ h7
     rw [← sj h]
     exact xretY [(120, .v (i6 (lW a1))), (121, .d true), (128, .v (.ro (eFoll x2))), (131, .v (vb true)), (137, .v (.ro (eFoll x2))), (140, .v (vb false)), (2012, .l .ret ⟨fr 160 g7 [(2, i6 160)], y7⟩), (6000, .d true)] (apc (lg a1.follow eFoll 5) (av h1 (apc (ig eFoll 5 .i64 h2) (apc q3 (apc (ig eFoll 5 .i64 h2) (apc q5 (apc ((oK (ac rfl)) : okT 1 [bG a1] = true) (apc (e7 : L12_0_2_e v1 a1 0 = some (.ret, ⟨fr 160 g7 [(2, i6 160)], y7⟩)) apn)))))))) (by kernel_rfl)
    | k1 =>
     obtain ⟨g7, e7⟩ := L12_0_2_run v1 a1 0 _ h7
     rw [← sj h]
     exact rnd [(120, .v (i6 (lW a1))), (121, .d true), (128, .v (.ro (eFoll x2))), (131, .v (vb true)), (137, .v (.ro (eFoll x2))), (140, .v (vb false)), (2012, .l (.brk 12) (L12_1_d0 a1 g7 v1)), (6000, .d true)] (apc (lg a1.follow eFoll 5) (av h1 (apc (ig eFoll 5 .i64 h2) (apc q3 (apc (ig eFoll 5 .i64 h2) (apc q5 (apc ((oK (ac rfl)) : okT 1 [bG a1] = true) (apc (e7 : L12_0_2_e v1 a1 0 = some ((.brk 12), L12_1_d0 a1 g7 v1)) (apc ((oK (ac rfl)) : okT 1 [bG a1] = true) apn))))))))) (by kernel_rfl)
  ·
   rw [← sj h]
   exact xretY [(120, .v (i6 (lW a1))), (121, .d true), (128, .v (.ro (eFoll x2))), (131, .v (vb false)), (6000, .d true)] (apc (lg a1.follow eFoll 5) (av h1 (apc (ig eFoll 5 .i64 h2) (apc ((((F31_4_ok a1 x2 h3).cp rfl _).trans (congrArg (fun z => some (vb z)) h4)) : CP prg 31 [aG a1, i6 x2.sort] [bG a1] = some (vb false)) apn)))) (by kernel_rfl)
 ·
  rw [← sj h]
  exact xbrk [(120, .v (i6 (lW a1))), (121, .d false), (6000, .d true)] (apc (lg a1.follow eFoll 5) (av h1 apn)) (by kernel_rfl)
theorem L12_1_run (s0 : Int) (e : E_L12_1) (h : runL (fun s => L12_1 a1 s) s0 = some e) : L12_1_x a1 e (L12_1_e a1 s0) := by
  have q := @loop_sound' (Int) E_L12_1 (fun s => L12_1 a1 s) (fun s => L12_1_e a1 s) (L12_1_x a1) (fun s r h => L12_1_ok a1 s h) s0 e h
  exact q
end
def F12_v (a1 : GramD) (x0 : Int) : AV := (i6 x0)
def F12 (a1 : GramD) : Option Int :=
  (bif (decide ((a1.sorts.length : Int) < 1)) then (some 160) else (bif (decide ((a1.sorts.length : Int) > 1000)) then (some 160) else (bif (decide ((a1.prods.length : Int) > 1000)) then (some 160) else ((F31 a1).bind fun x4 => (bif x4 then ((runL (fun s => L12_6 a1 s) 0).bind fun r6 => match r6 with | .k0 => (some 160) | .k1 => ((runL (fun s => L12_4 a1 s) 0).bind fun r7 => match r7 with | .k0 => (some 160) | .k1 => ((runL (fun s => L12_3 a1 s) 0).bind fun r8 => match r8 with | .k0 => (some 160) | .k1 => ((runL (fun s => L12_1 a1 s) 0).bind fun r9 => match r9 with | .k0 => (some 160) | .k1 => (some 0))))) else (some 160))))))
theorem F12_ok (a1 : GramD) {r : Int} (h : F12 a1 = some r) : PR1 prg 12 [aG a1] (F12_v a1 r) := by
 unfold F12 at h
 refine bi h ?_ ?_ <;> intro h1 h
 ·
  rw [← sj h]
  exact fpr [(12, .v (i6 (lS a1))), (13, .d true)] (apc (lg a1.sorts eStr 1) (av h1 apn)) rfl (by kernel_rfl)
 ·
  refine bi h ?_ ?_ <;> intro h2 h
  ·
   rw [← sj h]
   exact fpr [(12, .v (i6 (lS a1))), (13, .d false), (17, .v (i6 (lS a1))), (18, .d true)] (apc (lg a1.sorts eStr 1) (av h1 (apc (lg a1.sorts eStr 1) (av h2 apn)))) rfl (by kernel_rfl)
  ·
   refine bi h ?_ ?_ <;> intro h3 h
   ·
    rw [← sj h]
    exact fpr [(12, .v (i6 (lS a1))), (13, .d false), (17, .v (i6 (lS a1))), (18, .d false), (23, .v (i6 (lP a1))), (24, .d true)] (apc (lg a1.sorts eStr 1) (av h1 (apc (lg a1.sorts eStr 1) (av h2 (apc (lg a1.prods eProd 7) (av h3 apn)))))) rfl (by kernel_rfl)
   ·
    refine bn h fun x4 h4 h => ?_
    refine bi h ?_ ?_ <;> intro h5 h
    ·
     have q6 := ((((F31_ok a1 h4).cp rfl _).trans (congrArg (fun z => some (vb z)) h5)) : CP prg 31 [aG a1, i6 a1.start] [bG a1] = some (vb true))
     refine bn h fun r6 h6 h => ?_
     cases r6 with
     | k0 =>
      obtain ⟨g6, y6, e6⟩ := L12_6_run a1 0 _ h6
      rw [← sj h]
      exact fpr [(12, .v (i6 (lS a1))), (13, .d false), (17, .v (i6 (lS a1))), (18, .d false), (23, .v (i6 (lP a1))), (24, .d false), (30, .v (vb true)), (2000, .l .ret ⟨fr 160 g6 [(2, i6 160)], y6⟩), (6000, .d true)] (apc (lg a1.sorts eStr 1) (av h1 (apc (lg a1.sorts eStr 1) (av h2 (apc (lg a1.prods eProd 7) (av h3 (apc q6 (apc ((oK (ac rfl)) : okT 1 [bG a1] = true) (apc (e6 : L12_6_e a1 0 = some (.ret, ⟨fr 160 g6 [(2, i6 160)], y6⟩)) apn))))))))) rfl (by kernel_rfl)
     | k1 =>
      obtain ⟨g6, e6⟩ := L12_6_run a1 0 _ h6
      have q7 := ((oK (ac rfl)) : okT 1 [bG a1] = true)
      have q8 := (e6 : L12_6_e a1 0 = some ((.brk 0), ⟨fr 160 g6 [(1, .ptr 0 0)], [bG a1]⟩))
      refine bn h fun r7 h7 h => ?_
      cases r7 with
      | k0 =>
       obtain ⟨g7, y7, e7⟩ := L12_4_run a1 0 _ h7
       rw [← sj h]
       exact fpr [(12, .v (i6 (lS a1))), (13, .d false), (17, .v (i6 (lS a1))), (18, .d false), (23, .v (i6 (lP a1))), (24, .d false), (30, .v (vb true)), (2000, .l (.brk 0) ⟨fr 160 g6 [(1, .ptr 0 0)], [bG a1]⟩), (2004, .l .ret ⟨fr 160 g7 [(2, i6 160)], y7⟩), (6000, .d true)] (apc (lg a1.sorts eStr 1) (av h1 (apc (lg a1.sorts eStr 1) (av h2 (apc (lg a1.prods eProd 7) (av h3 (apc q6 (apc q7 (apc q8 (apc ((oK (ac rfl)) : okT 1 [bG a1] = true) (apc (e7 : L12_4_e a1 0 = some (.ret, ⟨fr 160 g7 [(2, i6 160)], y7⟩)) apn))))))))))) rfl (by kernel_rfl)
      | k1 =>
       obtain ⟨g7, e7⟩ := L12_4_run a1 0 _ h7
       have q9 := ((oK (ac rfl)) : okT 1 [bG a1] = true)
       have q10 := (e7 : L12_4_e a1 0 = some ((.brk 4), ⟨fr 160 g7 [(1, .ptr 0 0)], [bG a1]⟩))
       refine bn h fun r8 h8 h => ?_
       cases r8 with
       | k0 =>
        obtain ⟨g8, y8, e8⟩ := L12_3_run a1 0 _ h8
        rw [← sj h]
        exact fpr [(12, .v (i6 (lS a1))), (13, .d false), (17, .v (i6 (lS a1))), (18, .d false), (23, .v (i6 (lP a1))), (24, .d false), (30, .v (vb true)), (2000, .l (.brk 0) ⟨fr 160 g6 [(1, .ptr 0 0)], [bG a1]⟩), (2004, .l (.brk 4) ⟨fr 160 g7 [(1, .ptr 0 0)], [bG a1]⟩), (2006, .l .ret ⟨fr 160 g8 [(2, i6 160)], y8⟩), (6000, .d true)] (apc (lg a1.sorts eStr 1) (av h1 (apc (lg a1.sorts eStr 1) (av h2 (apc (lg a1.prods eProd 7) (av h3 (apc q6 (apc q7 (apc q8 (apc q9 (apc q10 (apc ((oK (ac rfl)) : okT 1 [bG a1] = true) (apc (e8 : L12_3_e a1 0 = some (.ret, ⟨fr 160 g8 [(2, i6 160)], y8⟩)) apn))))))))))))) rfl (by kernel_rfl)
       | k1 =>
        obtain ⟨g8, e8⟩ := L12_3_run a1 0 _ h8
        have q11 := ((oK (ac rfl)) : okT 1 [bG a1] = true)
        have q12 := (e8 : L12_3_e a1 0 = some ((.brk 6), ⟨fr 160 g8 [(1, .ptr 0 0)], [bG a1]⟩))
        refine bn h fun r9 h9 h => ?_
        cases r9 with
        | k0 =>
         obtain ⟨g9, y9, e9⟩ := L12_1_run a1 0 _ h9
         rw [← sj h]
         exact fpr [(12, .v (i6 (lS a1))), (13, .d false), (17, .v (i6 (lS a1))), (18, .d false), (23, .v (i6 (lP a1))), (24, .d false), (30, .v (vb true)), (2000, .l (.brk 0) ⟨fr 160 g6 [(1, .ptr 0 0)], [bG a1]⟩), (2004, .l (.brk 4) ⟨fr 160 g7 [(1, .ptr 0 0)], [bG a1]⟩), (2006, .l (.brk 6) ⟨fr 160 g8 [(1, .ptr 0 0)], [bG a1]⟩), (2010, .l .ret ⟨fr 160 g9 [(2, i6 160)], y9⟩), (6000, .d true)] (apc (lg a1.sorts eStr 1) (av h1 (apc (lg a1.sorts eStr 1) (av h2 (apc (lg a1.prods eProd 7) (av h3 (apc q6 (apc q7 (apc q8 (apc q9 (apc q10 (apc q11 (apc q12 (apc ((oK (ac rfl)) : okT 1 [bG a1] = true) (apc (e9 : L12_1_e a1 0 = some (.ret, ⟨fr 160 g9 [(2, i6 160)], y9⟩)) apn))))))))))))))) rfl (by kernel_rfl)
        | k1 =>
         obtain ⟨g9, e9⟩ := L12_1_run a1 0 _ h9
         rw [← sj h]
         exact fpr [(12, .v (i6 (lS a1))), (13, .d false), (17, .v (i6 (lS a1))), (18, .d false), (23, .v (i6 (lP a1))), (24, .d false), (30, .v (vb true)), (2000, .l (.brk 0) ⟨fr 160 g6 [(1, .ptr 0 0)], [bG a1]⟩), (2004, .l (.brk 4) ⟨fr 160 g7 [(1, .ptr 0 0)], [bG a1]⟩), (2006, .l (.brk 6) ⟨fr 160 g8 [(1, .ptr 0 0)], [bG a1]⟩), (2010, .l (.brk 10) ⟨fr 160 g9 [(1, .ptr 0 0)], [bG a1]⟩), (6000, .d true)] (apc (lg a1.sorts eStr 1) (av h1 (apc (lg a1.sorts eStr 1) (av h2 (apc (lg a1.prods eProd 7) (av h3 (apc q6 (apc q7 (apc q8 (apc q9 (apc q10 (apc q11 (apc q12 (apc ((oK (ac rfl)) : okT 1 [bG a1] = true) (apc (e9 : L12_1_e a1 0 = some ((.brk 10), ⟨fr 160 g9 [(1, .ptr 0 0)], [bG a1]⟩)) apn))))))))))))))) rfl (by kernel_rfl)
    ·
     rw [← sj h]
     exact fpr [(12, .v (i6 (lS a1))), (13, .d false), (17, .v (i6 (lS a1))), (18, .d false), (23, .v (i6 (lP a1))), (24, .d false), (30, .v (vb false))] (apc (lg a1.sorts eStr 1) (av h1 (apc (lg a1.sorts eStr 1) (av h2 (apc (lg a1.prods eProd 7) (av h3 (apc ((((F31_ok a1 h4).cp rfl _).trans (congrArg (fun z => some (vb z)) h5)) : CP prg 31 [aG a1, i6 a1.start] [bG a1] = some (vb false)) apn))))))) rfl (by kernel_rfl)
inductive E_L18_4_2 where
  | k0
section
def L18_4_2 : Option (E_L18_4_2 ⊕ (Unit)) :=
  (some (.inl (.k0)))
def L18_4_2_s : St := ⟨fr 191 ug [(2, .ptr 0 0), (3, .ptr 1 0), (5, i6 0)], [.cells 27 [n0, n0, i6 0, n0, n0], .cells 27 [n0, n0, i6 0, n0, n0]]⟩
abbrev L18_4_2_e := evH prg 2 [2, 3, 5] ir18_l4 (L18_4_2_s)
def L18_4_2_x (e : E_L18_4_2) (r : Option (Out × St)) : Prop := match e with | .k0 => ∃ g, r = some ((.brk 0), ⟨fr 191 g [(2, .ptr 0 0), (3, .ptr 1 0)], [.cells 27 [n0, n0, i6 0, n0, n0], .cells 27 [n0, n0, i6 0, n0, n0]]⟩)
theorem L18_4_2_ok {r : E_L18_4_2 ⊕ (Unit)} (h : L18_4_2 = some r) : OkR (fun e => L18_4_2_x e (L18_4_2_e)) (fun s => L18_4_2_e = L18_4_2_e) r := by
 unfold L18_4_2 at h
 rw [← sj h]
 exact xbrk [(6000, .d true)] apn (by kernel_rfl)
theorem L18_4_2_run (s0 : Unit) (e : E_L18_4_2) (h : runL (fun s => L18_4_2) s0 = some e) : L18_4_2_x e (L18_4_2_e) := by
  have q := @loop_sound' (Unit) E_L18_4_2 (fun s => L18_4_2) (fun s => L18_4_2_e) (L18_4_2_x) (fun s r h => L18_4_2_ok h) s0 e h
  exact q
end
inductive E_L18_3_2 where
  | k0
section
def L18_3_2 : Option (E_L18_3_2 ⊕ (Unit)) :=
  (some (.inl (.k0)))
def L18_3_2_s : St := ⟨fr 191 ug [(2, .ptr 0 0), (3, .ptr 1 0), (6, i6 0)], [.cells 27 [n0, n0, i6 0, n0, n0], .cells 27 [n0, n0, i6 0, n0, n0]]⟩
abbrev L18_3_2_e := evH prg 2 [2, 3, 6] ir18_l3 (L18_3_2_s)
def L18_3_2_x (e : E_L18_3_2) (r : Option (Out × St)) : Prop := match e with | .k0 => ∃ g, r = some ((.brk 2), ⟨fr 191 g [(2, .ptr 0 0), (3, .ptr 1 0)], [.cells 27 [n0, n0, i6 0, n0, n0], .cells 27 [n0, n0, i6 0, n0, n0]]⟩)
theorem L18_3_2_ok {r : E_L18_3_2 ⊕ (Unit)} (h : L18_3_2 = some r) : OkR (fun e => L18_3_2_x e (L18_3_2_e)) (fun s => L18_3_2_e = L18_3_2_e) r := by
 unfold L18_3_2 at h
 rw [← sj h]
 exact xbrk [(6000, .d true)] apn (by kernel_rfl)
theorem L18_3_2_run (s0 : Unit) (e : E_L18_3_2) (h : runL (fun s => L18_3_2) s0 = some e) : L18_3_2_x e (L18_3_2_e) := by
  have q := @loop_sound' (Unit) E_L18_3_2 (fun s => L18_3_2) (fun s => L18_3_2_e) (L18_3_2_x) (fun s r h => L18_3_2_ok h) s0 e h
  exact q
end
inductive E_L18_1_2 where
  | k0
section
def L18_1_2 : Option (E_L18_1_2 ⊕ (Unit)) :=
  (some (.inl (.k0)))
def L18_1_2_s : St := ⟨fr 191 ug [(2, .ptr 0 0), (3, .ptr 1 0), (10, i6 0)], [.cells 27 [n0, n0, i6 0, n0, n0], .cells 27 [n0, n0, i6 0, n0, n0]]⟩
abbrev L18_1_2_e := evH prg 2 [2, 3, 10] ir18_l1 (L18_1_2_s)
def L18_1_2_x (e : E_L18_1_2) (r : Option (Out × St)) : Prop := match e with | .k0 => ∃ g, r = some ((.brk 6), ⟨fr 191 g [(2, .ptr 0 0), (3, .ptr 1 0)], [.cells 27 [n0, n0, i6 0, n0, n0], .cells 27 [n0, n0, i6 0, n0, n0]]⟩)
theorem L18_1_2_ok {r : E_L18_1_2 ⊕ (Unit)} (h : L18_1_2 = some r) : OkR (fun e => L18_1_2_x e (L18_1_2_e)) (fun s => L18_1_2_e = L18_1_2_e) r := by
 unfold L18_1_2 at h
 rw [← sj h]
 exact xbrk [(6000, .d true)] apn (by kernel_rfl)
theorem L18_1_2_run (s0 : Unit) (e : E_L18_1_2) (h : runL (fun s => L18_1_2) s0 = some e) : L18_1_2_x e (L18_1_2_e) := by
  have q := @loop_sound' (Unit) E_L18_1_2 (fun s => L18_1_2) (fun s => L18_1_2_e) (L18_1_2_x) (fun s r h => L18_1_2_ok h) s0 e h
  exact q
end
inductive E_L18_0_2 where
  | k0
section
def L18_0_2 : Option (E_L18_0_2 ⊕ (Unit)) :=
  (some (.inl (.k0)))
def L18_0_2_s : St := ⟨fr 191 ug [(2, .ptr 0 0), (3, .ptr 1 0), (11, i6 0)], [.cells 27 [n0, n0, i6 0, n0, n0], .cells 27 [n0, n0, i6 0, n0, n0]]⟩
abbrev L18_0_2_e := evH prg 2 [2, 3, 11] ir18_l0 (L18_0_2_s)
def L18_0_2_x (e : E_L18_0_2) (r : Option (Out × St)) : Prop := match e with | .k0 => ∃ g, r = some ((.brk 8), ⟨fr 191 g [(2, .ptr 0 0), (3, .ptr 1 0)], [.cells 27 [n0, n0, i6 0, n0, n0], .cells 27 [n0, n0, i6 0, n0, n0]]⟩)
theorem L18_0_2_ok {r : E_L18_0_2 ⊕ (Unit)} (h : L18_0_2 = some r) : OkR (fun e => L18_0_2_x e (L18_0_2_e)) (fun s => L18_0_2_e = L18_0_2_e) r := by
 unfold L18_0_2 at h
 rw [← sj h]
 exact xbrk [(6000, .d true)] apn (by kernel_rfl)
theorem L18_0_2_run (s0 : Unit) (e : E_L18_0_2) (h : runL (fun s => L18_0_2) s0 = some e) : L18_0_2_x e (L18_0_2_e) := by
  have q := @loop_sound' (Unit) E_L18_0_2 (fun s => L18_0_2) (fun s => L18_0_2_e) (L18_0_2_x) (fun s r h => L18_0_2_ok h) s0 e h
  exact q
end
inductive R_F18_2 where
  | k0
def F18_2_v (r : R_F18_2) : AV := match r with | .k0 => (vb true)
def F18_2 : Option R_F18_2 :=
  ((runL (fun s => L18_4_2) ()).bind fun r1 => match r1 with | .k0 => ((runL (fun s => L18_3_2) ()).bind fun r2 => match r2 with | .k0 => ((runL (fun s => L18_1_2) ()).bind fun r3 => match r3 with | .k0 => ((runL (fun s => L18_0_2) ()).bind fun r4 => match r4 with | .k0 => (some (.k0))))))
abbrev F18_2_d0 (g1 : Nat → AV) : St := ⟨fr 191 g1 [(2, .ptr 0 0), (3, .ptr 1 0)], [.cells 27 [n0, n0, i6 0, n0, n0], .cells 27 [n0, n0, i6 0, n0, n0]]⟩
abbrev F18_2_d1 (g2 : Nat → AV) : St := ⟨fr 191 g2 [(2, .ptr 0 0), (3, .ptr 1 0)], [.cells 27 [n0, n0, i6 0, n0, n0], .cells 27 [n0, n0, i6 0, n0, n0]]⟩
abbrev F18_2_d2 (g3 : Nat → AV) : St := ⟨fr 191 g3 [(2, .ptr 0 0), (3, .ptr 1 0)], [.cells 27 [n0, n0, i6 0, n0, n0], .cells 27 [n0, n0, i6 0, n0, n0]]⟩
abbrev F18_2_d3 (g4 : Nat → AV) : St := ⟨fr 191 g4 [(2, .ptr 0 0), (3, .ptr 1 0)], [.cells 27 [n0, n0, i6 0, n0, n0], .cells 27 [n0, n0, i6 0, n0, n0]]⟩
abbrev F18_2_d4 : List AB := [.cells 27 [n0, n0, i6 0, n0, n0], .cells 27 [n0, n0, i6 0, n0, n0]]
theorem F18_2_ok {r : R_F18_2} (h : F18_2 = some r) : PR1 prg 18 [(.agg [n0, n0, i6 0, n0, n0]), (.agg [n0, n0, i6 0, n0, n0])] (F18_2_v r) := by
 unfold F18_2 at h
 refine bn h fun r1 h1 h => ?_
 cases r1 with
 | k0 =>
  obtain ⟨g1, e1⟩ := L18_4_2_run () _ h1
  refine bn h fun r2 h2 h => ?_
  cases r2 with
  | k0 =>
   obtain ⟨g2, e2⟩ := L18_3_2_run () _ h2
   refine bn h fun r3 h3 h => ?_
   cases r3 with
   | k0 =>
    obtain ⟨g3, e3⟩ := L18_1_2_run () _ h3
    refine bn h fun r4 h4 h => ?_
    cases r4 with
    | k0 =>
     obtain ⟨g4, e4⟩ := L18_0_2_run () _ h4
     rw [← sj h]
     exact fpr [(2000, .l (.brk 0) (F18_2_d0 g1)), (2002, .l (.brk 2) (F18_2_d1 g2)), (2006, .l (.brk 6) (F18_2_d2 g3)), (2008, .l (.brk 8) (F18_2_d3 g4)), (6000, .d true)] (apc ((oK (ac (ac rfl))) : okT 2 F18_2_d4 = true) (apc (e1 : L18_4_2_e = some ((.brk 0), F18_2_d0 g1)) (apc ((oK (ac (ac rfl))) : okT 2 F18_2_d4 = true) (apc (e2 : L18_3_2_e = some ((.brk 2), F18_2_d1 g2)) (apc ((oK (ac (ac rfl))) : okT 2 F18_2_d4 = true) (apc (e3 : L18_1_2_e = some ((.brk 6), F18_2_d2 g3)) (apc ((oK (ac (ac rfl))) : okT 2 F18_2_d4 = true) (apc (e4 : L18_0_2_e = some ((.brk 8), F18_2_d3 g4)) apn)))))))) rfl (by kernel_rfl)
inductive E_L66_0 where
  | k0
  | k1
section
variable (a1 : List Bool) (a2 : ProdD)
def L66_0 (v1 : Int) : Option (E_L66_0 ⊕ (Int)) :=
  (bif (decide (v1 < (a2.right.length : Int))) then ((getI a2.right v1).bind fun x2 => (bif (x2.kind == 1) then ((getI a1 x2.sort).bind fun x4 => (bif x4 then (some (.inr ((IntKind.wrap .i64 (v1 + 1))))) else (some (.inl (.k0))))) else (some (.inr ((IntKind.wrap .i64 (v1 + 1))))))) else (some (.inl (.k1))))
def L66_0_s (v1 : Int) : St := ⟨fr 35 ug [(1, ls 1 eBool a1), (2, .ptr 0 0), (5, i6 v1)], [bP a2]⟩
abbrev L66_0_e (v1 : Int) := evH prg 1 [1, 2, 5] ir66_l0 (L66_0_s a1 a2 v1)
def L66_0_x (e : E_L66_0) (r : Option (Out × St)) : Prop := match e with | .k0 => ∃ g y, r = some (.ret, ⟨fr 35 g [(4, vb false)], y⟩) | .k1 => ∃ g, r = some ((.brk 0), ⟨fr 35 g [(2, .ptr 0 0)], [bP a2]⟩)
theorem L66_0_ok (v1 : Int) {r : E_L66_0 ⊕ (Int)} (h : L66_0 a1 a2 v1 = some r) : OkR (fun e => L66_0_x a2 e (L66_0_e a1 a2 v1)) (fun s => L66_0_e a1 a2 v1 = L66_0_e a1 a2 s) r := by
 unfold L66_0 at h
 refine bi h ?_ ?_ <;> intro h1 h
 ·
  refine bn h fun x2 h2 h => ?_
  refine bi h ?_ ?_ <;> intro h3 h
  ·
   refine bn h fun x4 h4 h => ?_
   refine bi h ?_ ?_ <;> intro h5 h
   ·
    rw [← sj h]
    exact rnd [(12, .v (i6 (a2.right.length : Int))), (13, .d true), (19, .v (.ro (eSym x2))), (22, .d true), (28, .v (.ro (eSym x2))), (31, .v (.ro [.val (.bool x4)])), (32, .d true), (6000, .d true)] (apc (lg a2.right eSym 6) (av h1 (apc (ig eSym 6 .i64 h2) (av h3 (apc (ig eSym 6 .i64 h2) (apc (ig eBool 1 .i64 h4) (av h5 (apc ((oK (ac rfl)) : okT 1 [bP a2] = true) apn)))))))) (by kernel_rfl)
   ·
    rw [← sj h]
    exact xretY [(12, .v (i6 (a2.right.length : Int))), (13, .d true), (19, .v (.ro (eSym x2))), (22, .d true), (28, .v (.ro (eSym x2))), (31, .v (.ro [.val (.bool x4)])), (32, .d false), (6000, .d true)] (apc (lg a2.right eSym 6) (av h1 (apc (ig eSym 6 .i64 h2) (av h3 (apc (ig eSym 6 .i64 h2) (apc (ig eBool 1 .i64 h4) (av h5 apn))))))) (by kernel_rfl)
  ·
   rw [← sj h]
   exact rnd [(12, .v (i6 (a2.right.length : Int))), (13, .d true), (19, .v (.ro (eSym x2))), (22, .d false), (6000, .d true)] (apc (lg a2.right eSym 6) (av h1 (apc (ig eSym 6 .i64 h2) (av h3 (apc ((oK (ac rfl)) : okT 1 [bP a2] = true) apn))))) (by kernel_rfl)
 ·
  rw [← sj h]
  exact xbrk [(12, .v (i6 (a2.right.length : Int))), (13, .d false), (6000, .d true)] (apc (lg a2.right eSym 6) (av h1 apn)) (by kernel_rfl)
theorem L66_0_run (s0 : Int) (e : E_L66_0) (h : runL (fun s => L66_0 a1 a2 s) s0 = some e) : L66_0_x a2 e (L66_0_e a1 a2 s0) := by
  have q := @loop_sound' (Int) E_L66_0 (fun s => L66_0 a1 a2 s) (fun s => L66_0_e a1 a2 s) (L66_0_x a2) (fun s r h => L66_0_ok a1 a2 s h) s0 e h
  exact q
end
def F66_v (a1 : ProdD) (a2 : List Bool) (x0 : Bool) : AV := (vb x0)
def F66 (a1 : ProdD) (a2 : List Bool) : Option Bool :=
  (bif (a1.role == 11) then (some false) else ((runL (fun s => L66_0 a2 a1 s) 0).bind fun r2 => match r2 with | .k0 => (some false) | .k1 => (some true)))
theorem F66_ok (a1 : ProdD) (a2 : List Bool) {r : Bool} (h : F66 a1 a2 = some r) : PR1 prg 66 [aP a1, ls 1 eBool a2] (F66_v a1 a2 r) := by
 unfold F66 at h
 refine bi h ?_ ?_ <;> intro h1 h
 ·
  rw [← sj h]
  exact fpr [(8, .d true)] (av h1 apn) rfl (by kernel_rfl)
 ·
  refine bn h fun r2 h2 h => ?_
  cases r2 with
  | k0 =>
   obtain ⟨g2, y2, e2⟩ := L66_0_run a2 a1 0 _ h2
   rw [← sj h]
   exact fpr [(8, .d false), (2000, .l .ret ⟨fr 35 g2 [(4, vb false)], y2⟩), (6000, .d true)] (av h1 (apc ((oK (ac rfl)) : okT 1 [bP a1] = true) (apc (e2 : L66_0_e a2 a1 0 = some (.ret, ⟨fr 35 g2 [(4, vb false)], y2⟩)) apn))) rfl (by kernel_rfl)
  | k1 =>
   obtain ⟨g2, e2⟩ := L66_0_run a2 a1 0 _ h2
   rw [← sj h]
   exact fpr [(8, .d false), (2000, .l (.brk 0) ⟨fr 35 g2 [(2, .ptr 0 0)], [bP a1]⟩), (6000, .d true)] (av h1 (apc ((oK (ac rfl)) : okT 1 [bP a1] = true) (apc (e2 : L66_0_e a2 a1 0 = some ((.brk 0), ⟨fr 35 g2 [(2, .ptr 0 0)], [bP a1]⟩)) apn))) rfl (by kernel_rfl)
inductive E_L39_0_2 where
  | k0 (x0 : List Bool)
section
variable (a1 : Nat) (a2 : Int) (a3 : GramD)
def L39_0_2 (v1 : Int) (v2 : List Bool) : Option (E_L39_0_2 ⊕ (Int × (List Bool))) :=
  (bif (decide (v1 < (a3.prods.length : Int))) then ((getI a3.prods v1).bind fun x2 => (bif (decide (a1 ≤ v2.length)) then ((F66 x2 (v2.take a1)).bind fun x4 => (bif x4 then ((ixN a1 x2.left).bind fun x6 => ((v2[x6]?).bind fun x7 => (some (.inr ((IntKind.wrap .i64 (v1 + 1)), v2.set x6 true))))) else (some (.inr ((IntKind.wrap .i64 (v1 + 1)), v2))))) else none)) else (some (.inl (.k0 v2))))
def L39_0_2_s (v1 : Int) (v2 : List Bool) : St := ⟨fr 40 ug [(1, .ptr 0 0), (3, .sl 2 0 1 0 a1), (4, i6 a2), (5, i6 v1)], [bG a3, yB0, yB 0 v2]⟩
abbrev L39_0_2_e (v1 : Int) (v2 : List Bool) := evH prg 3 [1, 3, 4, 5] ir39_l0 (L39_0_2_s a1 a2 a3 v1 v2)
def L39_0_2_x (e : E_L39_0_2) (r : Option (Out × St)) : Prop := match e with | .k0 x0 => ∃ g, r = some ((.brk 2), ⟨fr 40 g [(1, .ptr 0 0), (3, .sl 2 0 1 0 a1), (4, i6 a2)], [bG a3, yB0, yB 0 x0]⟩)
abbrev L39_0_2_d0 (v2 : List Bool) (x6 : Nat) : List AB := [bG a3, yB0, yB 0 (v2.set x6 true)]
abbrev L39_0_2_d1 (v2 : List Bool) : List AB := [bG a3, yB0, yB 0 v2]
theorem L39_0_2_ok (v1 : Int) (v2 : List Bool) {r : E_L39_0_2 ⊕ (Int × (List Bool))} (h : L39_0_2 a1 a3 v1 v2 = some r) : OkR (fun e => L39_0_2_x a1 a2 a3 e (L39_0_2_e a1 a2 a3 v1 v2)) (fun s => L39_0_2_e a1 a2 a3 v1 v2 = L39_0_2_e a1 a2 a3 s.1 s.2) r := by
 unfold L39_0_2 at h
 refine bi h ?_ ?_ <;> intro h1 h
 ·
  refine bn h fun x2 h2 h => ?_
  refine bi h ?_ ?_ <;> intro h3 h
  ·
   refine bn h fun x4 h4 h => ?_
   refine bi h ?_ ?_ <;> intro h5 h
   ·
    refine bn h fun x6 h6 h => ?_
    refine bn h fun x7 h7 h => ?_
    rw [← sj h]
    exact rnd [(20, .v (i6 (lP a3))), (21, .d true), (27, .v (.ro (eProd x2))), (30, .v (vb true)), (35, .v (.ro (eProd x2))), (38, .v (.rp 2 0 1 x6 0)), (1038, .r ud (L39_0_2_d0 a3 v2 x6)), (6000, .d true)] (apc (lg a3.prods eProd 7) (av h1 (apc (ig eProd 7 .i64 h2) (apc ((((F66_ok x2 (v2.take a1) h4).own rfl (purAs_cons rfl (purAs_cons (purA_sl (e := eBool) rfl h3) purAs_nil)) rfl).trans (congrArg (fun z => some (vb z)) h5)) : CP prg 66 [aP x2, .sl 2 0 1 0 a1] (L39_0_2_d1 a3 v2) = some (vb true)) (apc (ig eProd 7 .i64 h2) (apc ((idx_sl h6) : idxA 1 (.sl 2 0 1 0 a1) (i6 x2.left) = some (.rp 2 0 1 x6 0)) (apc (⟨st_row (v' := true) rfl h7 rfl rfl (Nat.le_of_ble_eq_true rfl) rfl, rfl⟩ : stA (L39_0_2_d1 a3 v2) 1 (.rp 2 0 1 x6 0) (vb true) = some (L39_0_2_d0 a3 v2 x6) ∧ ud = ud) (apc ((oK (ac (ar (ar rfl)))) : okT 3 (L39_0_2_d0 a3 v2 x6) = true) apn)))))))) (by kernel_rfl)
   ·
    rw [← sj h]
    exact rnd [(20, .v (i6 (lP a3))), (21, .d true), (27, .v (.ro (eProd x2))), (30, .v (vb false)), (6000, .d true)] (apc (lg a3.prods eProd 7) (av h1 (apc (ig eProd 7 .i64 h2) (apc ((((F66_ok x2 (v2.take a1) h4).own rfl (purAs_cons rfl (purAs_cons (purA_sl (e := eBool) rfl h3) purAs_nil)) rfl).trans (congrArg (fun z => some (vb z)) h5)) : CP prg 66 [aP x2, .sl 2 0 1 0 a1] (L39_0_2_d1 a3 v2) = some (vb false)) (apc ((oK (ac (ar (ar rfl)))) : okT 3 (L39_0_2_d1 a3 v2) = true) apn))))) (by kernel_rfl)
  ·
   cases h
 ·
  rw [← sj h]
  exact xbrk [(20, .v (i6 (lP a3))), (21, .d false), (6000, .d true)] (apc (lg a3.prods eProd 7) (av h1 apn)) (by kernel_rfl)
theorem L39_0_2_run (s0 : Int × (List Bool)) (e : E_L39_0_2) (h : runL (fun s => L39_0_2 a1 a3 s.1 s.2) s0 = some e) : L39_0_2_x a1 a2 a3 e (L39_0_2_e a1 a2 a3 s0.1 s0.2) := by
  have q := @loop_sound' (Int × (List Bool)) E_L39_0_2 (fun s => L39_0_2 a1 a3 s.1 s.2) (fun s => L39_0_2_e a1 a2 a3 s.1 s.2) (L39_0_2_x a1 a2 a3) (fun s r h => L39_0_2_ok a1 a2 a3 s.1 s.2 h) s0 e h
  exact q
end
inductive E_L39_1 where
  | k0 (x0 : List Bool)
section
variable (a1 : Nat) (a2 : GramD)
def L39_1 (v1 : Int) (v2 : List Bool) : Option (E_L39_1 ⊕ (Int × (List Bool))) :=
  (bif (decide (v1 < (a2.sorts.length : Int))) then ((runL (fun s => L39_0_2 a1 a2 s.1 s.2) (0, v2)).bind fun r2 => match r2 with | .k0 x2_0 => (some (.inr ((IntKind.wrap .i64 (v1 + 1)), x2_0)))) else (some (.inl (.k0 v2))))
def L39_1_s (v1 : Int) (v2 : List Bool) : St := ⟨fr 40 ug [(1, .ptr 0 0), (3, .sl 2 0 1 0 a1), (4, i6 v1)], [bG a2, yB0, yB 0 v2]⟩
abbrev L39_1_e (v1 : Int) (v2 : List Bool) := evH prg 3 [1, 3, 4] ir39_l1 (L39_1_s a1 a2 v1 v2)
def L39_1_x (e : E_L39_1) (r : Option (Out × St)) : Prop := match e with | .k0 x0 => ∃ g, r = some ((.brk 0), ⟨fr 40 g [(1, .ptr 0 0), (3, .sl 2 0 1 0 a1)], [bG a2, yB0, yB 0 x0]⟩)
abbrev L39_1_d0 (g2 : Nat → AV) (v1 : Int) (x2_0 : List Bool) : St := ⟨fr 40 g2 [(1, .ptr 0 0), (3, .sl 2 0 1 0 a1), (4, i6 v1)], [bG a2, yB0, yB 0 x2_0]⟩
theorem L39_1_ok (v1 : Int) (v2 : List Bool) {r : E_L39_1 ⊕ (Int × (List Bool))} (h : L39_1 a1 a2 v1 v2 = some r) : OkR (fun e => L39_1_x a1 a2 e (L39_1_e a1 a2 v1 v2)) (fun s => L39_1_e a1 a2 v1 v2 = L39_1_e a1 a2 s.1 s.2) r := by
 unfold L39_1 at h
 refine bi h ?_ ?_ <;> intro h1 h
 ·
  refine bn h fun r2 h2 h => ?_
  cases r2 with
  | k0 x2_0 =>
   obtain ⟨g2, e2⟩ := L39_0_2_run a1 v1 a2 (0, v2) _ h2
   rw [← sj h]
   exact rnd [(13, .v (i6 (lS a2))), (14, .d true), (2002, .l (.brk 2) (L39_1_d0 a1 a2 g2 v1 x2_0)), (6000, .d true)] (apc (lg a2.sorts eStr 1) (av h1 (apc ((oK (ac (ar (ar rfl)))) : okT 3 [bG a2, yB0, yB 0 v2] = true) (apc (e2 : L39_0_2_e a1 v1 a2 0 v2 = some ((.brk 2), L39_1_d0 a1 a2 g2 v1 x2_0)) (apc ((oK (ac (ar (ar rfl)))) : okT 3 [bG a2, yB0, yB 0 x2_0] = true) apn))))) (by kernel_rfl)
 ·
  rw [← sj h]
  exact xbrk [(13, .v (i6 (lS a2))), (14, .d false), (6000, .d true)] (apc (lg a2.sorts eStr 1) (av h1 apn)) (by kernel_rfl)
theorem L39_1_run (s0 : Int × (List Bool)) (e : E_L39_1) (h : runL (fun s => L39_1 a1 a2 s.1 s.2) s0 = some e) : L39_1_x a1 a2 e (L39_1_e a1 a2 s0.1 s0.2) := by
  have q := @loop_sound' (Int × (List Bool)) E_L39_1 (fun s => L39_1 a1 a2 s.1 s.2) (fun s => L39_1_e a1 a2 s.1 s.2) (L39_1_x a1 a2) (fun s r h => L39_1_ok a1 a2 s.1 s.2 h) s0 e h
  exact q
end
def F39_v (a1 : GramD) (x0 : (List Bool)) : AV := (ls 1 eBool x0)
def F39 (a1 : GramD) : Option (List Bool) :=
  (bif (mkOk (a1.sorts.length : Int) 1) then ((runL (fun s => L39_1 (Int.toNat (a1.sorts.length : Int)) a1 s.1 s.2) (0, (List.replicate (Int.toNat (a1.sorts.length : Int)) false))).bind fun r2 => match r2 with | .k0 x2_0 => (bif (decide ((Int.toNat (a1.sorts.length : Int)) ≤ x2_0.length)) then (some (x2_0.take (Int.toNat (a1.sorts.length : Int)))) else none)) else none)
abbrev F39_d0 (a1 : GramD) : List AB := [bG a1, yB0, yB 0 (List.replicate (tS a1) false)]
abbrev F39_d1 (g2 : Nat → AV) (a1 : GramD) (x2_0 : List Bool) : St := ⟨fr 40 g2 [(1, .ptr 0 0), (3, (.sl 2 0 1 0 (tS a1)))], [bG a1, yB0, yB 0 x2_0]⟩
abbrev F39_c0 (a1 : GramD) : List (Nat × Hint) := [(9, .r (.sl 2 0 1 0 (tS a1)) (F39_d0 a1))]
abbrev F39_c1 (g2 : Nat → AV) (a1 : GramD) (x2_0 : List Bool) : List (Nat × Hint) := [(2000, .l (.brk 0) (F39_d1 g2 a1 x2_0))]
theorem F39_ok (a1 : GramD) {r : (List Bool)} (h : F39 a1 = some r) : PR2 prg 39 [aG a1] (F39_v a1 r) := by
 unfold F39 at h
 refine bi h ?_ ?_ <;> intro h1 h
 ·
  have q1 := ((mk_row' (h := [bG a1, yB0]) (e := eBool) (z := false) h1 rfl) : (mkA 4 1 1 [.val (.bool false)] (i6 (lS a1)) (i6 (lS a1)) 2).map (fun x => (x.1, [bG a1, yB0] ++ [x.2])) = some ((.sl 2 0 1 0 (tS a1)), F39_d0 a1))
  refine bn h fun r2 h2 h => ?_
  cases r2 with
  | k0 x2_0 =>
   obtain ⟨g2, e2⟩ := L39_1_run (tS a1) a1 (0, (List.replicate (tS a1) false)) _ h2
   have q2 := ((oK (ac (ar (ar rfl)))) : okT 3 (F39_d0 a1) = true)
   have q3 := (e2 : L39_1_e (tS a1) a1 0 (List.replicate (tS a1) false) = some ((.brk 0), F39_d1 g2 a1 x2_0))
   refine bi h ?_ ?_ <;> intro h3 h
   ·
    rw [← sj h]
    exact fpn (v := (.sl 2 0 1 0 (tS a1))) (h' := [bG a1, yB0, yB 0 x2_0]) ([(8, .v (i6 (lS a1)))] ++ ((F39_c0 a1) ++ ((F39_c1 g2 a1 x2_0) ++ [(6000, .d true)]))) (apc (lg a1.sorts eStr 1) (apc q1 (apc q2 (apc q3 apn)))) (purA_sl (e := eBool) rfl h3) rfl (purA_sl (e := eBool) (getq rfl (nols_ra (fun _ => rfl))) h3) (by kernel_rfl)
   ·
    cases h
 ·
  cases h
inductive E_L40_0_8 where
  | k0 (x0 : List Bool)
section
variable (a1 : Nat) (a2 : List Bool) (a3 a4 : Int) (a5 : GramD) (a7 : ProdD)
def L40_0_8 (v1 : Int) (v2 : List Bool) : Option (E_L40_0_8 ⊕ (Int × (List Bool))) :=
  (bif (decide (v1 < (a7.right.length : Int))) then ((getI a7.right v1).bind fun x2 => (bif (x2.kind == 1) then ((ixN a1 x2.sort).bind fun x4 => ((v2[x4]?).bind fun x5 => (some (.inr ((IntKind.wrap .i64 (v1 + 1)), v2.set x4 true))))) else (some (.inr ((IntKind.wrap .i64 (v1 + 1)), v2))))) else (some (.inl (.k0 v2))))
def L40_0_8_s (v1 : Int) (v2 : List Bool) : St := ⟨fr 83 ug [(1, vb true), (2, .ptr 0 0), (5, .sl 2 0 1 0 a1), (6, ls 1 eBool a2), (7, i6 a3), (8, i6 a4), (9, .ptr 4 0), (10, i6 v1)], [bG a5, yB0, yB 0 v2, yY0, bP a7]⟩
abbrev L40_0_8_e (v1 : Int) (v2 : List Bool) := evH prg 5 [1, 2, 5, 6, 7, 8, 9, 10] ir40_l0 (L40_0_8_s a1 a2 a3 a4 a5 a7 v1 v2)
def L40_0_8_x (e : E_L40_0_8) (r : Option (Out × St)) : Prop := match e with | .k0 x0 => ∃ g, r = some ((.brk 4), ⟨fr 83 g [(1, vb true), (2, .ptr 0 0), (5, .sl 2 0 1 0 a1), (6, ls 1 eBool a2), (7, i6 a3), (8, i6 a4), (9, .ptr 4 0)], [bG a5, yB0, yB 0 x0, yY0, bP a7]⟩)
abbrev L40_0_8_d0 (v2 : List Bool) (x4 : Nat) : List AB := [bG a5, yB0, yB 0 (v2.set x4 true), yY0, bP a7]
abbrev L40_0_8_d1 (v2 : List Bool) : List AB := [bG a5, yB0, yB 0 v2, yY0, bP a7]
theorem L40_0_8_ok (v1 : Int) (v2 : List Bool) {r : E_L40_0_8 ⊕ (Int × (List Bool))} (h : L40_0_8 a1 a7 v1 v2 = some r) : OkR (fun e => L40_0_8_x a1 a2 a3 a4 a5 a7 e (L40_0_8_e a1 a2 a3 a4 a5 a7 v1 v2)) (fun s => L40_0_8_e a1 a2 a3 a4 a5 a7 v1 v2 = L40_0_8_e a1 a2 a3 a4 a5 a7 s.1 s.2) r := by
 unfold L40_0_8 at h
 refine bi h ?_ ?_ <;> intro h1 h
 ·
  refine bn h fun x2 h2 h => ?_
  refine bi h ?_ ?_ <;> intro h3 h
  ·
   refine bn h fun x4 h4 h => ?_
   refine bn h fun x5 h5 h => ?_
   rw [← sj h]
   exact rnd [(63, .v (i6 (a7.right.length : Int))), (64, .d true), (70, .v (.ro (eSym x2))), (73, .d true), (78, .v (.ro (eSym x2))), (81, .v (.rp 2 0 1 x4 0)), (1081, .r ud (L40_0_8_d0 a5 a7 v2 x4)), (6000, .d true)] (apc (lg a7.right eSym 6) (av h1 (apc (ig eSym 6 .i64 h2) (av h3 (apc (ig eSym 6 .i64 h2) (apc ((idx_sl h4) : idxA 1 (.sl 2 0 1 0 a1) (i6 x2.sort) = some (.rp 2 0 1 x4 0)) (apc (⟨st_row (v' := true) rfl h5 rfl rfl (Nat.le_of_ble_eq_true rfl) rfl, rfl⟩ : stA (L40_0_8_d1 a5 a7 v2) 1 (.rp 2 0 1 x4 0) (vb true) = some (L40_0_8_d0 a5 a7 v2 x4) ∧ ud = ud) (apc ((oK (ac (ar (ar (ar (ac rfl)))))) : okT 5 (L40_0_8_d0 a5 a7 v2 x4) = true) apn)))))))) (by kernel_rfl)
  ·
   rw [← sj h]
   exact rnd [(63, .v (i6 (a7.right.length : Int))), (64, .d true), (70, .v (.ro (eSym x2))), (73, .d false), (6000, .d true)] (apc (lg a7.right eSym 6) (av h1 (apc (ig eSym 6 .i64 h2) (av h3 (apc ((oK (ac (ar (ar (ar (ac rfl)))))) : okT 5 (L40_0_8_d1 a5 a7 v2) = true) apn))))) (by kernel_rfl)
 ·
  rw [← sj h]
  exact xbrk [(63, .v (i6 (a7.right.length : Int))), (64, .d false), (6000, .d true)] (apc (lg a7.right eSym 6) (av h1 apn)) (by kernel_rfl)
theorem L40_0_8_run (s0 : Int × (List Bool)) (e : E_L40_0_8) (h : runL (fun s => L40_0_8 a1 a7 s.1 s.2) s0 = some e) : L40_0_8_x a1 a2 a3 a4 a5 a7 e (L40_0_8_e a1 a2 a3 a4 a5 a7 s0.1 s0.2) := by
  have q := @loop_sound' (Int × (List Bool)) E_L40_0_8 (fun s => L40_0_8 a1 a7 s.1 s.2) (fun s => L40_0_8_e a1 a2 a3 a4 a5 a7 s.1 s.2) (L40_0_8_x a1 a2 a3 a4 a5 a7) (fun s r h => L40_0_8_ok a1 a2 a3 a4 a5 a7 s.1 s.2 h) s0 e h
  exact q
end
inductive E_L40_1_4 where
  | k0 (x0 : List Bool)
section
variable (a1 : Nat) (a2 : List Bool) (a3 : Int) (a4 : GramD)
def L40_1_4 (v1 : Int) (v2 : List Bool) : Option (E_L40_1_4 ⊕ (Int × (List Bool))) :=
  (bif (decide (v1 < (a4.prods.length : Int))) then ((getI a4.prods v1).bind fun x2 => (bif (x2.role == 11) then (some (.inr ((IntKind.wrap .i64 (v1 + 1)), v2))) else ((ixN a1 x2.left).bind fun x4 => ((v2[x4]?).bind fun x5 => (bif x5 then ((F66 x2 a2).bind fun x7 => (bif x7 then ((runL (fun s => L40_0_8 a1 x2 s.1 s.2) (0, v2)).bind fun r9 => match r9 with | .k0 x9_0 => (some (.inr ((IntKind.wrap .i64 (v1 + 1)), x9_0)))) else (some (.inr ((IntKind.wrap .i64 (v1 + 1)), v2))))) else (some (.inr ((IntKind.wrap .i64 (v1 + 1)), v2)))))))) else (some (.inl (.k0 v2))))
def L40_1_4_s (v1 : Int) (v2 : List Bool) : St := ⟨fr 83 ug [(1, vb true), (2, .ptr 0 0), (5, .sl 2 0 1 0 a1), (6, ls 1 eBool a2), (7, i6 a3), (8, i6 v1)], [bG a4, yB0, yB 0 v2]⟩
abbrev L40_1_4_e (v1 : Int) (v2 : List Bool) := evH prg 3 [1, 2, 5, 6, 7, 8] ir40_l1 (L40_1_4_s a1 a2 a3 a4 v1 v2)
def L40_1_4_x (e : E_L40_1_4) (r : Option (Out × St)) : Prop := match e with | .k0 x0 => ∃ g, r = some ((.brk 2), ⟨fr 83 g [(1, vb true), (2, .ptr 0 0), (5, .sl 2 0 1 0 a1), (6, ls 1 eBool a2), (7, i6 a3)], [bG a4, yB0, yB 0 x0]⟩)
abbrev L40_1_4_d0 (v2 : List Bool) (x2 : ProdD) : List AB := [bG a4, yB0, yB 0 v2, yY0, bP x2]
abbrev L40_1_4_d1 (g9 : Nat → AV) (v1 : Int) (x9_0 : List Bool) (x2 : ProdD) : St := ⟨fr 83 g9 [(1, vb true), (2, .ptr 0 0), (5, .sl 2 0 1 0 a1), (6, ls 1 eBool a2), (7, i6 a3), (8, i6 v1), (9, .ptr 4 0)], [bG a4, yB0, yB 0 x9_0, yY0, bP x2]⟩
theorem L40_1_4_ok (v1 : Int) (v2 : List Bool) {r : E_L40_1_4 ⊕ (Int × (List Bool))} (h : L40_1_4 a1 a2 a4 v1 v2 = some r) : OkR (fun e => L40_1_4_x a1 a2 a3 a4 e (L40_1_4_e a1 a2 a3 a4 v1 v2)) (fun s => L40_1_4_e a1 a2 a3 a4 v1 v2 = L40_1_4_e a1 a2 a3 a4 s.1 s.2) r := by
 unfold L40_1_4 at h
 refine bi h ?_ ?_ <;> intro h1 h
 ·
  refine bn h fun x2 h2 h => ?_
  refine bi h ?_ ?_ <;> intro h3 h
  ·
   rw [← sj h]
   exact rnd [(31, .v (i6 (lP a4))), (32, .d true), (38, .v (.ro (eProd x2))), (42, .d true), (6000, .d true)] (apc (lg a4.prods eProd 7) (av h1 (apc (ig eProd 7 .i64 h2) (av h3 (apc ((oK (ac (ar (ar rfl)))) : okT 3 (L40_1_4_d0 a4 v2 x2) = true) apn))))) (by kernel_rfl)
  ·
   refine bn h fun x4 h4 h => ?_
   have q4 := ((idx_sl h4) : idxA 1 (.sl 2 0 1 0 a1) (i6 x2.left) = some (.rp 2 0 1 x4 0))
   refine bn h fun x5 h5 h => ?_
   refine bi h ?_ ?_ <;> intro h6 h
   ·
    have q5 := (((ld_row (V := vb x5) rfl h5 rfl).trans (congrArg (fun z => some (vb z)) h6)) : ldA (L40_1_4_d0 a4 v2 x2) .false 1 (.rp 2 0 1 x4 0) = some (vb true))
    refine bn h fun x7 h7 h => ?_
    refine bi h ?_ ?_ <;> intro h8 h
    ·
     refine bn h fun r9 h9 h => ?_
     cases r9 with
     | k0 x9_0 =>
      obtain ⟨g9, e9⟩ := L40_0_8_run a1 a2 a3 v1 a4 x2 (0, v2) _ h9
      rw [← sj h]
      exact rnd [(31, .v (i6 (lP a4))), (32, .d true), (38, .v (.ro (eProd x2))), (42, .d false), (47, .v (.rp 2 0 1 x4 0)), (48, .v (vb true)), (56, .v (vb true)), (2004, .l (.brk 4) (L40_1_4_d1 a1 a2 a3 a4 g9 v1 x9_0 x2)), (6000, .d true)] (apc (lg a4.prods eProd 7) (av h1 (apc (ig eProd 7 .i64 h2) (av h3 (apc q4 (apc q5 (apc ((((F66_ok x2 a2 h7).cp rfl _).trans (congrArg (fun z => some (vb z)) h8)) : CP prg 66 [aP x2, ls 1 eBool a2] (L40_1_4_d0 a4 v2 x2) = some (vb true)) (apc ((oK (ac (ar (ar (ar (ac rfl)))))) : okT 5 (L40_1_4_d0 a4 v2 x2) = true) (apc (e9 : L40_0_8_e a1 a2 a3 v1 a4 x2 0 v2 = some ((.brk 4), L40_1_4_d1 a1 a2 a3 a4 g9 v1 x9_0 x2)) (apc ((oK (ac (ar (ar rfl)))) : okT 3 [bG a4, yB0, yB 0 x9_0, yY0, bP x2] = true) apn)))))))))) (by kernel_rfl)
    ·
     rw [← sj h]
     exact rnd [(31, .v (i6 (lP a4))), (32, .d true), (38, .v (.ro (eProd x2))), (42, .d false), (47, .v (.rp 2 0 1 x4 0)), (48, .v (vb true)), (56, .v (vb false)), (6000, .d true)] (apc (lg a4.prods eProd 7) (av h1 (apc (ig eProd 7 .i64 h2) (av h3 (apc q4 (apc q5 (apc ((((F66_ok x2 a2 h7).cp rfl _).trans (congrArg (fun z => some (vb z)) h8)) : CP prg 66 [aP x2, ls 1 eBool a2] (L40_1_4_d0 a4 v2 x2) = some (vb false)) (apc ((oK (ac (ar (ar rfl)))) : okT 3 (L40_1_4_d0 a4 v2 x2) = true) apn)))))))) (by kernel_rfl)
   ·
    rw [← sj h]
    exact rnd [(31, .v (i6 (lP a4))), (32, .d true), (38, .v (.ro (eProd x2))), (42, .d false), (47, .v (.rp 2 0 1 x4 0)), (48, .v (vb false)), (6000, .d true)] (apc (lg a4.prods eProd 7) (av h1 (apc (ig eProd 7 .i64 h2) (av h3 (apc q4 (apc (((ld_row (V := vb x5) rfl h5 rfl).trans (congrArg (fun z => some (vb z)) h6)) : ldA (L40_1_4_d0 a4 v2 x2) .false 1 (.rp 2 0 1 x4 0) = some (vb false)) (apc ((oK (ac (ar (ar rfl)))) : okT 3 (L40_1_4_d0 a4 v2 x2) = true) apn))))))) (by kernel_rfl)
 ·
  rw [← sj h]
  exact xbrk [(31, .v (i6 (lP a4))), (32, .d false), (6000, .d true)] (apc (lg a4.prods eProd 7) (av h1 apn)) (by kernel_rfl)
theorem L40_1_4_run (s0 : Int × (List Bool)) (e : E_L40_1_4) (h : runL (fun s => L40_1_4 a1 a2 a4 s.1 s.2) s0 = some e) : L40_1_4_x a1 a2 a3 a4 e (L40_1_4_e a1 a2 a3 a4 s0.1 s0.2) := by
  have q := @loop_sound' (Int × (List Bool)) E_L40_1_4 (fun s => L40_1_4 a1 a2 a4 s.1 s.2) (fun s => L40_1_4_e a1 a2 a3 a4 s.1 s.2) (L40_1_4_x a1 a2 a3 a4) (fun s r h => L40_1_4_ok a1 a2 a3 a4 s.1 s.2 h) s0 e h
  exact q
end
inductive E_L40_2_2 where
  | k0 (x0 : List Bool)
section
variable (a1 : Nat) (a2 : List Bool) (a3 : GramD)
def L40_2_2 (v1 : Int) (v2 : List Bool) : Option (E_L40_2_2 ⊕ (Int × (List Bool))) :=
  (bif (decide (v1 < (a3.sorts.length : Int))) then ((runL (fun s => L40_1_4 a1 a2 a3 s.1 s.2) (0, v2)).bind fun r2 => match r2 with | .k0 x2_0 => (some (.inr ((IntKind.wrap .i64 (v1 + 1)), x2_0)))) else (some (.inl (.k0 v2))))
def L40_2_2_s (v1 : Int) (v2 : List Bool) : St := ⟨fr 83 ug [(1, vb true), (2, .ptr 0 0), (5, .sl 2 0 1 0 a1), (6, ls 1 eBool a2), (7, i6 v1)], [bG a3, yB0, yB 0 v2]⟩
abbrev L40_2_2_e (v1 : Int) (v2 : List Bool) := evH prg 3 [1, 2, 5, 6, 7] ir40_l2 (L40_2_2_s a1 a2 a3 v1 v2)
def L40_2_2_x (e : E_L40_2_2) (r : Option (Out × St)) : Prop := match e with | .k0 x0 => ∃ g, r = some ((.brk 0), ⟨fr 83 g [(2, .ptr 0 0), (5, .sl 2 0 1 0 a1)], [bG a3, yB0, yB 0 x0]⟩)
abbrev L40_2_2_d0 (g2 : Nat → AV) (v1 : Int) (x2_0 : List Bool) : St := ⟨fr 83 g2 [(1, vb true), (2, .ptr 0 0), (5, .sl 2 0 1 0 a1), (6, ls 1 eBool a2), (7, i6 v1)], [bG a3, yB0, yB 0 x2_0]⟩
theorem L40_2_2_ok (v1 : Int) (v2 : List Bool) {r : E_L40_2_2 ⊕ (Int × (List Bool))} (h : L40_2_2 a1 a2 a3 v1 v2 = some r) : OkR (fun e => L40_2_2_x a1 a3 e (L40_2_2_e a1 a2 a3 v1 v2)) (fun s => L40_2_2_e a1 a2 a3 v1 v2 = L40_2_2_e a1 a2 a3 s.1 s.2) r := by
 unfold L40_2_2 at h
 refine bi h ?_ ?_ <;> intro h1 h
 ·
  refine bn h fun r2 h2 h => ?_
  cases r2 with
  | k0 x2_0 =>
   obtain ⟨g2, e2⟩ := L40_1_4_run a1 a2 v1 a3 (0, v2) _ h2
   rw [← sj h]
   exact rnd [(24, .v (i6 (lS a3))), (25, .d true), (2002, .l (.brk 2) (L40_2_2_d0 a1 a2 a3 g2 v1 x2_0)), (6000, .d true)] (apc (lg a3.sorts eStr 1) (av h1 (apc ((oK (ac (ar (ar rfl)))) : okT 3 [bG a3, yB0, yB 0 v2] = true) (apc (e2 : L40_1_4_e a1 a2 v1 a3 0 v2 = some ((.brk 2), L40_2_2_d0 a1 a2 a3 g2 v1 x2_0)) (apc ((oK (ac (ar (ar rfl)))) : okT 3 [bG a3, yB0, yB 0 x2_0] = true) apn))))) (by kernel_rfl)
 ·
  rw [← sj h]
  exact xbrk [(24, .v (i6 (lS a3))), (25, .d false), (6000, .d true)] (apc (lg a3.sorts eStr 1) (av h1 apn)) (by kernel_rfl)
theorem L40_2_2_run (s0 : Int × (List Bool)) (e : E_L40_2_2) (h : runL (fun s => L40_2_2 a1 a2 a3 s.1 s.2) s0 = some e) : L40_2_2_x a1 a3 e (L40_2_2_e a1 a2 a3 s0.1 s0.2) := by
  have q := @loop_sound' (Int × (List Bool)) E_L40_2_2 (fun s => L40_2_2 a1 a2 a3 s.1 s.2) (fun s => L40_2_2_e a1 a2 a3 s.1 s.2) (L40_2_2_x a1 a3) (fun s r h => L40_2_2_ok a1 a2 a3 s.1 s.2 h) s0 e h
  exact q
end
def F40_2_v (a1 : GramD) (x0 : (List Bool)) : AV := (ls 1 eBool x0)
def F40_2 (a1 : GramD) : Option (List Bool) :=
  (bif (mkOk (a1.sorts.length : Int) 1) then ((F39 a1).bind fun x2 => ((ixN (Int.toNat (a1.sorts.length : Int)) a1.start).bind fun x3 => (((List.replicate (Int.toNat (a1.sorts.length : Int)) false)[x3]?).bind fun x4 => ((runL (fun s => L40_2_2 (Int.toNat (a1.sorts.length : Int)) x2 a1 s.1 s.2) (0, ((List.replicate (Int.toNat (a1.sorts.length : Int)) false).set x3 true))).bind fun r5 => match r5 with | .k0 x5_0 => (bif (decide ((Int.toNat (a1.sorts.length : Int)) ≤ x5_0.length)) then (some (x5_0.take (Int.toNat (a1.sorts.length : Int)))) else none))))) else none)
abbrev F40_2_d0 (a1 : GramD) : List AB := [bG a1, yB0, yB 0 (List.replicate (tS a1) false)]
abbrev F40_2_d1 (a1 : GramD) (x3 : Nat) : List AB := [bG a1, yB0, yB 0 ((List.replicate (tS a1) false).set x3 true)]
abbrev F40_2_d2 (g5 : Nat → AV) (a1 : GramD) (x5_0 : List Bool) : St := ⟨fr 83 g5 [(2, .ptr 0 0), (5, (.sl 2 0 1 0 (tS a1)))], [bG a1, yB0, yB 0 x5_0]⟩
abbrev F40_2_c0 (a1 : GramD) : List (Nat × Hint) := [(14, .r (.sl 2 0 1 0 (tS a1)) (F40_2_d0 a1))]
abbrev F40_2_c1 (a1 : GramD) (x3 : Nat) : List (Nat × Hint) := [(1020, .r ud (F40_2_d1 a1 x3))]
abbrev F40_2_c2 (g5 : Nat → AV) (a1 : GramD) (x5_0 : List Bool) : List (Nat × Hint) := [(2000, .l (.brk 0) (F40_2_d2 g5 a1 x5_0))]
theorem F40_2_ok (a1 : GramD) {r : (List Bool)} (h : F40_2 a1 = some r) : PR2 prg 40 [aG a1, vb true] (F40_2_v a1 r) := by
 unfold F40_2 at h
 refine bi h ?_ ?_ <;> intro h1 h
 ·
  have q1 := ((mk_row' (h := [bG a1, yB0]) (e := eBool) (z := false) h1 rfl) : (mkA 4 1 1 [.val (.bool false)] (i6 (lS a1)) (i6 (lS a1)) 2).map (fun x => (x.1, [bG a1, yB0] ++ [x.2])) = some ((.sl 2 0 1 0 (tS a1)), F40_2_d0 a1))
  refine bn h fun x2 h2 h => ?_
  have q2 := (((F39_ok a1 h2).cp rfl _) : CP prg 39 [aG a1] (F40_2_d0 a1) = some (ls 1 eBool x2))
  refine bn h fun x3 h3 h => ?_
  have q3 := ((idx_sl h3) : idxA 1 (.sl 2 0 1 0 (tS a1)) (i6 a1.start) = some (.rp 2 0 1 x3 0))
  refine bn h fun x4 h4 h => ?_
  have q4 := (⟨st_row (v' := true) rfl h4 rfl rfl (Nat.le_of_ble_eq_true rfl) rfl, rfl⟩ : stA (F40_2_d0 a1) 1 (.rp 2 0 1 x3 0) (vb true) = some (F40_2_d1 a1 x3) ∧ ud = ud)
  refine bn h fun r5 h5 h => ?_
  cases r5 with
  | k0 x5_0 =>
   obtain ⟨g5, e5⟩ := L40_2_2_run (tS a1) x2 a1 (0, ((List.replicate (tS a1) false).set x3 true)) _ h5
   have q5 := ((oK (ac (ar (ar rfl)))) : okT 3 (F40_2_d1 a1 x3) = true)
   have q6 := (e5 : L40_2_2_e (tS a1) x2 a1 0 ((List.replicate (tS a1) false).set x3 true) = some ((.brk 0), F40_2_d2 g5 a1 x5_0))
   refine bi h ?_ ?_ <;> intro h6 h
   ·
    rw [← sj h]
    exact fpn (v := (.sl 2 0 1 0 (tS a1))) (h' := [bG a1, yB0, yB 0 x5_0]) ([(13, .v (i6 (lS a1)))] ++ ((F40_2_c0 a1) ++ ([(16, .v (ls 1 eBool x2)), (20, .v (.rp 2 0 1 x3 0))] ++ ((F40_2_c1 a1 x3) ++ ((F40_2_c2 g5 a1 x5_0) ++ [(6000, .d true)]))))) (apc (lg a1.sorts eStr 1) (apc q1 (apc q2 (apc q3 (apc q4 (apc q5 (apc q6 apn))))))) (purA_sl (e := eBool) rfl h6) rfl (purA_sl (e := eBool) (getq rfl (nols_ra (fun _ => rfl))) h6) (by kernel_rfl)
   ·
    cases h
 ·
  cases h
inductive E_L25_5 where
  | k0 (x0 : List Int) (x1 : Nat) (x2 : List ByteArray) (x3 : Nat)
section
variable (a1 a2 : List Bool) (a3 a4 : Nat) (a5 : GramD) (a7 : List Int)
def L25_5 (v1 : Int) (v2 : List Int) (v3 : Nat) (v4 : List ByteArray) (v5 : Nat) : Option (E_L25_5 ⊕ (Int × (List Int) × Nat × (List ByteArray) × Nat)) :=
  (bif (decide (v1 < (a5.sorts.length : Int))) then ((ixN a3 v1).bind fun x2 => ((v2[x2]?).bind fun x3 => ((getI a2 v1).bind fun x4 => (bif x4 then ((getI a1 v1).bind fun x6 => (bif x6 then (((v2.set x2 (-1))[x2]?).bind fun x8 => ((getI a5.sorts v1).bind fun x9 => (bif (apOk v5 1 v4.length 16) then (bif (decide (v5 + 1 ≤ v4.length)) then (some (.inr ((IntKind.wrap .i64 (v1 + 1)), ((v2.set x2 (-1)).set x2 ((v5 : Nat) : Int)), v3, (splice v4 v5 [x9]), v5 + 1))) else (some (.inr ((IntKind.wrap .i64 (v1 + 1)), ((v2.set x2 (-1)).set x2 ((v5 : Nat) : Int)), v3 + 1, (v4.take v5 ++ [x9]), v5 + 1)))) else none))) else (some (.inr ((IntKind.wrap .i64 (v1 + 1)), (v2.set x2 (-1)), v3, v4, v5))))) else (some (.inr ((IntKind.wrap .i64 (v1 + 1)), (v2.set x2 (-1)), v3, v4, v5))))))) else (some (.inl (.k0 v2 v3 v4 v5))))
def L25_5_s (v1 : Int) (v2 : List Int) (v3 : Nat) (v4 : List ByteArray) (v5 : Nat) : St := ⟨fr 272 ug [(1, .ptr 0 0), (2, .ptr 5 0), (4, ls 1 eBool a1), (5, ls 1 eBool a2), (6, .sl 6 0 1 0 a3), (7, .sl 7 0 1 0 a4), (8, .ptr 12 0), (9, i6 v1)], [bG a5, yS0, yP0, yF0, yW0, cG 1 0 0 2 0 0 0 3 0 0 4 0 0, yI 0 v2, yI 0 a7, yS v3 v4, yP0, yF0, yW0, cG 8 v3 v5 9 0 0 0 10 0 0 11 0 0]⟩
abbrev L25_5_e (v1 : Int) (v2 : List Int) (v3 : Nat) (v4 : List ByteArray) (v5 : Nat) := evH prg 13 [1, 2, 4, 5, 6, 7, 8, 9] ir25_l5 (L25_5_s a1 a2 a3 a4 a5 a7 v1 v2 v3 v4 v5)
def L25_5_x (e : E_L25_5) (r : Option (Out × St)) : Prop := match e with | .k0 x0 x1 x2 x3 => ∃ g, r = some ((.brk 0), ⟨fr 272 g [(1, .ptr 0 0), (2, .ptr 5 0), (4, ls 1 eBool a1), (5, ls 1 eBool a2), (6, .sl 6 0 1 0 a3), (7, .sl 7 0 1 0 a4), (8, .ptr 12 0)], [bG a5, yS0, yP0, yF0, yW0, cG 1 0 0 2 0 0 0 3 0 0 4 0 0, yI 0 x0, yI 0 a7, yS x1 x2, yP0, yF0, yW0, cG 8 x1 x3 9 0 0 0 10 0 0 11 0 0]⟩)
abbrev L25_5_d0 (v2 : List Int) (x2 v3 : Nat) (v4 : List ByteArray) (v5 : Nat) : List AB := [bG a5, yS0, yP0, yF0, yW0, cG 1 0 0 2 0 0 0 3 0 0 4 0 0, yI 0 (v2.set x2 (-1)), yI 0 a7, yS v3 v4, yP0, yF0, yW0, cG 8 v3 v5 9 0 0 0 10 0 0 11 0 0]
abbrev L25_5_d1 (v2 : List Int) (x2 v5 v3 : Nat) (v4 : List ByteArray) : List AB := [bG a5, yS0, yP0, yF0, yW0, cG 1 0 0 2 0 0 0 3 0 0 4 0 0, yI 0 ((v2.set x2 (-1)).set x2 ((v5 : Nat) : Int)), yI 0 a7, yS v3 v4, yP0, yF0, yW0, cG 8 v3 v5 9 0 0 0 10 0 0 11 0 0]
abbrev L25_5_d2 (v2 : List Int) (x2 v5 v3 : Nat) (v4 : List ByteArray) (x9 : ByteArray) : List AB := [bG a5, yS0, yP0, yF0, yW0, cG 1 0 0 2 0 0 0 3 0 0 4 0 0, yI 0 ((v2.set x2 (-1)).set x2 ((v5 : Nat) : Int)), yI 0 a7, yS v3 (splice v4 v5 [x9]), yP0, yF0, yW0, cG 8 v3 v5 9 0 0 0 10 0 0 11 0 0, .row 9 1 0 [[vs x9]]]
abbrev L25_5_d3 (v2 : List Int) (x2 v5 v3 : Nat) (v4 : List ByteArray) (x9 : ByteArray) : List AB := [bG a5, yS0, yP0, yF0, yW0, cG 1 0 0 2 0 0 0 3 0 0 4 0 0, yI 0 ((v2.set x2 (-1)).set x2 ((v5 : Nat) : Int)), yI 0 a7, yS v3 v4, yP0, yF0, yW0, cG 8 v3 v5 9 0 0 0 10 0 0 11 0 0, .row 9 1 0 [[vs x9]]]
abbrev L25_5_d4 (v2 : List Int) (x2 v5 v3 : Nat) (v4 : List ByteArray) (x9 : ByteArray) : List AB := [bG a5, yS0, yP0, yF0, yW0, cG 1 0 0 2 0 0 0 3 0 0 4 0 0, yI 0 ((v2.set x2 (-1)).set x2 ((v5 : Nat) : Int)), yI 0 a7, yS (v3 + 1) (v4.take v5 ++ [x9]), yP0, yF0, yW0, cG 8 v3 v5 9 0 0 0 10 0 0 11 0 0, .row 9 1 0 [[vs x9]]]
abbrev L25_5_c0 (v2 : List Int) (x2 v3 : Nat) (v4 : List ByteArray) (v5 : Nat) : List (Nat × Hint) := [(1048, .r ud (L25_5_d0 a5 a7 v2 x2 v3 v4 v5))]
abbrev L25_5_c1 (v2 : List Int) (x2 v5 v3 : Nat) (v4 : List ByteArray) : List (Nat × Hint) := [(1064, .r ud (L25_5_d1 a5 a7 v2 x2 v5 v3 v4))]
theorem L25_5_ok (v1 : Int) (v2 : List Int) (v3 : Nat) (v4 : List ByteArray) (v5 : Nat) {r : E_L25_5 ⊕ (Int × (List Int) × Nat × (List ByteArray) × Nat)} (h : L25_5 a1 a2 a3 a5 v1 v2 v3 v4 v5 = some r) : OkR (fun e => L25_5_x a1 a2 a3 a4 a5 a7 e (L25_5_e a1 a2 a3 a4 a5 a7 v1 v2 v3 v4 v5)) (fun s => L25_5_e a1 a2 a3 a4 a5 a7 v1 v2 v3 v4 v5 = L25_5_e a1 a2 a3 a4 a5 a7 s.1 s.2.1 s.2.2.1 s.2.2.2.1 s.2.2.2.2) r := by
 unfold L25_5 at h
 refine bi h ?_ ?_ <;> intro h1 h
 ·
  refine bn h fun x2 h2 h => ?_
  have q2 := ((idx_sl h2) : idxA 1 (.sl 6 0 1 0 a3) (i6 v1) = some (.rp 6 0 1 x2 0))
  refine bn h fun x3 h3 h => ?_
  have q3 := (⟨st_row (v' := (-1)) rfl h3 rfl rfl (Nat.le_of_ble_eq_true rfl) rfl, rfl⟩ : stA [bG a5, yS0, yP0, yF0, yW0, cG 1 0 0 2 0 0 0 3 0 0 4 0 0, yI 0 v2, yI 0 a7, yS v3 v4, yP0, yF0, yW0, cG 8 v3 v5 9 0 0 0 10 0 0 11 0 0] 1 (.rp 6 0 1 x2 0) (i6 (-1)) = some (L25_5_d0 a5 a7 v2 x2 v3 v4 v5) ∧ ud = ud)
  refine bn h fun x4 h4 h => ?_
  refine bi h ?_ ?_ <;> intro h5 h
  ·
   refine bn h fun x6 h6 h => ?_
   refine bi h ?_ ?_ <;> intro h7 h
   ·
    have q8 := ((idx_sl h2) : idxA 1 (.sl 6 0 1 0 a3) (i6 v1) = some (.rp 6 0 1 x2 0))
    refine bn h fun x8 h8 h => ?_
    have q9 := (⟨st_row (v' := ((v5 : Nat) : Int)) rfl h8 rfl rfl (Nat.le_of_ble_eq_true rfl) rfl, rfl⟩ : stA (L25_5_d0 a5 a7 v2 x2 v3 v4 v5) 1 (.rp 6 0 1 x2 0) (i6 ((v5 : Nat) : Int)) = some (L25_5_d1 a5 a7 v2 x2 v5 v3 v4) ∧ ud = ud)
    refine bn h fun x9 h9 h => ?_
    refine bi h ?_ ?_ <;> intro h10 h
    ·
     refine bi h ?_ ?_ <;> intro h11 h
     ·
      rw [← sj h]
      exact rnd ([(42, .v (i6 (lS a5))), (43, .d true), (48, .v (.rp 6 0 1 x2 0))] ++ ((L25_5_c0 a5 a7 v2 x2 v3 v4 v5) ++ ([(51, .v (.ro [.val (.bool x4)])), (52, .d true), (56, .v (.ro [.val (.bool x6)])), (57, .d true), (64, .v (.rp 6 0 1 x2 0))] ++ ((L25_5_c1 a5 a7 v2 x2 v5 v3 v4) ++ [(70, .v (.ro [.val (.string x9)])), (73, .r (.sl 8 v3 1 0 (v5 + 1)) (L25_5_d2 a5 a7 v2 x2 v5 v3 v4 x9)), (6000, .d true)])))) (apc (lg a5.sorts eStr 1) (av h1 (apc q2 (apc q3 (apc (ig eBool 1 .i64 h4) (av h5 (apc (ig eBool 1 .i64 h6) (av h7 (apc q8 (apc q9 (apc (ig eStr 1 .i64 h9) (apc ((ap_in (e := eStr) (xs := v4) (news := [x9]) rfl (rows_x (e := eStr) (xs := [x9]) rfl) rfl h10 h11) : appA (L25_5_d3 a5 a7 v2 x2 v5 v3 v4 x9) 9 1 16 (.sl 8 v3 1 0 v5) (.sl 13 0 1 0 1) = some ((.sl 8 v3 1 0 (v5 + 1)), L25_5_d2 a5 a7 v2 x2 v5 v3 v4 x9)) (apc ((oK (ac (ar (ar (ar (ar (ac (ar (ar (ar (ar (ar (ar (ac rfl)))))))))))))) : okT 13 [bG a5, yS0, yP0, yF0, yW0, cG 1 0 0 2 0 0 0 3 0 0 4 0 0, yI 0 ((v2.set x2 (-1)).set x2 ((v5 : Nat) : Int)), yI 0 a7, yS v3 (splice v4 v5 [x9]), yP0, yF0, yW0, .cells 27 [(.sl 8 v3 1 0 (v5 + 1)), .sl 9 0 7 0 0, i6 0, .sl 10 0 3 0 0, .sl 11 0 5 0 0], .row 9 1 0 [[vs x9]]] = true) apn))))))))))))) (by kernel_rfl)
     ·
      rw [← sj h]
      exact rnd ([(42, .v (i6 (lS a5))), (43, .d true), (48, .v (.rp 6 0 1 x2 0))] ++ ((L25_5_c0 a5 a7 v2 x2 v3 v4 v5) ++ ([(51, .v (.ro [.val (.bool x4)])), (52, .d true), (56, .v (.ro [.val (.bool x6)])), (57, .d true), (64, .v (.rp 6 0 1 x2 0))] ++ ((L25_5_c1 a5 a7 v2 x2 v5 v3 v4) ++ [(70, .v (.ro [.val (.string x9)])), (73, .r (.sl 8 (v3 + 1) 1 0 (v5 + 1)) (L25_5_d4 a5 a7 v2 x2 v5 v3 v4 x9)), (6000, .d true)])))) (apc (lg a5.sorts eStr 1) (av h1 (apc q2 (apc q3 (apc (ig eBool 1 .i64 h4) (av h5 (apc (ig eBool 1 .i64 h6) (av h7 (apc q8 (apc q9 (apc (ig eStr 1 .i64 h9) (apc ((ap_out (e := eStr) (xs := v4) (news := [x9]) rfl (rows_x (e := eStr) (xs := [x9]) rfl) rfl h10 h11) : appA (L25_5_d3 a5 a7 v2 x2 v5 v3 v4 x9) 9 1 16 (.sl 8 v3 1 0 v5) (.sl 13 0 1 0 1) = some ((.sl 8 (v3 + 1) 1 0 (v5 + 1)), L25_5_d4 a5 a7 v2 x2 v5 v3 v4 x9)) (apc ((oK (ac (ar (ar (ar (ar (ac (ar (ar (ar (ar (ar (ar (ac rfl)))))))))))))) : okT 13 [bG a5, yS0, yP0, yF0, yW0, cG 1 0 0 2 0 0 0 3 0 0 4 0 0, yI 0 ((v2.set x2 (-1)).set x2 ((v5 : Nat) : Int)), yI 0 a7, yS (v3 + 1) (v4.take v5 ++ [x9]), yP0, yF0, yW0, .cells 27 [(.sl 8 (v3 + 1) 1 0 (v5 + 1)), .sl 9 0 7 0 0, i6 0, .sl 10 0 3 0 0, .sl 11 0 5 0 0], .row 9 1 0 [[vs x9]]] = true) apn))))))))))))) (by kernel_rfl)
    ·
     cases h
   ·
    rw [← sj h]
    exact rnd ([(42, .v (i6 (lS a5))), (43, .d true), (48, .v (.rp 6 0 1 x2 0))] ++ ((L25_5_c0 a5 a7 v2 x2 v3 v4 v5) ++ [(51, .v (.ro [.val (.bool x4)])), (52, .d true), (56, .v (.ro [.val (.bool x6)])), (57, .d false), (6000, .d true)])) (apc (lg a5.sorts eStr 1) (av h1 (apc q2 (apc q3 (apc (ig eBool 1 .i64 h4) (av h5 (apc (ig eBool 1 .i64 h6) (av h7 (apc ((oK (ac (ar (ar (ar (ar (ac (ar (ar (ar (ar (ar (ar (ac rfl)))))))))))))) : okT 13 (L25_5_d0 a5 a7 v2 x2 v3 v4 v5) = true) apn))))))))) (by kernel_rfl)
  ·
   rw [← sj h]
   exact rnd ([(42, .v (i6 (lS a5))), (43, .d true), (48, .v (.rp 6 0 1 x2 0))] ++ ((L25_5_c0 a5 a7 v2 x2 v3 v4 v5) ++ [(51, .v (.ro [.val (.bool x4)])), (52, .d false), (6000, .d true)])) (apc (lg a5.sorts eStr 1) (av h1 (apc q2 (apc q3 (apc (ig eBool 1 .i64 h4) (av h5 (apc ((oK (ac (ar (ar (ar (ar (ac (ar (ar (ar (ar (ar (ar (ac rfl)))))))))))))) : okT 13 (L25_5_d0 a5 a7 v2 x2 v3 v4 v5) = true) apn))))))) (by kernel_rfl)
 ·
  rw [← sj h]
  exact xbrk [(42, .v (i6 (lS a5))), (43, .d false), (6000, .d true)] (apc (lg a5.sorts eStr 1) (av h1 apn)) (by kernel_rfl)
theorem L25_5_run (s0 : Int × (List Int) × Nat × (List ByteArray) × Nat) (e : E_L25_5) (h : runL (fun s => L25_5 a1 a2 a3 a5 s.1 s.2.1 s.2.2.1 s.2.2.2.1 s.2.2.2.2) s0 = some e) : L25_5_x a1 a2 a3 a4 a5 a7 e (L25_5_e a1 a2 a3 a4 a5 a7 s0.1 s0.2.1 s0.2.2.1 s0.2.2.2.1 s0.2.2.2.2) := by
  have q := @loop_sound' (Int × (List Int) × Nat × (List ByteArray) × Nat) E_L25_5 (fun s => L25_5 a1 a2 a3 a5 s.1 s.2.1 s.2.2.1 s.2.2.2.1 s.2.2.2.2) (fun s => L25_5_e a1 a2 a3 a4 a5 a7 s.1 s.2.1 s.2.2.1 s.2.2.2.1 s.2.2.2.2) (L25_5_x a1 a2 a3 a4 a5 a7) (fun s r h => L25_5_ok a1 a2 a3 a4 a5 a7 s.1 s.2.1 s.2.2.1 s.2.2.2.1 s.2.2.2.2 h) s0 e h
  exact q
end
inductive E_L25_3_7 where
  | k0 (x0 : Bool)
section
variable (a1 a2 : List Bool) (a3 a4 : Nat) (a5 : Int) (a6 : GramD) (a7 a8 : List Int) (a9 : Nat) (a10 : List ByteArray) (a11 : Nat) (a12 : List ProdD) (a13 a14 : Nat) (a15 : Int) (a16 : ProdD)
def L25_3_7 (v1 : Bool) (v2 : Int) : Option (E_L25_3_7 ⊕ (Bool × Int)) :=
  (bif (decide (v2 < (a16.right.length : Int))) then (bif v1 then ((getI a16.right v2).bind fun x3 => (bif (x3.kind == 0) then (some (.inr (true, (IntKind.wrap .i64 (v2 + 1))))) else ((getI a1 x3.sort).bind fun x5 => (bif x5 then (some (.inr (true, (IntKind.wrap .i64 (v2 + 1))))) else (some (.inr (false, (IntKind.wrap .i64 (v2 + 1))))))))) else (some (.inr (false, (IntKind.wrap .i64 (v2 + 1)))))) else (some (.inl (.k0 v1))))
def L25_3_7_s (v1 : Bool) (v2 : Int) : St := ⟨fr 272 ug [(1, .ptr 0 0), (2, .ptr 5 0), (4, ls 1 eBool a1), (5, ls 1 eBool a2), (6, .sl 6 0 1 0 a3), (7, .sl 7 0 1 0 a4), (8, .ptr 12 0), (10, i6 a5), (11, .ptr 14 0), (12, vb v1), (13, i6 v2)], [bG a6, yS0, yP0, yF0, yW0, cG 1 0 0 2 0 0 0 3 0 0 4 0 0, yI 0 a7, yI 0 a8, yS a9 a10, yP a11 a12, yF0, yW0, cG 8 a9 a13 9 a11 a14 a15 10 0 0 11 0 0, yY0, bP a16]⟩
abbrev L25_3_7_e (v1 : Bool) (v2 : Int) := evH prg 15 [1, 2, 4, 5, 6, 7, 8, 10, 11, 12, 13] ir25_l3 (L25_3_7_s a1 a2 a3 a4 a5 a6 a7 a8 a9 a10 a11 a12 a13 a14 a15 a16 v1 v2)
def L25_3_7_x (e : E_L25_3_7) (r : Option (Out × St)) : Prop := match e with | .k0 x0 => ∃ g, r = some ((.brk 4), ⟨fr 272 g [(1, .ptr 0 0), (2, .ptr 5 0), (4, ls 1 eBool a1), (5, ls 1 eBool a2), (6, .sl 6 0 1 0 a3), (7, .sl 7 0 1 0 a4), (8, .ptr 12 0), (10, i6 a5), (11, .ptr 14 0), (12, vb x0)], [bG a6, yS0, yP0, yF0, yW0, cG 1 0 0 2 0 0 0 3 0 0 4 0 0, yI 0 a7, yI 0 a8, yS a9 a10, yP a11 a12, yF0, yW0, cG 8 a9 a13 9 a11 a14 a15 10 0 0 11 0 0, yY0, bP a16]⟩)
abbrev L25_3_7_d0 : List AB := [bG a6, yS0, yP0, yF0, yW0, cG 1 0 0 2 0 0 0 3 0 0 4 0 0, yI 0 a7, yI 0 a8, yS a9 a10, yP a11 a12, yF0, yW0, cG 8 a9 a13 9 a11 a14 a15 10 0 0 11 0 0, yY0, bP a16]
theorem L25_3_7_ok (v1 : Bool) (v2 : Int) {r : E_L25_3_7 ⊕ (Bool × Int)} (h : L25_3_7 a1 a16 v1 v2 = some r) : OkR (fun e => L25_3_7_x a1 a2 a3 a4 a5 a6 a7 a8 a9 a10 a11 a12 a13 a14 a15 a16 e (L25_3_7_e a1 a2 a3 a4 a5 a6 a7 a8 a9 a10 a11 a12 a13 a14 a15 a16 v1 v2)) (fun s => L25_3_7_e a1 a2 a3 a4 a5 a6 a7 a8 a9 a10 a11 a12 a13 a14 a15 a16 v1 v2 = L25_3_7_e a1 a2 a3 a4 a5 a6 a7 a8 a9 a10 a11 a12 a13 a14 a15 a16 s.1 s.2) r := by
 unfold L25_3_7 at h
 refine bi h ?_ ?_ <;> intro h1 h
 ·
  refine bi h ?_ ?_ <;> intro h2 h
  ·
   refine bn h fun x3 h3 h => ?_
   refine bi h ?_ ?_ <;> intro h4 h
   ·
    rw [← sj h]
    exact rnd [(111, .v (i6 (a16.right.length : Int))), (112, .d true), (115, .d true), (120, .v (.ro (eSym x3))), (123, .d true), (6000, .d true)] (apc (lg a16.right eSym 6) (av h1 (av h2 (apc (ig eSym 6 .i64 h3) (av h4 (apc ((oK (ac (ar (ar (ar (ar (ac (ar (ar (ar (ar (ar (ar (ac (ar (ac rfl)))))))))))))))) : okT 15 (L25_3_7_d0 a6 a7 a8 a9 a10 a11 a12 a13 a14 a15 a16) = true) apn)))))) (by kernel_rfl)
   ·
    refine bn h fun x5 h5 h => ?_
    refine bi h ?_ ?_ <;> intro h6 h
    ·
     rw [← sj h]
     exact rnd [(111, .v (i6 (a16.right.length : Int))), (112, .d true), (115, .d true), (120, .v (.ro (eSym x3))), (123, .d false), (129, .v (.ro (eSym x3))), (132, .v (.ro [.val (.bool x5)])), (133, .d true), (6000, .d true)] (apc (lg a16.right eSym 6) (av h1 (av h2 (apc (ig eSym 6 .i64 h3) (av h4 (apc (ig eSym 6 .i64 h3) (apc (ig eBool 1 .i64 h5) (av h6 (apc ((oK (ac (ar (ar (ar (ar (ac (ar (ar (ar (ar (ar (ar (ac (ar (ac rfl)))))))))))))))) : okT 15 (L25_3_7_d0 a6 a7 a8 a9 a10 a11 a12 a13 a14 a15 a16) = true) apn))))))))) (by kernel_rfl)
    ·
     rw [← sj h]
     exact rnd [(111, .v (i6 (a16.right.length : Int))), (112, .d true), (115, .d true), (120, .v (.ro (eSym x3))), (123, .d false), (129, .v (.ro (eSym x3))), (132, .v (.ro [.val (.bool x5)])), (133, .d false), (6000, .d true)] (apc (lg a16.right eSym 6) (av h1 (av h2 (apc (ig eSym 6 .i64 h3) (av h4 (apc (ig eSym 6 .i64 h3) (apc (ig eBool 1 .i64 h5) (av h6 (apc ((oK (ac (ar (ar (ar (ar (ac (ar (ar (ar (ar (ar (ar (ac (ar (ac rfl)))))))))))))))) : okT 15 (L25_3_7_d0 a6 a7 a8 a9 a10 a11 a12 a13 a14 a15 a16) = true) apn))))))))) (by kernel_rfl)
  ·
   rw [← sj h]
   exact rnd [(111, .v (i6 (a16.right.length : Int))), (112, .d true), (115, .d false), (6000, .d true)] (apc (lg a16.right eSym 6) (av h1 (av h2 (apc ((oK (ac (ar (ar (ar (ar (ac (ar (ar (ar (ar (ar (ar (ac (ar (ac rfl)))))))))))))))) : okT 15 (L25_3_7_d0 a6 a7 a8 a9 a10 a11 a12 a13 a14 a15 a16) = true) apn)))) (by kernel_rfl)
 ·
  rw [← sj h]
  exact xbrk [(111, .v (i6 (a16.right.length : Int))), (112, .d false), (6000, .d true)] (apc (lg a16.right eSym 6) (av h1 apn)) (by kernel_rfl)
theorem L25_3_7_run (s0 : Bool × Int) (e : E_L25_3_7) (h : runL (fun s => L25_3_7 a1 a16 s.1 s.2) s0 = some e) : L25_3_7_x a1 a2 a3 a4 a5 a6 a7 a8 a9 a10 a11 a12 a13 a14 a15 a16 e (L25_3_7_e a1 a2 a3 a4 a5 a6 a7 a8 a9 a10 a11 a12 a13 a14 a15 a16 s0.1 s0.2) := by
  have q := @loop_sound' (Bool × Int) E_L25_3_7 (fun s => L25_3_7 a1 a16 s.1 s.2) (fun s => L25_3_7_e a1 a2 a3 a4 a5 a6 a7 a8 a9 a10 a11 a12 a13 a14 a15 a16 s.1 s.2) (L25_3_7_x a1 a2 a3 a4 a5 a6 a7 a8 a9 a10 a11 a12 a13 a14 a15 a16) (fun s r h => L25_3_7_ok a1 a2 a3 a4 a5 a6 a7 a8 a9 a10 a11 a12 a13 a14 a15 a16 s.1 s.2 h) s0 e h
  exact q
end
inductive E_L25_2_4 where
  | k0 (x0 : List SymD)
section
variable (a1 a2 : List Bool) (a3 a4 : Nat) (a5 : Int) (a6 : GramD) (a7 a8 : List Int) (a9 : Nat) (a10 : List ByteArray) (a11 : Nat) (a12 : List ProdD) (a13 a14 : Nat) (a15 : Int) (a16 : ProdD) (a17 : Int) (a18 : Nat)
def L25_2_4 (v1 : Int) (v2 : List SymD) : Option (E_L25_2_4 ⊕ (Int × (List SymD))) :=
  (bif (decide (v1 < ((a18 : Nat) : Int))) then ((ixN a18 v1).bind fun x2 => ((v2[x2]?).bind fun x3 => (bif (x3.kind == 1) then ((ixN a3 x3.sort).bind fun x5 => ((a7[x5]?).bind fun x6 => (some (.inr ((IntKind.wrap .i64 (v1 + 1)), (v2.set x2 (⟨x3.kind, x3.a, x3.b, x3.c, x3.d, x6⟩ : SymD))))))) else (some (.inr ((IntKind.wrap .i64 (v1 + 1)), v2)))))) else (some (.inl (.k0 v2))))
def L25_2_4_s (v1 : Int) (v2 : List SymD) : St := ⟨fr 272 ug [(1, .ptr 0 0), (2, .ptr 5 0), (4, ls 1 eBool a1), (5, ls 1 eBool a2), (6, .sl 6 0 1 0 a3), (7, .sl 7 0 1 0 a4), (8, .ptr 12 0), (10, i6 a5), (14, .ptr 16 0), (15, i6 v1)], [bG a6, yS0, yP0, yF0, yW0, cG 1 0 0 2 0 0 0 3 0 0 4 0 0, yI 0 a7, yI 0 a8, yS a9 a10, yP a11 a12, yF0, yW0, cG 8 a9 a13 9 a11 a14 a15 10 0 0 11 0 0, yY0, bP a16, yY0, .cells 46 [i6 a17, .sl 17 0 6 0 a18, vs a16.cons, i6 a16.role, vb a16.prefer, vb a16.avoid, i6 a16.frm], yY 0 v2]⟩
abbrev L25_2_4_e (v1 : Int) (v2 : List SymD) := evH prg 18 [1, 2, 4, 5, 6, 7, 8, 10, 14, 15] ir25_l2 (L25_2_4_s a1 a2 a3 a4 a5 a6 a7 a8 a9 a10 a11 a12 a13 a14 a15 a16 a17 a18 v1 v2)
def L25_2_4_x (e : E_L25_2_4) (r : Option (Out × St)) : Prop := match e with | .k0 x0 => ∃ g, r = some ((.brk 6), ⟨fr 272 g [(1, .ptr 0 0), (2, .ptr 5 0), (4, ls 1 eBool a1), (5, ls 1 eBool a2), (6, .sl 6 0 1 0 a3), (7, .sl 7 0 1 0 a4), (8, .ptr 12 0), (10, i6 a5), (14, .ptr 16 0)], [bG a6, yS0, yP0, yF0, yW0, cG 1 0 0 2 0 0 0 3 0 0 4 0 0, yI 0 a7, yI 0 a8, yS a9 a10, yP a11 a12, yF0, yW0, cG 8 a9 a13 9 a11 a14 a15 10 0 0 11 0 0, yY0, bP a16, yY0, .cells 46 [i6 a17, .sl 17 0 6 0 a18, vs a16.cons, i6 a16.role, vb a16.prefer, vb a16.avoid, i6 a16.frm], yY 0 x0]⟩)
abbrev L25_2_4_d0 (v2 : List SymD) : List AB := [bG a6, yS0, yP0, yF0, yW0, cG 1 0 0 2 0 0 0 3 0 0 4 0 0, yI 0 a7, yI 0 a8, yS a9 a10, yP a11 a12, yF0, yW0, cG 8 a9 a13 9 a11 a14 a15 10 0 0 11 0 0, yY0, bP a16, yY0, .cells 46 [i6 a17, .sl 17 0 6 0 a18, vs a16.cons, i6 a16.role, vb a16.prefer, vb a16.avoid, i6 a16.frm], yY 0 v2]
abbrev L25_2_4_d1 (v2 : List SymD) (x2 : Nat) (x3 : SymD) (x6 : Int) : List AB := [bG a6, yS0, yP0, yF0, yW0, cG 1 0 0 2 0 0 0 3 0 0 4 0 0, yI 0 a7, yI 0 a8, yS a9 a10, yP a11 a12, yF0, yW0, cG 8 a9 a13 9 a11 a14 a15 10 0 0 11 0 0, yY0, bP a16, yY0, .cells 46 [i6 a17, .sl 17 0 6 0 a18, vs a16.cons, i6 a16.role, vb a16.prefer, vb a16.avoid, i6 a16.frm], yY 0 (v2.set x2 (⟨x3.kind, x3.a, x3.b, x3.c, x3.d, x6⟩ : SymD))]
theorem L25_2_4_ok (v1 : Int) (v2 : List SymD) {r : E_L25_2_4 ⊕ (Int × (List SymD))} (h : L25_2_4 a3 a7 a18 v1 v2 = some r) : OkR (fun e => L25_2_4_x a1 a2 a3 a4 a5 a6 a7 a8 a9 a10 a11 a12 a13 a14 a15 a16 a17 a18 e (L25_2_4_e a1 a2 a3 a4 a5 a6 a7 a8 a9 a10 a11 a12 a13 a14 a15 a16 a17 a18 v1 v2)) (fun s => L25_2_4_e a1 a2 a3 a4 a5 a6 a7 a8 a9 a10 a11 a12 a13 a14 a15 a16 a17 a18 v1 v2 = L25_2_4_e a1 a2 a3 a4 a5 a6 a7 a8 a9 a10 a11 a12 a13 a14 a15 a16 a17 a18 s.1 s.2) r := by
 unfold L25_2_4 at h
 refine bi h ?_ ?_ <;> intro h1 h
 ·
  refine bn h fun x2 h2 h => ?_
  have q1 := ((idx_sl h2) : idxA 6 (.sl 17 0 6 0 a18) (i6 v1) = some (.rp 17 0 6 x2 0))
  refine bn h fun x3 h3 h => ?_
  have q2 := ((ld_row rfl h3 rfl) : ldA (L25_2_4_d0 a6 a7 a8 a9 a10 a11 a12 a13 a14 a15 a16 a17 a18 v2) .false 1 (.rp 17 0 6 x2 0) = some (i6 x3.kind))
  refine bi h ?_ ?_ <;> intro h4 h
  ·
   refine bn h fun x5 h5 h => ?_
   refine bn h fun x6 h6 h => ?_
   rw [← sj h]
   exact rnd [(159, .d true), (165, .v (.rp 17 0 6 x2 0)), (167, .v (i6 x3.kind)), (168, .d true), (176, .v (.rp 17 0 6 x2 0)), (178, .v (i6 x3.sort)), (179, .v (.rp 6 0 1 x5 0)), (180, .v (i6 x6)), (181, .v (.rp 17 0 6 x2 0)), (1182, .r ud (L25_2_4_d1 a6 a7 a8 a9 a10 a11 a12 a13 a14 a15 a16 a17 a18 v2 x2 x3 x6)), (6000, .d true)] (av h1 (apc q1 (apc q2 (av h4 (apc ((idx_sl h2) : idxA 6 (.sl 17 0 6 0 a18) (i6 v1) = some (.rp 17 0 6 x2 0)) (apc ((ld_row rfl h3 rfl) : ldA (L25_2_4_d0 a6 a7 a8 a9 a10 a11 a12 a13 a14 a15 a16 a17 a18 v2) .false 1 (.rp 17 0 6 x2 5) = some (i6 x3.sort)) (apc ((idx_sl h5) : idxA 1 (.sl 6 0 1 0 a3) (i6 x3.sort) = some (.rp 6 0 1 x5 0)) (apc ((ld_row rfl h6 rfl) : ldA (L25_2_4_d0 a6 a7 a8 a9 a10 a11 a12 a13 a14 a15 a16 a17 a18 v2) .false 1 (.rp 6 0 1 x5 0) = some (i6 x6)) (apc ((idx_sl h2) : idxA 6 (.sl 17 0 6 0 a18) (i6 v1) = some (.rp 17 0 6 x2 0)) (apc (⟨st_row (v' := (⟨x3.kind, x3.a, x3.b, x3.c, x3.d, x6⟩ : SymD)) rfl h3 rfl rfl (Nat.le_of_ble_eq_true rfl) rfl, rfl⟩ : stA (L25_2_4_d0 a6 a7 a8 a9 a10 a11 a12 a13 a14 a15 a16 a17 a18 v2) 1 (.rp 17 0 6 x2 5) (i6 x6) = some (L25_2_4_d1 a6 a7 a8 a9 a10 a11 a12 a13 a14 a15 a16 a17 a18 v2 x2 x3 x6) ∧ ud = ud) (apc ((oK (ac (ar (ar (ar (ar (ac (ar (ar (ar (ar (ar (ar (ac (ar (ac (ar (ac (ar rfl))))))))))))))))))) : okT 18 (L25_2_4_d1 a6 a7 a8 a9 a10 a11 a12 a13 a14 a15 a16 a17 a18 v2 x2 x3 x6) = true) apn))))))))))) (by kernel_rfl)
  ·
   rw [← sj h]
   exact rnd [(159, .d true), (165, .v (.rp 17 0 6 x2 0)), (167, .v (i6 x3.kind)), (168, .d false), (6000, .d true)] (av h1 (apc q1 (apc q2 (av h4 (apc ((oK (ac (ar (ar (ar (ar (ac (ar (ar (ar (ar (ar (ar (ac (ar (ac (ar (ac (ar rfl))))))))))))))))))) : okT 18 (L25_2_4_d0 a6 a7 a8 a9 a10 a11 a12 a13 a14 a15 a16 a17 a18 v2) = true) apn))))) (by kernel_rfl)
 ·
  rw [← sj h]
  exact xbrk [(159, .d false), (6000, .d true)] (av h1 apn) (by kernel_rfl)
theorem L25_2_4_run (s0 : Int × (List SymD)) (e : E_L25_2_4) (h : runL (fun s => L25_2_4 a3 a7 a18 s.1 s.2) s0 = some e) : L25_2_4_x a1 a2 a3 a4 a5 a6 a7 a8 a9 a10 a11 a12 a13 a14 a15 a16 a17 a18 e (L25_2_4_e a1 a2 a3 a4 a5 a6 a7 a8 a9 a10 a11 a12 a13 a14 a15 a16 a17 a18 s0.1 s0.2) := by
  have q := @loop_sound' (Int × (List SymD)) E_L25_2_4 (fun s => L25_2_4 a3 a7 a18 s.1 s.2) (fun s => L25_2_4_e a1 a2 a3 a4 a5 a6 a7 a8 a9 a10 a11 a12 a13 a14 a15 a16 a17 a18 s.1 s.2) (L25_2_4_x a1 a2 a3 a4 a5 a6 a7 a8 a9 a10 a11 a12 a13 a14 a15 a16 a17 a18) (fun s r h => L25_2_4_ok a1 a2 a3 a4 a5 a6 a7 a8 a9 a10 a11 a12 a13 a14 a15 a16 a17 a18 s.1 s.2 h) s0 e h
  exact q
end
inductive E_L25_3_8 where
  | k0
section
variable (a1 a2 : List Bool) (a3 a4 : Nat) (a5 : Int) (a6 : GramD) (a7 a8 : List Int) (a9 : Nat) (a10 : List ByteArray) (a11 : Nat) (a12 : List ProdD) (a13 a14 : Nat) (a15 : Int) (a16 : ProdD)
def L25_3_8 (v1 : Int) : Option (E_L25_3_8 ⊕ (Int)) :=
  (bif (decide (v1 < (a16.right.length : Int))) then (some (.inr ((IntKind.wrap .i64 (v1 + 1))))) else (some (.inl (.k0))))
def L25_3_8_s (v1 : Int) : St := ⟨fr 272 ug [(1, .ptr 0 0), (2, .ptr 5 0), (4, ls 1 eBool a1), (5, ls 1 eBool a2), (6, .sl 6 0 1 0 a3), (7, .sl 7 0 1 0 a4), (8, .ptr 12 0), (10, i6 a5), (11, .ptr 14 0), (12, vb false), (13, i6 v1)], [bG a6, yS0, yP0, yF0, yW0, cG 1 0 0 2 0 0 0 3 0 0 4 0 0, yI 0 a7, yI 0 a8, yS a9 a10, yP a11 a12, yF0, yW0, cG 8 a9 a13 9 a11 a14 a15 10 0 0 11 0 0, yY0, bP a16]⟩
abbrev L25_3_8_e (v1 : Int) := evH prg 15 [1, 2, 4, 5, 6, 7, 8, 10, 11, 12, 13] ir25_l3 (L25_3_8_s a1 a2 a3 a4 a5 a6 a7 a8 a9 a10 a11 a12 a13 a14 a15 a16 v1)
def L25_3_8_x (e : E_L25_3_8) (r : Option (Out × St)) : Prop := match e with | .k0 => ∃ g, r = some ((.brk 4), ⟨fr 272 g [(1, .ptr 0 0), (2, .ptr 5 0), (4, ls 1 eBool a1), (5, ls 1 eBool a2), (6, .sl 6 0 1 0 a3), (7, .sl 7 0 1 0 a4), (8, .ptr 12 0), (10, i6 a5), (11, .ptr 14 0), (12, vb false)], [bG a6, yS0, yP0, yF0, yW0, cG 1 0 0 2 0 0 0 3 0 0 4 0 0, yI 0 a7, yI 0 a8, yS a9 a10, yP a11 a12, yF0, yW0, cG 8 a9 a13 9 a11 a14 a15 10 0 0 11 0 0, yY0, bP a16]⟩)
theorem L25_3_8_ok (v1 : Int) {r : E_L25_3_8 ⊕ (Int)} (h : L25_3_8 a16 v1 = some r) : OkR (fun e => L25_3_8_x a1 a2 a3 a4 a5 a6 a7 a8 a9 a10 a11 a12 a13 a14 a15 a16 e (L25_3_8_e a1 a2 a3 a4 a5 a6 a7 a8 a9 a10 a11 a12 a13 a14 a15 a16 v1)) (fun s => L25_3_8_e a1 a2 a3 a4 a5 a6 a7 a8 a9 a10 a11 a12 a13 a14 a15 a16 v1 = L25_3_8_e a1 a2 a3 a4 a5 a6 a7 a8 a9 a10 a11 a12 a13 a14 a15 a16 s) r := by
 unfold L25_3_8 at h
 refine bi h ?_ ?_ <;> intro h1 h
 ·
  rw [← sj h]
  exact rnd [(111, .v (i6 (a16.right.length : Int))), (112, .d true), (6000, .d true)] (apc (lg a16.right eSym 6) (av h1 (apc ((oK (ac (ar (ar (ar (ar (ac (ar (ar (ar (ar (ar (ar (ac (ar (ac rfl)))))))))))))))) : okT 15 [bG a6, yS0, yP0, yF0, yW0, cG 1 0 0 2 0 0 0 3 0 0 4 0 0, yI 0 a7, yI 0 a8, yS a9 a10, yP a11 a12, yF0, yW0, cG 8 a9 a13 9 a11 a14 a15 10 0 0 11 0 0, yY0, bP a16] = true) apn))) (by kernel_rfl)
 ·
  rw [← sj h]
  exact xbrk [(111, .v (i6 (a16.right.length : Int))), (112, .d false), (6000, .d true)] (apc (lg a16.right eSym 6) (av h1 apn)) (by kernel_rfl)
theorem L25_3_8_run (s0 : Int) (e : E_L25_3_8) (h : runL (fun s => L25_3_8 a16 s) s0 = some e) : L25_3_8_x a1 a2 a3 a4 a5 a6 a7 a8 a9 a10 a11 a12 a13 a14 a15 a16 e (L25_3_8_e a1 a2 a3 a4 a5 a6 a7 a8 a9 a10 a11 a12 a13 a14 a15 a16 s0) := by
  have q := @loop_sound' (Int) E_L25_3_8 (fun s => L25_3_8 a16 s) (fun s => L25_3_8_e a1 a2 a3 a4 a5 a6 a7 a8 a9 a10 a11 a12 a13 a14 a15 a16 s) (L25_3_8_x a1 a2 a3 a4 a5 a6 a7 a8 a9 a10 a11 a12 a13 a14 a15 a16) (fun s r h => L25_3_8_ok a1 a2 a3 a4 a5 a6 a7 a8 a9 a10 a11 a12 a13 a14 a15 a16 s h) s0 e h
  exact q
end
end
end Go.Proofs.Try
