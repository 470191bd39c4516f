/- Decompiled by a program: functions as plain data see them, part 2. -/
import Derived.Test.YtpoclajcldnjeaaH71
namespace Go.Proofs.Try
set_option linter.unusedSimpArgs false
set_option linter.unusedVariables false
open Go Go.Vs
noncomputable section
inductive E_L24_0_2 where
  | k0 (x0 : Nat) (x1 : List FollD) (x2 : Nat)
section
variable (a1 : Nat) (a2 : GramD) (a3 : Int) (a4 : List Bool) (a5 : Nat) (a6 : List ByteArray) (a7 : Nat) (a8 : List ProdD) (a9 : Nat) (a10 : List ForbD) (a11 a12 : Nat) (a13 : Int) (a14 : Nat) (a15 a16 : List Int)
def L24_0_2 (v1 : Int) (v2 : Nat) (v3 : List FollD) (v4 : Nat) : Option (E_L24_0_2 ⊕ (Int × Nat × (List FollD) × Nat)) :=
  (bif (decide (v1 < a3)) then ((getI a2.follow v1).bind fun x2 => ((ixN a1 x2.sort).bind fun x3 => ((a15[x3]?).bind fun x4 => (bif (decide (x4 ≥ 0)) then (bif (apOk v4 1 v3.length 40) then (bif (decide (v4 + 1 ≤ v3.length)) then (some (.inr ((IntKind.wrap .i64 (v1 + 1)), v2, (splice v3 v4 [(⟨x4, x2.a, x2.b, x2.c, x2.d⟩ : FollD)]), v4 + 1))) else (some (.inr ((IntKind.wrap .i64 (v1 + 1)), v2 + 1, (v3.take v4 ++ [(⟨x4, x2.a, x2.b, x2.c, x2.d⟩ : FollD)]), v4 + 1)))) else none) else (some (.inr ((IntKind.wrap .i64 (v1 + 1)), v2, v3, v4))))))) else (some (.inl (.k0 v2 v3 v4))))
def L24_0_2_s (v1 : Int) (v2 : Nat) (v3 : List FollD) (v4 : Nat) : St := ⟨fr 212 ug [(2, .ptr 5 0), (8, .ptr 12 0), (9, .sl 13 0 1 0 a1), (188, ls 5 eFoll a2.follow), (189, i6 a3), (190, i6 v1)], [bG a2, yS0, yP0, yF0, yW0, cG 1 0 0 2 0 0 0 3 0 0 4 0 0, yB0, .cells 83 [ls 1 eBool a4], yS a5 a6, yP a7 a8, yF a9 a10, yW v2 v3, cG 8 a5 a11 9 a7 a12 a13 10 a9 a14 11 v2 v4, yI 0 a15, yI 0 a16]⟩
abbrev L24_0_2_e (v1 : Int) (v2 : Nat) (v3 : List FollD) (v4 : Nat) := evH prg 15 [2, 8, 9, 188, 189, 190] ir24_l0 (L24_0_2_s a1 a2 a3 a4 a5 a6 a7 a8 a9 a10 a11 a12 a13 a14 a15 a16 v1 v2 v3 v4)
def L24_0_2_x (e : E_L24_0_2) (r : Option (Out × St)) : Prop := match e with | .k0 x0 x1 x2 => ∃ g, r = some ((.brk 8), ⟨fr 212 g [(2, .ptr 5 0), (8, .ptr 12 0), (9, .sl 13 0 1 0 a1), (188, ls 5 eFoll a2.follow)], [bG a2, yS0, yP0, yF0, yW0, cG 1 0 0 2 0 0 0 3 0 0 4 0 0, yB0, .cells 83 [ls 1 eBool a4], yS a5 a6, yP a7 a8, yF a9 a10, yW x0 x1, cG 8 a5 a11 9 a7 a12 a13 10 a9 a14 11 x0 x2, yI 0 a15, yI 0 a16]⟩)
abbrev L24_0_2_d0 (v2 : Nat) (v3 : List FollD) (v4 : Nat) (x2 : FollD) : List AB := [bG a2, yS0, yP0, yF0, yW0, cG 1 0 0 2 0 0 0 3 0 0 4 0 0, yB0, .cells 83 [ls 1 eBool a4], yS a5 a6, yP a7 a8, yF a9 a10, yW v2 v3, cG 8 a5 a11 9 a7 a12 a13 10 a9 a14 11 v2 v4, yI 0 a15, yI 0 a16, .cells 80 ((eFoll x2).map .p)]
abbrev L24_0_2_d1 (v2 : Nat) (v3 : List FollD) (v4 : Nat) (x4 : Int) (x2 : FollD) : List AB := [bG a2, yS0, yP0, yF0, yW0, cG 1 0 0 2 0 0 0 3 0 0 4 0 0, yB0, .cells 83 [ls 1 eBool a4], yS a5 a6, yP a7 a8, yF a9 a10, yW v2 (splice v3 v4 [(⟨x4, x2.a, x2.b, x2.c, x2.d⟩ : FollD)]), cG 8 a5 a11 9 a7 a12 a13 10 a9 a14 11 v2 v4, yI 0 a15, yI 0 a16, .cells 80 ((eFoll x2).map .p), .row 80 5 0 [[i6 x4, vi .u64 x2.a, vi .u64 x2.b, vi .u64 x2.c, vi .u64 x2.d]]]
abbrev L24_0_2_d2 (v2 : Nat) (v3 : List FollD) (v4 : Nat) (x2 : FollD) (x4 : Int) : List AB := [bG a2, yS0, yP0, yF0, yW0, cG 1 0 0 2 0 0 0 3 0 0 4 0 0, yB0, .cells 83 [ls 1 eBool a4], yS a5 a6, yP a7 a8, yF a9 a10, yW v2 v3, cG 8 a5 a11 9 a7 a12 a13 10 a9 a14 11 v2 v4, yI 0 a15, yI 0 a16, .cells 80 ((eFoll x2).map .p), .row 80 5 0 [[i6 x4, vi .u64 x2.a, vi .u64 x2.b, vi .u64 x2.c, vi .u64 x2.d]]]
abbrev L24_0_2_d3 (v2 : Nat) (v3 : List FollD) (v4 : Nat) (x4 : Int) (x2 : FollD) : List AB := [bG a2, yS0, yP0, yF0, yW0, cG 1 0 0 2 0 0 0 3 0 0 4 0 0, yB0, .cells 83 [ls 1 eBool a4], yS a5 a6, yP a7 a8, yF a9 a10, yW (v2 + 1) (v3.take v4 ++ [(⟨x4, x2.a, x2.b, x2.c, x2.d⟩ : FollD)]), cG 8 a5 a11 9 a7 a12 a13 10 a9 a14 11 v2 v4, yI 0 a15, yI 0 a16, .cells 80 ((eFoll x2).map .p), .row 80 5 0 [[i6 x4, vi .u64 x2.a, vi .u64 x2.b, vi .u64 x2.c, vi .u64 x2.d]]]
theorem L24_0_2_ok (v1 : Int) (v2 : Nat) (v3 : List FollD) (v4 : Nat) {r : E_L24_0_2 ⊕ (Int × Nat × (List FollD) × Nat)} (h : L24_0_2 a1 a2 a3 a15 v1 v2 v3 v4 = some r) : OkR (fun e => L24_0_2_x a1 a2 a4 a5 a6 a7 a8 a9 a10 a11 a12 a13 a14 a15 a16 e (L24_0_2_e a1 a2 a3 a4 a5 a6 a7 a8 a9 a10 a11 a12 a13 a14 a15 a16 v1 v2 v3 v4)) (fun s => L24_0_2_e a1 a2 a3 a4 a5 a6 a7 a8 a9 a10 a11 a12 a13 a14 a15 a16 v1 v2 v3 v4 = L24_0_2_e a1 a2 a3 a4 a5 a6 a7 a8 a9 a10 a11 a12 a13 a14 a15 a16 s.1 s.2.1 s.2.2.1 s.2.2.2) r := by
 unfold L24_0_2 at h
 refine bi h ?_ ?_ <;> intro h1 h
 ·
  refine bn h fun x2 h2 h => ?_
  refine bn h fun x3 h3 h => ?_
  have q2 := ((idx_sl h3) : idxA 1 (.sl 13 0 1 0 a1) (i6 x2.sort) = some (.rp 13 0 1 x3 0))
  refine bn h fun x4 h4 h => ?_
  have q3 := ((ld_row rfl h4 rfl) : ldA (L24_0_2_d0 a2 a4 a5 a6 a7 a8 a9 a10 a11 a12 a13 a14 a15 a16 v2 v3 v4 x2) .false 1 (.rp 13 0 1 x3 0) = some (i6 x4))
  refine bi h ?_ ?_ <;> intro h5 h
  ·
   refine bi h ?_ ?_ <;> intro h6 h
   ·
    refine bi h ?_ ?_ <;> intro h7 h
    ·
     rw [← sj h]
     exact rnd [(191, .d true), (192, .v (.ro (eFoll x2))), (197, .v (.rp 13 0 1 x3 0)), (198, .v (i6 x4)), (200, .d true), (208, .r (.sl 11 v2 5 0 (v4 + 1)) (L24_0_2_d1 a2 a4 a5 a6 a7 a8 a9 a10 a11 a12 a13 a14 a15 a16 v2 v3 v4 x4 x2)), (6000, .d true)] (av h1 (apc (ig eFoll 5 .i64 h2) (apc q2 (apc q3 (av h5 (apc ((ap_in (e := eFoll) (xs := v3) (news := [(⟨x4, x2.a, x2.b, x2.c, x2.d⟩ : FollD)]) rfl (rows_x (e := eFoll) (xs := [(⟨x4, x2.a, x2.b, x2.c, x2.d⟩ : FollD)]) rfl) rfl h6 h7) : appA (L24_0_2_d2 a2 a4 a5 a6 a7 a8 a9 a10 a11 a12 a13 a14 a15 a16 v2 v3 v4 x2 x4) 80 5 40 (.sl 11 v2 5 0 v4) (.sl 16 0 5 0 1) = some ((.sl 11 v2 5 0 (v4 + 1)), L24_0_2_d1 a2 a4 a5 a6 a7 a8 a9 a10 a11 a12 a13 a14 a15 a16 v2 v3 v4 x4 x2)) (apc ((oK (ac (ar (ar (ar (ar (ac (ar (ac (ar (ar (ar (ar (ac (ar (ar rfl)))))))))))))))) : okT 15 [bG a2, yS0, yP0, yF0, yW0, cG 1 0 0 2 0 0 0 3 0 0 4 0 0, yB0, .cells 83 [ls 1 eBool a4], yS a5 a6, yP a7 a8, yF a9 a10, yW v2 (splice v3 v4 [(⟨x4, x2.a, x2.b, x2.c, x2.d⟩ : FollD)]), .cells 27 [.sl 8 a5 1 0 a11, .sl 9 a7 7 0 a12, i6 a13, .sl 10 a9 3 0 a14, (.sl 11 v2 5 0 (v4 + 1))], yI 0 a15, yI 0 a16, .cells 80 ((eFoll x2).map .p), .row 80 5 0 [[i6 x4, vi .u64 x2.a, vi .u64 x2.b, vi .u64 x2.c, vi .u64 x2.d]]] = true) apn))))))) (by kernel_rfl)
    ·
     rw [← sj h]
     exact rnd [(191, .d true), (192, .v (.ro (eFoll x2))), (197, .v (.rp 13 0 1 x3 0)), (198, .v (i6 x4)), (200, .d true), (208, .r (.sl 11 (v2 + 1) 5 0 (v4 + 1)) (L24_0_2_d3 a2 a4 a5 a6 a7 a8 a9 a10 a11 a12 a13 a14 a15 a16 v2 v3 v4 x4 x2)), (6000, .d true)] (av h1 (apc (ig eFoll 5 .i64 h2) (apc q2 (apc q3 (av h5 (apc ((ap_out (e := eFoll) (xs := v3) (news := [(⟨x4, x2.a, x2.b, x2.c, x2.d⟩ : FollD)]) rfl (rows_x (e := eFoll) (xs := [(⟨x4, x2.a, x2.b, x2.c, x2.d⟩ : FollD)]) rfl) rfl h6 h7) : appA (L24_0_2_d2 a2 a4 a5 a6 a7 a8 a9 a10 a11 a12 a13 a14 a15 a16 v2 v3 v4 x2 x4) 80 5 40 (.sl 11 v2 5 0 v4) (.sl 16 0 5 0 1) = some ((.sl 11 (v2 + 1) 5 0 (v4 + 1)), L24_0_2_d3 a2 a4 a5 a6 a7 a8 a9 a10 a11 a12 a13 a14 a15 a16 v2 v3 v4 x4 x2)) (apc ((oK (ac (ar (ar (ar (ar (ac (ar (ac (ar (ar (ar (ar (ac (ar (ar rfl)))))))))))))))) : okT 15 [bG a2, yS0, yP0, yF0, yW0, cG 1 0 0 2 0 0 0 3 0 0 4 0 0, yB0, .cells 83 [ls 1 eBool a4], yS a5 a6, yP a7 a8, yF a9 a10, yW (v2 + 1) (v3.take v4 ++ [(⟨x4, x2.a, x2.b, x2.c, x2.d⟩ : FollD)]), .cells 27 [.sl 8 a5 1 0 a11, .sl 9 a7 7 0 a12, i6 a13, .sl 10 a9 3 0 a14, (.sl 11 (v2 + 1) 5 0 (v4 + 1))], yI 0 a15, yI 0 a16, .cells 80 ((eFoll x2).map .p), .row 80 5 0 [[i6 x4, vi .u64 x2.a, vi .u64 x2.b, vi .u64 x2.c, vi .u64 x2.d]]] = true) apn))))))) (by kernel_rfl)
   ·
    cases h
  ·
   rw [← sj h]
   exact rnd [(191, .d true), (192, .v (.ro (eFoll x2))), (197, .v (.rp 13 0 1 x3 0)), (198, .v (i6 x4)), (200, .d false), (6000, .d true)] (av h1 (apc (ig eFoll 5 .i64 h2) (apc q2 (apc q3 (av h5 (apc ((oK (ac (ar (ar (ar (ar (ac (ar (ac (ar (ar (ar (ar (ac (ar (ar rfl)))))))))))))))) : okT 15 (L24_0_2_d0 a2 a4 a5 a6 a7 a8 a9 a10 a11 a12 a13 a14 a15 a16 v2 v3 v4 x2) = true) apn)))))) (by kernel_rfl)
 ·
  rw [← sj h]
  exact xbrk [(191, .d false), (6000, .d true)] (av h1 apn) (by kernel_rfl)
theorem L24_0_2_run (s0 : Int × Nat × (List FollD) × Nat) (e : E_L24_0_2) (h : runL (fun s => L24_0_2 a1 a2 a3 a15 s.1 s.2.1 s.2.2.1 s.2.2.2) s0 = some e) : L24_0_2_x a1 a2 a4 a5 a6 a7 a8 a9 a10 a11 a12 a13 a14 a15 a16 e (L24_0_2_e a1 a2 a3 a4 a5 a6 a7 a8 a9 a10 a11 a12 a13 a14 a15 a16 s0.1 s0.2.1 s0.2.2.1 s0.2.2.2) := by
  have q := @loop_sound' (Int × Nat × (List FollD) × Nat) E_L24_0_2 (fun s => L24_0_2 a1 a2 a3 a15 s.1 s.2.1 s.2.2.1 s.2.2.2) (fun s => L24_0_2_e a1 a2 a3 a4 a5 a6 a7 a8 a9 a10 a11 a12 a13 a14 a15 a16 s.1 s.2.1 s.2.2.1 s.2.2.2) (L24_0_2_x a1 a2 a4 a5 a6 a7 a8 a9 a10 a11 a12 a13 a14 a15 a16) (fun s r h => L24_0_2_ok a1 a2 a3 a4 a5 a6 a7 a8 a9 a10 a11 a12 a13 a14 a15 a16 s.1 s.2.1 s.2.2.1 s.2.2.2 h) s0 e h
  exact q
end
inductive R_F24 where
  | k0 (x0 : Int)
  | k1 (x0 : List ByteArray) (x1 : List ProdD) (x2 : Int) (x3 : List ForbD) (x4 : List FollD)
def F24_v (a1 : GramD) (r : R_F24) : AV := match r with | .k0 x0 => (.tup [(.agg [n0, n0, i6 0, n0, n0]), i6 x0]) | .k1 x0 x1 x2 x3 x4 => (.tup [aH x0 x1 x2 x3 x4, i6 0])
def F24 (Nf : Nat) (a1 : GramD) : Option R_F24 :=
  ((F15 a1).bind fun x1 => (bif (x1 != 0) then (some (.k0 x1)) else ((F36 a1).bind fun x3 => ((getI x3 a1.start).bind fun x4 => (bif x4 then ((F37_2 Nf a1 x3).bind fun x6 => (bif (mkOk (a1.sorts.length : Int) 8) then (bif (mkOk (a1.prods.length : Int) 8) then ((runL (fun s => L24_4 x6 (Int.toNat (a1.sorts.length : Int)) a1 (a1.sorts.length : Int) s.1 s.2.1 s.2.2.1 s.2.2.2.1 s.2.2.2.2) (0, 0, [], 0, (List.replicate (Int.toNat (a1.sorts.length : Int)) 0))).bind fun r9 => match r9 with | .k0 x9_0 x9_1 x9_2 x9_3 => ((ixN (Int.toNat (a1.sorts.length : Int)) a1.start).bind fun x10 => ((x9_3[x10]?).bind fun x11 => ((runL (fun s => L24_3 x6 (Int.toNat (a1.sorts.length : Int)) (Int.toNat (a1.prods.length : Int)) a1 (a1.prods.length : Int) x3 x9_3 s.1 s.2.1 s.2.2.1 s.2.2.2.1 s.2.2.2.2) (0, 0, [], 0, (List.replicate (Int.toNat (a1.prods.length : Int)) 0))).bind fun r12 => match r12 with | .k0 x12_0 x12_1 x12_2 x12_3 => ((runL (fun s => L24_1_2 (Int.toNat (a1.prods.length : Int)) a1 (a1.forbid.length : Int) x12_3 s.1 s.2.1 s.2.2.1 s.2.2.2) (0, 0, [], 0)).bind fun r13 => match r13 with | .k0 x13_0 x13_1 x13_2 => ((runL (fun s => L24_0_2 (Int.toNat (a1.sorts.length : Int)) a1 (a1.follow.length : Int) x9_3 s.1 s.2.1 s.2.2.1 s.2.2.2) (0, 0, [], 0)).bind fun r14 => match r14 with | .k0 x14_0 x14_1 x14_2 => (bif (decide (x9_2 ≤ x9_1.length)) then (bif (decide (x12_2 ≤ x12_1.length)) then (bif (decide (x13_2 ≤ x13_1.length)) then (bif (decide (x14_2 ≤ x14_1.length)) then (some (.k1 (x9_1.take x9_2) (x12_1.take x12_2) x11 (x13_1.take x13_2) (x14_1.take x14_2))) else none) else none) else none) else none))))))) else none) else none)) else (some (.k0 161)))))))
abbrev F24_d0 (a1 : GramD) : List AB := [bG a1, yS0, yP0, yF0, yW0, cG 1 0 0 2 0 0 0 3 0 0 4 0 0]
abbrev F24_d1 (g9 : Nat → AV) (x6 : List Bool) (a1 : GramD) (x3 : List Bool) (x9_0 : Nat) (x9_1 : List ByteArray) (x9_2 : Nat) (x9_3 : List Int) : St := ⟨fr 212 g9 [(1, .ptr 0 0), (2, .ptr 5 0), (6, (.fn 53 [.ptr 7 0])), (7, ls 1 eBool x6), (8, .ptr 12 0), (9, (.sl 13 0 1 0 (tS a1))), (10, (.sl 14 0 1 0 (tP a1))), (52, ls 1 eStr a1.sorts)], [bG a1, yS0, yP0, yF0, yW0, cG 1 0 0 2 0 0 0 3 0 0 4 0 0, yB0, .cells 83 [ls 1 eBool x3], yS x9_0 x9_1, yP0, yF0, yW0, cG 8 x9_0 x9_2 9 0 0 0 10 0 0 11 0 0, yI 0 x9_3, yI 0 (List.replicate (tP a1) 0)]⟩
abbrev F24_d2 (g12 : Nat → AV) (x6 : List Bool) (a1 : GramD) (x3 : List Bool) (x9_0 : Nat) (x9_1 : List ByteArray) (x12_0 : Nat) (x12_1 : List ProdD) (x9_2 x12_2 : Nat) (x11 : Int) (x9_3 x12_3 : List Int) : St := ⟨fr 212 g12 [(1, .ptr 0 0), (2, .ptr 5 0), (6, (.fn 53 [.ptr 7 0])), (7, ls 1 eBool x6), (8, .ptr 12 0), (9, (.sl 13 0 1 0 (tS a1))), (10, (.sl 14 0 1 0 (tP a1))), (86, ls 7 eProd a1.prods)], [bG a1, yS0, yP0, yF0, yW0, cG 1 0 0 2 0 0 0 3 0 0 4 0 0, yB0, .cells 83 [ls 1 eBool x3], yS x9_0 x9_1, yP x12_0 x12_1, yF0, yW0, cG 8 x9_0 x9_2 9 x12_0 x12_2 x11 10 0 0 11 0 0, yI 0 x9_3, yI 0 x12_3]⟩
abbrev F24_d3 (g13 : Nat → AV) (a1 : GramD) (x3 : List Bool) (x9_0 : Nat) (x9_1 : List ByteArray) (x12_0 : Nat) (x12_1 : List ProdD) (x13_0 : Nat) (x13_1 : List ForbD) (x9_2 x12_2 : Nat) (x11 : Int) (x13_2 : Nat) (x9_3 x12_3 : List Int) : St := ⟨fr 212 g13 [(1, .ptr 0 0), (2, .ptr 5 0), (8, .ptr 12 0), (9, (.sl 13 0 1 0 (tS a1))), (10, (.sl 14 0 1 0 (tP a1))), (154, ls 3 eForb a1.forbid)], [bG a1, yS0, yP0, yF0, yW0, cG 1 0 0 2 0 0 0 3 0 0 4 0 0, yB0, .cells 83 [ls 1 eBool x3], yS x9_0 x9_1, yP x12_0 x12_1, yF x13_0 x13_1, yW0, cG 8 x9_0 x9_2 9 x12_0 x12_2 x11 10 x13_0 x13_2 11 0 0, yI 0 x9_3, yI 0 x12_3]⟩
abbrev F24_d4 (g14 : Nat → AV) (a1 : GramD) (x3 : List Bool) (x9_0 : Nat) (x9_1 : List ByteArray) (x12_0 : Nat) (x12_1 : List ProdD) (x13_0 : Nat) (x13_1 : List ForbD) (x14_0 : Nat) (x14_1 : List FollD) (x9_2 x12_2 : Nat) (x11 : Int) (x13_2 x14_2 : Nat) (x9_3 x12_3 : List Int) : St := ⟨fr 212 g14 [(2, .ptr 5 0), (8, .ptr 12 0), (9, (.sl 13 0 1 0 (tS a1))), (188, ls 5 eFoll a1.follow)], [bG a1, yS0, yP0, yF0, yW0, cG 1 0 0 2 0 0 0 3 0 0 4 0 0, yB0, .cells 83 [ls 1 eBool x3], yS x9_0 x9_1, yP x12_0 x12_1, yF x13_0 x13_1, yW x14_0 x14_1, cG 8 x9_0 x9_2 9 x12_0 x12_2 x11 10 x13_0 x13_2 11 x14_0 x14_2, yI 0 x9_3, yI 0 x12_3]⟩
abbrev F24_c0 (a1 : GramD) : List (Nat × Hint) := [(46, .r (.sl 13 0 1 0 (tS a1)) [yI 0 (List.replicate (tS a1) 0)]), (49, .v (i6 (lP a1)))]
abbrev F24_c1 (a1 : GramD) : List (Nat × Hint) := [(50, .r (.sl 14 0 1 0 (tP a1)) [yI 0 (List.replicate (tP a1) 0)]), (53, .v (i6 (lS a1)))]
abbrev F24_c2 (g9 : Nat → AV) (x6 : List Bool) (a1 : GramD) (x3 : List Bool) (x9_0 : Nat) (x9_1 : List ByteArray) (x9_2 : Nat) (x9_3 : List Int) : List (Nat × Hint) := [(2000, .l (.brk 0) (F24_d1 g9 x6 a1 x3 x9_0 x9_1 x9_2 x9_3))]
abbrev F24_c3 (g12 : Nat → AV) (x6 : List Bool) (a1 : GramD) (x3 : List Bool) (x9_0 : Nat) (x9_1 : List ByteArray) (x12_0 : Nat) (x12_1 : List ProdD) (x9_2 x12_2 : Nat) (x11 : Int) (x9_3 x12_3 : List Int) : List (Nat × Hint) := [(2002, .l (.brk 2) (F24_d2 g12 x6 a1 x3 x9_0 x9_1 x12_0 x12_1 x9_2 x12_2 x11 x9_3 x12_3)), (155, .v (i6 (lF a1)))]
abbrev F24_c4 (g13 : Nat → AV) (a1 : GramD) (x3 : List Bool) (x9_0 : Nat) (x9_1 : List ByteArray) (x12_0 : Nat) (x12_1 : List ProdD) (x13_0 : Nat) (x13_1 : List ForbD) (x9_2 x12_2 : Nat) (x11 : Int) (x13_2 : Nat) (x9_3 x12_3 : List Int) : List (Nat × Hint) := [(2006, .l (.brk 6) (F24_d3 g13 a1 x3 x9_0 x9_1 x12_0 x12_1 x13_0 x13_1 x9_2 x12_2 x11 x13_2 x9_3 x12_3)), (189, .v (i6 (lW a1)))]
abbrev F24_c5 (g14 : Nat → AV) (a1 : GramD) (x3 : List Bool) (x9_0 : Nat) (x9_1 : List ByteArray) (x12_0 : Nat) (x12_1 : List ProdD) (x13_0 : Nat) (x13_1 : List ForbD) (x14_0 : Nat) (x14_1 : List FollD) (x9_2 x12_2 : Nat) (x11 : Int) (x13_2 x14_2 : Nat) (x9_3 x12_3 : List Int) : List (Nat × Hint) := [(2008, .l (.brk 8) (F24_d4 g14 a1 x3 x9_0 x9_1 x12_0 x12_1 x13_0 x13_1 x14_0 x14_1 x9_2 x12_2 x11 x13_2 x14_2 x9_3 x12_3))]
theorem F24_ok (Nf : Nat) (a1 : GramD) {r : R_F24} (h : F24 Nf a1 = some r) : PR1 prg 24 [aG a1] (F24_v a1 r) := by
 unfold F24 at h
 refine bn h fun x1 h1 h => ?_
 have q0 := (((F15_ok a1 h1).cp rfl _) : CP prg 15 [aG a1] (F24_d0 a1) = some (i6 x1))
 refine bi h ?_ ?_ <;> intro h2 h
 ·
  rw [← sj h]
  exact fpr [(25, .v (i6 x1)), (27, .d true)] (apc q0 (av h2 apn)) rfl (by kernel_rfl)
 ·
  refine bn h fun x3 h3 h => ?_
  have q2 := (((F36_ok a1 h3).cp rfl _) : CP prg 36 [aG a1] (F24_d0 a1) = some (ls 1 eBool x3))
  refine bn h fun x4 h4 h => ?_
  refine bi h ?_ ?_ <;> intro h5 h
  ·
   refine bn h fun x6 h6 h => ?_
   have q5 := (((F37_2_ok Nf a1 x3 h6).own rfl (purAs_cons rfl (purAs_cons (purA_fn (purAs_cons (purA_ptr rfl (mapO_con rfl rfl)) purAs_nil)) purAs_nil))) : CP prg 37 [aG a1, (.fn 53 [.ptr 7 0])] [bG a1, yS0, yP0, yF0, yW0, cG 1 0 0 2 0 0 0 3 0 0 4 0 0, yB0, .cells 83 [ls 1 eBool x3]] = some (ls 1 eBool x6))
   refine bi h ?_ ?_ <;> intro h7 h
   ·
    have q7 := ((mk_row (e := eI64) (z := 0) h7 rfl) : mkA 3 1 8 [.val (.int .i64 0)] (i6 (lS a1)) (i6 (lS a1)) 13 = some ((.sl 13 0 1 0 (tS a1)), yI 0 (List.replicate (tS a1) 0)))
    refine bi h ?_ ?_ <;> intro h8 h
    ·
     have q9 := ((mk_row (e := eI64) (z := 0) h8 rfl) : mkA 3 1 8 [.val (.int .i64 0)] (i6 (lP a1)) (i6 (lP a1)) 14 = some ((.sl 14 0 1 0 (tP a1)), yI 0 (List.replicate (tP a1) 0)))
     refine bn h fun r9 h9 h => ?_
     cases r9 with
     | k0 x9_0 x9_1 x9_2 x9_3 =>
      obtain ⟨g9, e9⟩ := L24_4_run x6 (tS a1) (tP a1) a1 (lS a1) x3 (List.replicate (tP a1) 0) (0, 0, [], 0, (List.replicate (tS a1) 0)) _ h9
      have q11 := ((oK (ac (ar (ar (ar (ar (ac (ar (ac (ar (ar (ar (ar (ac (ar (ar rfl)))))))))))))))) : okT 15 [bG a1, yS0, yP0, yF0, yW0, cG 1 0 0 2 0 0 0 3 0 0 4 0 0, yB0, .cells 83 [ls 1 eBool x3], yS0, yP0, yF0, yW0, cG 8 0 0 9 0 0 0 10 0 0 11 0 0, yI 0 (List.replicate (tS a1) 0), yI 0 (List.replicate (tP a1) 0)] = true)
      have q12 := (e9 : L24_4_e x6 (tS a1) (tP a1) a1 (lS a1) x3 (List.replicate (tP a1) 0) 0 0 ([]) 0 (List.replicate (tS a1) 0) = some ((.brk 0), F24_d1 g9 x6 a1 x3 x9_0 x9_1 x9_2 x9_3))
      refine bn h fun x10 h10 h => ?_
      have q13 := ((idx_sl h10) : idxA 1 (.sl 13 0 1 0 (tS a1)) (i6 a1.start) = some (.rp 13 0 1 x10 0))
      refine bn h fun x11 h11 h => ?_
      have q14 := ((ld_row rfl h11 rfl) : ldA [bG a1, yS0, yP0, yF0, yW0, cG 1 0 0 2 0 0 0 3 0 0 4 0 0, yB0, .cells 83 [ls 1 eBool x3], yS x9_0 x9_1, yP0, yF0, yW0, cG 8 x9_0 x9_2 9 0 0 0 10 0 0 11 0 0, yI 0 x9_3, yI 0 (List.replicate (tP a1) 0)] .false 1 (.rp 13 0 1 x10 0) = some (i6 x11))
      refine bn h fun r12 h12 h => ?_
      cases r12 with
      | k0 x12_0 x12_1 x12_2 x12_3 =>
       obtain ⟨g12, e12⟩ := L24_3_run x6 (tS a1) (tP a1) a1 (lP a1) x3 x9_0 x9_1 x9_2 x11 x9_3 (0, 0, [], 0, (List.replicate (tP a1) 0)) _ h12
       have q16 := ((oK (ac (ar (ar (ar (ar (ac (ar (ac (ar (ar (ar (ar (ac (ar (ar rfl)))))))))))))))) : okT 15 [bG a1, yS0, yP0, yF0, yW0, cG 1 0 0 2 0 0 0 3 0 0 4 0 0, yB0, .cells 83 [ls 1 eBool x3], yS x9_0 x9_1, yP0, yF0, yW0, cG 8 x9_0 x9_2 9 0 0 x11 10 0 0 11 0 0, yI 0 x9_3, yI 0 (List.replicate (tP a1) 0)] = true)
       have q17 := (e12 : L24_3_e x6 (tS a1) (tP a1) a1 (lP a1) x3 x9_0 x9_1 x9_2 x11 x9_3 0 0 ([]) 0 (List.replicate (tP a1) 0) = some ((.brk 2), F24_d2 g12 x6 a1 x3 x9_0 x9_1 x12_0 x12_1 x9_2 x12_2 x11 x9_3 x12_3))
       refine bn h fun r13 h13 h => ?_
       cases r13 with
       | k0 x13_0 x13_1 x13_2 =>
        obtain ⟨g13, e13⟩ := L24_1_2_run (tS a1) (tP a1) a1 (lF a1) x3 x9_0 x9_1 x12_0 x12_1 x9_2 x12_2 x11 x9_3 x12_3 (0, 0, [], 0) _ h13
        have q19 := ((oK (ac (ar (ar (ar (ar (ac (ar (ac (ar (ar (ar (ar (ac (ar (ar rfl)))))))))))))))) : okT 15 [bG a1, yS0, yP0, yF0, yW0, cG 1 0 0 2 0 0 0 3 0 0 4 0 0, yB0, .cells 83 [ls 1 eBool x3], yS x9_0 x9_1, yP x12_0 x12_1, yF0, yW0, cG 8 x9_0 x9_2 9 x12_0 x12_2 x11 10 0 0 11 0 0, yI 0 x9_3, yI 0 x12_3] = true)
        have q20 := (e13 : L24_1_2_e (tS a1) (tP a1) a1 (lF a1) x3 x9_0 x9_1 x12_0 x12_1 x9_2 x12_2 x11 x9_3 x12_3 0 0 ([]) 0 = some ((.brk 6), F24_d3 g13 a1 x3 x9_0 x9_1 x12_0 x12_1 x13_0 x13_1 x9_2 x12_2 x11 x13_2 x9_3 x12_3))
        refine bn h fun r14 h14 h => ?_
        cases r14 with
        | k0 x14_0 x14_1 x14_2 =>
         obtain ⟨g14, e14⟩ := L24_0_2_run (tS a1) a1 (lW a1) x3 x9_0 x9_1 x12_0 x12_1 x13_0 x13_1 x9_2 x12_2 x11 x13_2 x9_3 x12_3 (0, 0, [], 0) _ h14
         have q22 := ((oK (ac (ar (ar (ar (ar (ac (ar (ac (ar (ar (ar (ar (ac (ar (ar rfl)))))))))))))))) : okT 15 [bG a1, yS0, yP0, yF0, yW0, cG 1 0 0 2 0 0 0 3 0 0 4 0 0, yB0, .cells 83 [ls 1 eBool x3], yS x9_0 x9_1, yP x12_0 x12_1, yF x13_0 x13_1, yW0, cG 8 x9_0 x9_2 9 x12_0 x12_2 x11 10 x13_0 x13_2 11 0 0, yI 0 x9_3, yI 0 x12_3] = true)
         have q23 := (e14 : L24_0_2_e (tS a1) a1 (lW a1) x3 x9_0 x9_1 x12_0 x12_1 x13_0 x13_1 x9_2 x12_2 x11 x13_2 x9_3 x12_3 0 0 ([]) 0 = some ((.brk 8), F24_d4 g14 a1 x3 x9_0 x9_1 x12_0 x12_1 x13_0 x13_1 x14_0 x14_1 x9_2 x12_2 x11 x13_2 x14_2 x9_3 x12_3))
         refine bi h ?_ ?_ <;> intro h15 h
         ·
          refine bi h ?_ ?_ <;> intro h16 h
          ·
           refine bi h ?_ ?_ <;> intro h17 h
           ·
            refine bi h ?_ ?_ <;> intro h18 h
            ·
             rw [← sj h]
             exact fpo (v := (.tup [(.agg [.sl 8 x9_0 1 0 x9_2, .sl 9 x12_0 7 0 x12_2, i6 x11, .sl 10 x13_0 3 0 x13_2, .sl 11 x14_0 5 0 x14_2]), i6 0])) (h' := [bG a1, yS0, yP0, yF0, yW0, cG 8 x9_0 x9_2 9 x12_0 x12_2 x11 10 x13_0 x13_2 11 x14_0 x14_2, yB0, .cells 83 [ls 1 eBool x3], yS x9_0 x9_1, yP x12_0 x12_1, yF x13_0 x13_1, yW x14_0 x14_1, cG 8 x9_0 x9_2 9 x12_0 x12_2 x11 10 x13_0 x13_2 11 x14_0 x14_2, yI 0 x9_3, yI 0 x12_3]) ([(25, .v (i6 x1)), (27, .d false), (31, .v (ls 1 eBool x3)), (35, .v (.ro [.val (.bool x4)])), (36, .d true), (42, .v (ls 1 eBool x6)), (45, .v (i6 (lS a1)))] ++ ((F24_c0 a1) ++ ((F24_c1 a1) ++ ((F24_c2 g9 x6 a1 x3 x9_0 x9_1 x9_2 x9_3) ++ ([(82, .v (.rp 13 0 1 x10 0)), (83, .v (i6 x11)), (87, .v (i6 (lP a1)))] ++ ((F24_c3 g12 x6 a1 x3 x9_0 x9_1 x12_0 x12_1 x9_2 x12_2 x11 x9_3 x12_3) ++ ((F24_c4 g13 a1 x3 x9_0 x9_1 x12_0 x12_1 x13_0 x13_1 x9_2 x12_2 x11 x13_2 x9_3 x12_3) ++ ((F24_c5 g14 a1 x3 x9_0 x9_1 x12_0 x12_1 x13_0 x13_1 x14_0 x14_1 x9_2 x12_2 x11 x13_2 x14_2 x9_3 x12_3) ++ [(6000, .d true)])))))))) (apc q0 (av h2 (apc q2 (apc (ig eBool 1 .i64 h4) (av h5 (apc q5 (apc (lg a1.sorts eStr 1) (apc q7 (apc (lg a1.prods eProd 7) (apc q9 (apc (lg a1.sorts eStr 1) (apc q11 (apc q12 (apc q13 (apc q14 (apc (lg a1.prods eProd 7) (apc q16 (apc q17 (apc (lg a1.forbid eForb 3) (apc q19 (apc q20 (apc (lg a1.follow eFoll 5) (apc q22 (apc q23 apn)))))))))))))))))))))))) (purA_tup (purAs_cons (purA_agg (purAs_cons (purA_sl (e := eStr) rfl h15) (purAs_cons (purA_sl (e := eProd) rfl h16) (purAs_cons rfl (purAs_cons (purA_sl (e := eForb) rfl h17) (purAs_cons (purA_sl (e := eFoll) rfl h18) purAs_nil)))))) (purAs_cons rfl purAs_nil))) (by kernel_rfl)
            ·
             cases h
           ·
            cases h
          ·
           cases h
         ·
          cases h
    ·
     cases h
   ·
    cases h
  ·
   rw [← sj h]
   exact fpr [(25, .v (i6 x1)), (27, .d false), (31, .v (ls 1 eBool x3)), (35, .v (.ro [.val (.bool x4)])), (36, .d false)] (apc q0 (av h2 (apc q2 (apc (ig eBool 1 .i64 h4) (av h5 apn))))) rfl (by kernel_rfl)
def F31_v (a1 : GramD) (x0 : Bool) : AV := (vb x0)
def F31 (a1 : GramD) : Option Bool :=
  (bif (decide (a1.start ≥ 0)) then (some (decide (a1.start < (a1.sorts.length : Int)))) else (some false))
theorem F31_ok (a1 : GramD) {r : Bool} (h : F31 a1 = some r) : PR1 prg 31 [aG a1, i6 a1.start] (F31_v a1 r) := by
 unfold F31 at h
 refine bi h ?_ ?_ <;> intro h1 h
 ·
  rw [← sj h]
  exact fpr [(6, .d true), (11, .v (i6 (lS a1)))] (av h1 (apc (lg a1.sorts eStr 1) apn)) rfl (by kernel_rfl)
 ·
  rw [← sj h]
  exact fpr [(6, .d false)] (av h1 apn) rfl (by kernel_rfl)
inductive E_L12_5_2 where
  | k0
  | k1
section
variable (a1 : Int) (a2 : GramD)
def L12_5_2 (v1 : Int) : Option (E_L12_5_2 ⊕ (Int)) :=
  (bif (decide (v1 < a1)) then ((getI a2.sorts v1).bind fun x2 => ((getI a2.sorts a1).bind fun x3 => (bif (x2.toList == x3.toList) then (some (.inl (.k0))) else (some (.inr ((IntKind.wrap .i64 (v1 + 1)))))))) else (some (.inl (.k1))))
def L12_5_2_s (v1 : Int) : St := ⟨fr 160 ug [(1, .ptr 0 0), (3, i6 a1), (4, i6 v1)], [bG a2]⟩
abbrev L12_5_2_e (v1 : Int) := evH prg 1 [1, 3, 4] ir12_l5 (L12_5_2_s a1 a2 v1)
def L12_5_2_x (e : E_L12_5_2) (r : Option (Out × St)) : Prop := match e with | .k0 => ∃ g y, r = some (.ret, ⟨fr 160 g [(2, i6 160)], y⟩) | .k1 => ∃ g, r = some ((.brk 2), ⟨fr 160 g [(1, .ptr 0 0), (3, i6 a1)], [bG a2]⟩)
theorem L12_5_2_ok (v1 : Int) {r : E_L12_5_2 ⊕ (Int)} (h : L12_5_2 a1 a2 v1 = some r) : OkR (fun e => L12_5_2_x a1 a2 e (L12_5_2_e a1 a2 v1)) (fun s => L12_5_2_e a1 a2 v1 = L12_5_2_e a1 a2 s) r := by
 unfold L12_5_2 at h
 refine bi h ?_ ?_ <;> intro h1 h
 ·
  refine bn h fun x2 h2 h => ?_
  refine bn h fun x3 h3 h => ?_
  refine bi h ?_ ?_ <;> intro h4 h
  ·
   rw [← sj h]
   exact xretY [(57, .d true), (63, .v (.ro [.val (.string x2)])), (68, .v (.ro [.val (.string x3)])), (70, .d true), (6000, .d true)] (av h1 (apc (ig eStr 1 .i64 h2) (apc (ig eStr 1 .i64 h3) (av h4 apn)))) (by kernel_rfl)
  ·
   rw [← sj h]
   exact rnd [(57, .d true), (63, .v (.ro [.val (.string x2)])), (68, .v (.ro [.val (.string x3)])), (70, .d false), (6000, .d true)] (av h1 (apc (ig eStr 1 .i64 h2) (apc (ig eStr 1 .i64 h3) (av h4 (apc ((oK (ac rfl)) : okT 1 [bG a2] = true) apn))))) (by kernel_rfl)
 ·
  rw [← sj h]
  exact xbrk [(57, .d false), (6000, .d true)] (av h1 apn) (by kernel_rfl)
theorem L12_5_2_run (s0 : Int) (e : E_L12_5_2) (h : runL (fun s => L12_5_2 a1 a2 s) s0 = some e) : L12_5_2_x a1 a2 e (L12_5_2_e a1 a2 s0) := by
  have q := @loop_sound' (Int) E_L12_5_2 (fun s => L12_5_2 a1 a2 s) (fun s => L12_5_2_e a1 a2 s) (L12_5_2_x a1 a2) (fun s r h => L12_5_2_ok a1 a2 s h) s0 e h
  exact q
end
inductive E_L12_6 where
  | k0
  | k1
section
variable (a1 : GramD)
def L12_6 (v1 : Int) : Option (E_L12_6 ⊕ (Int)) :=
  (bif (decide (v1 < (a1.sorts.length : Int))) then ((getI a1.sorts v1).bind fun x2 => (bif (x2.toList == (⟨([] : List UInt8).toArray⟩ : ByteArray).toList) then (some (.inl (.k0))) else (bif (decide ((x2.size : Int) > 1000)) then (some (.inl (.k0))) else ((runL (fun s => L12_5_2 v1 a1 s) 0).bind fun r5 => match r5 with | .k0 => (some (.inl (.k0))) | .k1 => (some (.inr ((IntKind.wrap .i64 (v1 + 1))))))))) else (some (.inl (.k1))))
def L12_6_s (v1 : Int) : St := ⟨fr 160 ug [(1, .ptr 0 0), (3, i6 v1)], [bG a1]⟩
abbrev L12_6_e (v1 : Int) := evH prg 1 [1, 3] ir12_l6 (L12_6_s a1 v1)
def L12_6_x (e : E_L12_6) (r : Option (Out × St)) : Prop := match e with | .k0 => ∃ g y, r = some (.ret, ⟨fr 160 g [(2, i6 160)], y⟩) | .k1 => ∃ g, r = some ((.brk 0), ⟨fr 160 g [(1, .ptr 0 0)], [bG a1]⟩)
abbrev L12_6_d0 (g5 : Nat → AV) (v1 : Int) : St := ⟨fr 160 g5 [(1, .ptr 0 0), (3, i6 v1)], [bG a1]⟩
theorem L12_6_ok (v1 : Int) {r : E_L12_6 ⊕ (Int)} (h : L12_6 a1 v1 = some r) : OkR (fun e => L12_6_x a1 e (L12_6_e a1 v1)) (fun s => L12_6_e a1 v1 = L12_6_e a1 s) r := by
 unfold L12_6 at h
 refine bi h ?_ ?_ <;> intro h1 h
 ·
  refine bn h fun x2 h2 h => ?_
  refine bi h ?_ ?_ <;> intro h3 h
  ·
   rw [← sj h]
   exact xretY [(36, .v (i6 (lS a1))), (37, .d true), (43, .v (.ro [.val (.string x2)])), (45, .d true), (6000, .d true)] (apc (lg a1.sorts eStr 1) (av h1 (apc (ig eStr 1 .i64 h2) (av h3 apn)))) (by kernel_rfl)
  ·
   refine bi h ?_ ?_ <;> intro h4 h
   ·
    rw [← sj h]
    exact xretY [(36, .v (i6 (lS a1))), (37, .d true), (43, .v (.ro [.val (.string x2)])), (45, .d false), (50, .v (.ro [.val (.string x2)])), (53, .d true), (6000, .d true)] (apc (lg a1.sorts eStr 1) (av h1 (apc (ig eStr 1 .i64 h2) (av h3 (apc (ig eStr 1 .i64 h2) (av h4 apn)))))) (by kernel_rfl)
   ·
    refine bn h fun r5 h5 h => ?_
    cases r5 with
    | k0 =>
     obtain ⟨g5, y5, e5⟩ := L12_5_2_run v1 a1 0 _ h5
     rw [← sj h]
     exact xretY [(36, .v (i6 (lS a1))), (37, .d true), (43, .v (.ro [.val (.string x2)])), (45, .d false), (50, .v (.ro [.val (.string x2)])), (53, .d false), (2002, .l .ret ⟨fr 160 g5 [(2, i6 160)], y5⟩), (6000, .d true)] (apc (lg a1.sorts eStr 1) (av h1 (apc (ig eStr 1 .i64 h2) (av h3 (apc (ig eStr 1 .i64 h2) (av h4 (apc ((oK (ac rfl)) : okT 1 [bG a1] = true) (apc (e5 : L12_5_2_e v1 a1 0 = some (.ret, ⟨fr 160 g5 [(2, i6 160)], y5⟩)) apn)))))))) (by kernel_rfl)
    | k1 =>
     obtain ⟨g5, e5⟩ := L12_5_2_run v1 a1 0 _ h5
     rw [← sj h]
     exact rnd [(36, .v (i6 (lS a1))), (37, .d true), (43, .v (.ro [.val (.string x2)])), (45, .d false), (50, .v (.ro [.val (.string x2)])), (53, .d false), (2002, .l (.brk 2) (L12_6_d0 a1 g5 v1)), (6000, .d true)] (apc (lg a1.sorts eStr 1) (av h1 (apc (ig eStr 1 .i64 h2) (av h3 (apc (ig eStr 1 .i64 h2) (av h4 (apc ((oK (ac rfl)) : okT 1 [bG a1] = true) (apc (e5 : L12_5_2_e v1 a1 0 = some ((.brk 2), L12_6_d0 a1 g5 v1)) (apc ((oK (ac rfl)) : okT 1 [bG a1] = true) apn))))))))) (by kernel_rfl)
 ·
  rw [← sj h]
  exact xbrk [(36, .v (i6 (lS a1))), (37, .d false), (6000, .d true)] (apc (lg a1.sorts eStr 1) (av h1 apn)) (by kernel_rfl)
theorem L12_6_run (s0 : Int) (e : E_L12_6) (h : runL (fun s => L12_6 a1 s) s0 = some e) : L12_6_x a1 e (L12_6_e a1 s0) := by
  have q := @loop_sound' (Int) E_L12_6 (fun s => L12_6 a1 s) (fun s => L12_6_e a1 s) (L12_6_x a1) (fun s r h => L12_6_ok a1 s h) s0 e h
  exact q
end
def F31_2_v (a1 : GramD) (a2 : ProdD) (x0 : Bool) : AV := (vb x0)
def F31_2 (a1 : GramD) (a2 : ProdD) : Option Bool :=
  (bif (decide (a2.left ≥ 0)) then (some (decide (a2.left < (a1.sorts.length : Int)))) else (some false))
theorem F31_2_ok (a1 : GramD) (a2 : ProdD) {r : Bool} (h : F31_2 a1 a2 = some r) : PR1 prg 31 [aG a1, i6 a2.left] (F31_2_v a1 a2 r) := by
 unfold F31_2 at h
 refine bi h ?_ ?_ <;> intro h1 h
 ·
  rw [← sj h]
  exact fpr [(6, .d true), (11, .v (i6 (lS a1)))] (av h1 (apc (lg a1.sorts eStr 1) apn)) rfl (by kernel_rfl)
 ·
  rw [← sj h]
  exact fpr [(6, .d false)] (av h1 apn) rfl (by kernel_rfl)
def F34_v (a1 : SymD) (x0 : Bool) : AV := (vb x0)
def F34 (a1 : SymD) : Option Bool :=
  (some ((IntKind.wrap .u64 ((BitVec.ofInt (IntKind.bits .u64) (IntKind.wrap .u64 ((BitVec.ofInt (IntKind.bits .u64) (IntKind.wrap .u64 ((BitVec.ofInt (IntKind.bits .u64) a1.a ||| BitVec.ofInt (IntKind.bits .u64) a1.b).toNat : Int)) ||| BitVec.ofInt (IntKind.bits .u64) a1.c).toNat : Int)) ||| BitVec.ofInt (IntKind.bits .u64) a1.d).toNat : Int)) == 0))
theorem F34_ok (a1 : SymD) {r : Bool} (h : F34 a1 = some r) : PR1 prg 34 [(.agg ((List.take 4 (List.drop 1 (eSym a1))).map .p))] (F34_v a1 r) := by
 unfold F34 at h
 rw [← sj h]
 exact fpr [] apn rfl (by kernel_rfl)
def F31_3_v (a1 : GramD) (a2 : SymD) (x0 : Bool) : AV := (vb x0)
def F31_3 (a1 : GramD) (a2 : SymD) : Option Bool :=
  (bif (decide (a2.sort ≥ 0)) then (some (decide (a2.sort < (a1.sorts.length : Int)))) else (some false))
theorem F31_3_ok (a1 : GramD) (a2 : SymD) {r : Bool} (h : F31_3 a1 a2 = some r) : PR1 prg 31 [aG a1, i6 a2.sort] (F31_3_v a1 a2 r) := by
 unfold F31_3 at h
 refine bi h ?_ ?_ <;> intro h1 h
 ·
  rw [← sj h]
  exact fpr [(6, .d true), (11, .v (i6 (lS a1)))] (av h1 (apc (lg a1.sorts eStr 1) apn)) rfl (by kernel_rfl)
 ·
  rw [← sj h]
  exact fpr [(6, .d false)] (av h1 apn) rfl (by kernel_rfl)
inductive E_L32_0 where
  | k0
  | k1
section
variable (a1 : GramD) (a2 : ProdD)
def L32_0 (v1 : Int) : Option (E_L32_0 ⊕ (Int)) :=
  (bif (decide (v1 < (a2.right.length : Int))) then ((getI a2.right v1).bind fun x2 => (bif (x2.kind == 0) then ((F34 x2).bind fun x4 => (bif x4 then (some (.inl (.k0))) else (bif (x2.sort != 0) then (some (.inl (.k0))) else (bif (x2.kind == 1) then ((F34 x2).bind fun x8 => (bif x8 then ((F31_3 a1 x2).bind fun x10 => (bif x10 then (bif (a2.role == 11) then (some (.inl (.k0))) else (bif (x2.kind != 0) then (bif (x2.kind != 1) then (some (.inl (.k0))) else (some (.inr ((IntKind.wrap .i64 (v1 + 1)))))) else (some (.inr ((IntKind.wrap .i64 (v1 + 1))))))) else (some (.inl (.k0))))) else (some (.inl (.k0))))) else (bif (x2.kind != 0) then (bif (x2.kind != 1) then (some (.inl (.k0))) else (some (.inr ((IntKind.wrap .i64 (v1 + 1)))))) else (some (.inr ((IntKind.wrap .i64 (v1 + 1)))))))))) else (bif (x2.kind == 1) then ((F34 x2).bind fun x5 => (bif x5 then ((F31_3 a1 x2).bind fun x7 => (bif x7 then (bif (a2.role == 11) then (some (.inl (.k0))) else (bif (x2.kind != 0) then (bif (x2.kind != 1) then (some (.inl (.k0))) else (some (.inr ((IntKind.wrap .i64 (v1 + 1)))))) else (some (.inr ((IntKind.wrap .i64 (v1 + 1))))))) else (some (.inl (.k0))))) else (some (.inl (.k0))))) else (bif (x2.kind != 0) then (bif (x2.kind != 1) then (some (.inl (.k0))) else (some (.inr ((IntKind.wrap .i64 (v1 + 1)))))) else (some (.inr ((IntKind.wrap .i64 (v1 + 1))))))))) else (some (.inl (.k1))))
def L32_0_s (v1 : Int) : St := ⟨fr 111 ug [(2, .ptr 0 0), (3, .ptr 1 0), (5, i6 v1)], [bG a1, bP a2]⟩
abbrev L32_0_e (v1 : Int) := evH prg 2 [2, 3, 5] ir32_l0 (L32_0_s a1 a2 v1)
def L32_0_x (e : E_L32_0) (r : Option (Out × St)) : Prop := match e with | .k0 => ∃ g y, r = some (.ret, ⟨fr 111 g [(4, vb false)], y⟩) | .k1 => ∃ g, r = some ((.brk 0), ⟨fr 111 g [(2, .ptr 0 0), (3, .ptr 1 0)], [bG a1, bP a2]⟩)
abbrev L32_0_d0 (x2 : SymD) : List AB := [bG a1, bP a2, .cells 68 ((eSym x2).map .p)]
theorem L32_0_ok (v1 : Int) {r : E_L32_0 ⊕ (Int)} (h : L32_0 a1 a2 v1 = some r) : OkR (fun e => L32_0_x a1 a2 e (L32_0_e a1 a2 v1)) (fun s => L32_0_e a1 a2 v1 = L32_0_e a1 a2 s) r := by
 unfold L32_0 at h
 refine bi h ?_ ?_ <;> intro h1 h
 ·
  refine bn h fun x2 h2 h => ?_
  refine bi h ?_ ?_ <;> intro h3 h
  ·
   refine bn h fun x4 h4 h => ?_
   refine bi h ?_ ?_ <;> intro h5 h
   ·
    rw [← sj h]
    exact xretY [(60, .v (i6 (a2.right.length : Int))), (61, .d true), (67, .v (.ro (eSym x2))), (71, .d true), (75, .v (vb true)), (6000, .d true)] (apc (lg a2.right eSym 6) (av h1 (apc (ig eSym 6 .i64 h2) (av h3 (apc ((((F34_ok x2 h4).cp rfl _).trans (congrArg (fun z => some (vb z)) h5)) : CP prg 34 [(.agg ((List.take 4 (List.drop 1 (eSym x2))).map .p))] (L32_0_d0 a1 a2 x2) = some (vb true)) apn))))) (by kernel_rfl)
   ·
    have q4 := ((((F34_ok x2 h4).cp rfl _).trans (congrArg (fun z => some (vb z)) h5)) : CP prg 34 [(.agg ((List.take 4 (List.drop 1 (eSym x2))).map .p))] (L32_0_d0 a1 a2 x2) = some (vb false))
    refine bi h ?_ ?_ <;> intro h6 h
    ·
     rw [← sj h]
     exact xretY [(60, .v (i6 (a2.right.length : Int))), (61, .d true), (67, .v (.ro (eSym x2))), (71, .d true), (75, .v (vb false)), (79, .d true), (6000, .d true)] (apc (lg a2.right eSym 6) (av h1 (apc (ig eSym 6 .i64 h2) (av h3 (apc q4 (av h6 apn)))))) (by kernel_rfl)
    ·
     refine bi h ?_ ?_ <;> intro h7 h
     ·
      refine bn h fun x8 h8 h => ?_
      refine bi h ?_ ?_ <;> intro h9 h
      ·
       have q7 := ((((F34_ok x2 h8).cp rfl _).trans (congrArg (fun z => some (vb z)) h9)) : CP prg 34 [(.agg ((List.take 4 (List.drop 1 (eSym x2))).map .p))] (L32_0_d0 a1 a2 x2) = some (vb true))
       refine bn h fun x10 h10 h => ?_
       refine bi h ?_ ?_ <;> intro h11 h
       ·
        have q8 := ((((F31_3_ok a1 x2 h10).cp rfl _).trans (congrArg (fun z => some (vb z)) h11)) : CP prg 31 [aG a1, i6 x2.sort] (L32_0_d0 a1 a2 x2) = some (vb true))
        refine bi h ?_ ?_ <;> intro h12 h
        ·
         rw [← sj h]
         exact xretY [(60, .v (i6 (a2.right.length : Int))), (61, .d true), (67, .v (.ro (eSym x2))), (71, .d true), (75, .v (vb false)), (79, .d false), (84, .d true), (88, .v (vb true)), (94, .v (vb true)), (100, .d true), (6000, .d true)] (apc (lg a2.right eSym 6) (av h1 (apc (ig eSym 6 .i64 h2) (av h3 (apc q4 (av h6 (av h7 (apc q7 (apc q8 (av h12 apn)))))))))) (by kernel_rfl)
        ·
         refine bi h ?_ ?_ <;> intro h13 h
         ·
          refine bi h ?_ ?_ <;> intro h14 h
          ·
           rw [← sj h]
           exact xretY [(60, .v (i6 (a2.right.length : Int))), (61, .d true), (67, .v (.ro (eSym x2))), (71, .d true), (75, .v (vb false)), (79, .d false), (84, .d true), (88, .v (vb true)), (94, .v (vb true)), (100, .d false), (105, .d true), (109, .d true), (6000, .d true)] (apc (lg a2.right eSym 6) (av h1 (apc (ig eSym 6 .i64 h2) (av h3 (apc q4 (av h6 (av h7 (apc q7 (apc q8 (av h12 (av h13 (av h14 apn)))))))))))) (by kernel_rfl)
          ·
           rw [← sj h]
           exact rnd [(60, .v (i6 (a2.right.length : Int))), (61, .d true), (67, .v (.ro (eSym x2))), (71, .d true), (75, .v (vb false)), (79, .d false), (84, .d true), (88, .v (vb true)), (94, .v (vb true)), (100, .d false), (105, .d true), (109, .d false), (6000, .d true)] (apc (lg a2.right eSym 6) (av h1 (apc (ig eSym 6 .i64 h2) (av h3 (apc q4 (av h6 (av h7 (apc q7 (apc q8 (av h12 (av h13 (av h14 (apc ((oK (ac (ac rfl))) : okT 2 (L32_0_d0 a1 a2 x2) = true) apn))))))))))))) (by kernel_rfl)
         ·
          rw [← sj h]
          exact rnd [(60, .v (i6 (a2.right.length : Int))), (61, .d true), (67, .v (.ro (eSym x2))), (71, .d true), (75, .v (vb false)), (79, .d false), (84, .d true), (88, .v (vb true)), (94, .v (vb true)), (100, .d false), (105, .d false), (6000, .d true)] (apc (lg a2.right eSym 6) (av h1 (apc (ig eSym 6 .i64 h2) (av h3 (apc q4 (av h6 (av h7 (apc q7 (apc q8 (av h12 (av h13 (apc ((oK (ac (ac rfl))) : okT 2 (L32_0_d0 a1 a2 x2) = true) apn)))))))))))) (by kernel_rfl)
       ·
        rw [← sj h]
        exact xretY [(60, .v (i6 (a2.right.length : Int))), (61, .d true), (67, .v (.ro (eSym x2))), (71, .d true), (75, .v (vb false)), (79, .d false), (84, .d true), (88, .v (vb true)), (94, .v (vb false)), (6000, .d true)] (apc (lg a2.right eSym 6) (av h1 (apc (ig eSym 6 .i64 h2) (av h3 (apc q4 (av h6 (av h7 (apc q7 (apc ((((F31_3_ok a1 x2 h10).cp rfl _).trans (congrArg (fun z => some (vb z)) h11)) : CP prg 31 [aG a1, i6 x2.sort] (L32_0_d0 a1 a2 x2) = some (vb false)) apn))))))))) (by kernel_rfl)
      ·
       rw [← sj h]
       exact xretY [(60, .v (i6 (a2.right.length : Int))), (61, .d true), (67, .v (.ro (eSym x2))), (71, .d true), (75, .v (vb false)), (79, .d false), (84, .d true), (88, .v (vb false)), (6000, .d true)] (apc (lg a2.right eSym 6) (av h1 (apc (ig eSym 6 .i64 h2) (av h3 (apc q4 (av h6 (av h7 (apc ((((F34_ok x2 h8).cp rfl _).trans (congrArg (fun z => some (vb z)) h9)) : CP prg 34 [(.agg ((List.take 4 (List.drop 1 (eSym x2))).map .p))] (L32_0_d0 a1 a2 x2) = some (vb false)) apn)))))))) (by kernel_rfl)
     ·
      refine bi h ?_ ?_ <;> intro h8 h
      ·
       refine bi h ?_ ?_ <;> intro h9 h
       ·
        rw [← sj h]
        exact xretY [(60, .v (i6 (a2.right.length : Int))), (61, .d true), (67, .v (.ro (eSym x2))), (71, .d true), (75, .v (vb false)), (79, .d false), (84, .d false), (105, .d true), (109, .d true), (6000, .d true)] (apc (lg a2.right eSym 6) (av h1 (apc (ig eSym 6 .i64 h2) (av h3 (apc q4 (av h6 (av h7 (av h8 (av h9 apn))))))))) (by kernel_rfl)
       ·
        rw [← sj h]
        exact rnd [(60, .v (i6 (a2.right.length : Int))), (61, .d true), (67, .v (.ro (eSym x2))), (71, .d true), (75, .v (vb false)), (79, .d false), (84, .d false), (105, .d true), (109, .d false), (6000, .d true)] (apc (lg a2.right eSym 6) (av h1 (apc (ig eSym 6 .i64 h2) (av h3 (apc q4 (av h6 (av h7 (av h8 (av h9 (apc ((oK (ac (ac rfl))) : okT 2 (L32_0_d0 a1 a2 x2) = true) apn)))))))))) (by kernel_rfl)
      ·
       rw [← sj h]
       exact rnd [(60, .v (i6 (a2.right.length : Int))), (61, .d true), (67, .v (.ro (eSym x2))), (71, .d true), (75, .v (vb false)), (79, .d false), (84, .d false), (105, .d false), (6000, .d true)] (apc (lg a2.right eSym 6) (av h1 (apc (ig eSym 6 .i64 h2) (av h3 (apc q4 (av h6 (av h7 (av h8 (apc ((oK (ac (ac rfl))) : okT 2 (L32_0_d0 a1 a2 x2) = true) apn))))))))) (by kernel_rfl)
  ·
   refine bi h ?_ ?_ <;> intro h4 h
   ·
    refine bn h fun x5 h5 h => ?_
    refine bi h ?_ ?_ <;> intro h6 h
    ·
     have q5 := ((((F34_ok x2 h5).cp rfl _).trans (congrArg (fun z => some (vb z)) h6)) : CP prg 34 [(.agg ((List.take 4 (List.drop 1 (eSym x2))).map .p))] (L32_0_d0 a1 a2 x2) = some (vb true))
     refine bn h fun x7 h7 h => ?_
     refine bi h ?_ ?_ <;> intro h8 h
     ·
      have q6 := ((((F31_3_ok a1 x2 h7).cp rfl _).trans (congrArg (fun z => some (vb z)) h8)) : CP prg 31 [aG a1, i6 x2.sort] (L32_0_d0 a1 a2 x2) = some (vb true))
      refine bi h ?_ ?_ <;> intro h9 h
      ·
       rw [← sj h]
       exact xretY [(60, .v (i6 (a2.right.length : Int))), (61, .d true), (67, .v (.ro (eSym x2))), (71, .d false), (84, .d true), (88, .v (vb true)), (94, .v (vb true)), (100, .d true), (6000, .d true)] (apc (lg a2.right eSym 6) (av h1 (apc (ig eSym 6 .i64 h2) (av h3 (av h4 (apc q5 (apc q6 (av h9 apn)))))))) (by kernel_rfl)
      ·
       refine bi h ?_ ?_ <;> intro h10 h
       ·
        refine bi h ?_ ?_ <;> intro h11 h
        ·
         rw [← sj h]
         exact xretY [(60, .v (i6 (a2.right.length : Int))), (61, .d true), (67, .v (.ro (eSym x2))), (71, .d false), (84, .d true), (88, .v (vb true)), (94, .v (vb true)), (100, .d false), (105, .d true), (109, .d true), (6000, .d true)] (apc (lg a2.right eSym 6) (av h1 (apc (ig eSym 6 .i64 h2) (av h3 (av h4 (apc q5 (apc q6 (av h9 (av h10 (av h11 apn)))))))))) (by kernel_rfl)
        ·
         rw [← sj h]
         exact rnd [(60, .v (i6 (a2.right.length : Int))), (61, .d true), (67, .v (.ro (eSym x2))), (71, .d false), (84, .d true), (88, .v (vb true)), (94, .v (vb true)), (100, .d false), (105, .d true), (109, .d false), (6000, .d true)] (apc (lg a2.right eSym 6) (av h1 (apc (ig eSym 6 .i64 h2) (av h3 (av h4 (apc q5 (apc q6 (av h9 (av h10 (av h11 (apc ((oK (ac (ac rfl))) : okT 2 (L32_0_d0 a1 a2 x2) = true) apn))))))))))) (by kernel_rfl)
       ·
        rw [← sj h]
        exact rnd [(60, .v (i6 (a2.right.length : Int))), (61, .d true), (67, .v (.ro (eSym x2))), (71, .d false), (84, .d true), (88, .v (vb true)), (94, .v (vb true)), (100, .d false), (105, .d false), (6000, .d true)] (apc (lg a2.right eSym 6) (av h1 (apc (ig eSym 6 .i64 h2) (av h3 (av h4 (apc q5 (apc q6 (av h9 (av h10 (apc ((oK (ac (ac rfl))) : okT 2 (L32_0_d0 a1 a2 x2) = true) apn)))))))))) (by kernel_rfl)
     ·
      rw [← sj h]
      exact xretY [(60, .v (i6 (a2.right.length : Int))), (61, .d true), (67, .v (.ro (eSym x2))), (71, .d false), (84, .d true), (88, .v (vb true)), (94, .v (vb false)), (6000, .d true)] (apc (lg a2.right eSym 6) (av h1 (apc (ig eSym 6 .i64 h2) (av h3 (av h4 (apc q5 (apc ((((F31_3_ok a1 x2 h7).cp rfl _).trans (congrArg (fun z => some (vb z)) h8)) : CP prg 31 [aG a1, i6 x2.sort] (L32_0_d0 a1 a2 x2) = some (vb false)) apn))))))) (by kernel_rfl)
    ·
     rw [← sj h]
     exact xretY [(60, .v (i6 (a2.right.length : Int))), (61, .d true), (67, .v (.ro (eSym x2))), (71, .d false), (84, .d true), (88, .v (vb false)), (6000, .d true)] (apc (lg a2.right eSym 6) (av h1 (apc (ig eSym 6 .i64 h2) (av h3 (av h4 (apc ((((F34_ok x2 h5).cp rfl _).trans (congrArg (fun z => some (vb z)) h6)) : CP prg 34 [(.agg ((List.take 4 (List.drop 1 (eSym x2))).map .p))] (L32_0_d0 a1 a2 x2) = some (vb false)) apn)))))) (by kernel_rfl)
   ·
    refine bi h ?_ ?_ <;> intro h5 h
    ·
     refine bi h ?_ ?_ <;> intro h6 h
     ·
      rw [← sj h]
      exact xretY [(60, .v (i6 (a2.right.length : Int))), (61, .d true), (67, .v (.ro (eSym x2))), (71, .d false), (84, .d false), (105, .d true), (109, .d true), (6000, .d true)] (apc (lg a2.right eSym 6) (av h1 (apc (ig eSym 6 .i64 h2) (av h3 (av h4 (av h5 (av h6 apn))))))) (by kernel_rfl)
     ·
      rw [← sj h]
      exact rnd [(60, .v (i6 (a2.right.length : Int))), (61, .d true), (67, .v (.ro (eSym x2))), (71, .d false), (84, .d false), (105, .d true), (109, .d false), (6000, .d true)] (apc (lg a2.right eSym 6) (av h1 (apc (ig eSym 6 .i64 h2) (av h3 (av h4 (av h5 (av h6 (apc ((oK (ac (ac rfl))) : okT 2 (L32_0_d0 a1 a2 x2) = true) apn)))))))) (by kernel_rfl)
    ·
     rw [← sj h]
     exact rnd [(60, .v (i6 (a2.right.length : Int))), (61, .d true), (67, .v (.ro (eSym x2))), (71, .d false), (84, .d false), (105, .d false), (6000, .d true)] (apc (lg a2.right eSym 6) (av h1 (apc (ig eSym 6 .i64 h2) (av h3 (av h4 (av h5 (apc ((oK (ac (ac rfl))) : okT 2 (L32_0_d0 a1 a2 x2) = true) apn))))))) (by kernel_rfl)
 ·
  rw [← sj h]
  exact xbrk [(60, .v (i6 (a2.right.length : Int))), (61, .d false), (6000, .d true)] (apc (lg a2.right eSym 6) (av h1 apn)) (by kernel_rfl)
theorem L32_0_run (s0 : Int) (e : E_L32_0) (h : runL (fun s => L32_0 a1 a2 s) s0 = some e) : L32_0_x a1 a2 e (L32_0_e a1 a2 s0) := by
  have q := @loop_sound' (Int) E_L32_0 (fun s => L32_0 a1 a2 s) (fun s => L32_0_e a1 a2 s) (L32_0_x a1 a2) (fun s r h => L32_0_ok a1 a2 s h) s0 e h
  exact q
end
def F32_v (a1 : GramD) (a2 : ProdD) (x0 : Bool) : AV := (vb x0)
def F32 (a1 : GramD) (a2 : ProdD) : Option Bool :=
  ((F31_2 a1 a2).bind fun x1 => (bif x1 then (bif (decide ((a2.right.length : Int) > 30)) then (some false) else (bif (decide (a2.role < 0)) then (some false) else (bif (decide (a2.role > 11)) then (some false) else (bif (decide (a2.frm < (-1))) then (some false) else (bif (decide ((a2.cons.size : Int) > 64)) then (some false) else (bif (!(a2.cons.toList == (⟨([] : List UInt8).toArray⟩ : ByteArray).toList)) then (bif (a2.role != 0) then (some false) else (bif a2.prefer then (bif a2.avoid then (some false) else ((runL (fun s => L32_0 a1 a2 s) 0).bind fun r12 => match r12 with | .k0 => (some false) | .k1 => (some true))) else ((runL (fun s => L32_0 a1 a2 s) 0).bind fun r11 => match r11 with | .k0 => (some false) | .k1 => (some true)))) else (bif a2.prefer then (bif a2.avoid then (some false) else ((runL (fun s => L32_0 a1 a2 s) 0).bind fun r11 => match r11 with | .k0 => (some false) | .k1 => (some true))) else ((runL (fun s => L32_0 a1 a2 s) 0).bind fun r10 => match r10 with | .k0 => (some false) | .k1 => (some true))))))))) else (some false)))
abbrev F32_d0 (g12 : Nat → AV) (a1 : GramD) (a2 : ProdD) : St := ⟨fr 111 g12 [(2, .ptr 0 0), (3, .ptr 1 0)], [bG a1, bP a2]⟩
abbrev F32_d1 (g11 : Nat → AV) (a1 : GramD) (a2 : ProdD) : St := ⟨fr 111 g11 [(2, .ptr 0 0), (3, .ptr 1 0)], [bG a1, bP a2]⟩
abbrev F32_d2 (g10 : Nat → AV) (a1 : GramD) (a2 : ProdD) : St := ⟨fr 111 g10 [(2, .ptr 0 0), (3, .ptr 1 0)], [bG a1, bP a2]⟩
theorem F32_ok (a1 : GramD) (a2 : ProdD) {r : Bool} (h : F32 a1 a2 = some r) : PR1 prg 32 [aG a1, aP a2] (F32_v a1 a2 r) := by
 unfold F32 at h
 refine bn h fun x1 h1 h => ?_
 refine bi h ?_ ?_ <;> intro h2 h
 ·
  have q0 := ((((F31_2_ok a1 a2 h1).cp rfl _).trans (congrArg (fun z => some (vb z)) h2)) : CP prg 31 [aG a1, i6 a2.left] [bG a1, bP a2] = some (vb true))
  refine bi h ?_ ?_ <;> intro h3 h
  ·
   rw [← sj h]
   exact fpr [(10, .v (vb true)), (15, .v (i6 (a2.right.length : Int))), (16, .d true)] (apc q0 (apc (lg a2.right eSym 6) (av h3 apn))) rfl (by kernel_rfl)
  ·
   refine bi h ?_ ?_ <;> intro h4 h
   ·
    rw [← sj h]
    exact fpr [(10, .v (vb true)), (15, .v (i6 (a2.right.length : Int))), (16, .d false), (21, .d true)] (apc q0 (apc (lg a2.right eSym 6) (av h3 (av h4 apn)))) rfl (by kernel_rfl)
   ·
    refine bi h ?_ ?_ <;> intro h5 h
    ·
     rw [← sj h]
     exact fpr [(10, .v (vb true)), (15, .v (i6 (a2.right.length : Int))), (16, .d false), (21, .d false), (26, .d true)] (apc q0 (apc (lg a2.right eSym 6) (av h3 (av h4 (av h5 apn))))) rfl (by kernel_rfl)
    ·
     refine bi h ?_ ?_ <;> intro h6 h
     ·
      rw [← sj h]
      exact fpr [(10, .v (vb true)), (15, .v (i6 (a2.right.length : Int))), (16, .d false), (21, .d false), (26, .d false), (31, .d true)] (apc q0 (apc (lg a2.right eSym 6) (av h3 (av h4 (av h5 (av h6 apn)))))) rfl (by kernel_rfl)
     ·
      refine bi h ?_ ?_ <;> intro h7 h
      ·
       rw [← sj h]
       exact fpr [(10, .v (vb true)), (15, .v (i6 (a2.right.length : Int))), (16, .d false), (21, .d false), (26, .d false), (31, .d false), (37, .d true)] (apc q0 (apc (lg a2.right eSym 6) (av h3 (av h4 (av h5 (av h6 (av h7 apn))))))) rfl (by kernel_rfl)
      ·
       refine bi h ?_ ?_ <;> intro h8 h
       ·
        refine bi h ?_ ?_ <;> intro h9 h
        ·
         rw [← sj h]
         exact fpr [(10, .v (vb true)), (15, .v (i6 (a2.right.length : Int))), (16, .d false), (21, .d false), (26, .d false), (31, .d false), (37, .d false), (42, .d true), (46, .d true)] (apc q0 (apc (lg a2.right eSym 6) (av h3 (av h4 (av h5 (av h6 (av h7 (av h8 (av h9 apn))))))))) rfl (by kernel_rfl)
        ·
         refine bi h ?_ ?_ <;> intro h10 h
         ·
          refine bi h ?_ ?_ <;> intro h11 h
          ·
           rw [← sj h]
           exact fpr [(10, .v (vb true)), (15, .v (i6 (a2.right.length : Int))), (16, .d false), (21, .d false), (26, .d false), (31, .d false), (37, .d false), (42, .d true), (46, .d false), (51, .d true), (54, .d true)] (apc q0 (apc (lg a2.right eSym 6) (av h3 (av h4 (av h5 (av h6 (av h7 (av h8 (av h9 (av h10 (av h11 apn))))))))))) rfl (by kernel_rfl)
          ·
           refine bn h fun r12 h12 h => ?_
           cases r12 with
           | k0 =>
            obtain ⟨g12, y12, e12⟩ := L32_0_run a1 a2 0 _ h12
            rw [← sj h]
            exact fpr [(10, .v (vb true)), (15, .v (i6 (a2.right.length : Int))), (16, .d false), (21, .d false), (26, .d false), (31, .d false), (37, .d false), (42, .d true), (46, .d false), (51, .d true), (54, .d false), (2000, .l .ret ⟨fr 111 g12 [(4, vb false)], y12⟩), (6000, .d true)] (apc q0 (apc (lg a2.right eSym 6) (av h3 (av h4 (av h5 (av h6 (av h7 (av h8 (av h9 (av h10 (av h11 (apc ((oK (ac (ac rfl))) : okT 2 [bG a1, bP a2] = true) (apc (e12 : L32_0_e a1 a2 0 = some (.ret, ⟨fr 111 g12 [(4, vb false)], y12⟩)) apn))))))))))))) rfl (by kernel_rfl)
           | k1 =>
            obtain ⟨g12, e12⟩ := L32_0_run a1 a2 0 _ h12
            rw [← sj h]
            exact fpr [(10, .v (vb true)), (15, .v (i6 (a2.right.length : Int))), (16, .d false), (21, .d false), (26, .d false), (31, .d false), (37, .d false), (42, .d true), (46, .d false), (51, .d true), (54, .d false), (2000, .l (.brk 0) (F32_d0 g12 a1 a2)), (6000, .d true)] (apc q0 (apc (lg a2.right eSym 6) (av h3 (av h4 (av h5 (av h6 (av h7 (av h8 (av h9 (av h10 (av h11 (apc ((oK (ac (ac rfl))) : okT 2 [bG a1, bP a2] = true) (apc (e12 : L32_0_e a1 a2 0 = some ((.brk 0), F32_d0 g12 a1 a2)) apn))))))))))))) rfl (by kernel_rfl)
         ·
          refine bn h fun r11 h11 h => ?_
          cases r11 with
          | k0 =>
           obtain ⟨g11, y11, e11⟩ := L32_0_run a1 a2 0 _ h11
           rw [← sj h]
           exact fpr [(10, .v (vb true)), (15, .v (i6 (a2.right.length : Int))), (16, .d false), (21, .d false), (26, .d false), (31, .d false), (37, .d false), (42, .d true), (46, .d false), (51, .d false), (2000, .l .ret ⟨fr 111 g11 [(4, vb false)], y11⟩), (6000, .d true)] (apc q0 (apc (lg a2.right eSym 6) (av h3 (av h4 (av h5 (av h6 (av h7 (av h8 (av h9 (av h10 (apc ((oK (ac (ac rfl))) : okT 2 [bG a1, bP a2] = true) (apc (e11 : L32_0_e a1 a2 0 = some (.ret, ⟨fr 111 g11 [(4, vb false)], y11⟩)) apn)))))))))))) rfl (by kernel_rfl)
          | k1 =>
           obtain ⟨g11, e11⟩ := L32_0_run a1 a2 0 _ h11
           rw [← sj h]
           exact fpr [(10, .v (vb true)), (15, .v (i6 (a2.right.length : Int))), (16, .d false), (21, .d false), (26, .d false), (31, .d false), (37, .d false), (42, .d true), (46, .d false), (51, .d false), (2000, .l (.brk 0) (F32_d1 g11 a1 a2)), (6000, .d true)] (apc q0 (apc (lg a2.right eSym 6) (av h3 (av h4 (av h5 (av h6 (av h7 (av h8 (av h9 (av h10 (apc ((oK (ac (ac rfl))) : okT 2 [bG a1, bP a2] = true) (apc (e11 : L32_0_e a1 a2 0 = some ((.brk 0), F32_d1 g11 a1 a2)) apn)))))))))))) rfl (by kernel_rfl)
       ·
        refine bi h ?_ ?_ <;> intro h9 h
        ·
         refine bi h ?_ ?_ <;> intro h10 h
         ·
          rw [← sj h]
          exact fpr [(10, .v (vb true)), (15, .v (i6 (a2.right.length : Int))), (16, .d false), (21, .d false), (26, .d false), (31, .d false), (37, .d false), (42, .d false), (51, .d true), (54, .d true)] (apc q0 (apc (lg a2.right eSym 6) (av h3 (av h4 (av h5 (av h6 (av h7 (av h8 (av h9 (av h10 apn)))))))))) rfl (by kernel_rfl)
         ·
          refine bn h fun r11 h11 h => ?_
          cases r11 with
          | k0 =>
           obtain ⟨g11, y11, e11⟩ := L32_0_run a1 a2 0 _ h11
           rw [← sj h]
           exact fpr [(10, .v (vb true)), (15, .v (i6 (a2.right.length : Int))), (16, .d false), (21, .d false), (26, .d false), (31, .d false), (37, .d false), (42, .d false), (51, .d true), (54, .d false), (2000, .l .ret ⟨fr 111 g11 [(4, vb false)], y11⟩), (6000, .d true)] (apc q0 (apc (lg a2.right eSym 6) (av h3 (av h4 (av h5 (av h6 (av h7 (av h8 (av h9 (av h10 (apc ((oK (ac (ac rfl))) : okT 2 [bG a1, bP a2] = true) (apc (e11 : L32_0_e a1 a2 0 = some (.ret, ⟨fr 111 g11 [(4, vb false)], y11⟩)) apn)))))))))))) rfl (by kernel_rfl)
          | k1 =>
           obtain ⟨g11, e11⟩ := L32_0_run a1 a2 0 _ h11
           rw [← sj h]
           exact fpr [(10, .v (vb true)), (15, .v (i6 (a2.right.length : Int))), (16, .d false), (21, .d false), (26, .d false), (31, .d false), (37, .d false), (42, .d false), (51, .d true), (54, .d false), (2000, .l (.brk 0) (F32_d1 g11 a1 a2)), (6000, .d true)] (apc q0 (apc (lg a2.right eSym 6) (av h3 (av h4 (av h5 (av h6 (av h7 (av h8 (av h9 (av h10 (apc ((oK (ac (ac rfl))) : okT 2 [bG a1, bP a2] = true) (apc (e11 : L32_0_e a1 a2 0 = some ((.brk 0), F32_d1 g11 a1 a2)) apn)))))))))))) rfl (by kernel_rfl)
        ·
         refine bn h fun r10 h10 h => ?_
         cases r10 with
         | k0 =>
          obtain ⟨g10, y10, e10⟩ := L32_0_run a1 a2 0 _ h10
          rw [← sj h]
          exact fpr [(10, .v (vb true)), (15, .v (i6 (a2.right.length : Int))), (16, .d false), (21, .d false), (26, .d false), (31, .d false), (37, .d false), (42, .d false), (51, .d false), (2000, .l .ret ⟨fr 111 g10 [(4, vb false)], y10⟩), (6000, .d true)] (apc q0 (apc (lg a2.right eSym 6) (av h3 (av h4 (av h5 (av h6 (av h7 (av h8 (av h9 (apc ((oK (ac (ac rfl))) : okT 2 [bG a1, bP a2] = true) (apc (e10 : L32_0_e a1 a2 0 = some (.ret, ⟨fr 111 g10 [(4, vb false)], y10⟩)) apn))))))))))) rfl (by kernel_rfl)
         | k1 =>
          obtain ⟨g10, e10⟩ := L32_0_run a1 a2 0 _ h10
          rw [← sj h]
          exact fpr [(10, .v (vb true)), (15, .v (i6 (a2.right.length : Int))), (16, .d false), (21, .d false), (26, .d false), (31, .d false), (37, .d false), (42, .d false), (51, .d false), (2000, .l (.brk 0) (F32_d2 g10 a1 a2)), (6000, .d true)] (apc q0 (apc (lg a2.right eSym 6) (av h3 (av h4 (av h5 (av h6 (av h7 (av h8 (av h9 (apc ((oK (ac (ac rfl))) : okT 2 [bG a1, bP a2] = true) (apc (e10 : L32_0_e a1 a2 0 = some ((.brk 0), F32_d2 g10 a1 a2)) apn))))))))))) rfl (by kernel_rfl)
 ·
  rw [← sj h]
  exact fpr [(10, .v (vb false))] (apc ((((F31_2_ok a1 a2 h1).cp rfl _).trans (congrArg (fun z => some (vb z)) h2)) : CP prg 31 [aG a1, i6 a2.left] [bG a1, bP a2] = some (vb false)) apn) rfl (by kernel_rfl)
inductive E_L12_4 where
  | k0
  | k1
section
variable (a1 : GramD)
def L12_4 (v1 : Int) : Option (E_L12_4 ⊕ (Int)) :=
  (bif (decide (v1 < (a1.prods.length : Int))) then ((getI a1.prods v1).bind fun x2 => ((F32 a1 x2).bind fun x3 => (bif x3 then (some (.inr ((IntKind.wrap .i64 (v1 + 1))))) else (some (.inl (.k0)))))) else (some (.inl (.k1))))
def L12_4_s (v1 : Int) : St := ⟨fr 160 ug [(1, .ptr 0 0), (5, i6 v1)], [bG a1]⟩
abbrev L12_4_e (v1 : Int) := evH prg 1 [1, 5] ir12_l4 (L12_4_s a1 v1)
def L12_4_x (e : E_L12_4) (r : Option (Out × St)) : Prop := match e with | .k0 => ∃ g y, r = some (.ret, ⟨fr 160 g [(2, i6 160)], y⟩) | .k1 => ∃ g, r = some ((.brk 4), ⟨fr 160 g [(1, .ptr 0 0)], [bG a1]⟩)
theorem L12_4_ok (v1 : Int) {r : E_L12_4 ⊕ (Int)} (h : L12_4 a1 v1 = some r) : OkR (fun e => L12_4_x a1 e (L12_4_e a1 v1)) (fun s => L12_4_e a1 v1 = L12_4_e a1 s) r := by
 unfold L12_4 at h
 refine bi h ?_ ?_ <;> intro h1 h
 ·
  refine bn h fun x2 h2 h => ?_
  refine bn h fun x3 h3 h => ?_
  refine bi h ?_ ?_ <;> intro h4 h
  ·
   rw [← sj h]
   exact rnd [(74, .v (i6 (lP a1))), (75, .d true), (82, .v (.ro (eProd x2))), (84, .v (vb true)), (6000, .d true)] (apc (lg a1.prods eProd 7) (av h1 (apc (ig eProd 7 .i64 h2) (apc ((((F32_ok a1 x2 h3).cp rfl _).trans (congrArg (fun z => some (vb z)) h4)) : CP prg 32 [aG a1, aP x2] [bG a1] = some (vb true)) (apc ((oK (ac rfl)) : okT 1 [bG a1] = true) apn))))) (by kernel_rfl)
  ·
   rw [← sj h]
   exact xretY [(74, .v (i6 (lP a1))), (75, .d true), (82, .v (.ro (eProd x2))), (84, .v (vb false)), (6000, .d true)] (apc (lg a1.prods eProd 7) (av h1 (apc (ig eProd 7 .i64 h2) (apc ((((F32_ok a1 x2 h3).cp rfl _).trans (congrArg (fun z => some (vb z)) h4)) : CP prg 32 [aG a1, aP x2] [bG a1] = some (vb false)) apn)))) (by kernel_rfl)
 ·
  rw [← sj h]
  exact xbrk [(74, .v (i6 (lP a1))), (75, .d false), (6000, .d true)] (apc (lg a1.prods eProd 7) (av h1 apn)) (by kernel_rfl)
theorem L12_4_run (s0 : Int) (e : E_L12_4) (h : runL (fun s => L12_4 a1 s) s0 = some e) : L12_4_x a1 e (L12_4_e a1 s0) := by
  have q := @loop_sound' (Int) E_L12_4 (fun s => L12_4 a1 s) (fun s => L12_4_e a1 s) (L12_4_x a1) (fun s r h => L12_4_ok a1 s h) s0 e h
  exact q
end
def F33_v (a1 : GramD) (a2 : ForbD) (x0 : Bool) : AV := (vb x0)
def F33 (a1 : GramD) (a2 : ForbD) : Option Bool :=
  (bif (decide (a2.parent < 0)) then (some false) else (bif (decide (a2.parent ≥ (a1.prods.length : Int))) then (some false) else (bif (decide (a2.child < 0)) then (some false) else (bif (decide (a2.child ≥ (a1.prods.length : Int))) then (some false) else ((getI a1.prods a2.parent).bind fun x5 => (bif (x5.role == 11) then (some false) else ((getI a1.prods a2.child).bind fun x7 => (bif (x7.role == 11) then (some false) else (bif (decide (a2.at_ < 1)) then (some false) else (bif (decide (a2.at_ > (x5.right.length : Int))) then (some false) else ((getI x5.right (IntKind.wrap .i64 (a2.at_ - 1))).bind fun x11 => (bif (x11.kind == 1) then (some (x11.sort == x7.left)) else (some false)))))))))))))
theorem F33_ok (a1 : GramD) (a2 : ForbD) {r : Bool} (h : F33 a1 a2 = some r) : PR1 prg 33 [aG a1, (.agg ((eForb a2).map .p))] (F33_v a1 a2 r) := by
 unfold F33 at h
 refine bi h ?_ ?_ <;> intro h1 h
 ·
  rw [← sj h]
  exact fpr [(8, .d true)] (av h1 apn) rfl (by kernel_rfl)
 ·
  refine bi h ?_ ?_ <;> intro h2 h
  ·
   rw [← sj h]
   exact fpr [(8, .d false), (14, .v (i6 (lP a1))), (15, .d true)] (av h1 (apc (lg a1.prods eProd 7) (av h2 apn))) rfl (by kernel_rfl)
  ·
   refine bi h ?_ ?_ <;> intro h3 h
   ·
    rw [← sj h]
    exact fpr [(8, .d false), (14, .v (i6 (lP a1))), (15, .d false), (20, .d true)] (av h1 (apc (lg a1.prods eProd 7) (av h2 (av h3 apn)))) rfl (by kernel_rfl)
   ·
    refine bi h ?_ ?_ <;> intro h4 h
    ·
     rw [← sj h]
     exact fpr [(8, .d false), (14, .v (i6 (lP a1))), (15, .d false), (20, .d false), (27, .v (i6 (lP a1))), (28, .d true)] (av h1 (apc (lg a1.prods eProd 7) (av h2 (av h3 (apc (lg a1.prods eProd 7) (av h4 apn)))))) rfl (by kernel_rfl)
    ·
     refine bn h fun x5 h5 h => ?_
     refine bi h ?_ ?_ <;> intro h6 h
     ·
      rw [← sj h]
      exact fpr [(8, .d false), (14, .v (i6 (lP a1))), (15, .d false), (20, .d false), (27, .v (i6 (lP a1))), (28, .d false), (35, .v (.ro (eProd x5))), (38, .d true)] (av h1 (apc (lg a1.prods eProd 7) (av h2 (av h3 (apc (lg a1.prods eProd 7) (av h4 (apc (ig eProd 7 .i64 h5) (av h6 apn)))))))) rfl (by kernel_rfl)
     ·
      refine bn h fun x7 h7 h => ?_
      refine bi h ?_ ?_ <;> intro h8 h
      ·
       rw [← sj h]
       exact fpr [(8, .d false), (14, .v (i6 (lP a1))), (15, .d false), (20, .d false), (27, .v (i6 (lP a1))), (28, .d false), (35, .v (.ro (eProd x5))), (38, .d false), (45, .v (.ro (eProd x7))), (48, .d true)] (av h1 (apc (lg a1.prods eProd 7) (av h2 (av h3 (apc (lg a1.prods eProd 7) (av h4 (apc (ig eProd 7 .i64 h5) (av h6 (apc (ig eProd 7 .i64 h7) (av h8 apn)))))))))) rfl (by kernel_rfl)
      ·
       refine bi h ?_ ?_ <;> intro h9 h
       ·
        rw [← sj h]
        exact fpr [(8, .d false), (14, .v (i6 (lP a1))), (15, .d false), (20, .d false), (27, .v (i6 (lP a1))), (28, .d false), (35, .v (.ro (eProd x5))), (38, .d false), (45, .v (.ro (eProd x7))), (48, .d false), (52, .d true)] (av h1 (apc (lg a1.prods eProd 7) (av h2 (av h3 (apc (lg a1.prods eProd 7) (av h4 (apc (ig eProd 7 .i64 h5) (av h6 (apc (ig eProd 7 .i64 h7) (av h8 (av h9 apn))))))))))) rfl (by kernel_rfl)
       ·
        refine bi h ?_ ?_ <;> intro h10 h
        ·
         rw [← sj h]
         exact fpr [(8, .d false), (14, .v (i6 (lP a1))), (15, .d false), (20, .d false), (27, .v (i6 (lP a1))), (28, .d false), (35, .v (.ro (eProd x5))), (38, .d false), (45, .v (.ro (eProd x7))), (48, .d false), (52, .d false), (60, .v (.ro (eProd x5))), (63, .v (i6 (x5.right.length : Int))), (64, .d true)] (av h1 (apc (lg a1.prods eProd 7) (av h2 (av h3 (apc (lg a1.prods eProd 7) (av h4 (apc (ig eProd 7 .i64 h5) (av h6 (apc (ig eProd 7 .i64 h7) (av h8 (av h9 (apc (ig eProd 7 .i64 h5) (apc (lg x5.right eSym 6) (av h10 apn)))))))))))))) rfl (by kernel_rfl)
        ·
         refine bn h fun x11 h11 h => ?_
         refine bi h ?_ ?_ <;> intro h12 h
         ·
          rw [← sj h]
          exact fpr [(8, .d false), (14, .v (i6 (lP a1))), (15, .d false), (20, .d false), (27, .v (i6 (lP a1))), (28, .d false), (35, .v (.ro (eProd x5))), (38, .d false), (45, .v (.ro (eProd x7))), (48, .d false), (52, .d false), (60, .v (.ro (eProd x5))), (63, .v (i6 (x5.right.length : Int))), (64, .d false), (70, .v (.ro (eProd x5))), (76, .v (.ro (eSym x11))), (80, .d true), (88, .v (.ro (eProd x7)))] (av h1 (apc (lg a1.prods eProd 7) (av h2 (av h3 (apc (lg a1.prods eProd 7) (av h4 (apc (ig eProd 7 .i64 h5) (av h6 (apc (ig eProd 7 .i64 h7) (av h8 (av h9 (apc (ig eProd 7 .i64 h5) (apc (lg x5.right eSym 6) (av h10 (apc (ig eProd 7 .i64 h5) (apc (ig eSym 6 .i64 h11) (av h12 (apc (ig eProd 7 .i64 h7) apn)))))))))))))))))) rfl (by kernel_rfl)
         ·
          rw [← sj h]
          exact fpr [(8, .d false), (14, .v (i6 (lP a1))), (15, .d false), (20, .d false), (27, .v (i6 (lP a1))), (28, .d false), (35, .v (.ro (eProd x5))), (38, .d false), (45, .v (.ro (eProd x7))), (48, .d false), (52, .d false), (60, .v (.ro (eProd x5))), (63, .v (i6 (x5.right.length : Int))), (64, .d false), (70, .v (.ro (eProd x5))), (76, .v (.ro (eSym x11))), (80, .d false)] (av h1 (apc (lg a1.prods eProd 7) (av h2 (av h3 (apc (lg a1.prods eProd 7) (av h4 (apc (ig eProd 7 .i64 h5) (av h6 (apc (ig eProd 7 .i64 h7) (av h8 (av h9 (apc (ig eProd 7 .i64 h5) (apc (lg x5.right eSym 6) (av h10 (apc (ig eProd 7 .i64 h5) (apc (ig eSym 6 .i64 h11) (av h12 apn))))))))))))))))) rfl (by kernel_rfl)
inductive E_L12_2_2 where
  | k0
  | k1
section
variable (a1 : Int) (a2 : GramD)
def L12_2_2 (v1 : Int) : Option (E_L12_2_2 ⊕ (Int)) :=
  (bif (decide (v1 < a1)) then ((getI a2.forbid v1).bind fun x2 => ((getI a2.forbid a1).bind fun x3 => (bif ((x2.parent == x3.parent) && ((x2.at_ == x3.at_) && ((x2.child == x3.child) && true))) then (some (.inl (.k0))) else (some (.inr ((IntKind.wrap .i64 (v1 + 1)))))))) else (some (.inl (.k1))))
def L12_2_2_s (v1 : Int) : St := ⟨fr 160 ug [(1, .ptr 0 0), (6, i6 a1), (7, i6 v1)], [bG a2]⟩
abbrev L12_2_2_e (v1 : Int) := evH prg 1 [1, 6, 7] ir12_l2 (L12_2_2_s a1 a2 v1)
def L12_2_2_x (e : E_L12_2_2) (r : Option (Out × St)) : Prop := match e with | .k0 => ∃ g y, r = some (.ret, ⟨fr 160 g [(2, i6 160)], y⟩) | .k1 => ∃ g, r = some ((.brk 8), ⟨fr 160 g [(1, .ptr 0 0), (6, i6 a1)], [bG a2]⟩)
theorem L12_2_2_ok (v1 : Int) {r : E_L12_2_2 ⊕ (Int)} (h : L12_2_2 a1 a2 v1 = some r) : OkR (fun e => L12_2_2_x a1 a2 e (L12_2_2_e a1 a2 v1)) (fun s => L12_2_2_e a1 a2 v1 = L12_2_2_e a1 a2 s) r := by
 unfold L12_2_2 at h
 refine bi h ?_ ?_ <;> intro h1 h
 ·
  refine bn h fun x2 h2 h => ?_
  refine bn h fun x3 h3 h => ?_
  refine bi h ?_ ?_ <;> intro h4 h
  ·
   rw [← sj h]
   exact xretY [(103, .d true), (109, .v (.ro (eForb x2))), (114, .v (.ro (eForb x3))), (116, .d true), (6000, .d true)] (av h1 (apc (ig eForb 3 .i64 h2) (apc (ig eForb 3 .i64 h3) (av h4 apn)))) (by kernel_rfl)
  ·
   rw [← sj h]
   exact rnd [(103, .d true), (109, .v (.ro (eForb x2))), (114, .v (.ro (eForb x3))), (116, .d false), (6000, .d true)] (av h1 (apc (ig eForb 3 .i64 h2) (apc (ig eForb 3 .i64 h3) (av h4 (apc ((oK (ac rfl)) : okT 1 [bG a2] = true) apn))))) (by kernel_rfl)
 ·
  rw [← sj h]
  exact xbrk [(103, .d false), (6000, .d true)] (av h1 apn) (by kernel_rfl)
theorem L12_2_2_run (s0 : Int) (e : E_L12_2_2) (h : runL (fun s => L12_2_2 a1 a2 s) s0 = some e) : L12_2_2_x a1 a2 e (L12_2_2_e a1 a2 s0) := by
  have q := @loop_sound' (Int) E_L12_2_2 (fun s => L12_2_2 a1 a2 s) (fun s => L12_2_2_e a1 a2 s) (L12_2_2_x a1 a2) (fun s r h => L12_2_2_ok a1 a2 s h) s0 e h
  exact q
end
inductive E_L12_3 where
  | k0
  | k1
section
variable (a1 : GramD)
def L12_3 (v1 : Int) : Option (E_L12_3 ⊕ (Int)) :=
  (bif (decide (v1 < (a1.forbid.length : Int))) then ((getI a1.forbid v1).bind fun x2 => ((F33 a1 x2).bind fun x3 => (bif x3 then ((runL (fun s => L12_2_2 v1 a1 s) 0).bind fun r5 => match r5 with | .k0 => (some (.inl (.k0))) | .k1 => (some (.inr ((IntKind.wrap .i64 (v1 + 1)))))) else (some (.inl (.k0)))))) else (some (.inl (.k1))))
def L12_3_s (v1 : Int) : St := ⟨fr 160 ug [(1, .ptr 0 0), (6, i6 v1)], [bG a1]⟩
abbrev L12_3_e (v1 : Int) := evH prg 1 [1, 6] ir12_l3 (L12_3_s a1 v1)
def L12_3_x (e : E_L12_3) (r : Option (Out × St)) : Prop := match e with | .k0 => ∃ g y, r = some (.ret, ⟨fr 160 g [(2, i6 160)], y⟩) | .k1 => ∃ g, r = some ((.brk 6), ⟨fr 160 g [(1, .ptr 0 0)], [bG a1]⟩)
abbrev L12_3_d0 (g5 : Nat → AV) (v1 : Int) : St := ⟨fr 160 g5 [(1, .ptr 0 0), (6, i6 v1)], [bG a1]⟩
theorem L12_3_ok (v1 : Int) {r : E_L12_3 ⊕ (Int)} (h : L12_3 a1 v1 = some r) : OkR (fun e => L12_3_x a1 e (L12_3_e a1 v1)) (fun s => L12_3_e a1 v1 = L12_3_e a1 s) r := by
 unfold L12_3 at h
 refine bi h ?_ ?_ <;> intro h1 h
 ·
  refine bn h fun x2 h2 h => ?_
  refine bn h fun x3 h3 h => ?_
  refine bi h ?_ ?_ <;> intro h4 h
  ·
   have q3 := ((((F33_ok a1 x2 h3).cp rfl _).trans (congrArg (fun z => some (vb z)) h4)) : CP prg 33 [aG a1, (.agg ((eForb x2).map .p))] [bG a1] = some (vb true))
   refine bn h fun r5 h5 h => ?_
   cases r5 with
   | k0 =>
    obtain ⟨g5, y5, e5⟩ := L12_2_2_run v1 a1 0 _ h5
    rw [← sj h]
    exact xretY [(89, .v (i6 (lF a1))), (90, .d true), (97, .v (.ro (eForb x2))), (99, .v (vb true)), (2008, .l .ret ⟨fr 160 g5 [(2, i6 160)], y5⟩), (6000, .d true)] (apc (lg a1.forbid eForb 3) (av h1 (apc (ig eForb 3 .i64 h2) (apc q3 (apc ((oK (ac rfl)) : okT 1 [bG a1] = true) (apc (e5 : L12_2_2_e v1 a1 0 = some (.ret, ⟨fr 160 g5 [(2, i6 160)], y5⟩)) apn)))))) (by kernel_rfl)
   | k1 =>
    obtain ⟨g5, e5⟩ := L12_2_2_run v1 a1 0 _ h5
    rw [← sj h]
    exact rnd [(89, .v (i6 (lF a1))), (90, .d true), (97, .v (.ro (eForb x2))), (99, .v (vb true)), (2008, .l (.brk 8) (L12_3_d0 a1 g5 v1)), (6000, .d true)] (apc (lg a1.forbid eForb 3) (av h1 (apc (ig eForb 3 .i64 h2) (apc q3 (apc ((oK (ac rfl)) : okT 1 [bG a1] = true) (apc (e5 : L12_2_2_e v1 a1 0 = some ((.brk 8), L12_3_d0 a1 g5 v1)) (apc ((oK (ac rfl)) : okT 1 [bG a1] = true) apn))))))) (by kernel_rfl)
  ·
   rw [← sj h]
   exact xretY [(89, .v (i6 (lF a1))), (90, .d true), (97, .v (.ro (eForb x2))), (99, .v (vb false)), (6000, .d true)] (apc (lg a1.forbid eForb 3) (av h1 (apc (ig eForb 3 .i64 h2) (apc ((((F33_ok a1 x2 h3).cp rfl _).trans (congrArg (fun z => some (vb z)) h4)) : CP prg 33 [aG a1, (.agg ((eForb x2).map .p))] [bG a1] = some (vb false)) apn)))) (by kernel_rfl)
 ·
  rw [← sj h]
  exact xbrk [(89, .v (i6 (lF a1))), (90, .d false), (6000, .d true)] (apc (lg a1.forbid eForb 3) (av h1 apn)) (by kernel_rfl)
theorem L12_3_run (s0 : Int) (e : E_L12_3) (h : runL (fun s => L12_3 a1 s) s0 = some e) : L12_3_x a1 e (L12_3_e a1 s0) := by
  have q := @loop_sound' (Int) E_L12_3 (fun s => L12_3 a1 s) (fun s => L12_3_e a1 s) (L12_3_x a1) (fun s r h => L12_3_ok a1 s h) s0 e h
  exact q
end
def F31_4_v (a1 : GramD) (a2 : FollD) (x0 : Bool) : AV := (vb x0)
def F31_4 (a1 : GramD) (a2 : FollD) : Option Bool :=
  (bif (decide (a2.sort ≥ 0)) then (some (decide (a2.sort < (a1.sorts.length : Int)))) else (some false))
theorem F31_4_ok (a1 : GramD) (a2 : FollD) {r : Bool} (h : F31_4 a1 a2 = some r) : PR1 prg 31 [aG a1, i6 a2.sort] (F31_4_v a1 a2 r) := by
 unfold F31_4 at h
 refine bi h ?_ ?_ <;> intro h1 h
 ·
  rw [← sj h]
  exact fpr [(6, .d true), (11, .v (i6 (lS a1)))] (av h1 (apc (lg a1.sorts eStr 1) apn)) rfl (by kernel_rfl)
 ·
  rw [← sj h]
  exact fpr [(6, .d false)] (av h1 apn) rfl (by kernel_rfl)
def F34_2_v (a1 : FollD) (x0 : Bool) : AV := (vb x0)
def F34_2 (a1 : FollD) : Option Bool :=
  (some ((IntKind.wrap .u64 ((BitVec.ofInt (IntKind.bits .u64) (IntKind.wrap .u64 ((BitVec.ofInt (IntKind.bits .u64) (IntKind.wrap .u64 ((BitVec.ofInt (IntKind.bits .u64) a1.a ||| BitVec.ofInt (IntKind.bits .u64) a1.b).toNat : Int)) ||| BitVec.ofInt (IntKind.bits .u64) a1.c).toNat : Int)) ||| BitVec.ofInt (IntKind.bits .u64) a1.d).toNat : Int)) == 0))
theorem F34_2_ok (a1 : FollD) {r : Bool} (h : F34_2 a1 = some r) : PR1 prg 34 [(.agg ((List.drop 1 (eFoll a1)).map .p))] (F34_2_v a1 r) := by
 unfold F34_2 at h
 rw [← sj h]
 exact fpr [] apn rfl (by kernel_rfl)
inductive E_L12_0_2 where
  | k0
  | k1
section
variable (a1 : Int) (a2 : GramD)
def L12_0_2 (v1 : Int) : Option (E_L12_0_2 ⊕ (Int)) :=
  (bif (decide (v1 < a1)) then ((getI a2.follow v1).bind fun x2 => ((getI a2.follow a1).bind fun x3 => (bif (x2.sort == x3.sort) then (some (.inl (.k0))) else (some (.inr ((IntKind.wrap .i64 (v1 + 1)))))))) else (some (.inl (.k1))))
def L12_0_2_s (v1 : Int) : St := ⟨fr 160 ug [(1, .ptr 0 0), (8, i6 a1), (9, i6 v1)], [bG a2]⟩
abbrev L12_0_2_e (v1 : Int) := evH prg 1 [1, 8, 9] ir12_l0 (L12_0_2_s a1 a2 v1)
def L12_0_2_x (e : E_L12_0_2) (r : Option (Out × St)) : Prop := match e with | .k0 => ∃ g y, r = some (.ret, ⟨fr 160 g [(2, i6 160)], y⟩) | .k1 => ∃ g, r = some ((.brk 12), ⟨fr 160 g [(1, .ptr 0 0), (8, i6 a1)], [bG a2]⟩)
theorem L12_0_2_ok (v1 : Int) {r : E_L12_0_2 ⊕ (Int)} (h : L12_0_2 a1 a2 v1 = some r) : OkR (fun e => L12_0_2_x a1 a2 e (L12_0_2_e a1 a2 v1)) (fun s => L12_0_2_e a1 a2 v1 = L12_0_2_e a1 a2 s) r := by
 unfold L12_0_2 at h
 refine bi h ?_ ?_ <;> intro h1 h
 ·
  refine bn h fun x2 h2 h => ?_
  refine bn h fun x3 h3 h => ?_
  refine bi h ?_ ?_ <;> intro h4 h
  ·
   rw [← sj h]
   exact xretY [(144, .d true), (150, .v (.ro (eFoll x2))), (156, .v (.ro (eFoll x3))), (159, .d true), (6000, .d true)] (av h1 (apc (ig eFoll 5 .i64 h2) (apc (ig eFoll 5 .i64 h3) (av h4 apn)))) (by kernel_rfl)
  ·
   rw [← sj h]
   exact rnd [(144, .d true), (150, .v (.ro (eFoll x2))), (156, .v (.ro (eFoll x3))), (159, .d false), (6000, .d true)] (av h1 (apc (ig eFoll 5 .i64 h2) (apc (ig eFoll 5 .i64 h3) (av h4 (apc ((oK (ac rfl)) : okT 1 [bG a2] = true) apn))))) (by kernel_rfl)
 ·
  rw [← sj h]
  exact xbrk [(144, .d false), (6000, .d true)] (av h1 apn) (by kernel_rfl)
theorem L12_0_2_run (s0 : Int) (e : E_L12_0_2) (h : runL (fun s => L12_0_2 a1 a2 s) s0 = some e) : L12_0_2_x a1 a2 e (L12_0_2_e a1 a2 s0) := by
  have q := @loop_sound' (Int) E_L12_0_2 (fun s => L12_0_2 a1 a2 s) (fun s => L12_0_2_e a1 a2 s) (L12_0_2_x a1 a2) (fun s r h => L12_0_2_ok a1 a2 s h) s0 e h
  exact q
end
inductive E_L12_1 where
  | k0
  | k1
section
variable (a1 : GramD)
def L12_1 (v1 : Int) : Option (E_L12_1 ⊕ (Int)) :=
  (bif (decide (v1 < (a1.follow.length : Int))) then ((getI a1.follow v1).bind fun x2 => ((F31_4 a1 x2).bind fun x3 => (bif x3 then ((F34_2 x2).bind fun x5 => (bif x5 then (some (.inl (.k0))) else ((runL (fun s => L12_0_2 v1 a1 s) 0).bind fun r7 => match r7 with | .k0 => (some (.inl (.k0))) | .k1 => (some (.inr ((IntKind.wrap .i64 (v1 + 1)))))))) else (some (.inl (.k0)))))) else (some (.inl (.k1))))
def L12_1_s (v1 : Int) : St := ⟨fr 160 ug [(1, .ptr 0 0), (8, i6 v1)], [bG a1]⟩
abbrev L12_1_e (v1 : Int) := evH prg 1 [1, 8] ir12_l1 (L12_1_s a1 v1)
def L12_1_x (e : E_L12_1) (r : Option (Out × St)) : Prop := match e with | .k0 => ∃ g y, r = some (.ret, ⟨fr 160 g [(2, i6 160)], y⟩) | .k1 => ∃ g, r = some ((.brk 10), ⟨fr 160 g [(1, .ptr 0 0)], [bG a1]⟩)
abbrev L12_1_d0 (g7 : Nat → AV) (v1 : Int) : St := ⟨fr 160 g7 [(1, .ptr 0 0), (8, i6 v1)], [bG a1]⟩
theorem L12_1_ok (v1 : Int) {r : E_L12_1 ⊕ (Int)} (h : L12_1 a1 v1 = some r) : OkR (fun e => L12_1_x a1 e (L12_1_e a1 v1)) (fun s => L12_1_e a1 v1 = L12_1_e a1 s) r := by
 unfold L12_1 at h
 refine bi h ?_ ?_ <;> intro h1 h
 ·
  refine bn h fun x2 h2 h => ?_
  refine bn h fun x3 h3 h => ?_
  refine bi h ?_ ?_ <;> intro h4 h
  ·
   have q3 := ((((F31_4_ok a1 x2 h3).cp rfl _).trans (congrArg (fun z => some (vb z)) h4)) : CP prg 31 [aG a1, i6 x2.sort] [bG a1] = some (vb true))
   refine bn h fun x5 h5 h => ?_
   refine bi h ?_ ?_ <;> intro h6 h
   ·
    rw [← sj h]
    exact xretY [(120, .v (i6 (lW a1))), (121, .d true), (128, .v (.ro (eFoll x2))), (131, .v (vb true)), (137, .v (.ro (eFoll x2))), (140, .v (vb true)), (6000, .d true)] (apc (lg a1.follow eFoll 5) (av h1 (apc (ig eFoll 5 .i64 h2) (apc q3 (apc (ig eFoll 5 .i64 h2) (apc ((((F34_2_ok x2 h5).cp rfl _).trans (congrArg (fun z => some (vb z)) h6)) : CP prg 34 [(.agg ((List.drop 1 (eFoll x2)).map .p))] [bG a1] = some (vb true)) apn)))))) (by kernel_rfl)
   ·
    have q5 := ((((F34_2_ok x2 h5).cp rfl _).trans (congrArg (fun z => some (vb z)) h6)) : CP prg 34 [(.agg ((List.drop 1 (eFoll x2)).map .p))] [bG a1] = some (vb false))
    refine bn h fun r7 h7 h => ?_
    cases r7 with
    | k0 =>
     obtain ⟨g7, y7, e7⟩ := L12_0_2_run v1 a1 0 _ h7
     rw [← sj h]
     exact xretY [(120, .v (i6 (lW a1))), (121, .d true), (128, .v (.ro (eFoll x2))), (131, .v (vb true)), (137, .v (.ro (eFoll x2))), (140, .v (vb false)), (2012, .l .ret ⟨fr 160 g7 [(2, i6 160)], y7⟩), (6000, .d true)] (apc (lg a1.follow eFoll 5) (av h1 (apc (ig eFoll 5 .i64 h2) (apc q3 (apc (ig eFoll 5 .i64 h2) (apc q5 (apc ((oK (ac rfl)) : okT 1 [bG a1] = true) (apc (e7 : L12_0_2_e v1 a1 0 = some (.ret, ⟨fr 160 g7 [(2, i6 160)], y7⟩)) apn)))))))) (by kernel_rfl)
    | k1 =>
     obtain ⟨g7, e7⟩ := L12_0_2_run v1 a1 0 _ h7
     rw [← sj h]
     exact rnd [(120, .v (i6 (lW a1))), (121, .d true), (128, .v (.ro (eFoll x2))), (131, .v (vb true)), (137, .v (.ro (eFoll x2))), (140, .v (vb false)), (2012, .l (.brk 12) (L12_1_d0 a1 g7 v1)), (6000, .d true)] (apc (lg a1.follow eFoll 5) (av h1 (apc (ig eFoll 5 .i64 h2) (apc q3 (apc (ig eFoll 5 .i64 h2) (apc q5 (apc ((oK (ac rfl)) : okT 1 [bG a1] = true) (apc (e7 : L12_0_2_e v1 a1 0 = some ((.brk 12), L12_1_d0 a1 g7 v1)) (apc ((oK (ac rfl)) : okT 1 [bG a1] = true) apn))))))))) (by kernel_rfl)
  ·
   rw [← sj h]
   exact xretY [(120, .v (i6 (lW a1))), (121, .d true), (128, .v (.ro (eFoll x2))), (131, .v (vb false)), (6000, .d true)] (apc (lg a1.follow eFoll 5) (av h1 (apc (ig eFoll 5 .i64 h2) (apc ((((F31_4_ok a1 x2 h3).cp rfl _).trans (congrArg (fun z => some (vb z)) h4)) : CP prg 31 [aG a1, i6 x2.sort] [bG a1] = some (vb false)) apn)))) (by kernel_rfl)
 ·
  rw [← sj h]
  exact xbrk [(120, .v (i6 (lW a1))), (121, .d false), (6000, .d true)] (apc (lg a1.follow eFoll 5) (av h1 apn)) (by kernel_rfl)
theorem L12_1_run (s0 : Int) (e : E_L12_1) (h : runL (fun s => L12_1 a1 s) s0 = some e) : L12_1_x a1 e (L12_1_e a1 s0) := by
  have q := @loop_sound' (Int) E_L12_1 (fun s => L12_1 a1 s) (fun s => L12_1_e a1 s) (L12_1_x a1) (fun s r h => L12_1_ok a1 s h) s0 e h
  exact q
end
def F12_v (a1 : GramD) (x0 : Int) : AV := (i6 x0)
def F12 (a1 : GramD) : Option Int :=
  (bif (decide ((a1.sorts.length : Int) < 1)) then (some 160) else (bif (decide ((a1.sorts.length : Int) > 1000)) then (some 160) else (bif (decide ((a1.prods.length : Int) > 1000)) then (some 160) else ((F31 a1).bind fun x4 => (bif x4 then ((runL (fun s => L12_6 a1 s) 0).bind fun r6 => match r6 with | .k0 => (some 160) | .k1 => ((runL (fun s => L12_4 a1 s) 0).bind fun r7 => match r7 with | .k0 => (some 160) | .k1 => ((runL (fun s => L12_3 a1 s) 0).bind fun r8 => match r8 with | .k0 => (some 160) | .k1 => ((runL (fun s => L12_1 a1 s) 0).bind fun r9 => match r9 with | .k0 => (some 160) | .k1 => (some 0))))) else (some 160))))))
theorem F12_ok (a1 : GramD) {r : Int} (h : F12 a1 = some r) : PR1 prg 12 [aG a1] (F12_v a1 r) := by
 unfold F12 at h
 refine bi h ?_ ?_ <;> intro h1 h
 ·
  rw [← sj h]
  exact fpr [(12, .v (i6 (lS a1))), (13, .d true)] (apc (lg a1.sorts eStr 1) (av h1 apn)) rfl (by kernel_rfl)
 ·
  refine bi h ?_ ?_ <;> intro h2 h
  ·
   rw [← sj h]
   exact fpr [(12, .v (i6 (lS a1))), (13, .d false), (17, .v (i6 (lS a1))), (18, .d true)] (apc (lg a1.sorts eStr 1) (av h1 (apc (lg a1.sorts eStr 1) (av h2 apn)))) rfl (by kernel_rfl)
  ·
   refine bi h ?_ ?_ <;> intro h3 h
   ·
    rw [← sj h]
    exact fpr [(12, .v (i6 (lS a1))), (13, .d false), (17, .v (i6 (lS a1))), (18, .d false), (23, .v (i6 (lP a1))), (24, .d true)] (apc (lg a1.sorts eStr 1) (av h1 (apc (lg a1.sorts eStr 1) (av h2 (apc (lg a1.prods eProd 7) (av h3 apn)))))) rfl (by kernel_rfl)
   ·
    refine bn h fun x4 h4 h => ?_
    refine bi h ?_ ?_ <;> intro h5 h
    ·
     have q6 := ((((F31_ok a1 h4).cp rfl _).trans (congrArg (fun z => some (vb z)) h5)) : CP prg 31 [aG a1, i6 a1.start] [bG a1] = some (vb true))
     refine bn h fun r6 h6 h => ?_
     cases r6 with
     | k0 =>
      obtain ⟨g6, y6, e6⟩ := L12_6_run a1 0 _ h6
      rw [← sj h]
      exact fpr [(12, .v (i6 (lS a1))), (13, .d false), (17, .v (i6 (lS a1))), (18, .d false), (23, .v (i6 (lP a1))), (24, .d false), (30, .v (vb true)), (2000, .l .ret ⟨fr 160 g6 [(2, i6 160)], y6⟩), (6000, .d true)] (apc (lg a1.sorts eStr 1) (av h1 (apc (lg a1.sorts eStr 1) (av h2 (apc (lg a1.prods eProd 7) (av h3 (apc q6 (apc ((oK (ac rfl)) : okT 1 [bG a1] = true) (apc (e6 : L12_6_e a1 0 = some (.ret, ⟨fr 160 g6 [(2, i6 160)], y6⟩)) apn))))))))) rfl (by kernel_rfl)
     | k1 =>
      obtain ⟨g6, e6⟩ := L12_6_run a1 0 _ h6
      have q7 := ((oK (ac rfl)) : okT 1 [bG a1] = true)
      have q8 := (e6 : L12_6_e a1 0 = some ((.brk 0), ⟨fr 160 g6 [(1, .ptr 0 0)], [bG a1]⟩))
      refine bn h fun r7 h7 h => ?_
      cases r7 with
      | k0 =>
       obtain ⟨g7, y7, e7⟩ := L12_4_run a1 0 _ h7
       rw [← sj h]
       exact fpr [(12, .v (i6 (lS a1))), (13, .d false), (17, .v (i6 (lS a1))), (18, .d false), (23, .v (i6 (lP a1))), (24, .d false), (30, .v (vb true)), (2000, .l (.brk 0) ⟨fr 160 g6 [(1, .ptr 0 0)], [bG a1]⟩), (2004, .l .ret ⟨fr 160 g7 [(2, i6 160)], y7⟩), (6000, .d true)] (apc (lg a1.sorts eStr 1) (av h1 (apc (lg a1.sorts eStr 1) (av h2 (apc (lg a1.prods eProd 7) (av h3 (apc q6 (apc q7 (apc q8 (apc ((oK (ac rfl)) : okT 1 [bG a1] = true) (apc (e7 : L12_4_e a1 0 = some (.ret, ⟨fr 160 g7 [(2, i6 160)], y7⟩)) apn))))))))))) rfl (by kernel_rfl)
      | k1 =>
       obtain ⟨g7, e7⟩ := L12_4_run a1 0 _ h7
       have q9 := ((oK (ac rfl)) : okT 1 [bG a1] = true)
       have q10 := (e7 : L12_4_e a1 0 = some ((.brk 4), ⟨fr 160 g7 [(1, .ptr 0 0)], [bG a1]⟩))
       refine bn h fun r8 h8 h => ?_
       cases r8 with
       | k0 =>
        obtain ⟨g8, y8, e8⟩ := L12_3_run a1 0 _ h8
        rw [← sj h]
        exact fpr [(12, .v (i6 (lS a1))), (13, .d false), (17, .v (i6 (lS a1))), (18, .d false), (23, .v (i6 (lP a1))), (24, .d false), (30, .v (vb true)), (2000, .l (.brk 0) ⟨fr 160 g6 [(1, .ptr 0 0)], [bG a1]⟩), (2004, .l (.brk 4) ⟨fr 160 g7 [(1, .ptr 0 0)], [bG a1]⟩), (2006, .l .ret ⟨fr 160 g8 [(2, i6 160)], y8⟩), (6000, .d true)] (apc (lg a1.sorts eStr 1) (av h1 (apc (lg a1.sorts eStr 1) (av h2 (apc (lg a1.prods eProd 7) (av h3 (apc q6 (apc q7 (apc q8 (apc q9 (apc q10 (apc ((oK (ac rfl)) : okT 1 [bG a1] = true) (apc (e8 : L12_3_e a1 0 = some (.ret, ⟨fr 160 g8 [(2, i6 160)], y8⟩)) apn))))))))))))) rfl (by kernel_rfl)
       | k1 =>
        obtain ⟨g8, e8⟩ := L12_3_run a1 0 _ h8
        have q11 := ((oK (ac rfl)) : okT 1 [bG a1] = true)
        have q12 := (e8 : L12_3_e a1 0 = some ((.brk 6), ⟨fr 160 g8 [(1, .ptr 0 0)], [bG a1]⟩))
        refine bn h fun r9 h9 h => ?_
        cases r9 with
        | k0 =>
         obtain ⟨g9, y9, e9⟩ := L12_1_run a1 0 _ h9
         rw [← sj h]
         exact fpr [(12, .v (i6 (lS a1))), (13, .d false), (17, .v (i6 (lS a1))), (18, .d false), (23, .v (i6 (lP a1))), (24, .d false), (30, .v (vb true)), (2000, .l (.brk 0) ⟨fr 160 g6 [(1, .ptr 0 0)], [bG a1]⟩), (2004, .l (.brk 4) ⟨fr 160 g7 [(1, .ptr 0 0)], [bG a1]⟩), (2006, .l (.brk 6) ⟨fr 160 g8 [(1, .ptr 0 0)], [bG a1]⟩), (2010, .l .ret ⟨fr 160 g9 [(2, i6 160)], y9⟩), (6000, .d true)] (apc (lg a1.sorts eStr 1) (av h1 (apc (lg a1.sorts eStr 1) (av h2 (apc (lg a1.prods eProd 7) (av h3 (apc q6 (apc q7 (apc q8 (apc q9 (apc q10 (apc q11 (apc q12 (apc ((oK (ac rfl)) : okT 1 [bG a1] = true) (apc (e9 : L12_1_e a1 0 = some (.ret, ⟨fr 160 g9 [(2, i6 160)], y9⟩)) apn))))))))))))))) rfl (by kernel_rfl)
        | k1 =>
         obtain ⟨g9, e9⟩ := L12_1_run a1 0 _ h9
         rw [← sj h]
         exact fpr [(12, .v (i6 (lS a1))), (13, .d false), (17, .v (i6 (lS a1))), (18, .d false), (23, .v (i6 (lP a1))), (24, .d false), (30, .v (vb true)), (2000, .l (.brk 0) ⟨fr 160 g6 [(1, .ptr 0 0)], [bG a1]⟩), (2004, .l (.brk 4) ⟨fr 160 g7 [(1, .ptr 0 0)], [bG a1]⟩), (2006, .l (.brk 6) ⟨fr 160 g8 [(1, .ptr 0 0)], [bG a1]⟩), (2010, .l (.brk 10) ⟨fr 160 g9 [(1, .ptr 0 0)], [bG a1]⟩), (6000, .d true)] (apc (lg a1.sorts eStr 1) (av h1 (apc (lg a1.sorts eStr 1) (av h2 (apc (lg a1.prods eProd 7) (av h3 (apc q6 (apc q7 (apc q8 (apc q9 (apc q10 (apc q11 (apc q12 (apc ((oK (ac rfl)) : okT 1 [bG a1] = true) (apc (e9 : L12_1_e a1 0 = some ((.brk 10), ⟨fr 160 g9 [(1, .ptr 0 0)], [bG a1]⟩)) apn))))))))))))))) rfl (by kernel_rfl)
    ·
     rw [← sj h]
     exact fpr [(12, .v (i6 (lS a1))), (13, .d false), (17, .v (i6 (lS a1))), (18, .d false), (23, .v (i6 (lP a1))), (24, .d false), (30, .v (vb false))] (apc (lg a1.sorts eStr 1) (av h1 (apc (lg a1.sorts eStr 1) (av h2 (apc (lg a1.prods eProd 7) (av h3 (apc ((((F31_ok a1 h4).cp rfl _).trans (congrArg (fun z => some (vb z)) h5)) : CP prg 31 [aG a1, i6 a1.start] [bG a1] = some (vb false)) apn))))))) rfl (by kernel_rfl)
inductive R_F12_2 where
  | k0
def F12_2_v (r : R_F12_2) : AV := match r with | .k0 => (i6 160)
def F12_2 : Option R_F12_2 :=
  (some (.k0))
theorem F12_2_ok {r : R_F12_2} (h : F12_2 = some r) : PR1 prg 12 [(.agg [n0, n0, i6 0, n0, n0])] (F12_2_v r) := by
 unfold F12_2 at h
 rw [← sj h]
 exact fpr [] apn rfl (by kernel_rfl)
inductive E_L7_0 where
  | k0
section
variable (a1 : GramD) (a2 : TreeD)
def L7_0 : Option (E_L7_0 ⊕ (Unit)) :=
  (bif (decide (0 < (a1.prods.length : Int))) then (some (.inl (.k0))) else (some (.inl (.k0))))
def L7_0_s : St := ⟨fr 98 ug [(2, .ptr 0 0), (3, .ptr 1 0), (5, .ptr 6 0), (7, .sl 7 0 1 0 0), (8, i6 0), (9, i6 0)], [bG a1, .cells 51 ((cT a2).map .p), yS0, yP0, yF0, yW0, .cells 27 [n0, n0, i6 0, n0, n0], yI0]⟩
abbrev L7_0_e := evH prg 8 [2, 3, 5, 7, 8, 9, 5000007] ir7_l0 (L7_0_s a1 a2)
def L7_0_x (e : E_L7_0) (r : Option (Out × St)) : Prop := match e with | .k0 => ∃ g, r = some ((.brk 0), ⟨fr 98 g [(2, .ptr 0 0), (3, .ptr 1 0), (5, .ptr 6 0), (7, .sl 7 0 1 0 0), (8, i6 0)], [bG a1, .cells 51 ((cT a2).map .p), yS0, yP0, yF0, yW0, .cells 27 [n0, n0, i6 0, n0, n0], yI0]⟩)
theorem L7_0_ok {r : E_L7_0 ⊕ (Unit)} (h : L7_0 a1 = some r) : OkR (fun e => L7_0_x a1 a2 e (L7_0_e a1 a2)) (fun s => L7_0_e a1 a2 = L7_0_e a1 a2) r := by
 unfold L7_0 at h
 refine bi h ?_ ?_ <;> intro h1 h
 ·
  rw [← sj h]
  exact xbrk [(49, .v (i6 (lP a1))), (50, .d true), (6000, .d true)] (apc (lg a1.prods eProd 7) (av h1 apn)) (by kernel_rfl)
 ·
  rw [← sj h]
  exact xbrk [(49, .v (i6 (lP a1))), (50, .d false), (6000, .d true)] (apc (lg a1.prods eProd 7) (av h1 apn)) (by kernel_rfl)
theorem L7_0_run (s0 : Unit) (e : E_L7_0) (h : runL (fun s => L7_0 a1) s0 = some e) : L7_0_x a1 a2 e (L7_0_e a1 a2) := by
  have q := @loop_sound' (Unit) E_L7_0 (fun s => L7_0 a1) (fun s => L7_0_e a1 a2) (L7_0_x a1 a2) (fun s r h => L7_0_ok a1 a2 h) s0 e h
  exact q
end
inductive R_F22_2 where
  | k0
def F22_2_v (a1 : TreeD) (r : R_F22_2) : AV := match r with | .k0 => (i6 160)
def F22_2 : Option R_F22_2 :=
  ((F12_2).bind fun r1 => match r1 with | .k0 => (some (.k0)))
theorem F22_2_ok (a1 : TreeD) {r : R_F22_2} (h : F22_2 = some r) : PR1 prg 22 [(.agg [n0, n0, i6 0, n0, n0]), (.agg ((cT a1).map .p))] (F22_2_v a1 r) := by
 unfold F22_2 at h
 refine bn h fun r1 h1 h => ?_
 cases r1 with
 | k0 =>
  rw [← sj h]
  exact fpr [(6, .v (i6 160))] (apc (((F12_2_ok  h1).cp rfl _) : CP prg 12 [(.agg [n0, n0, i6 0, n0, n0])] [.cells 27 [n0, n0, i6 0, n0, n0], .cells 51 ((cT a1).map .p)] = some (i6 160)) apn) rfl (by kernel_rfl)
inductive E_L27_0 where
  | k0
  | k1
section
variable (a1 a2 : GramD) (a3 a4 : ProdD)
def L27_0 (v1 : Int) : Option (E_L27_0 ⊕ (Int)) :=
  (bif (decide (v1 < (a3.right.length : Int))) then ((getI a3.right v1).bind fun x2 => ((getI a4.right v1).bind fun x3 => (bif (x2.kind != x3.kind) then (some (.inl (.k0))) else (bif (!((x2.a == x3.a) && ((x2.b == x3.b) && ((x2.c == x3.c) && ((x2.d == x3.d) && true))))) then (some (.inl (.k0))) else (bif (x2.kind == 1) then ((getI a1.sorts x2.sort).bind fun x7 => ((getI a2.sorts x3.sort).bind fun x8 => (bif (!(x7.toList == x8.toList)) then (some (.inl (.k0))) else (some (.inr ((IntKind.wrap .i64 (v1 + 1)))))))) else (some (.inr ((IntKind.wrap .i64 (v1 + 1)))))))))) else (some (.inl (.k1))))
def L27_0_s (v1 : Int) : St := ⟨fr 118 ug [(4, .ptr 0 0), (5, .ptr 1 0), (6, .ptr 2 0), (7, .ptr 3 0), (9, i6 v1)], [bG a1, bG a2, bP a3, bP a4]⟩
abbrev L27_0_e (v1 : Int) := evH prg 4 [4, 5, 6, 7, 9] ir27_l0 (L27_0_s a1 a2 a3 a4 v1)
def L27_0_x (e : E_L27_0) (r : Option (Out × St)) : Prop := match e with | .k0 => ∃ g y, r = some (.ret, ⟨fr 118 g [(8, vb false)], y⟩) | .k1 => ∃ g, r = some ((.brk 0), ⟨fr 118 g [(4, .ptr 0 0), (5, .ptr 1 0), (6, .ptr 2 0), (7, .ptr 3 0)], [bG a1, bG a2, bP a3, bP a4]⟩)
abbrev L27_0_d0 (x2 x3 : SymD) : List AB := [bG a1, bG a2, bP a3, bP a4, .cells 68 ((eSym x2).map .p), .cells 68 ((eSym x3).map .p)]
theorem L27_0_ok (v1 : Int) {r : E_L27_0 ⊕ (Int)} (h : L27_0 a1 a2 a3 a4 v1 = some r) : OkR (fun e => L27_0_x a1 a2 a3 a4 e (L27_0_e a1 a2 a3 a4 v1)) (fun s => L27_0_e a1 a2 a3 a4 v1 = L27_0_e a1 a2 a3 a4 s) r := by
 unfold L27_0 at h
 refine bi h ?_ ?_ <;> intro h1 h
 ·
  refine bn h fun x2 h2 h => ?_
  refine bn h fun x3 h3 h => ?_
  refine bi h ?_ ?_ <;> intro h4 h
  ·
   rw [← sj h]
   exact xretY [(72, .v (i6 (a3.right.length : Int))), (73, .d true), (79, .v (.ro (eSym x2))), (84, .v (.ro (eSym x3))), (90, .d true), (6000, .d true)] (apc (lg a3.right eSym 6) (av h1 (apc (ig eSym 6 .i64 h2) (apc (ig eSym 6 .i64 h3) (av h4 apn))))) (by kernel_rfl)
  ·
   refine bi h ?_ ?_ <;> intro h5 h
   ·
    rw [← sj h]
    exact xretY [(72, .v (i6 (a3.right.length : Int))), (73, .d true), (79, .v (.ro (eSym x2))), (84, .v (.ro (eSym x3))), (90, .d false), (96, .d true), (6000, .d true)] (apc (lg a3.right eSym 6) (av h1 (apc (ig eSym 6 .i64 h2) (apc (ig eSym 6 .i64 h3) (av h4 (av h5 apn)))))) (by kernel_rfl)
   ·
    refine bi h ?_ ?_ <;> intro h6 h
    ·
     refine bn h fun x7 h7 h => ?_
     refine bn h fun x8 h8 h => ?_
     refine bi h ?_ ?_ <;> intro h9 h
     ·
      rw [← sj h]
      exact xretY [(72, .v (i6 (a3.right.length : Int))), (73, .d true), (79, .v (.ro (eSym x2))), (84, .v (.ro (eSym x3))), (90, .d false), (96, .d false), (101, .d true), (107, .v (.ro [.val (.string x7)])), (113, .v (.ro [.val (.string x8)])), (115, .d true), (6000, .d true)] (apc (lg a3.right eSym 6) (av h1 (apc (ig eSym 6 .i64 h2) (apc (ig eSym 6 .i64 h3) (av h4 (av h5 (av h6 (apc (ig eStr 1 .i64 h7) (apc (ig eStr 1 .i64 h8) (av h9 apn)))))))))) (by kernel_rfl)
     ·
      rw [← sj h]
      exact rnd [(72, .v (i6 (a3.right.length : Int))), (73, .d true), (79, .v (.ro (eSym x2))), (84, .v (.ro (eSym x3))), (90, .d false), (96, .d false), (101, .d true), (107, .v (.ro [.val (.string x7)])), (113, .v (.ro [.val (.string x8)])), (115, .d false), (6000, .d true)] (apc (lg a3.right eSym 6) (av h1 (apc (ig eSym 6 .i64 h2) (apc (ig eSym 6 .i64 h3) (av h4 (av h5 (av h6 (apc (ig eStr 1 .i64 h7) (apc (ig eStr 1 .i64 h8) (av h9 (apc ((oK (ac (ac (ac (ac rfl))))) : okT 4 (L27_0_d0 a1 a2 a3 a4 x2 x3) = true) apn))))))))))) (by kernel_rfl)
    ·
     rw [← sj h]
     exact rnd [(72, .v (i6 (a3.right.length : Int))), (73, .d true), (79, .v (.ro (eSym x2))), (84, .v (.ro (eSym x3))), (90, .d false), (96, .d false), (101, .d false), (6000, .d true)] (apc (lg a3.right eSym 6) (av h1 (apc (ig eSym 6 .i64 h2) (apc (ig eSym 6 .i64 h3) (av h4 (av h5 (av h6 (apc ((oK (ac (ac (ac (ac rfl))))) : okT 4 (L27_0_d0 a1 a2 a3 a4 x2 x3) = true) apn)))))))) (by kernel_rfl)
 ·
  rw [← sj h]
  exact xbrk [(72, .v (i6 (a3.right.length : Int))), (73, .d false), (6000, .d true)] (apc (lg a3.right eSym 6) (av h1 apn)) (by kernel_rfl)
theorem L27_0_run (s0 : Int) (e : E_L27_0) (h : runL (fun s => L27_0 a1 a2 a3 a4 s) s0 = some e) : L27_0_x a1 a2 a3 a4 e (L27_0_e a1 a2 a3 a4 s0) := by
  have q := @loop_sound' (Int) E_L27_0 (fun s => L27_0 a1 a2 a3 a4 s) (fun s => L27_0_e a1 a2 a3 a4 s) (L27_0_x a1 a2 a3 a4) (fun s r h => L27_0_ok a1 a2 a3 a4 s h) s0 e h
  exact q
end
def F27_v (a1 a2 : GramD) (a3 a4 : ProdD) (x0 : Bool) : AV := (vb x0)
def F27 (a1 a2 : GramD) (a3 a4 : ProdD) : Option Bool :=
  ((getI a1.sorts a3.left).bind fun x1 => ((getI a2.sorts a4.left).bind fun x2 => (bif (!(x1.toList == x2.toList)) then (some false) else (bif (!(a3.cons.toList == a4.cons.toList)) then (some false) else (bif (a3.role != a4.role) then (some false) else (bif ((a3.right.length : Int) != (a4.right.length : Int)) then (some false) else (bif (a3.frm != a4.frm) then (some false) else (bif (!((a3.prefer == a4.prefer) && true)) then (some false) else (bif (!((a3.avoid == a4.avoid) && true)) then (some false) else ((runL (fun s => L27_0 a1 a2 a3 a4 s) 0).bind fun r10 => match r10 with | .k0 => (some false) | .k1 => (some true)))))))))))
abbrev F27_d0 (a1 a2 : GramD) (a3 a4 : ProdD) : List AB := [bG a1, bG a2, bP a3, bP a4]
abbrev F27_d1 (g10 : Nat → AV) (a1 a2 : GramD) (a3 a4 : ProdD) : St := ⟨fr 118 g10 [(4, .ptr 0 0), (5, .ptr 1 0), (6, .ptr 2 0), (7, .ptr 3 0)], [bG a1, bG a2, bP a3, bP a4]⟩
abbrev F27_c0 (a3 a4 : ProdD) : List (Nat × Hint) := [(37, .d false), (42, .v (i6 (a3.right.length : Int))), (45, .v (i6 (a4.right.length : Int)))]
theorem F27_ok (a1 a2 : GramD) (a3 a4 : ProdD) {r : Bool} (h : F27 a1 a2 a3 a4 = some r) : PR1 prg 27 [aG a1, aG a2, aP a3, aP a4] (F27_v a1 a2 a3 a4 r) := by
 unfold F27 at h
 refine bn h fun x1 h1 h => ?_
 refine bn h fun x2 h2 h => ?_
 refine bi h ?_ ?_ <;> intro h3 h
 ·
  rw [← sj h]
  exact fpr [(16, .v (.ro [.val (.string x1)])), (22, .v (.ro [.val (.string x2)])), (24, .d true)] (apc (ig eStr 1 .i64 h1) (apc (ig eStr 1 .i64 h2) (av h3 apn))) rfl (by kernel_rfl)
 ·
  refine bi h ?_ ?_ <;> intro h4 h
  ·
   rw [← sj h]
   exact fpr [(16, .v (.ro [.val (.string x1)])), (22, .v (.ro [.val (.string x2)])), (24, .d false), (30, .d true)] (apc (ig eStr 1 .i64 h1) (apc (ig eStr 1 .i64 h2) (av h3 (av h4 apn)))) rfl (by kernel_rfl)
  ·
   refine bi h ?_ ?_ <;> intro h5 h
   ·
    rw [← sj h]
    exact fpr [(16, .v (.ro [.val (.string x1)])), (22, .v (.ro [.val (.string x2)])), (24, .d false), (30, .d false), (37, .d true)] (apc (ig eStr 1 .i64 h1) (apc (ig eStr 1 .i64 h2) (av h3 (av h4 (av h5 apn))))) rfl (by kernel_rfl)
   ·
    refine bi h ?_ ?_ <;> intro h6 h
    ·
     rw [← sj h]
     exact fpr ([(16, .v (.ro [.val (.string x1)])), (22, .v (.ro [.val (.string x2)])), (24, .d false), (30, .d false)] ++ ((F27_c0 a3 a4) ++ [(46, .d true)])) (apc (ig eStr 1 .i64 h1) (apc (ig eStr 1 .i64 h2) (av h3 (av h4 (av h5 (apc (lg a3.right eSym 6) (apc (lg a4.right eSym 6) (av h6 apn)))))))) rfl (by kernel_rfl)
    ·
     refine bi h ?_ ?_ <;> intro h7 h
     ·
      rw [← sj h]
      exact fpr ([(16, .v (.ro [.val (.string x1)])), (22, .v (.ro [.val (.string x2)])), (24, .d false), (30, .d false)] ++ ((F27_c0 a3 a4) ++ [(46, .d false), (53, .d true)])) (apc (ig eStr 1 .i64 h1) (apc (ig eStr 1 .i64 h2) (av h3 (av h4 (av h5 (apc (lg a3.right eSym 6) (apc (lg a4.right eSym 6) (av h6 (av h7 apn))))))))) rfl (by kernel_rfl)
     ·
      refine bi h ?_ ?_ <;> intro h8 h
      ·
       rw [← sj h]
       exact fpr ([(16, .v (.ro [.val (.string x1)])), (22, .v (.ro [.val (.string x2)])), (24, .d false), (30, .d false)] ++ ((F27_c0 a3 a4) ++ [(46, .d false), (53, .d false), (60, .d true)])) (apc (ig eStr 1 .i64 h1) (apc (ig eStr 1 .i64 h2) (av h3 (av h4 (av h5 (apc (lg a3.right eSym 6) (apc (lg a4.right eSym 6) (av h6 (av h7 (av h8 apn)))))))))) rfl (by kernel_rfl)
      ·
       refine bi h ?_ ?_ <;> intro h9 h
       ·
        rw [← sj h]
        exact fpr ([(16, .v (.ro [.val (.string x1)])), (22, .v (.ro [.val (.string x2)])), (24, .d false), (30, .d false)] ++ ((F27_c0 a3 a4) ++ [(46, .d false), (53, .d false), (60, .d false), (67, .d true)])) (apc (ig eStr 1 .i64 h1) (apc (ig eStr 1 .i64 h2) (av h3 (av h4 (av h5 (apc (lg a3.right eSym 6) (apc (lg a4.right eSym 6) (av h6 (av h7 (av h8 (av h9 apn))))))))))) rfl (by kernel_rfl)
       ·
        refine bn h fun r10 h10 h => ?_
        cases r10 with
        | k0 =>
         obtain ⟨g10, y10, e10⟩ := L27_0_run a1 a2 a3 a4 0 _ h10
         rw [← sj h]
         exact fpr ([(16, .v (.ro [.val (.string x1)])), (22, .v (.ro [.val (.string x2)])), (24, .d false), (30, .d false)] ++ ((F27_c0 a3 a4) ++ [(46, .d false), (53, .d false), (60, .d false), (67, .d false), (2000, .l .ret ⟨fr 118 g10 [(8, vb false)], y10⟩), (6000, .d true)])) (apc (ig eStr 1 .i64 h1) (apc (ig eStr 1 .i64 h2) (av h3 (av h4 (av h5 (apc (lg a3.right eSym 6) (apc (lg a4.right eSym 6) (av h6 (av h7 (av h8 (av h9 (apc ((oK (ac (ac (ac (ac rfl))))) : okT 4 (F27_d0 a1 a2 a3 a4) = true) (apc (e10 : L27_0_e a1 a2 a3 a4 0 = some (.ret, ⟨fr 118 g10 [(8, vb false)], y10⟩)) apn))))))))))))) rfl (by kernel_rfl)
        | k1 =>
         obtain ⟨g10, e10⟩ := L27_0_run a1 a2 a3 a4 0 _ h10
         rw [← sj h]
         exact fpr ([(16, .v (.ro [.val (.string x1)])), (22, .v (.ro [.val (.string x2)])), (24, .d false), (30, .d false)] ++ ((F27_c0 a3 a4) ++ [(46, .d false), (53, .d false), (60, .d false), (67, .d false), (2000, .l (.brk 0) (F27_d1 g10 a1 a2 a3 a4)), (6000, .d true)])) (apc (ig eStr 1 .i64 h1) (apc (ig eStr 1 .i64 h2) (av h3 (av h4 (av h5 (apc (lg a3.right eSym 6) (apc (lg a4.right eSym 6) (av h6 (av h7 (av h8 (av h9 (apc ((oK (ac (ac (ac (ac rfl))))) : okT 4 (F27_d0 a1 a2 a3 a4) = true) (apc (e10 : L27_0_e a1 a2 a3 a4 0 = some ((.brk 0), F27_d1 g10 a1 a2 a3 a4)) apn))))))))))))) rfl (by kernel_rfl)
inductive E_L7_0_2 where
  | k0 (x0 x1 : Nat) (x2 : Int) (x3 : List Int)
section
variable (a1 : GramD) (a2 : TreeD) (a3 : List ByteArray) (a4 : List ProdD) (a5 : Int) (a6 : List ForbD) (a7 : List FollD)
def L7_0_2 (v1 v2 : Nat) (v3 v4 : Int) (v5 : List Int) : Option (E_L7_0_2 ⊕ (Nat × Nat × Int × Int × (List Int))) :=
  (bif (decide (v4 < (a1.prods.length : Int))) then (bif (decide (v3 < (a4.length : Int))) then ((getI a1.prods v4).bind fun x3 => ((getI a4 v3).bind fun x4 => ((F27 a1 (⟨a3, a4, a5, a6, a7⟩ : GramD) x3 x4).bind fun x5 => (bif x5 then (bif (apOk v2 1 v5.length 8) then (bif (decide (v2 + 1 ≤ v5.length)) then (some (.inr (v1, v2 + 1, (IntKind.wrap .i64 (v3 + 1)), (IntKind.wrap .i64 (v4 + 1)), (splice v5 v2 [v4])))) else (some (.inr ((v1 + 1), v2 + 1, (IntKind.wrap .i64 (v3 + 1)), (IntKind.wrap .i64 (v4 + 1)), (v5.take v2 ++ [v4]))))) else none) else (some (.inr (v1, v2, v3, (IntKind.wrap .i64 (v4 + 1)), v5))))))) else (some (.inl (.k0 v1 v2 v3 v5)))) else (some (.inl (.k0 v1 v2 v3 v5))))
def L7_0_2_s (v1 v2 : Nat) (v3 v4 : Int) (v5 : List Int) : St := ⟨fr 98 ug [(2, .ptr 0 0), (3, .ptr 1 0), (5, .ptr 6 0), (7, .sl 7 v1 1 0 v2), (8, i6 v3), (9, i6 v4)], [bG a1, .cells 51 ((cT a2).map .p), yS0, yP0, yF0, yW0, cH a3 a4 a5 a6 a7, yI v1 v5]⟩
abbrev L7_0_2_e (v1 v2 : Nat) (v3 v4 : Int) (v5 : List Int) := evH prg 8 [2, 3, 5, 7, 8, 9, 5000007] ir7_l0 (L7_0_2_s a1 a2 a3 a4 a5 a6 a7 v1 v2 v3 v4 v5)
def L7_0_2_x (e : E_L7_0_2) (r : Option (Out × St)) : Prop := match e with | .k0 x0 x1 x2 x3 => ∃ g, r = some ((.brk 0), ⟨fr 98 g [(2, .ptr 0 0), (3, .ptr 1 0), (5, .ptr 6 0), (7, .sl 7 x0 1 0 x1), (8, i6 x2)], [bG a1, .cells 51 ((cT a2).map .p), yS0, yP0, yF0, yW0, cH a3 a4 a5 a6 a7, yI x0 x3]⟩)
abbrev L7_0_2_d0 (v1 : Nat) (v5 : List Int) : List AB := [bG a1, .cells 51 ((cT a2).map .p), yS0, yP0, yF0, yW0, cH a3 a4 a5 a6 a7, yI v1 v5]
abbrev L7_0_2_d1 (v1 : Nat) (v5 : List Int) (v2 : Nat) (v4 : Int) : List AB := [bG a1, .cells 51 ((cT a2).map .p), yS0, yP0, yF0, yW0, cH a3 a4 a5 a6 a7, yI v1 (splice v5 v2 [v4]), .row 3 1 0 [[i6 v4]]]
abbrev L7_0_2_d2 (v1 : Nat) (v5 : List Int) (v4 : Int) : List AB := [bG a1, .cells 51 ((cT a2).map .p), yS0, yP0, yF0, yW0, cH a3 a4 a5 a6 a7, yI v1 v5, .row 3 1 0 [[i6 v4]]]
abbrev L7_0_2_d3 (v1 : Nat) (v5 : List Int) (v2 : Nat) (v4 : Int) : List AB := [bG a1, .cells 51 ((cT a2).map .p), yS0, yP0, yF0, yW0, cH a3 a4 a5 a6 a7, yI (v1 + 1) (v5.take v2 ++ [v4]), .row 3 1 0 [[i6 v4]]]
theorem L7_0_2_ok (v1 v2 : Nat) (v3 v4 : Int) (v5 : List Int) {r : E_L7_0_2 ⊕ (Nat × Nat × Int × Int × (List Int))} (h : L7_0_2 a1 a3 a4 a5 a6 a7 v1 v2 v3 v4 v5 = some r) : OkR (fun e => L7_0_2_x a1 a2 a3 a4 a5 a6 a7 e (L7_0_2_e a1 a2 a3 a4 a5 a6 a7 v1 v2 v3 v4 v5)) (fun s => L7_0_2_e a1 a2 a3 a4 a5 a6 a7 v1 v2 v3 v4 v5 = L7_0_2_e a1 a2 a3 a4 a5 a6 a7 s.1 s.2.1 s.2.2.1 s.2.2.2.1 s.2.2.2.2) r := by
 unfold L7_0_2 at h
 refine bi h ?_ ?_ <;> intro h1 h
 ·
  refine bi h ?_ ?_ <;> intro h2 h
  ·
   refine bn h fun x3 h3 h => ?_
   refine bn h fun x4 h4 h => ?_
   refine bn h fun x5 h5 h => ?_
   refine bi h ?_ ?_ <;> intro h6 h
   ·
    have q6 := ((((F27_ok a1 (⟨a3, a4, a5, a6, a7⟩ : GramD) x3 x4 h5).cp rfl _).trans (congrArg (fun z => some (vb z)) h6)) : CP prg 27 [aG a1, aH a3 a4 a5 a6 a7, aP x3, aP x4] (L7_0_2_d0 a1 a2 a3 a4 a5 a6 a7 v1 v5) = some (vb true))
    refine bi h ?_ ?_ <;> intro h7 h
    ·
     refine bi h ?_ ?_ <;> intro h8 h
     ·
      rw [← sj h]
      exact rnd [(49, .v (i6 (lP a1))), (50, .d true), (55, .v (i6 (a4.length : Int))), (56, .d true), (65, .v (.ro (eProd x3))), (70, .v (.ro (eProd x4))), (72, .v (vb true)), (76, .r (.sl 7 v1 1 0 (v2 + 1)) (L7_0_2_d1 a1 a2 a3 a4 a5 a6 a7 v1 v5 v2 v4)), (6000, .d true)] (apc (lg a1.prods eProd 7) (av h1 (apc (lg a4 eProd 7) (av h2 (apc (ig eProd 7 .i64 h3) (apc (ig eProd 7 .i64 h4) (apc q6 (apc ((ap_in (e := eI64) (xs := v5) (news := [v4]) rfl (rows_x (e := eI64) (xs := [v4]) rfl) rfl h7 h8) : appA (L7_0_2_d2 a1 a2 a3 a4 a5 a6 a7 v1 v5 v4) 3 1 8 (.sl 7 v1 1 0 v2) (.sl 8 0 1 0 1) = some ((.sl 7 v1 1 0 (v2 + 1)), L7_0_2_d1 a1 a2 a3 a4 a5 a6 a7 v1 v5 v2 v4)) (apc ((oK (ac (ac (ar (ar (ar (ar (ac (ar rfl))))))))) : okT 8 (L7_0_2_d1 a1 a2 a3 a4 a5 a6 a7 v1 v5 v2 v4) = true) apn))))))))) (by kernel_rfl)
     ·
      rw [← sj h]
      exact rnd [(49, .v (i6 (lP a1))), (50, .d true), (55, .v (i6 (a4.length : Int))), (56, .d true), (65, .v (.ro (eProd x3))), (70, .v (.ro (eProd x4))), (72, .v (vb true)), (76, .r (.sl 7 (v1 + 1) 1 0 (v2 + 1)) (L7_0_2_d3 a1 a2 a3 a4 a5 a6 a7 v1 v5 v2 v4)), (6000, .d true)] (apc (lg a1.prods eProd 7) (av h1 (apc (lg a4 eProd 7) (av h2 (apc (ig eProd 7 .i64 h3) (apc (ig eProd 7 .i64 h4) (apc q6 (apc ((ap_out (e := eI64) (xs := v5) (news := [v4]) rfl (rows_x (e := eI64) (xs := [v4]) rfl) rfl h7 h8) : appA (L7_0_2_d2 a1 a2 a3 a4 a5 a6 a7 v1 v5 v4) 3 1 8 (.sl 7 v1 1 0 v2) (.sl 8 0 1 0 1) = some ((.sl 7 (v1 + 1) 1 0 (v2 + 1)), L7_0_2_d3 a1 a2 a3 a4 a5 a6 a7 v1 v5 v2 v4)) (apc ((oK (ac (ac (ar (ar (ar (ar (ac (ar rfl))))))))) : okT 8 (L7_0_2_d3 a1 a2 a3 a4 a5 a6 a7 v1 v5 v2 v4) = true) apn))))))))) (by kernel_rfl)
    ·
     cases h
   ·
    rw [← sj h]
    exact rnd [(49, .v (i6 (lP a1))), (50, .d true), (55, .v (i6 (a4.length : Int))), (56, .d true), (65, .v (.ro (eProd x3))), (70, .v (.ro (eProd x4))), (72, .v (vb false)), (6000, .d true)] (apc (lg a1.prods eProd 7) (av h1 (apc (lg a4 eProd 7) (av h2 (apc (ig eProd 7 .i64 h3) (apc (ig eProd 7 .i64 h4) (apc ((((F27_ok a1 (⟨a3, a4, a5, a6, a7⟩ : GramD) x3 x4 h5).cp rfl _).trans (congrArg (fun z => some (vb z)) h6)) : CP prg 27 [aG a1, aH a3 a4 a5 a6 a7, aP x3, aP x4] (L7_0_2_d0 a1 a2 a3 a4 a5 a6 a7 v1 v5) = some (vb false)) (apc ((oK (ac (ac (ar (ar (ar (ar (ac (ar rfl))))))))) : okT 8 (L7_0_2_d0 a1 a2 a3 a4 a5 a6 a7 v1 v5) = true) apn)))))))) (by kernel_rfl)
  ·
   rw [← sj h]
   exact xbrk [(49, .v (i6 (lP a1))), (50, .d true), (55, .v (i6 (a4.length : Int))), (56, .d false), (6000, .d true)] (apc (lg a1.prods eProd 7) (av h1 (apc (lg a4 eProd 7) (av h2 apn)))) (by kernel_rfl)
 ·
  rw [← sj h]
  exact xbrk [(49, .v (i6 (lP a1))), (50, .d false), (6000, .d true)] (apc (lg a1.prods eProd 7) (av h1 apn)) (by kernel_rfl)
theorem L7_0_2_run (s0 : Nat × Nat × Int × Int × (List Int)) (e : E_L7_0_2) (h : runL (fun s => L7_0_2 a1 a3 a4 a5 a6 a7 s.1 s.2.1 s.2.2.1 s.2.2.2.1 s.2.2.2.2) s0 = some e) : L7_0_2_x a1 a2 a3 a4 a5 a6 a7 e (L7_0_2_e a1 a2 a3 a4 a5 a6 a7 s0.1 s0.2.1 s0.2.2.1 s0.2.2.2.1 s0.2.2.2.2) := by
  have q := @loop_sound' (Nat × Nat × Int × Int × (List Int)) E_L7_0_2 (fun s => L7_0_2 a1 a3 a4 a5 a6 a7 s.1 s.2.1 s.2.2.1 s.2.2.2.1 s.2.2.2.2) (fun s => L7_0_2_e a1 a2 a3 a4 a5 a6 a7 s.1 s.2.1 s.2.2.1 s.2.2.2.1 s.2.2.2.2) (L7_0_2_x a1 a2 a3 a4 a5 a6 a7) (fun s r h => L7_0_2_ok a1 a2 a3 a4 a5 a6 a7 s.1 s.2.1 s.2.2.1 s.2.2.2.1 s.2.2.2.2 h) s0 e h
  exact q
end
def F51_2_v (a1 : TreeD) (a2 : Int) (x0 : Bool) : AV := (vb x0)
abbrev T_F51_2 := TreeD → Int → Option Bool
abbrev H_F51_2 (f : T_F51_2) : Prop := ∀ (a1 : TreeD) (a2 : Int) {r : Bool}, f a1 a2 = some r → PR1 prg 51 [(.agg ((cT a1).map .p)), i6 a2] (F51_2_v a1 a2 r)
inductive E_L51_0_2 where
  | k0
  | k1
def L51_0_2 (rF51_2 : T_F51_2) (a1 : Int) (a2 : TreeD) (v1 : Int) : Option (E_L51_0_2 ⊕ (Int)) :=
  (bif (decide (v1 < (a2.kids.length : Int))) then ((getI a2.kids v1).bind fun x2 => ((rF51_2 x2 (IntKind.wrap .i64 (a1 - 1))).bind fun x3 => (bif x3 then (some (.inl (.k0))) else (some (.inr ((IntKind.wrap .i64 (v1 + 1)))))))) else (some (.inl (.k1))))
def L51_0_2_s (a1 : Int) (a2 : TreeD) (v1 : Int) : St := ⟨fr 23 ug [(1, i6 a1), (2, .ptr 0 0), (5, i6 v1)], [.cells 51 ((cT a2).map .p)]⟩
abbrev L51_0_2_e (a1 : Int) (a2 : TreeD) (v1 : Int) := evH prg 1 [1, 2, 5] ir51_l0 (L51_0_2_s a1 a2 v1)
def L51_0_2_x (a1 : Int) (a2 : TreeD) (e : E_L51_0_2) (r : Option (Out × St)) : Prop := match e with | .k0 => ∃ g y, r = some (.ret, ⟨fr 23 g [(4, vb true)], y⟩) | .k1 => ∃ g, r = some ((.brk 0), ⟨fr 23 g [(1, i6 a1)], [.cells 51 ((cT a2).map .p)]⟩)
theorem L51_0_2_ok (rF51_2 : T_F51_2) (hF51_2 : H_F51_2 rF51_2) (a1 : Int) (a2 : TreeD) (v1 : Int) {r : E_L51_0_2 ⊕ (Int)} (h : L51_0_2 rF51_2 a1 a2 v1 = some r) : OkR (fun e => L51_0_2_x a1 a2 e (L51_0_2_e a1 a2 v1)) (fun s => L51_0_2_e a1 a2 v1 = L51_0_2_e a1 a2 s) r := by
 unfold L51_0_2 at h
 have q0 := ((lgr tr_map) : lnA (.p (.lst 3 (eTrees a2.kids))) = some (i6 (a2.kids.length : Int)))
 refine bi h ?_ ?_ <;> intro h1 h
 ·
  refine bn h fun x2 h2 h => ?_
  have q2 := ((igr tr_map h2) : idxA 3 (.p (.lst 3 (eTrees a2.kids))) (i6 v1) = some (.ro (cT x2)))
  refine bn h fun x3 h3 h => ?_
  refine bi h ?_ ?_ <;> intro h4 h
  ·
   rw [← sj h]
   exact xretY [(11, .v (i6 (a2.kids.length : Int))), (12, .d true), (18, .v (.ro (cT x2))), (22, .v (vb true)), (6000, .d true)] (apc q0 (av h1 (apc q2 (apc ((((hF51_2 x2 (w6 (a1 - 1)) h3).cp rfl _).trans (congrArg (fun z => some (vb z)) h4)) : CP prg 51 [(.agg ((cT x2).map .p)), (i6 (w6 (a1 - 1)))] [.cells 51 ((cT a2).map .p)] = some (vb true)) apn)))) (by kernel_rfl)
  ·
   rw [← sj h]
   exact rnd [(11, .v (i6 (a2.kids.length : Int))), (12, .d true), (18, .v (.ro (cT x2))), (22, .v (vb false)), (6000, .d true)] (apc q0 (av h1 (apc q2 (apc ((((hF51_2 x2 (w6 (a1 - 1)) h3).cp rfl _).trans (congrArg (fun z => some (vb z)) h4)) : CP prg 51 [(.agg ((cT x2).map .p)), (i6 (w6 (a1 - 1)))] [.cells 51 ((cT a2).map .p)] = some (vb false)) (apc ((oK (ac rfl)) : okT 1 [.cells 51 ((cT a2).map .p)] = true) apn))))) (by kernel_rfl)
 ·
  rw [← sj h]
  exact xbrk [(11, .v (i6 (a2.kids.length : Int))), (12, .d false), (6000, .d true)] (apc q0 (av h1 apn)) (by kernel_rfl)
theorem L51_0_2_run (rF51_2 : T_F51_2) (hF51_2 : H_F51_2 rF51_2) (a1 : Int) (a2 : TreeD) (s0 : Int) (e : E_L51_0_2) (h : runL (fun s => L51_0_2 rF51_2 a1 a2 s) s0 = some e) : L51_0_2_x a1 a2 e (L51_0_2_e a1 a2 s0) := by
  have q := @loop_sound' (Int) E_L51_0_2 (fun s => L51_0_2 rF51_2 a1 a2 s) (fun s => L51_0_2_e a1 a2 s) (L51_0_2_x a1 a2) (fun s r h => L51_0_2_ok rF51_2 hF51_2 a1 a2 s h) s0 e h
  exact q
def F51_2_b (rF51_2 : T_F51_2) (a1 : TreeD) (a2 : Int) : Option Bool :=
  (bif (decide (a2 < 1)) then (some true) else ((runL (fun s => L51_0_2 rF51_2 a2 a1 s) 0).bind fun r2 => match r2 with | .k0 => (some true) | .k1 => (some false)))
theorem F51_2_bok (rF51_2 : T_F51_2) (hF51_2 : H_F51_2 rF51_2) (a1 : TreeD) (a2 : Int) {r : Bool} (h : F51_2_b rF51_2 a1 a2 = some r) : PR1 prg 51 [(.agg ((cT a1).map .p)), i6 a2] (F51_2_v a1 a2 r) := by
 unfold F51_2_b at h
 refine bi h ?_ ?_ <;> intro h1 h
 ·
  rw [← sj h]
  exact fpr [(7, .d true)] (av h1 apn) rfl (by kernel_rfl)
 ·
  refine bn h fun r2 h2 h => ?_
  cases r2 with
  | k0 =>
   obtain ⟨g2, y2, e2⟩ := L51_0_2_run rF51_2 hF51_2 a2 a1 0 _ h2
   rw [← sj h]
   exact fpr [(7, .d false), (2000, .l .ret ⟨fr 23 g2 [(4, vb true)], y2⟩), (6000, .d true)] (av h1 (apc ((oK (ac rfl)) : okT 1 [.cells 51 ((cT a1).map .p)] = true) (apc (e2 : L51_0_2_e a2 a1 0 = some (.ret, ⟨fr 23 g2 [(4, vb true)], y2⟩)) apn))) rfl (by kernel_rfl)
  | k1 =>
   obtain ⟨g2, e2⟩ := L51_0_2_run rF51_2 hF51_2 a2 a1 0 _ h2
   rw [← sj h]
   exact fpr [(7, .d false), (2000, .l (.brk 0) ⟨fr 23 g2 [(1, i6 a2)], [.cells 51 ((cT a1).map .p)]⟩), (6000, .d true)] (av h1 (apc ((oK (ac rfl)) : okT 1 [.cells 51 ((cT a1).map .p)] = true) (apc (e2 : L51_0_2_e a2 a1 0 = some ((.brk 0), ⟨fr 23 g2 [(1, i6 a2)], [.cells 51 ((cT a1).map .p)]⟩)) apn))) rfl (by kernel_rfl)
def F51_2 : Nat → T_F51_2
  | 0 => fun _ _ => none
  | Nf + 1 => F51_2_b (F51_2 Nf)
theorem F51_2_ok (Nf : Nat) : H_F51_2 (F51_2 Nf) := by
  induction Nf with
  | zero => intro a1 a2 r h; have h : (none : Option Bool) = some r := h; cases h
  | succ Nf ih => intro a1 a2 r h; exact F51_2_bok (F51_2 Nf) ih a1 a2 h
def F52_v (a1 : GramD) (a2 : SymD) (a3 : TreeD) (x0 : Bool) : AV := (vb x0)
abbrev T_F52 := GramD → SymD → TreeD → Option Bool
abbrev H_F52 (f : T_F52) : Prop := ∀ (a1 : GramD) (a2 : SymD) (a3 : TreeD) {r : Bool}, f a1 a2 a3 = some r → PR1 prg 52 [aG a1, (.agg ((eSym a2).map .p)), (.agg ((cT a3).map .p))] (F52_v a1 a2 a3 r)
def F71_v (a1 : SymD) (a2 : TreeD) (x0 : Bool) : AV := (vb x0)
def F71 (a1 : SymD) (a2 : TreeD) : Option Bool :=
  (bif ((IntKind.wrap .u8 (Int.tdiv a2.byte 64)) == 0) then (bif (decide ((Int.tmod a2.byte 64) < 0)) then none else (some ((Int.tmod (Int.fdiv a1.a (2 ^ (min (Int.toNat (Int.tmod a2.byte 64)) (IntKind.bits .u64)))) 2) == 1))) else (bif ((IntKind.wrap .u8 (Int.tdiv a2.byte 64)) == 1) then (bif (decide ((Int.tmod a2.byte 64) < 0)) then none else (some ((Int.tmod (Int.fdiv a1.b (2 ^ (min (Int.toNat (Int.tmod a2.byte 64)) (IntKind.bits .u64)))) 2) == 1))) else (bif ((IntKind.wrap .u8 (Int.tdiv a2.byte 64)) == 2) then (bif (decide ((Int.tmod a2.byte 64) < 0)) then none else (some ((Int.tmod (Int.fdiv a1.c (2 ^ (min (Int.toNat (Int.tmod a2.byte 64)) (IntKind.bits .u64)))) 2) == 1))) else (bif ((IntKind.wrap .u8 (Int.tdiv a2.byte 64)) == 3) then (bif (decide ((Int.tmod a2.byte 64) < 0)) then none else (some ((Int.tmod (Int.fdiv a1.d (2 ^ (min (Int.toNat (Int.tmod a2.byte 64)) (IntKind.bits .u64)))) 2) == 1))) else none))))
theorem F71_ok (a1 : SymD) (a2 : TreeD) {r : Bool} (h : F71 a1 a2 = some r) : PR1 prg 71 [(.agg ((List.take 4 (List.drop 1 (eSym a1))).map .p)), vi .u8 a2.byte] (F71_v a1 a2 r) := by
 unfold F71 at h
 refine bi h ?_ ?_ <;> intro h1 h
 ·
  have q0 := ((ix_lit h1 (fun z => ixP 4 1 (.ptr 0 0) (vi .u8 z)) rfl) : ixP 4 1 (.ptr 0 0) (vi .u8 (IntKind.wrap .u8 (Int.tdiv a2.byte 64))) = some (.ptr 0 0))
  refine bi h ?_ ?_ <;> intro h2 h
  ·
   cases h
  ·
   rw [← sj h]
   exact fpr [(7, .v (.ptr 0 0)), (11, .v (vi .u64 (Int.fdiv a1.a (2 ^ (min (Int.toNat (Int.tmod a2.byte 64)) (IntKind.bits .u64))))))] (apc q0 (apc ((sh_shr (of_decide_eq_false h2)) : binA .shr (vi .u64 a1.a) (vi .u8 (Int.tmod a2.byte 64)) = some (vi .u64 (Int.fdiv a1.a (2 ^ (min (Int.toNat (Int.tmod a2.byte 64)) (IntKind.bits .u64)))))) apn)) rfl (by kernel_rfl)
 ·
  refine bi h ?_ ?_ <;> intro h2 h
  ·
   have q0 := ((ix_lit h2 (fun z => ixP 4 1 (.ptr 0 0) (vi .u8 z)) rfl) : ixP 4 1 (.ptr 0 0) (vi .u8 (IntKind.wrap .u8 (Int.tdiv a2.byte 64))) = some (.ptr 0 1))
   refine bi h ?_ ?_ <;> intro h3 h
   ·
    cases h
   ·
    rw [← sj h]
    exact fpr [(7, .v (.ptr 0 1)), (11, .v (vi .u64 (Int.fdiv a1.b (2 ^ (min (Int.toNat (Int.tmod a2.byte 64)) (IntKind.bits .u64))))))] (apc q0 (apc ((sh_shr (of_decide_eq_false h3)) : binA .shr (vi .u64 a1.b) (vi .u8 (Int.tmod a2.byte 64)) = some (vi .u64 (Int.fdiv a1.b (2 ^ (min (Int.toNat (Int.tmod a2.byte 64)) (IntKind.bits .u64)))))) apn)) rfl (by kernel_rfl)
  ·
   refine bi h ?_ ?_ <;> intro h3 h
   ·
    have q0 := ((ix_lit h3 (fun z => ixP 4 1 (.ptr 0 0) (vi .u8 z)) rfl) : ixP 4 1 (.ptr 0 0) (vi .u8 (IntKind.wrap .u8 (Int.tdiv a2.byte 64))) = some (.ptr 0 2))
    refine bi h ?_ ?_ <;> intro h4 h
    ·
     cases h
    ·
     rw [← sj h]
     exact fpr [(7, .v (.ptr 0 2)), (11, .v (vi .u64 (Int.fdiv a1.c (2 ^ (min (Int.toNat (Int.tmod a2.byte 64)) (IntKind.bits .u64))))))] (apc q0 (apc ((sh_shr (of_decide_eq_false h4)) : binA .shr (vi .u64 a1.c) (vi .u8 (Int.tmod a2.byte 64)) = some (vi .u64 (Int.fdiv a1.c (2 ^ (min (Int.toNat (Int.tmod a2.byte 64)) (IntKind.bits .u64)))))) apn)) rfl (by kernel_rfl)
   ·
    refine bi h ?_ ?_ <;> intro h4 h
    ·
     have q0 := ((ix_lit h4 (fun z => ixP 4 1 (.ptr 0 0) (vi .u8 z)) rfl) : ixP 4 1 (.ptr 0 0) (vi .u8 (IntKind.wrap .u8 (Int.tdiv a2.byte 64))) = some (.ptr 0 3))
     refine bi h ?_ ?_ <;> intro h5 h
     ·
      cases h
     ·
      rw [← sj h]
      exact fpr [(7, .v (.ptr 0 3)), (11, .v (vi .u64 (Int.fdiv a1.d (2 ^ (min (Int.toNat (Int.tmod a2.byte 64)) (IntKind.bits .u64))))))] (apc q0 (apc ((sh_shr (of_decide_eq_false h5)) : binA .shr (vi .u64 a1.d) (vi .u8 (Int.tmod a2.byte 64)) = some (vi .u64 (Int.fdiv a1.d (2 ^ (min (Int.toNat (Int.tmod a2.byte 64)) (IntKind.bits .u64)))))) apn)) rfl (by kernel_rfl)
    ·
     cases h
inductive E_L52_0 where
  | k0
  | k1
def L52_0 (rF52 : T_F52) (a1 : GramD) (a3 : TreeD) (a4 : ProdD) (v1 : Int) : Option (E_L52_0 ⊕ (Int)) :=
  (bif (decide (v1 < (a3.kids.length : Int))) then ((getI a4.right v1).bind fun x2 => ((getI a3.kids v1).bind fun x3 => ((rF52 a1 x2 x3).bind fun x4 => (bif x4 then (some (.inr ((IntKind.wrap .i64 (v1 + 1))))) else (some (.inl (.k0))))))) else (some (.inl (.k1))))
def L52_0_s (a1 : GramD) (a2 : SymD) (a3 : TreeD) (a4 : ProdD) (v1 : Int) : St := ⟨fr 89 ug [(3, .ptr 0 0), (5, .ptr 2 0), (7, .ptr 4 0), (8, i6 v1)], [bG a1, .cells 68 ((eSym a2).map .p), .cells 51 ((cT a3).map .p), yY0, bP a4]⟩
abbrev L52_0_e (a1 : GramD) (a2 : SymD) (a3 : TreeD) (a4 : ProdD) (v1 : Int) := evH prg 5 [3, 5, 7, 8] ir52_l0 (L52_0_s a1 a2 a3 a4 v1)
def L52_0_x (a1 : GramD) (a2 : SymD) (a3 : TreeD) (a4 : ProdD) (e : E_L52_0) (r : Option (Out × St)) : Prop := match e with | .k0 => ∃ g y, r = some (.ret, ⟨fr 89 g [(6, vb false)], y⟩) | .k1 => ∃ g, r = some ((.brk 0), ⟨fr 89 g [(3, .ptr 0 0), (5, .ptr 2 0), (7, .ptr 4 0)], [bG a1, .cells 68 ((eSym a2).map .p), .cells 51 ((cT a3).map .p), yY0, bP a4]⟩)
abbrev L52_0_d0 (a1 : GramD) (a2 : SymD) (a3 : TreeD) (a4 : ProdD) : List AB := [bG a1, .cells 68 ((eSym a2).map .p), .cells 51 ((cT a3).map .p), yY0, bP a4]
theorem L52_0_ok (rF52 : T_F52) (hF52 : H_F52 rF52) (a1 : GramD) (a2 : SymD) (a3 : TreeD) (a4 : ProdD) (v1 : Int) {r : E_L52_0 ⊕ (Int)} (h : L52_0 rF52 a1 a3 a4 v1 = some r) : OkR (fun e => L52_0_x a1 a2 a3 a4 e (L52_0_e a1 a2 a3 a4 v1)) (fun s => L52_0_e a1 a2 a3 a4 v1 = L52_0_e a1 a2 a3 a4 s) r := by
 unfold L52_0 at h
 have q0 := ((lgr tr_map) : lnA (.p (.lst 3 (eTrees a3.kids))) = some (i6 (a3.kids.length : Int)))
 refine bi h ?_ ?_ <;> intro h1 h
 ·
  refine bn h fun x2 h2 h => ?_
  refine bn h fun x3 h3 h => ?_
  have q3 := ((igr tr_map h3) : idxA 3 (.p (.lst 3 (eTrees a3.kids))) (i6 v1) = some (.ro (cT x3)))
  refine bn h fun x4 h4 h => ?_
  refine bi h ?_ ?_ <;> intro h5 h
  ·
   rw [← sj h]
   exact rnd [(72, .v (i6 (a3.kids.length : Int))), (73, .d true), (80, .v (.ro (eSym x2))), (85, .v (.ro (cT x3))), (87, .v (vb true)), (6000, .d true)] (apc q0 (av h1 (apc (ig eSym 6 .i64 h2) (apc q3 (apc ((((hF52 a1 x2 x3 h4).cp rfl _).trans (congrArg (fun z => some (vb z)) h5)) : CP prg 52 [aG a1, (.agg ((eSym x2).map .p)), (.agg ((cT x3).map .p))] (L52_0_d0 a1 a2 a3 a4) = some (vb true)) (apc ((oK (ac (ac (ac (ar (ac rfl)))))) : okT 5 (L52_0_d0 a1 a2 a3 a4) = true) apn)))))) (by kernel_rfl)
  ·
   rw [← sj h]
   exact xretY [(72, .v (i6 (a3.kids.length : Int))), (73, .d true), (80, .v (.ro (eSym x2))), (85, .v (.ro (cT x3))), (87, .v (vb false)), (6000, .d true)] (apc q0 (av h1 (apc (ig eSym 6 .i64 h2) (apc q3 (apc ((((hF52 a1 x2 x3 h4).cp rfl _).trans (congrArg (fun z => some (vb z)) h5)) : CP prg 52 [aG a1, (.agg ((eSym x2).map .p)), (.agg ((cT x3).map .p))] (L52_0_d0 a1 a2 a3 a4) = some (vb false)) apn))))) (by kernel_rfl)
 ·
  rw [← sj h]
  exact xbrk [(72, .v (i6 (a3.kids.length : Int))), (73, .d false), (6000, .d true)] (apc q0 (av h1 apn)) (by kernel_rfl)
theorem L52_0_run (rF52 : T_F52) (hF52 : H_F52 rF52) (a1 : GramD) (a2 : SymD) (a3 : TreeD) (a4 : ProdD) (s0 : Int) (e : E_L52_0) (h : runL (fun s => L52_0 rF52 a1 a3 a4 s) s0 = some e) : L52_0_x a1 a2 a3 a4 e (L52_0_e a1 a2 a3 a4 s0) := by
  have q := @loop_sound' (Int) E_L52_0 (fun s => L52_0 rF52 a1 a3 a4 s) (fun s => L52_0_e a1 a2 a3 a4 s) (L52_0_x a1 a2 a3 a4) (fun s r h => L52_0_ok rF52 hF52 a1 a2 a3 a4 s h) s0 e h
  exact q
def F52_b (rF52 : T_F52) (a1 : GramD) (a2 : SymD) (a3 : TreeD) : Option Bool :=
  (bif (a2.kind == 0) then (bif (a3.prod == (-1)) then (bif ((a3.kids.length : Int) == 0) then ((F71 a2 a3).bind fun x4 => (some x4)) else (some false)) else (some false)) else (bif (decide (a3.prod < 0)) then (some false) else (bif (decide (a3.prod ≥ (a1.prods.length : Int))) then (some false) else (bif (a3.byte != 0) then (some false) else ((getI a1.prods a3.prod).bind fun x5 => (bif (x5.role == 11) then (some false) else (bif (x5.left != a2.sort) then (some false) else (bif ((x5.right.length : Int) != (a3.kids.length : Int)) then (some false) else ((runL (fun s => L52_0 rF52 a1 a3 x5 s) 0).bind fun r9 => match r9 with | .k0 => (some false) | .k1 => (some true))))))))))
abbrev F52_d0 (a1 : GramD) (a2 : SymD) (a3 : TreeD) (x5 : ProdD) : List AB := [bG a1, .cells 68 ((eSym a2).map .p), .cells 51 ((cT a3).map .p), yY0, bP x5]
abbrev F52_d1 (g9 : Nat → AV) (a1 : GramD) (a2 : SymD) (a3 : TreeD) (x5 : ProdD) : St := ⟨fr 89 g9 [(3, .ptr 0 0), (5, .ptr 2 0), (7, .ptr 4 0)], [bG a1, .cells 68 ((eSym a2).map .p), .cells 51 ((cT a3).map .p), yY0, bP x5]⟩
abbrev F52_c0 (x5 : ProdD) (a3 : TreeD) : List (Nat × Hint) := [(58, .d false), (63, .v (i6 (x5.right.length : Int))), (66, .v (i6 (a3.kids.length : Int)))]
theorem F52_bok (rF52 : T_F52) (hF52 : H_F52 rF52) (a1 : GramD) (a2 : SymD) (a3 : TreeD) {r : Bool} (h : F52_b rF52 a1 a2 a3 = some r) : PR1 prg 52 [aG a1, (.agg ((eSym a2).map .p)), (.agg ((cT a3).map .p))] (F52_v a1 a2 a3 r) := by
 unfold F52_b at h
 refine bi h ?_ ?_ <;> intro h1 h
 ·
  refine bi h ?_ ?_ <;> intro h2 h
  ·
   have q2 := ((lgr tr_map) : lnA (.p (.lst 3 (eTrees a3.kids))) = some (i6 (a3.kids.length : Int)))
   refine bi h ?_ ?_ <;> intro h3 h
   ·
    refine bn h fun x4 h4 h => ?_
    rw [← sj h]
    exact fpr [(11, .d true), (14, .d true), (18, .v (i6 (a3.kids.length : Int))), (19, .d true), (26, .v (vb x4))] (av h1 (av h2 (apc q2 (av h3 (apc (((F71_ok a2 a3 h4).cp rfl _) : CP prg 71 [(.agg ((List.take 4 (List.drop 1 (eSym a2))).map .p)), vi .u8 a3.byte] [bG a1, .cells 68 ((eSym a2).map .p), .cells 51 ((cT a3).map .p)] = some (vb x4)) apn))))) rfl (by kernel_rfl)
   ·
    rw [← sj h]
    exact fpr [(11, .d true), (14, .d true), (18, .v (i6 (a3.kids.length : Int))), (19, .d false)] (av h1 (av h2 (apc q2 (av h3 apn)))) rfl (by kernel_rfl)
  ·
   rw [← sj h]
   exact fpr [(11, .d true), (14, .d false)] (av h1 (av h2 apn)) rfl (by kernel_rfl)
 ·
  refine bi h ?_ ?_ <;> intro h2 h
  ·
   rw [← sj h]
   exact fpr [(11, .d false), (30, .d true)] (av h1 (av h2 apn)) rfl (by kernel_rfl)
  ·
   refine bi h ?_ ?_ <;> intro h3 h
   ·
    rw [← sj h]
    exact fpr [(11, .d false), (30, .d false), (36, .v (i6 (lP a1))), (37, .d true)] (av h1 (av h2 (apc (lg a1.prods eProd 7) (av h3 apn)))) rfl (by kernel_rfl)
   ·
    refine bi h ?_ ?_ <;> intro h4 h
    ·
     rw [← sj h]
     exact fpr [(11, .d false), (30, .d false), (36, .v (i6 (lP a1))), (37, .d false), (42, .d true)] (av h1 (av h2 (apc (lg a1.prods eProd 7) (av h3 (av h4 apn))))) rfl (by kernel_rfl)
    ·
     refine bn h fun x5 h5 h => ?_
     refine bi h ?_ ?_ <;> intro h6 h
     ·
      rw [← sj h]
      exact fpr [(11, .d false), (30, .d false), (36, .v (i6 (lP a1))), (37, .d false), (42, .d false), (48, .v (.ro (eProd x5))), (52, .d true)] (av h1 (av h2 (apc (lg a1.prods eProd 7) (av h3 (av h4 (apc (ig eProd 7 .i64 h5) (av h6 apn))))))) rfl (by kernel_rfl)
     ·
      refine bi h ?_ ?_ <;> intro h7 h
      ·
       rw [← sj h]
       exact fpr [(11, .d false), (30, .d false), (36, .v (i6 (lP a1))), (37, .d false), (42, .d false), (48, .v (.ro (eProd x5))), (52, .d false), (58, .d true)] (av h1 (av h2 (apc (lg a1.prods eProd 7) (av h3 (av h4 (apc (ig eProd 7 .i64 h5) (av h6 (av h7 apn)))))))) rfl (by kernel_rfl)
      ·
       have q9 := ((lgr tr_map) : lnA (.p (.lst 3 (eTrees a3.kids))) = some (i6 (a3.kids.length : Int)))
       refine bi h ?_ ?_ <;> intro h8 h
       ·
        rw [← sj h]
        exact fpr ([(11, .d false), (30, .d false), (36, .v (i6 (lP a1))), (37, .d false), (42, .d false), (48, .v (.ro (eProd x5))), (52, .d false)] ++ ((F52_c0 x5 a3) ++ [(67, .d true)])) (av h1 (av h2 (apc (lg a1.prods eProd 7) (av h3 (av h4 (apc (ig eProd 7 .i64 h5) (av h6 (av h7 (apc (lg x5.right eSym 6) (apc q9 (av h8 apn))))))))))) rfl (by kernel_rfl)
       ·
        refine bn h fun r9 h9 h => ?_
        cases r9 with
        | k0 =>
         obtain ⟨g9, y9, e9⟩ := L52_0_run rF52 hF52 a1 a2 a3 x5 0 _ h9
         rw [← sj h]
         exact fpr ([(11, .d false), (30, .d false), (36, .v (i6 (lP a1))), (37, .d false), (42, .d false), (48, .v (.ro (eProd x5))), (52, .d false)] ++ ((F52_c0 x5 a3) ++ [(67, .d false), (2000, .l .ret ⟨fr 89 g9 [(6, vb false)], y9⟩), (6000, .d true)])) (av h1 (av h2 (apc (lg a1.prods eProd 7) (av h3 (av h4 (apc (ig eProd 7 .i64 h5) (av h6 (av h7 (apc (lg x5.right eSym 6) (apc q9 (av h8 (apc ((oK (ac (ac (ac (ar (ac rfl)))))) : okT 5 (F52_d0 a1 a2 a3 x5) = true) (apc (e9 : L52_0_e a1 a2 a3 x5 0 = some (.ret, ⟨fr 89 g9 [(6, vb false)], y9⟩)) apn))))))))))))) rfl (by kernel_rfl)
        | k1 =>
         obtain ⟨g9, e9⟩ := L52_0_run rF52 hF52 a1 a2 a3 x5 0 _ h9
         rw [← sj h]
         exact fpr ([(11, .d false), (30, .d false), (36, .v (i6 (lP a1))), (37, .d false), (42, .d false), (48, .v (.ro (eProd x5))), (52, .d false)] ++ ((F52_c0 x5 a3) ++ [(67, .d false), (2000, .l (.brk 0) (F52_d1 g9 a1 a2 a3 x5)), (6000, .d true)])) (av h1 (av h2 (apc (lg a1.prods eProd 7) (av h3 (av h4 (apc (ig eProd 7 .i64 h5) (av h6 (av h7 (apc (lg x5.right eSym 6) (apc q9 (av h8 (apc ((oK (ac (ac (ac (ar (ac rfl)))))) : okT 5 (F52_d0 a1 a2 a3 x5) = true) (apc (e9 : L52_0_e a1 a2 a3 x5 0 = some ((.brk 0), F52_d1 g9 a1 a2 a3 x5)) apn))))))))))))) rfl (by kernel_rfl)
def F52 : Nat → T_F52
  | 0 => fun _ _ _ => none
  | Nf + 1 => F52_b (F52 Nf)
theorem F52_ok (Nf : Nat) : H_F52 (F52 Nf) := by
  induction Nf with
  | zero => intro a1 a2 a3 r h; have h : (none : Option Bool) = some r := h; cases h
  | succ Nf ih => intro a1 a2 a3 r h; exact F52_bok (F52 Nf) ih a1 a2 a3 h
def F22_v (a1 : GramD) (a2 : TreeD) (x0 : Int) : AV := (i6 x0)
def F22 (Nf : Nat) (a1 : GramD) (a2 : TreeD) : Option Int :=
  ((F12 a1).bind fun x1 => (bif (x1 != 0) then (some 160) else ((F51_2 Nf a2 16384).bind fun x3 => (bif x3 then (some 3) else (bif (decide (a2.prod < 0)) then (some 163) else (bif (decide (a2.prod ≥ (a1.prods.length : Int))) then (some 163) else ((getI a1.prods a2.prod).bind fun x7 => ((F52 Nf a1 (⟨1, 0, 0, 0, 0, x7.left⟩ : SymD) a2).bind fun x8 => (bif x8 then (some 0) else (some 163))))))))))
theorem F22_ok (Nf : Nat) (a1 : GramD) (a2 : TreeD) {r : Int} (h : F22 Nf a1 a2 = some r) : PR1 prg 22 [aG a1, (.agg ((cT a2).map .p))] (F22_v a1 a2 r) := by
 unfold F22 at h
 refine bn h fun x1 h1 h => ?_
 have q0 := (((F12_ok a1 h1).cp rfl _) : CP prg 12 [aG a1] [bG a1, .cells 51 ((cT a2).map .p)] = some (i6 x1))
 refine bi h ?_ ?_ <;> intro h2 h
 ·
  rw [← sj h]
  exact fpr [(6, .v (i6 x1)), (7, .d true)] (apc q0 (av h2 apn)) rfl (by kernel_rfl)
 ·
  refine bn h fun x3 h3 h => ?_
  refine bi h ?_ ?_ <;> intro h4 h
  ·
   rw [← sj h]
   exact fpr [(6, .v (i6 x1)), (7, .d false), (9, .v (vb true))] (apc q0 (av h2 (apc ((((F51_2_ok Nf a2 16384 h3).cp rfl _).trans (congrArg (fun z => some (vb z)) h4)) : CP prg 51 [(.agg ((cT a2).map .p)), i6 16384] [bG a1, .cells 51 ((cT a2).map .p)] = some (vb true)) apn))) rfl (by kernel_rfl)
  ·
   have q2 := ((((F51_2_ok Nf a2 16384 h3).cp rfl _).trans (congrArg (fun z => some (vb z)) h4)) : CP prg 51 [(.agg ((cT a2).map .p)), i6 16384] [bG a1, .cells 51 ((cT a2).map .p)] = some (vb false))
   refine bi h ?_ ?_ <;> intro h5 h
   ·
    rw [← sj h]
    exact fpr [(6, .v (i6 x1)), (7, .d false), (9, .v (vb false)), (12, .d true)] (apc q0 (av h2 (apc q2 (av h5 apn)))) rfl (by kernel_rfl)
   ·
    refine bi h ?_ ?_ <;> intro h6 h
    ·
     rw [← sj h]
     exact fpr [(6, .v (i6 x1)), (7, .d false), (9, .v (vb false)), (12, .d false), (18, .v (i6 (lP a1))), (19, .d true)] (apc q0 (av h2 (apc q2 (av h5 (apc (lg a1.prods eProd 7) (av h6 apn)))))) rfl (by kernel_rfl)
    ·
     refine bn h fun x7 h7 h => ?_
     refine bn h fun x8 h8 h => ?_
     refine bi h ?_ ?_ <;> intro h9 h
     ·
      rw [← sj h]
      exact fpr [(6, .v (i6 x1)), (7, .d false), (9, .v (vb false)), (12, .d false), (18, .v (i6 (lP a1))), (19, .d false), (27, .v (.ro (eProd x7))), (32, .v (vb true))] (apc q0 (av h2 (apc q2 (av h5 (apc (lg a1.prods eProd 7) (av h6 (apc (ig eProd 7 .i64 h7) (apc ((((F52_ok Nf a1 (⟨1, 0, 0, 0, 0, x7.left⟩ : SymD) a2 h8).cp rfl _).trans (congrArg (fun z => some (vb z)) h9)) : CP prg 52 [aG a1, (.agg [i6 1, vi .u64 0, vi .u64 0, vi .u64 0, vi .u64 0, i6 x7.left]), (.agg ((cT a2).map .p))] [bG a1, .cells 51 ((cT a2).map .p)] = some (vb true)) apn)))))))) rfl (by kernel_rfl)
     ·
      rw [← sj h]
      exact fpr [(6, .v (i6 x1)), (7, .d false), (9, .v (vb false)), (12, .d false), (18, .v (i6 (lP a1))), (19, .d false), (27, .v (.ro (eProd x7))), (32, .v (vb false))] (apc q0 (av h2 (apc q2 (av h5 (apc (lg a1.prods eProd 7) (av h6 (apc (ig eProd 7 .i64 h7) (apc ((((F52_ok Nf a1 (⟨1, 0, 0, 0, 0, x7.left⟩ : SymD) a2 h8).cp rfl _).trans (congrArg (fun z => some (vb z)) h9)) : CP prg 52 [aG a1, (.agg [i6 1, vi .u64 0, vi .u64 0, vi .u64 0, vi .u64 0, i6 x7.left]), (.agg ((cT a2).map .p))] [bG a1, .cells 51 ((cT a2).map .p)] = some (vb false)) apn)))))))) rfl (by kernel_rfl)
inductive R_F28 where
  | k0 (x0 x1 : Int) (x2 : List TreeD)
def F28_v (a1 : TreeD) (a2 : List Int) (r : R_F28) : AV := match r with | .k0 x0 x1 x2 => (.agg [i6 x0, vi .u8 x1, (.p (.lst 3 (eTrees x2)))])
abbrev T_F28 := TreeD → (List Int) → Option R_F28
abbrev H_F28 (f : T_F28) : Prop := ∀ (a1 : TreeD) (a2 : List Int) {r : R_F28}, f a1 a2 = some r → PR1 prg 28 [(.agg ((cT a1).map .p)), ls 1 eI64 a2] (F28_v a1 a2 r)
inductive E_L28_0 where
  | k0 (x0 x1 : Nat) (x2 : List TreeD)
def L28_0 (rF28 : T_F28) (a1 : List Int) (a3 : TreeD) (v1 v2 : Nat) (v3 : Int) (v4 : List TreeD) : Option (E_L28_0 ⊕ (Nat × Nat × Int × (List TreeD))) :=
  (bif (decide (v3 < (a3.kids.length : Int))) then ((getI a3.kids v3).bind fun x2 => ((rF28 x2 a1).bind fun r3 => match r3 with | .k0 x3_0 x3_1 x3_2 => (bif (apOk v2 1 v4.length 40) then (bif (decide (v2 + 1 ≤ v4.length)) then (some (.inr (v1, v2 + 1, (IntKind.wrap .i64 (v3 + 1)), (splice v4 v2 [TreeD.mk x3_0 x3_1 x3_2])))) else (some (.inr ((v1 + 1), v2 + 1, (IntKind.wrap .i64 (v3 + 1)), (v4.take v2 ++ [TreeD.mk x3_0 x3_1 x3_2]))))) else none))) else (some (.inl (.k0 v1 v2 v4))))
def L28_0_s (a1 : List Int) (a2 : Int) (a3 : TreeD) (v1 v2 : Nat) (v3 : Int) (v4 : List TreeD) : St := ⟨fr 43 ug [(1, ls 1 eI64 a1), (2, .ptr 0 0), (4, .ptr 2 0), (5, .sl 3 v1 3 0 v2), (6, i6 v3)], [.cells 51 [i6 a2, vi .u8 a3.byte, (.p (.lst 3 (eTrees a3.kids)))], yT0, .cells 51 [i6 0, vi .u8 0, .sl 1 0 3 0 0], yT v1 v4]⟩
abbrev L28_0_e (a1 : List Int) (a2 : Int) (a3 : TreeD) (v1 v2 : Nat) (v3 : Int) (v4 : List TreeD) := evH prg 4 [1, 2, 4, 5, 6] ir28_l0 (L28_0_s a1 a2 a3 v1 v2 v3 v4)
def L28_0_x (a1 : List Int) (a2 : Int) (a3 : TreeD) (e : E_L28_0) (r : Option (Out × St)) : Prop := match e with | .k0 x0 x1 x2 => ∃ g, r = some ((.brk 0), ⟨fr 43 g [(1, ls 1 eI64 a1), (2, .ptr 0 0), (4, .ptr 2 0), (5, .sl 3 x0 3 0 x1)], [.cells 51 [i6 a2, vi .u8 a3.byte, (.p (.lst 3 (eTrees a3.kids)))], yT0, .cells 51 [i6 0, vi .u8 0, .sl 1 0 3 0 0], yT x0 x2]⟩)
abbrev L28_0_d0 (a2 : Int) (a3 : TreeD) (v1 : Nat) (v4 : List TreeD) (v2 : Nat) (x3_0 x3_1 : Int) (x3_2 : List TreeD) : List AB := [.cells 51 [i6 a2, vi .u8 a3.byte, (.p (.lst 3 (eTrees a3.kids)))], yT0, .cells 51 [i6 0, vi .u8 0, .sl 1 0 3 0 0], yT v1 (splice v4 v2 [TreeD.mk x3_0 x3_1 x3_2]), .row 51 3 0 [[i6 x3_0, vi .u8 x3_1, (.p (.lst 3 (eTrees x3_2)))]]]
abbrev L28_0_d1 (a2 : Int) (a3 : TreeD) (v1 : Nat) (v4 : List TreeD) (x3_0 x3_1 : Int) (x3_2 : List TreeD) : List AB := [.cells 51 [i6 a2, vi .u8 a3.byte, (.p (.lst 3 (eTrees a3.kids)))], yT0, .cells 51 [i6 0, vi .u8 0, .sl 1 0 3 0 0], yT v1 v4, .row 51 3 0 [[i6 x3_0, vi .u8 x3_1, (.p (.lst 3 (eTrees x3_2)))]]]
abbrev L28_0_d2 (a2 : Int) (a3 : TreeD) (v1 : Nat) (v4 : List TreeD) (v2 : Nat) (x3_0 x3_1 : Int) (x3_2 : List TreeD) : List AB := [.cells 51 [i6 a2, vi .u8 a3.byte, (.p (.lst 3 (eTrees a3.kids)))], yT0, .cells 51 [i6 0, vi .u8 0, .sl 1 0 3 0 0], yT (v1 + 1) (v4.take v2 ++ [TreeD.mk x3_0 x3_1 x3_2]), .row 51 3 0 [[i6 x3_0, vi .u8 x3_1, (.p (.lst 3 (eTrees x3_2)))]]]
theorem L28_0_ok (rF28 : T_F28) (hF28 : H_F28 rF28) (a1 : List Int) (a2 : Int) (a3 : TreeD) (v1 v2 : Nat) (v3 : Int) (v4 : List TreeD) {r : E_L28_0 ⊕ (Nat × Nat × Int × (List TreeD))} (h : L28_0 rF28 a1 a3 v1 v2 v3 v4 = some r) : OkR (fun e => L28_0_x a1 a2 a3 e (L28_0_e a1 a2 a3 v1 v2 v3 v4)) (fun s => L28_0_e a1 a2 a3 v1 v2 v3 v4 = L28_0_e a1 a2 a3 s.1 s.2.1 s.2.2.1 s.2.2.2) r := by
 unfold L28_0 at h
 have q0 := ((lgr tr_map) : lnA (.p (.lst 3 (eTrees a3.kids))) = some (i6 (a3.kids.length : Int)))
 refine bi h ?_ ?_ <;> intro h1 h
 ·
  refine bn h fun x2 h2 h => ?_
  have q2 := ((igr tr_map h2) : idxA 3 (.p (.lst 3 (eTrees a3.kids))) (i6 v3) = some (.ro (cT x2)))
  refine bn h fun r3 h3 h => ?_
  cases r3 with
  | k0 x3_0 x3_1 x3_2 =>
   have q3 := (((hF28 x2 a1 h3).cp rfl _) : CP prg 28 [(.agg ((cT x2).map .p)), ls 1 eI64 a1] [.cells 51 [i6 a2, vi .u8 a3.byte, (.p (.lst 3 (eTrees a3.kids)))], yT0, .cells 51 [i6 0, vi .u8 0, .sl 1 0 3 0 0], yT v1 v4] = some (.agg [i6 x3_0, vi .u8 x3_1, (.p (.lst 3 (eTrees x3_2)))]))
   refine bi h ?_ ?_ <;> intro h4 h
   ·
    refine bi h ?_ ?_ <;> intro h5 h
    ·
     rw [← sj h]
     exact rnd [(26, .v (i6 (a3.kids.length : Int))), (27, .d true), (34, .v (.ro (cT x2))), (37, .v (.agg [i6 x3_0, vi .u8 x3_1, (.p (.lst 3 (eTrees x3_2)))])), (39, .r (.sl 3 v1 3 0 (v2 + 1)) (L28_0_d0 a2 a3 v1 v4 v2 x3_0 x3_1 x3_2)), (6000, .d true)] (apc q0 (av h1 (apc q2 (apc q3 (apc ((ap_in (e := cT) (xs := v4) (news := [TreeD.mk x3_0 x3_1 x3_2]) rfl (rows_x (e := cT) (xs := [TreeD.mk x3_0 x3_1 x3_2]) rfl) rfl h4 h5) : appA (L28_0_d1 a2 a3 v1 v4 x3_0 x3_1 x3_2) 51 3 40 (.sl 3 v1 3 0 v2) (.sl 4 0 3 0 1) = some ((.sl 3 v1 3 0 (v2 + 1)), L28_0_d0 a2 a3 v1 v4 v2 x3_0 x3_1 x3_2)) (apc ((oK (ac (ar (ac (ar rfl))))) : okT 4 (L28_0_d0 a2 a3 v1 v4 v2 x3_0 x3_1 x3_2) = true) apn)))))) (by kernel_rfl)
    ·
     rw [← sj h]
     exact rnd [(26, .v (i6 (a3.kids.length : Int))), (27, .d true), (34, .v (.ro (cT x2))), (37, .v (.agg [i6 x3_0, vi .u8 x3_1, (.p (.lst 3 (eTrees x3_2)))])), (39, .r (.sl 3 (v1 + 1) 3 0 (v2 + 1)) (L28_0_d2 a2 a3 v1 v4 v2 x3_0 x3_1 x3_2)), (6000, .d true)] (apc q0 (av h1 (apc q2 (apc q3 (apc ((ap_out (e := cT) (xs := v4) (news := [TreeD.mk x3_0 x3_1 x3_2]) rfl (rows_x (e := cT) (xs := [TreeD.mk x3_0 x3_1 x3_2]) rfl) rfl h4 h5) : appA (L28_0_d1 a2 a3 v1 v4 x3_0 x3_1 x3_2) 51 3 40 (.sl 3 v1 3 0 v2) (.sl 4 0 3 0 1) = some ((.sl 3 (v1 + 1) 3 0 (v2 + 1)), L28_0_d2 a2 a3 v1 v4 v2 x3_0 x3_1 x3_2)) (apc ((oK (ac (ar (ac (ar rfl))))) : okT 4 (L28_0_d2 a2 a3 v1 v4 v2 x3_0 x3_1 x3_2) = true) apn)))))) (by kernel_rfl)
   ·
    cases h
 ·
  rw [← sj h]
  exact xbrk [(26, .v (i6 (a3.kids.length : Int))), (27, .d false), (6000, .d true)] (apc q0 (av h1 apn)) (by kernel_rfl)
theorem L28_0_run (rF28 : T_F28) (hF28 : H_F28 rF28) (a1 : List Int) (a2 : Int) (a3 : TreeD) (s0 : Nat × Nat × Int × (List TreeD)) (e : E_L28_0) (h : runL (fun s => L28_0 rF28 a1 a3 s.1 s.2.1 s.2.2.1 s.2.2.2) s0 = some e) : L28_0_x a1 a2 a3 e (L28_0_e a1 a2 a3 s0.1 s0.2.1 s0.2.2.1 s0.2.2.2) := by
  have q := @loop_sound' (Nat × Nat × Int × (List TreeD)) E_L28_0 (fun s => L28_0 rF28 a1 a3 s.1 s.2.1 s.2.2.1 s.2.2.2) (fun s => L28_0_e a1 a2 a3 s.1 s.2.1 s.2.2.1 s.2.2.2) (L28_0_x a1 a2 a3) (fun s r h => L28_0_ok rF28 hF28 a1 a2 a3 s.1 s.2.1 s.2.2.1 s.2.2.2 h) s0 e h
  exact q
inductive E_L28_0_2 where
  | k0 (x0 x1 : Nat) (x2 : List TreeD)
def L28_0_2 (rF28 : T_F28) (a1 : List Int) (a2 : TreeD) (v1 v2 : Nat) (v3 : Int) (v4 : List TreeD) : Option (E_L28_0_2 ⊕ (Nat × Nat × Int × (List TreeD))) :=
  (bif (decide (v3 < (a2.kids.length : Int))) then ((getI a2.kids v3).bind fun x2 => ((rF28 x2 a1).bind fun r3 => match r3 with | .k0 x3_0 x3_1 x3_2 => (bif (apOk v2 1 v4.length 40) then (bif (decide (v2 + 1 ≤ v4.length)) then (some (.inr (v1, v2 + 1, (IntKind.wrap .i64 (v3 + 1)), (splice v4 v2 [TreeD.mk x3_0 x3_1 x3_2])))) else (some (.inr ((v1 + 1), v2 + 1, (IntKind.wrap .i64 (v3 + 1)), (v4.take v2 ++ [TreeD.mk x3_0 x3_1 x3_2]))))) else none))) else (some (.inl (.k0 v1 v2 v4))))
def L28_0_2_s (a1 : List Int) (a2 : TreeD) (v1 v2 : Nat) (v3 : Int) (v4 : List TreeD) : St := ⟨fr 43 ug [(1, ls 1 eI64 a1), (2, .ptr 0 0), (4, .ptr 2 0), (5, .sl 3 v1 3 0 v2), (6, i6 v3)], [.cells 51 ((cT a2).map .p), yT0, .cells 51 [i6 0, vi .u8 0, .sl 1 0 3 0 0], yT v1 v4]⟩
abbrev L28_0_2_e (a1 : List Int) (a2 : TreeD) (v1 v2 : Nat) (v3 : Int) (v4 : List TreeD) := evH prg 4 [1, 2, 4, 5, 6] ir28_l0 (L28_0_2_s a1 a2 v1 v2 v3 v4)
def L28_0_2_x (a1 : List Int) (a2 : TreeD) (e : E_L28_0_2) (r : Option (Out × St)) : Prop := match e with | .k0 x0 x1 x2 => ∃ g, r = some ((.brk 0), ⟨fr 43 g [(1, ls 1 eI64 a1), (2, .ptr 0 0), (4, .ptr 2 0), (5, .sl 3 x0 3 0 x1)], [.cells 51 ((cT a2).map .p), yT0, .cells 51 [i6 0, vi .u8 0, .sl 1 0 3 0 0], yT x0 x2]⟩)
abbrev L28_0_2_d0 (a2 : TreeD) (v1 : Nat) (v4 : List TreeD) (v2 : Nat) (x3_0 x3_1 : Int) (x3_2 : List TreeD) : List AB := [.cells 51 ((cT a2).map .p), yT0, .cells 51 [i6 0, vi .u8 0, .sl 1 0 3 0 0], yT v1 (splice v4 v2 [TreeD.mk x3_0 x3_1 x3_2]), .row 51 3 0 [[i6 x3_0, vi .u8 x3_1, (.p (.lst 3 (eTrees x3_2)))]]]
abbrev L28_0_2_d1 (a2 : TreeD) (v1 : Nat) (v4 : List TreeD) (x3_0 x3_1 : Int) (x3_2 : List TreeD) : List AB := [.cells 51 ((cT a2).map .p), yT0, .cells 51 [i6 0, vi .u8 0, .sl 1 0 3 0 0], yT v1 v4, .row 51 3 0 [[i6 x3_0, vi .u8 x3_1, (.p (.lst 3 (eTrees x3_2)))]]]
abbrev L28_0_2_d2 (a2 : TreeD) (v1 : Nat) (v4 : List TreeD) (v2 : Nat) (x3_0 x3_1 : Int) (x3_2 : List TreeD) : List AB := [.cells 51 ((cT a2).map .p), yT0, .cells 51 [i6 0, vi .u8 0, .sl 1 0 3 0 0], yT (v1 + 1) (v4.take v2 ++ [TreeD.mk x3_0 x3_1 x3_2]), .row 51 3 0 [[i6 x3_0, vi .u8 x3_1, (.p (.lst 3 (eTrees x3_2)))]]]
theorem L28_0_2_ok (rF28 : T_F28) (hF28 : H_F28 rF28) (a1 : List Int) (a2 : TreeD) (v1 v2 : Nat) (v3 : Int) (v4 : List TreeD) {r : E_L28_0_2 ⊕ (Nat × Nat × Int × (List TreeD))} (h : L28_0_2 rF28 a1 a2 v1 v2 v3 v4 = some r) : OkR (fun e => L28_0_2_x a1 a2 e (L28_0_2_e a1 a2 v1 v2 v3 v4)) (fun s => L28_0_2_e a1 a2 v1 v2 v3 v4 = L28_0_2_e a1 a2 s.1 s.2.1 s.2.2.1 s.2.2.2) r := by
 unfold L28_0_2 at h
 have q0 := ((lgr tr_map) : lnA (.p (.lst 3 (eTrees a2.kids))) = some (i6 (a2.kids.length : Int)))
 refine bi h ?_ ?_ <;> intro h1 h
 ·
  refine bn h fun x2 h2 h => ?_
  have q2 := ((igr tr_map h2) : idxA 3 (.p (.lst 3 (eTrees a2.kids))) (i6 v3) = some (.ro (cT x2)))
  refine bn h fun r3 h3 h => ?_
  cases r3 with
  | k0 x3_0 x3_1 x3_2 =>
   have q3 := (((hF28 x2 a1 h3).cp rfl _) : CP prg 28 [(.agg ((cT x2).map .p)), ls 1 eI64 a1] [.cells 51 ((cT a2).map .p), yT0, .cells 51 [i6 0, vi .u8 0, .sl 1 0 3 0 0], yT v1 v4] = some (.agg [i6 x3_0, vi .u8 x3_1, (.p (.lst 3 (eTrees x3_2)))]))
   refine bi h ?_ ?_ <;> intro h4 h
   ·
    refine bi h ?_ ?_ <;> intro h5 h
    ·
     rw [← sj h]
     exact rnd [(26, .v (i6 (a2.kids.length : Int))), (27, .d true), (34, .v (.ro (cT x2))), (37, .v (.agg [i6 x3_0, vi .u8 x3_1, (.p (.lst 3 (eTrees x3_2)))])), (39, .r (.sl 3 v1 3 0 (v2 + 1)) (L28_0_2_d0 a2 v1 v4 v2 x3_0 x3_1 x3_2)), (6000, .d true)] (apc q0 (av h1 (apc q2 (apc q3 (apc ((ap_in (e := cT) (xs := v4) (news := [TreeD.mk x3_0 x3_1 x3_2]) rfl (rows_x (e := cT) (xs := [TreeD.mk x3_0 x3_1 x3_2]) rfl) rfl h4 h5) : appA (L28_0_2_d1 a2 v1 v4 x3_0 x3_1 x3_2) 51 3 40 (.sl 3 v1 3 0 v2) (.sl 4 0 3 0 1) = some ((.sl 3 v1 3 0 (v2 + 1)), L28_0_2_d0 a2 v1 v4 v2 x3_0 x3_1 x3_2)) (apc ((oK (ac (ar (ac (ar rfl))))) : okT 4 (L28_0_2_d0 a2 v1 v4 v2 x3_0 x3_1 x3_2) = true) apn)))))) (by kernel_rfl)
    ·
     rw [← sj h]
     exact rnd [(26, .v (i6 (a2.kids.length : Int))), (27, .d true), (34, .v (.ro (cT x2))), (37, .v (.agg [i6 x3_0, vi .u8 x3_1, (.p (.lst 3 (eTrees x3_2)))])), (39, .r (.sl 3 (v1 + 1) 3 0 (v2 + 1)) (L28_0_2_d2 a2 v1 v4 v2 x3_0 x3_1 x3_2)), (6000, .d true)] (apc q0 (av h1 (apc q2 (apc q3 (apc ((ap_out (e := cT) (xs := v4) (news := [TreeD.mk x3_0 x3_1 x3_2]) rfl (rows_x (e := cT) (xs := [TreeD.mk x3_0 x3_1 x3_2]) rfl) rfl h4 h5) : appA (L28_0_2_d1 a2 v1 v4 x3_0 x3_1 x3_2) 51 3 40 (.sl 3 v1 3 0 v2) (.sl 4 0 3 0 1) = some ((.sl 3 (v1 + 1) 3 0 (v2 + 1)), L28_0_2_d2 a2 v1 v4 v2 x3_0 x3_1 x3_2)) (apc ((oK (ac (ar (ac (ar rfl))))) : okT 4 (L28_0_2_d2 a2 v1 v4 v2 x3_0 x3_1 x3_2) = true) apn)))))) (by kernel_rfl)
   ·
    cases h
 ·
  rw [← sj h]
  exact xbrk [(26, .v (i6 (a2.kids.length : Int))), (27, .d false), (6000, .d true)] (apc q0 (av h1 apn)) (by kernel_rfl)
theorem L28_0_2_run (rF28 : T_F28) (hF28 : H_F28 rF28) (a1 : List Int) (a2 : TreeD) (s0 : Nat × Nat × Int × (List TreeD)) (e : E_L28_0_2) (h : runL (fun s => L28_0_2 rF28 a1 a2 s.1 s.2.1 s.2.2.1 s.2.2.2) s0 = some e) : L28_0_2_x a1 a2 e (L28_0_2_e a1 a2 s0.1 s0.2.1 s0.2.2.1 s0.2.2.2) := by
  have q := @loop_sound' (Nat × Nat × Int × (List TreeD)) E_L28_0_2 (fun s => L28_0_2 rF28 a1 a2 s.1 s.2.1 s.2.2.1 s.2.2.2) (fun s => L28_0_2_e a1 a2 s.1 s.2.1 s.2.2.1 s.2.2.2) (L28_0_2_x a1 a2) (fun s r h => L28_0_2_ok rF28 hF28 a1 a2 s.1 s.2.1 s.2.2.1 s.2.2.2 h) s0 e h
  exact q
def F28_b (rF28 : T_F28) (a1 : TreeD) (a2 : List Int) : Option R_F28 :=
  (bif (decide (a1.prod ≥ 0)) then (bif (decide (a1.prod < (a2.length : Int))) then ((getI a2 a1.prod).bind fun x3 => ((runL (fun s => L28_0 rF28 a2 a1 s.1 s.2.1 s.2.2.1 s.2.2.2) (0, 0, 0, [])).bind fun r4 => match r4 with | .k0 x4_0 x4_1 x4_2 => (bif (decide (x4_1 ≤ x4_2.length)) then (some (.k0 x3 a1.byte (x4_2.take x4_1))) else none))) else ((runL (fun s => L28_0_2 rF28 a2 a1 s.1 s.2.1 s.2.2.1 s.2.2.2) (0, 0, 0, [])).bind fun r3 => match r3 with | .k0 x3_0 x3_1 x3_2 => (bif (decide (x3_1 ≤ x3_2.length)) then (some (.k0 a1.prod a1.byte (x3_2.take x3_1))) else none))) else ((runL (fun s => L28_0_2 rF28 a2 a1 s.1 s.2.1 s.2.2.1 s.2.2.2) (0, 0, 0, [])).bind fun r2 => match r2 with | .k0 x2_0 x2_1 x2_2 => (bif (decide (x2_1 ≤ x2_2.length)) then (some (.k0 a1.prod a1.byte (x2_2.take x2_1))) else none)))
abbrev F28_d0 (g4 : Nat → AV) (a2 : List Int) (x4_0 x4_1 : Nat) (x3 : Int) (a1 : TreeD) (x4_2 : List TreeD) : St := ⟨fr 43 g4 [(1, ls 1 eI64 a2), (2, .ptr 0 0), (4, .ptr 2 0), (5, .sl 3 x4_0 3 0 x4_1)], [.cells 51 [i6 x3, vi .u8 a1.byte, (.p (.lst 3 (eTrees a1.kids)))], yT0, .cells 51 [i6 0, vi .u8 0, .sl 1 0 3 0 0], yT x4_0 x4_2]⟩
abbrev F28_d1 (a1 : TreeD) : List AB := [.cells 51 ((cT a1).map .p), yT0, .cells 51 [i6 0, vi .u8 0, .sl 1 0 3 0 0], yT0]
abbrev F28_d2 (g3 : Nat → AV) (a2 : List Int) (x3_0 x3_1 : Nat) (a1 : TreeD) (x3_2 : List TreeD) : St := ⟨fr 43 g3 [(1, ls 1 eI64 a2), (2, .ptr 0 0), (4, .ptr 2 0), (5, .sl 3 x3_0 3 0 x3_1)], [.cells 51 ((cT a1).map .p), yT0, .cells 51 [i6 0, vi .u8 0, .sl 1 0 3 0 0], yT x3_0 x3_2]⟩
abbrev F28_d3 (g2 : Nat → AV) (a2 : List Int) (x2_0 x2_1 : Nat) (a1 : TreeD) (x2_2 : List TreeD) : St := ⟨fr 43 g2 [(1, ls 1 eI64 a2), (2, .ptr 0 0), (4, .ptr 2 0), (5, .sl 3 x2_0 3 0 x2_1)], [.cells 51 ((cT a1).map .p), yT0, .cells 51 [i6 0, vi .u8 0, .sl 1 0 3 0 0], yT x2_0 x2_2]⟩
abbrev F28_c0 (g4 : Nat → AV) (a2 : List Int) (x4_0 x4_1 : Nat) (x3 : Int) (a1 : TreeD) (x4_2 : List TreeD) : List (Nat × Hint) := [(2000, .l (.brk 0) (F28_d0 g4 a2 x4_0 x4_1 x3 a1 x4_2))]
abbrev F28_c1 (g3 : Nat → AV) (a2 : List Int) (x3_0 x3_1 : Nat) (a1 : TreeD) (x3_2 : List TreeD) : List (Nat × Hint) := [(2000, .l (.brk 0) (F28_d2 g3 a2 x3_0 x3_1 a1 x3_2))]
abbrev F28_c2 (g2 : Nat → AV) (a2 : List Int) (x2_0 x2_1 : Nat) (a1 : TreeD) (x2_2 : List TreeD) : List (Nat × Hint) := [(2000, .l (.brk 0) (F28_d3 g2 a2 x2_0 x2_1 a1 x2_2))]
theorem F28_bok (rF28 : T_F28) (hF28 : H_F28 rF28) (a1 : TreeD) (a2 : List Int) {r : R_F28} (h : F28_b rF28 a1 a2 = some r) : PR1 prg 28 [(.agg ((cT a1).map .p)), ls 1 eI64 a2] (F28_v a1 a2 r) := by
 unfold F28_b at h
 refine bi h ?_ ?_ <;> intro h1 h
 ·
  refine bi h ?_ ?_ <;> intro h2 h
  ·
   refine bn h fun x3 h3 h => ?_
   refine bn h fun r4 h4 h => ?_
   cases r4 with
   | k0 x4_0 x4_1 x4_2 =>
    obtain ⟨g4, e4⟩ := L28_0_run rF28 hF28 a2 x3 a1 (0, 0, 0, []) _ h4
    have q4 := ((oK (ac (ar (ac (ar rfl))))) : okT 4 [.cells 51 [i6 x3, vi .u8 a1.byte, (.p (.lst 3 (eTrees a1.kids)))], yT0, .cells 51 [i6 0, vi .u8 0, .sl 1 0 3 0 0], yT0] = true)
    have q5 := (e4 : L28_0_e a2 x3 a1 0 0 0 ([]) = some ((.brk 0), F28_d0 g4 a2 x4_0 x4_1 x3 a1 x4_2))
    refine bi h ?_ ?_ <;> intro h5 h
    ·
     rw [← sj h]
     exact fpo (v := (.agg [i6 x3, vi .u8 a1.byte, .sl 3 x4_0 3 0 x4_1])) (h' := [.cells 51 [i6 x3, vi .u8 a1.byte, .sl 3 x4_0 3 0 x4_1], yT0, .cells 51 [i6 x3, vi .u8 a1.byte, .sl 3 x4_0 3 0 x4_1], yT x4_0 x4_2]) ([(9, .d true), (14, .v (i6 (a2.length : Int))), (15, .d true), (20, .v (.ro [.val (.int .i64 x3)]))] ++ ((F28_c0 g4 a2 x4_0 x4_1 x3 a1 x4_2) ++ [(6000, .d true)])) (av h1 (apc (lg a2 eI64 1) (av h2 (apc (ig eI64 1 .i64 h3) (apc q4 (apc q5 apn)))))) (purA_agg (purAs_cons rfl (purAs_cons rfl (purAs_cons (purA_slr (e := cT) tr_map rfl h5) purAs_nil)))) (by kernel_rfl)
    ·
     cases h
  ·
   refine bn h fun r3 h3 h => ?_
   cases r3 with
   | k0 x3_0 x3_1 x3_2 =>
    obtain ⟨g3, e3⟩ := L28_0_2_run rF28 hF28 a2 a1 (0, 0, 0, []) _ h3
    have q3 := ((oK (ac (ar (ac (ar rfl))))) : okT 4 (F28_d1 a1) = true)
    have q4 := (e3 : L28_0_2_e a2 a1 0 0 0 ([]) = some ((.brk 0), F28_d2 g3 a2 x3_0 x3_1 a1 x3_2))
    refine bi h ?_ ?_ <;> intro h4 h
    ·
     rw [← sj h]
     exact fpo (v := (.agg [i6 a1.prod, vi .u8 a1.byte, .sl 3 x3_0 3 0 x3_1])) (h' := [.cells 51 [i6 a1.prod, vi .u8 a1.byte, .sl 3 x3_0 3 0 x3_1], yT0, .cells 51 [i6 a1.prod, vi .u8 a1.byte, .sl 3 x3_0 3 0 x3_1], yT x3_0 x3_2]) ([(9, .d true), (14, .v (i6 (a2.length : Int))), (15, .d false)] ++ ((F28_c1 g3 a2 x3_0 x3_1 a1 x3_2) ++ [(6000, .d true)])) (av h1 (apc (lg a2 eI64 1) (av h2 (apc q3 (apc q4 apn))))) (purA_agg (purAs_cons rfl (purAs_cons rfl (purAs_cons (purA_slr (e := cT) tr_map rfl h4) purAs_nil)))) (by kernel_rfl)
    ·
     cases h
 ·
  refine bn h fun r2 h2 h => ?_
  cases r2 with
  | k0 x2_0 x2_1 x2_2 =>
   obtain ⟨g2, e2⟩ := L28_0_2_run rF28 hF28 a2 a1 (0, 0, 0, []) _ h2
   have q1 := ((oK (ac (ar (ac (ar rfl))))) : okT 4 (F28_d1 a1) = true)
   have q2 := (e2 : L28_0_2_e a2 a1 0 0 0 ([]) = some ((.brk 0), F28_d3 g2 a2 x2_0 x2_1 a1 x2_2))
   refine bi h ?_ ?_ <;> intro h3 h
   ·
    rw [← sj h]
    exact fpo (v := (.agg [i6 a1.prod, vi .u8 a1.byte, .sl 3 x2_0 3 0 x2_1])) (h' := [.cells 51 [i6 a1.prod, vi .u8 a1.byte, .sl 3 x2_0 3 0 x2_1], yT0, .cells 51 [i6 a1.prod, vi .u8 a1.byte, .sl 3 x2_0 3 0 x2_1], yT x2_0 x2_2]) ([(9, .d false)] ++ ((F28_c2 g2 a2 x2_0 x2_1 a1 x2_2) ++ [(6000, .d true)])) (av h1 (apc q1 (apc q2 apn))) (purA_agg (purAs_cons rfl (purAs_cons rfl (purAs_cons (purA_slr (e := cT) tr_map rfl h3) purAs_nil)))) (by kernel_rfl)
   ·
    cases h
def F28 : Nat → T_F28
  | 0 => fun _ _ => none
  | Nf + 1 => F28_b (F28 Nf)
theorem F28_ok (Nf : Nat) : H_F28 (F28 Nf) := by
  induction Nf with
  | zero => intro a1 a2 r h; have h : (none : Option R_F28) = some r := h; cases h
  | succ Nf ih => intro a1 a2 r h; exact F28_bok (F28 Nf) ih a1 a2 h
inductive E_L46_0_3 where
  | k0 (x0 x1 : Nat) (x2 : List AtD)
section
variable (a1 : Int) (a4 : AtD) (a5 : Int) (a6 : TreeD)
def L46_0_3 (v1 v2 : Nat) (v3 : Int) (v4 : List AtD) : Option (E_L46_0_3 ⊕ (Nat × Nat × Int × (List AtD))) :=
  (bif (decide (v3 < a5)) then ((getI a4.kids v3).bind fun x2 => (bif (apOk v2 1 v4.length 48) then (bif (decide (v2 + 1 ≤ v4.length)) then (some (.inr (v1, v2 + 1, (IntKind.wrap .i64 (v3 + 1)), (splice v4 v2 [(⟨x2.prod, x2.byte, x2.kids, (IntKind.wrap .i64 (a4.n + 1))⟩ : AtD)])))) else (some (.inr ((v1 + 1), v2 + 1, (IntKind.wrap .i64 (v3 + 1)), (v4.take v2 ++ [(⟨x2.prod, x2.byte, x2.kids, (IntKind.wrap .i64 (a4.n + 1))⟩ : AtD)]))))) else none)) else (some (.inl (.k0 v1 v2 v4))))
def L46_0_3_s (v1 v2 : Nat) (v3 : Int) (v4 : List AtD) : St := ⟨fr 51 ug [(3, i6 a1), (4, .sl 1 v1 4 0 v2), (5, .ptr 3 0), (35, (.p (.lst 3 (eTrees a4.kids)))), (36, i6 a5), (37, i6 v3)], [.cells 51 ((cT a6).map .p), .row 117 4 v1 (ra eAt v4), yT0, .cells 117 ((eAt a4).map .p)]⟩
abbrev L46_0_3_e (v1 v2 : Nat) (v3 : Int) (v4 : List AtD) := evH prg 4 [3, 4, 5, 35, 36, 37] ir46_l0 (L46_0_3_s a1 a4 a5 a6 v1 v2 v3 v4)
def L46_0_3_x (e : E_L46_0_3) (r : Option (Out × St)) : Prop := match e with | .k0 x0 x1 x2 => ∃ g, r = some ((.brk 2), ⟨fr 51 g [(3, i6 a1), (4, .sl 1 x0 4 0 x1), (5, .ptr 3 0), (35, (.p (.lst 3 (eTrees a4.kids))))], [.cells 51 ((cT a6).map .p), .row 117 4 x0 (ra eAt x2), yT0, .cells 117 ((eAt a4).map .p)]⟩)
abbrev L46_0_3_d0 (v1 : Nat) (v4 : List AtD) (v2 : Nat) (x2 : TreeD) : List AB := [.cells 51 ((cT a6).map .p), .row 117 4 v1 (ra eAt (splice v4 v2 [(⟨x2.prod, x2.byte, x2.kids, (w6 (a4.n + 1))⟩ : AtD)])), yT0, .cells 117 ((eAt a4).map .p), yT0, .cells 51 ((cT x2).map .p), .row 117 4 0 [[i6 x2.prod, vi .u8 x2.byte, (.p (.lst 3 (eTrees x2.kids))), (i6 (w6 (a4.n + 1)))]]]
abbrev L46_0_3_d1 (v1 : Nat) (v4 : List AtD) (x2 : TreeD) : List AB := [.cells 51 ((cT a6).map .p), .row 117 4 v1 (ra eAt v4), yT0, .cells 117 ((eAt a4).map .p), yT0, .cells 51 ((cT x2).map .p), .row 117 4 0 [[i6 x2.prod, vi .u8 x2.byte, (.p (.lst 3 (eTrees x2.kids))), (i6 (w6 (a4.n + 1)))]]]
abbrev L46_0_3_d2 (v1 : Nat) (v4 : List AtD) (v2 : Nat) (x2 : TreeD) : List AB := [.cells 51 ((cT a6).map .p), .row 117 4 (v1 + 1) (ra eAt (v4.take v2 ++ [(⟨x2.prod, x2.byte, x2.kids, (w6 (a4.n + 1))⟩ : AtD)])), yT0, .cells 117 ((eAt a4).map .p), yT0, .cells 51 ((cT x2).map .p), .row 117 4 0 [[i6 x2.prod, vi .u8 x2.byte, (.p (.lst 3 (eTrees x2.kids))), (i6 (w6 (a4.n + 1)))]]]
theorem L46_0_3_ok (v1 v2 : Nat) (v3 : Int) (v4 : List AtD) {r : E_L46_0_3 ⊕ (Nat × Nat × Int × (List AtD))} (h : L46_0_3 a4 a5 v1 v2 v3 v4 = some r) : OkR (fun e => L46_0_3_x a1 a4 a6 e (L46_0_3_e a1 a4 a5 a6 v1 v2 v3 v4)) (fun s => L46_0_3_e a1 a4 a5 a6 v1 v2 v3 v4 = L46_0_3_e a1 a4 a5 a6 s.1 s.2.1 s.2.2.1 s.2.2.2) r := by
 unfold L46_0_3 at h
 refine bi h ?_ ?_ <;> intro h1 h
 ·
  refine bn h fun x2 h2 h => ?_
  have q1 := ((igr tr_map h2) : idxA 3 (.p (.lst 3 (eTrees a4.kids))) (i6 v3) = some (.ro (cT x2)))
  refine bi h ?_ ?_ <;> intro h3 h
  ·
   refine bi h ?_ ?_ <;> intro h4 h
   ·
    rw [← sj h]
    exact rnd [(38, .d true), (39, .v (.ro (cT x2))), (48, .r (.sl 1 v1 4 0 (v2 + 1)) (L46_0_3_d0 a4 a6 v1 v4 v2 x2)), (6000, .d true)] (av h1 (apc q1 (apc ((ap_in (e := eAt) (xs := v4) (news := [(⟨x2.prod, x2.byte, x2.kids, (w6 (a4.n + 1))⟩ : AtD)]) rfl (rows_x (e := eAt) (xs := [(⟨x2.prod, x2.byte, x2.kids, (w6 (a4.n + 1))⟩ : AtD)]) rfl) rfl h3 h4) : appA (L46_0_3_d1 a4 a6 v1 v4 x2) 117 4 48 (.sl 1 v1 4 0 v2) (.sl 6 0 4 0 1) = some ((.sl 1 v1 4 0 (v2 + 1)), L46_0_3_d0 a4 a6 v1 v4 v2 x2)) (apc ((oK (ac (ar (ar (ac rfl))))) : okT 4 (L46_0_3_d0 a4 a6 v1 v4 v2 x2) = true) apn)))) (by kernel_rfl)
   ·
    rw [← sj h]
    exact rnd [(38, .d true), (39, .v (.ro (cT x2))), (48, .r (.sl 1 (v1 + 1) 4 0 (v2 + 1)) (L46_0_3_d2 a4 a6 v1 v4 v2 x2)), (6000, .d true)] (av h1 (apc q1 (apc ((ap_out (e := eAt) (xs := v4) (news := [(⟨x2.prod, x2.byte, x2.kids, (w6 (a4.n + 1))⟩ : AtD)]) rfl (rows_x (e := eAt) (xs := [(⟨x2.prod, x2.byte, x2.kids, (w6 (a4.n + 1))⟩ : AtD)]) rfl) rfl h3 h4) : appA (L46_0_3_d1 a4 a6 v1 v4 x2) 117 4 48 (.sl 1 v1 4 0 v2) (.sl 6 0 4 0 1) = some ((.sl 1 (v1 + 1) 4 0 (v2 + 1)), L46_0_3_d2 a4 a6 v1 v4 v2 x2)) (apc ((oK (ac (ar (ar (ac rfl))))) : okT 4 (L46_0_3_d2 a4 a6 v1 v4 v2 x2) = true) apn)))) (by kernel_rfl)
  ·
   cases h
 ·
  rw [← sj h]
  exact xbrk [(38, .d false), (6000, .d true)] (av h1 apn) (by kernel_rfl)
theorem L46_0_3_run (s0 : Nat × Nat × Int × (List AtD)) (e : E_L46_0_3) (h : runL (fun s => L46_0_3 a4 a5 s.1 s.2.1 s.2.2.1 s.2.2.2) s0 = some e) : L46_0_3_x a1 a4 a6 e (L46_0_3_e a1 a4 a5 a6 s0.1 s0.2.1 s0.2.2.1 s0.2.2.2) := by
  have q := @loop_sound' (Nat × Nat × Int × (List AtD)) E_L46_0_3 (fun s => L46_0_3 a4 a5 s.1 s.2.1 s.2.2.1 s.2.2.2) (fun s => L46_0_3_e a1 a4 a5 a6 s.1 s.2.1 s.2.2.1 s.2.2.2) (L46_0_3_x a1 a4 a6) (fun s r h => L46_0_3_ok a1 a4 a5 a6 s.1 s.2.1 s.2.2.1 s.2.2.2 h) s0 e h
  exact q
end
inductive E_L46_1 where
  | k0 (x0 : Int) (x1 : Nat) (x2 : List AtD)
section
variable (a1 : TreeD)
def L46_1 (v1 : Int) (v2 v3 : Nat) (v4 : List AtD) : Option (E_L46_1 ⊕ (Int × Nat × Nat × (List AtD))) :=
  (bif (decide (((v3 : Nat) : Int) > 0)) then (bif (decide (v1 ≤ 16384)) then ((ixN v3 (IntKind.wrap .i64 (((v3 : Nat) : Int) - 1))).bind fun x3 => ((v4[x3]?).bind fun x4 => (bif (slOk (IntKind.wrap .i64 (((v3 : Nat) : Int) - 1)) v3 v4.length) then ((runL (fun s => L46_0_3 x4 (x4.kids.length : Int) s.1 s.2.1 s.2.2.1 s.2.2.2) (v2, (Int.toNat (IntKind.wrap .i64 (((v3 : Nat) : Int) - 1))), 0, v4)).bind fun r6 => match r6 with | .k0 x6_0 x6_1 x6_2 => (some (.inr ((if v1 < x4.n then x4.n else v1), x6_0, x6_1, x6_2)))) else none))) else (some (.inl (.k0 v1 v2 v4)))) else (some (.inl (.k0 v1 v2 v4))))
def L46_1_s (v1 : Int) (v2 v3 : Nat) (v4 : List AtD) : St := ⟨fr 51 ug [(3, i6 v1), (4, .sl 1 v2 4 0 v3)], [.cells 51 ((cT a1).map .p), .row 117 4 v2 (ra eAt v4)]⟩
abbrev L46_1_e (v1 : Int) (v2 v3 : Nat) (v4 : List AtD) := evH prg 2 [3, 4] ir46_l1 (L46_1_s a1 v1 v2 v3 v4)
def L46_1_x (e : E_L46_1) (r : Option (Out × St)) : Prop := match e with | .k0 x0 x1 x2 => ∃ g, r = some ((.brk 0), ⟨fr 51 g [(3, i6 x0)], [.cells 51 ((cT a1).map .p), .row 117 4 x1 (ra eAt x2)]⟩)
abbrev L46_1_d0 (g6 : Nat → AV) (v1 : Int) (x4 : AtD) (x6_0 x6_1 : Nat) (x6_2 : List AtD) : St := ⟨fr 51 g6 [(3, (i6 (if v1 < x4.n then x4.n else v1))), (4, .sl 1 x6_0 4 0 x6_1), (5, .ptr 3 0), (35, (.p (.lst 3 (eTrees x4.kids))))], [.cells 51 ((cT a1).map .p), .row 117 4 x6_0 (ra eAt x6_2), yT0, .cells 117 ((eAt x4).map .p)]⟩
abbrev L46_1_d1 (v2 : Nat) (v4 : List AtD) (x4 : AtD) : List AB := [.cells 51 ((cT a1).map .p), .row 117 4 v2 (ra eAt v4), yT0, .cells 117 ((eAt x4).map .p)]
theorem L46_1_ok (v1 : Int) (v2 v3 : Nat) (v4 : List AtD) {r : E_L46_1 ⊕ (Int × Nat × Nat × (List AtD))} (h : L46_1 v1 v2 v3 v4 = some r) : OkR (fun e => L46_1_x a1 e (L46_1_e a1 v1 v2 v3 v4)) (fun s => L46_1_e a1 v1 v2 v3 v4 = L46_1_e a1 s.1 s.2.1 s.2.2.1 s.2.2.2) r := by
 unfold L46_1 at h
 refine bi h ?_ ?_ <;> intro h1 h
 ·
  refine bi h ?_ ?_ <;> intro h2 h
  ·
   refine bn h fun x3 h3 h => ?_
   have q2 := ((idx_sl h3) : idxA 4 (.sl 1 v2 4 0 v3) (i6 (w6 (((v3 : Nat) : Int) - 1))) = some (.rp 1 v2 4 x3 0))
   refine bn h fun x4 h4 h => ?_
   have q3 := ((ld_row rfl h4 rfl) : ldA [.cells 51 ((cT a1).map .p), .row 117 4 v2 (ra eAt v4)] .true 4 (.rp 1 v2 4 x3 0) = some (.agg ((eAt x4).map .p)))
   refine bi h ?_ ?_ <;> intro h5 h
   ·
    refine bn h fun r6 h6 h => ?_
    cases r6 with
    | k0 x6_0 x6_1 x6_2 =>
     obtain ⟨g6, e6⟩ := L46_0_3_run (if v1 < x4.n then x4.n else v1) x4 (x4.kids.length : Int) a1 (v2, (Int.toNat (w6 (((v3 : Nat) : Int) - 1))), 0, v4) _ h6
     rw [← sj h]
     exact rnd [(13, .d true), (16, .d true), (22, .v (.rp 1 v2 4 x3 0)), (23, .v (.agg ((eAt x4).map .p))), (28, .v (.sl 1 v2 4 0 (Int.toNat (w6 (((v3 : Nat) : Int) - 1))))), (36, .v (i6 (x4.kids.length : Int))), (2002, .l (.brk 2) (L46_1_d0 a1 g6 v1 x4 x6_0 x6_1 x6_2)), (6000, .d true)] (av h1 (av h2 (apc q2 (apc q3 (apc ((sl_own (e := eAt) (xs := v4) rfl h5) : slA (L46_1_d1 a1 v2 v4 x4) 4 (.sl 1 v2 4 0 v3) (some 0) (some (w6 (((v3 : Nat) : Int) - 1))) = some (.sl 1 v2 4 0 (Int.toNat (w6 (((v3 : Nat) : Int) - 1))))) (apc ((lgr tr_map) : lnA (.p (.lst 3 (eTrees x4.kids))) = some (i6 (x4.kids.length : Int))) (apc ((oK (ac (ar (ar (ac rfl))))) : okT 4 (L46_1_d1 a1 v2 v4 x4) = true) (apc (e6 : L46_0_3_e (if v1 < x4.n then x4.n else v1) x4 (x4.kids.length : Int) a1 v2 (Int.toNat (w6 (((v3 : Nat) : Int) - 1))) 0 v4 = some ((.brk 2), L46_1_d0 a1 g6 v1 x4 x6_0 x6_1 x6_2)) (apc ((oK (ac (ar rfl))) : okT 2 [.cells 51 ((cT a1).map .p), .row 117 4 x6_0 (ra eAt x6_2), yT0, .cells 117 ((eAt x4).map .p)] = true) apn))))))))) (by kernel_rfl)
   ·
    cases h
  ·
   rw [← sj h]
   exact xbrk [(13, .d true), (16, .d false), (6000, .d true)] (av h1 (av h2 apn)) (by kernel_rfl)
 ·
  rw [← sj h]
  exact xbrk [(13, .d false), (6000, .d true)] (av h1 apn) (by kernel_rfl)
theorem L46_1_run (s0 : Int × Nat × Nat × (List AtD)) (e : E_L46_1) (h : runL (fun s => L46_1 s.1 s.2.1 s.2.2.1 s.2.2.2) s0 = some e) : L46_1_x a1 e (L46_1_e a1 s0.1 s0.2.1 s0.2.2.1 s0.2.2.2) := by
  have q := @loop_sound' (Int × Nat × Nat × (List AtD)) E_L46_1 (fun s => L46_1 s.1 s.2.1 s.2.2.1 s.2.2.2) (fun s => L46_1_e a1 s.1 s.2.1 s.2.2.1 s.2.2.2) (L46_1_x a1) (fun s r h => L46_1_ok a1 s.1 s.2.1 s.2.2.1 s.2.2.2 h) s0 e h
  exact q
end
def F46_v (a1 : TreeD) (x0 : Int) : AV := (i6 x0)
def F46 (a1 : TreeD) : Option Int :=
  ((runL (fun s => L46_1 s.1 s.2.1 s.2.2.1 s.2.2.2) (0, 0, 1, [(⟨a1.prod, a1.byte, a1.kids, 1⟩ : AtD)])).bind fun r1 => match r1 with | .k0 x1_0 x1_1 x1_2 => (some x1_0))
abbrev F46_d0 (g1 : Nat → AV) (x1_0 : Int) (a1 : TreeD) (x1_1 : Nat) (x1_2 : List AtD) : St := ⟨fr 51 g1 [(3, i6 x1_0)], [.cells 51 ((cT a1).map .p), .row 117 4 x1_1 (ra eAt x1_2)]⟩
theorem F46_ok (a1 : TreeD) {r : Int} (h : F46 a1 = some r) : PR1 prg 46 [(.agg ((cT a1).map .p))] (F46_v a1 r) := by
 unfold F46 at h
 refine bn h fun r1 h1 h => ?_
 cases r1 with
 | k0 x1_0 x1_1 x1_2 =>
  obtain ⟨g1, e1⟩ := L46_1_run a1 (0, 0, 1, [(⟨a1.prod, a1.byte, a1.kids, 1⟩ : AtD)]) _ h1
  rw [← sj h]
  exact fpr [(2000, .l (.brk 0) (F46_d0 g1 x1_0 a1 x1_1 x1_2)), (6000, .d true)] (apc ((oK (ac (ac rfl))) : okT 2 [.cells 51 ((cT a1).map .p), .row 117 4 0 [[i6 a1.prod, vi .u8 a1.byte, (.p (.lst 3 (eTrees a1.kids))), i6 1]]] = true) (apc (e1 : L46_1_e a1 0 0 1 ([(⟨a1.prod, a1.byte, a1.kids, 1⟩ : AtD)]) = some ((.brk 0), F46_d0 g1 x1_0 a1 x1_1 x1_2)) apn)) rfl (by kernel_rfl)
def F50_v (a1 : GramD) (a2 : SymD) (a3 : TreeD) (x0 : Bool) : AV := (vb x0)
abbrev T_F50 := GramD → SymD → TreeD → Option Bool
abbrev H_F50 (f : T_F50) : Prop := ∀ (a1 : GramD) (a2 : SymD) (a3 : TreeD) {r : Bool}, f a1 a2 a3 = some r → PR1 prg 50 [aG a1, (.agg ((eSym a2).map .p)), (.agg ((cT a3).map .p))] (F50_v a1 a2 a3 r)
def F70_v (a1 : SymD) (a2 : TreeD) (x0 : Bool) : AV := (vb x0)
def F70 (a1 : SymD) (a2 : TreeD) : Option Bool :=
  (bif ((Int.fdiv a2.byte (2 ^ (min (Int.toNat 6) (IntKind.bits .u8)))) == 0) then (bif (decide ((IntKind.wrap .u8 ((BitVec.ofInt (IntKind.bits .u8) a2.byte &&& BitVec.ofInt (IntKind.bits .u8) 63).toNat : Int)) < 0)) then none else (some ((IntKind.wrap .u64 ((BitVec.ofInt (IntKind.bits .u64) (Int.fdiv a1.a (2 ^ (min (Int.toNat (IntKind.wrap .u8 ((BitVec.ofInt (IntKind.bits .u8) a2.byte &&& BitVec.ofInt (IntKind.bits .u8) 63).toNat : Int))) (IntKind.bits .u64)))) &&& BitVec.ofInt (IntKind.bits .u64) 1).toNat : Int)) == 1))) else (bif ((Int.fdiv a2.byte (2 ^ (min (Int.toNat 6) (IntKind.bits .u8)))) == 1) then (bif (decide ((IntKind.wrap .u8 ((BitVec.ofInt (IntKind.bits .u8) a2.byte &&& BitVec.ofInt (IntKind.bits .u8) 63).toNat : Int)) < 0)) then none else (some ((IntKind.wrap .u64 ((BitVec.ofInt (IntKind.bits .u64) (Int.fdiv a1.b (2 ^ (min (Int.toNat (IntKind.wrap .u8 ((BitVec.ofInt (IntKind.bits .u8) a2.byte &&& BitVec.ofInt (IntKind.bits .u8) 63).toNat : Int))) (IntKind.bits .u64)))) &&& BitVec.ofInt (IntKind.bits .u64) 1).toNat : Int)) == 1))) else (bif ((Int.fdiv a2.byte (2 ^ (min (Int.toNat 6) (IntKind.bits .u8)))) == 2) then (bif (decide ((IntKind.wrap .u8 ((BitVec.ofInt (IntKind.bits .u8) a2.byte &&& BitVec.ofInt (IntKind.bits .u8) 63).toNat : Int)) < 0)) then none else (some ((IntKind.wrap .u64 ((BitVec.ofInt (IntKind.bits .u64) (Int.fdiv a1.c (2 ^ (min (Int.toNat (IntKind.wrap .u8 ((BitVec.ofInt (IntKind.bits .u8) a2.byte &&& BitVec.ofInt (IntKind.bits .u8) 63).toNat : Int))) (IntKind.bits .u64)))) &&& BitVec.ofInt (IntKind.bits .u64) 1).toNat : Int)) == 1))) else (bif ((Int.fdiv a2.byte (2 ^ (min (Int.toNat 6) (IntKind.bits .u8)))) == 3) then (bif (decide ((IntKind.wrap .u8 ((BitVec.ofInt (IntKind.bits .u8) a2.byte &&& BitVec.ofInt (IntKind.bits .u8) 63).toNat : Int)) < 0)) then none else (some ((IntKind.wrap .u64 ((BitVec.ofInt (IntKind.bits .u64) (Int.fdiv a1.d (2 ^ (min (Int.toNat (IntKind.wrap .u8 ((BitVec.ofInt (IntKind.bits .u8) a2.byte &&& BitVec.ofInt (IntKind.bits .u8) 63).toNat : Int))) (IntKind.bits .u64)))) &&& BitVec.ofInt (IntKind.bits .u64) 1).toNat : Int)) == 1))) else none))))
theorem F70_ok (a1 : SymD) (a2 : TreeD) {r : Bool} (h : F70 a1 a2 = some r) : PR1 prg 70 [(.agg ((List.take 4 (List.drop 1 (eSym a1))).map .p)), vi .u8 a2.byte] (F70_v a1 a2 r) := by
 unfold F70 at h
 have q0 := ((sh_shr (by decide)) : binA .shr (vi .u8 a2.byte) (vi .u64 6) = some (vi .u8 (Int.fdiv a2.byte (2 ^ (min (Int.toNat 6) (IntKind.bits .u8))))))
 refine bi h ?_ ?_ <;> intro h1 h
 ·
  have q1 := ((ix_lit h1 (fun z => ixP 4 1 (.ptr 0 0) (vi .u8 z)) rfl) : ixP 4 1 (.ptr 0 0) (vi .u8 (Int.fdiv a2.byte (2 ^ (min (Int.toNat 6) (IntKind.bits .u8))))) = some (.ptr 0 0))
  refine bi h ?_ ?_ <;> intro h2 h
  ·
   cases h
  ·
   rw [← sj h]
   exact fpr [(6, .v (vi .u8 (Int.fdiv a2.byte (2 ^ (min (Int.toNat 6) (IntKind.bits .u8)))))), (7, .v (.ptr 0 0)), (11, .v (vi .u64 (Int.fdiv a1.a (2 ^ (min (Int.toNat (IntKind.wrap .u8 ((BitVec.ofInt (IntKind.bits .u8) a2.byte &&& BitVec.ofInt (IntKind.bits .u8) 63).toNat : Int))) (IntKind.bits .u64))))))] (apc q0 (apc q1 (apc ((sh_shr (of_decide_eq_false h2)) : binA .shr (vi .u64 a1.a) (vi .u8 (IntKind.wrap .u8 ((BitVec.ofInt (IntKind.bits .u8) a2.byte &&& BitVec.ofInt (IntKind.bits .u8) 63).toNat : Int))) = some (vi .u64 (Int.fdiv a1.a (2 ^ (min (Int.toNat (IntKind.wrap .u8 ((BitVec.ofInt (IntKind.bits .u8) a2.byte &&& BitVec.ofInt (IntKind.bits .u8) 63).toNat : Int))) (IntKind.bits .u64)))))) apn))) rfl (by kernel_rfl)
 ·
  refine bi h ?_ ?_ <;> intro h2 h
  ·
   have q1 := ((ix_lit h2 (fun z => ixP 4 1 (.ptr 0 0) (vi .u8 z)) rfl) : ixP 4 1 (.ptr 0 0) (vi .u8 (Int.fdiv a2.byte (2 ^ (min (Int.toNat 6) (IntKind.bits .u8))))) = some (.ptr 0 1))
   refine bi h ?_ ?_ <;> intro h3 h
   ·
    cases h
   ·
    rw [← sj h]
    exact fpr [(6, .v (vi .u8 (Int.fdiv a2.byte (2 ^ (min (Int.toNat 6) (IntKind.bits .u8)))))), (7, .v (.ptr 0 1)), (11, .v (vi .u64 (Int.fdiv a1.b (2 ^ (min (Int.toNat (IntKind.wrap .u8 ((BitVec.ofInt (IntKind.bits .u8) a2.byte &&& BitVec.ofInt (IntKind.bits .u8) 63).toNat : Int))) (IntKind.bits .u64))))))] (apc q0 (apc q1 (apc ((sh_shr (of_decide_eq_false h3)) : binA .shr (vi .u64 a1.b) (vi .u8 (IntKind.wrap .u8 ((BitVec.ofInt (IntKind.bits .u8) a2.byte &&& BitVec.ofInt (IntKind.bits .u8) 63).toNat : Int))) = some (vi .u64 (Int.fdiv a1.b (2 ^ (min (Int.toNat (IntKind.wrap .u8 ((BitVec.ofInt (IntKind.bits .u8) a2.byte &&& BitVec.ofInt (IntKind.bits .u8) 63).toNat : Int))) (IntKind.bits .u64)))))) apn))) rfl (by kernel_rfl)
  ·
   refine bi h ?_ ?_ <;> intro h3 h
   ·
    have q1 := ((ix_lit h3 (fun z => ixP 4 1 (.ptr 0 0) (vi .u8 z)) rfl) : ixP 4 1 (.ptr 0 0) (vi .u8 (Int.fdiv a2.byte (2 ^ (min (Int.toNat 6) (IntKind.bits .u8))))) = some (.ptr 0 2))
    refine bi h ?_ ?_ <;> intro h4 h
    ·
     cases h
    ·
     rw [← sj h]
     exact fpr [(6, .v (vi .u8 (Int.fdiv a2.byte (2 ^ (min (Int.toNat 6) (IntKind.bits .u8)))))), (7, .v (.ptr 0 2)), (11, .v (vi .u64 (Int.fdiv a1.c (2 ^ (min (Int.toNat (IntKind.wrap .u8 ((BitVec.ofInt (IntKind.bits .u8) a2.byte &&& BitVec.ofInt (IntKind.bits .u8) 63).toNat : Int))) (IntKind.bits .u64))))))] (apc q0 (apc q1 (apc ((sh_shr (of_decide_eq_false h4)) : binA .shr (vi .u64 a1.c) (vi .u8 (IntKind.wrap .u8 ((BitVec.ofInt (IntKind.bits .u8) a2.byte &&& BitVec.ofInt (IntKind.bits .u8) 63).toNat : Int))) = some (vi .u64 (Int.fdiv a1.c (2 ^ (min (Int.toNat (IntKind.wrap .u8 ((BitVec.ofInt (IntKind.bits .u8) a2.byte &&& BitVec.ofInt (IntKind.bits .u8) 63).toNat : Int))) (IntKind.bits .u64)))))) apn))) rfl (by kernel_rfl)
   ·
    refine bi h ?_ ?_ <;> intro h4 h
    ·
     have q1 := ((ix_lit h4 (fun z => ixP 4 1 (.ptr 0 0) (vi .u8 z)) rfl) : ixP 4 1 (.ptr 0 0) (vi .u8 (Int.fdiv a2.byte (2 ^ (min (Int.toNat 6) (IntKind.bits .u8))))) = some (.ptr 0 3))
     refine bi h ?_ ?_ <;> intro h5 h
     ·
      cases h
     ·
      rw [← sj h]
      exact fpr [(6, .v (vi .u8 (Int.fdiv a2.byte (2 ^ (min (Int.toNat 6) (IntKind.bits .u8)))))), (7, .v (.ptr 0 3)), (11, .v (vi .u64 (Int.fdiv a1.d (2 ^ (min (Int.toNat (IntKind.wrap .u8 ((BitVec.ofInt (IntKind.bits .u8) a2.byte &&& BitVec.ofInt (IntKind.bits .u8) 63).toNat : Int))) (IntKind.bits .u64))))))] (apc q0 (apc q1 (apc ((sh_shr (of_decide_eq_false h5)) : binA .shr (vi .u64 a1.d) (vi .u8 (IntKind.wrap .u8 ((BitVec.ofInt (IntKind.bits .u8) a2.byte &&& BitVec.ofInt (IntKind.bits .u8) 63).toNat : Int))) = some (vi .u64 (Int.fdiv a1.d (2 ^ (min (Int.toNat (IntKind.wrap .u8 ((BitVec.ofInt (IntKind.bits .u8) a2.byte &&& BitVec.ofInt (IntKind.bits .u8) 63).toNat : Int))) (IntKind.bits .u64)))))) apn))) rfl (by kernel_rfl)
    ·
     cases h
inductive E_L50_0 where
  | k0
  | k1
def L50_0 (rF50 : T_F50) (a1 : TreeD) (a2 : Int) (a3 : GramD) (a5 : ProdD) (v1 : Int) : Option (E_L50_0 ⊕ (Int)) :=
  (bif (decide (v1 < a2)) then ((getI a1.kids v1).bind fun x2 => ((getI a5.right v1).bind fun x3 => ((rF50 a3 x3 x2).bind fun x4 => (bif x4 then (some (.inr ((IntKind.wrap .i64 (v1 + 1))))) else (some (.inl (.k0))))))) else (some (.inl (.k1))))
def L50_0_s (a1 : TreeD) (a2 : Int) (a3 : GramD) (a4 : SymD) (a5 : ProdD) (v1 : Int) : St := ⟨fr 88 ug [(3, .ptr 0 0), (7, .ptr 4 0), (71, (.p (.lst 3 (eTrees a1.kids)))), (72, i6 a2), (73, i6 v1)], [bG a3, .cells 68 ((eSym a4).map .p), .cells 51 ((cT a1).map .p), yY0, bP a5]⟩
abbrev L50_0_e (a1 : TreeD) (a2 : Int) (a3 : GramD) (a4 : SymD) (a5 : ProdD) (v1 : Int) := evH prg 5 [3, 7, 71, 72, 73] ir50_l0 (L50_0_s a1 a2 a3 a4 a5 v1)
def L50_0_x (a1 : TreeD) (a2 : Int) (a3 : GramD) (a4 : SymD) (a5 : ProdD) (e : E_L50_0) (r : Option (Out × St)) : Prop := match e with | .k0 => ∃ g y, r = some (.ret, ⟨fr 88 g [(6, vb false)], y⟩) | .k1 => ∃ g, r = some ((.brk 0), ⟨fr 88 g [(3, .ptr 0 0), (7, .ptr 4 0), (71, (.p (.lst 3 (eTrees a1.kids))))], [bG a3, .cells 68 ((eSym a4).map .p), .cells 51 ((cT a1).map .p), yY0, bP a5]⟩)
abbrev L50_0_d0 (a3 : GramD) (a4 : SymD) (a1 : TreeD) (a5 : ProdD) (x2 : TreeD) : List AB := [bG a3, .cells 68 ((eSym a4).map .p), .cells 51 ((cT a1).map .p), yY0, bP a5, yT0, .cells 51 ((cT x2).map .p)]
theorem L50_0_ok (rF50 : T_F50) (hF50 : H_F50 rF50) (a1 : TreeD) (a2 : Int) (a3 : GramD) (a4 : SymD) (a5 : ProdD) (v1 : Int) {r : E_L50_0 ⊕ (Int)} (h : L50_0 rF50 a1 a2 a3 a5 v1 = some r) : OkR (fun e => L50_0_x a1 a2 a3 a4 a5 e (L50_0_e a1 a2 a3 a4 a5 v1)) (fun s => L50_0_e a1 a2 a3 a4 a5 v1 = L50_0_e a1 a2 a3 a4 a5 s) r := by
 unfold L50_0 at h
 refine bi h ?_ ?_ <;> intro h1 h
 ·
  refine bn h fun x2 h2 h => ?_
  have q1 := ((igr tr_map h2) : idxA 3 (.p (.lst 3 (eTrees a1.kids))) (i6 v1) = some (.ro (cT x2)))
  refine bn h fun x3 h3 h => ?_
  refine bn h fun x4 h4 h => ?_
  refine bi h ?_ ?_ <;> intro h5 h
  ·
   rw [← sj h]
   exact rnd [(74, .d true), (76, .v (.ro (cT x2))), (82, .v (.ro (eSym x3))), (85, .v (vb true)), (6000, .d true)] (av h1 (apc q1 (apc (ig eSym 6 .i64 h3) (apc ((((hF50 a3 x3 x2 h4).cp rfl _).trans (congrArg (fun z => some (vb z)) h5)) : CP prg 50 [aG a3, (.agg ((eSym x3).map .p)), (.agg ((cT x2).map .p))] (L50_0_d0 a3 a4 a1 a5 x2) = some (vb true)) (apc ((oK (ac (ac (ac (ar (ac rfl)))))) : okT 5 (L50_0_d0 a3 a4 a1 a5 x2) = true) apn))))) (by kernel_rfl)
  ·
   rw [← sj h]
   exact xretY [(74, .d true), (76, .v (.ro (cT x2))), (82, .v (.ro (eSym x3))), (85, .v (vb false)), (6000, .d true)] (av h1 (apc q1 (apc (ig eSym 6 .i64 h3) (apc ((((hF50 a3 x3 x2 h4).cp rfl _).trans (congrArg (fun z => some (vb z)) h5)) : CP prg 50 [aG a3, (.agg ((eSym x3).map .p)), (.agg ((cT x2).map .p))] (L50_0_d0 a3 a4 a1 a5 x2) = some (vb false)) apn)))) (by kernel_rfl)
 ·
  rw [← sj h]
  exact xbrk [(74, .d false), (6000, .d true)] (av h1 apn) (by kernel_rfl)
theorem L50_0_run (rF50 : T_F50) (hF50 : H_F50 rF50) (a1 : TreeD) (a2 : Int) (a3 : GramD) (a4 : SymD) (a5 : ProdD) (s0 : Int) (e : E_L50_0) (h : runL (fun s => L50_0 rF50 a1 a2 a3 a5 s) s0 = some e) : L50_0_x a1 a2 a3 a4 a5 e (L50_0_e a1 a2 a3 a4 a5 s0) := by
  have q := @loop_sound' (Int) E_L50_0 (fun s => L50_0 rF50 a1 a2 a3 a5 s) (fun s => L50_0_e a1 a2 a3 a4 a5 s) (L50_0_x a1 a2 a3 a4 a5) (fun s r h => L50_0_ok rF50 hF50 a1 a2 a3 a4 a5 s h) s0 e h
  exact q
def F50_b (rF50 : T_F50) (a1 : GramD) (a2 : SymD) (a3 : TreeD) : Option Bool :=
  (bif (a2.kind == 0) then (bif (a3.prod == (-1)) then (bif ((a3.kids.length : Int) == 0) then ((F70 a2 a3).bind fun x4 => (some x4)) else (some false)) else (some false)) else (bif (decide (a3.prod < 0)) then (some false) else (bif (decide (a3.prod ≥ (a1.prods.length : Int))) then (some false) else (bif (a3.byte != 0) then (some false) else ((getI a1.prods a3.prod).bind fun x5 => (bif (x5.left != a2.sort) then (some false) else (bif (x5.role == 11) then (some false) else (bif ((a3.kids.length : Int) != (x5.right.length : Int)) then (some false) else ((runL (fun s => L50_0 rF50 a3 (a3.kids.length : Int) a1 x5 s) 0).bind fun r9 => match r9 with | .k0 => (some false) | .k1 => (some true))))))))))
abbrev F50_d0 (a1 : GramD) (a2 : SymD) (a3 : TreeD) (x5 : ProdD) : List AB := [bG a1, .cells 68 ((eSym a2).map .p), .cells 51 ((cT a3).map .p), yY0, bP x5]
abbrev F50_d1 (g9 : Nat → AV) (a3 : TreeD) (a1 : GramD) (a2 : SymD) (x5 : ProdD) : St := ⟨fr 88 g9 [(3, .ptr 0 0), (7, .ptr 4 0), (71, (.p (.lst 3 (eTrees a3.kids))))], [bG a1, .cells 68 ((eSym a2).map .p), .cells 51 ((cT a3).map .p), yY0, bP x5]⟩
abbrev F50_c0 (a3 : TreeD) (x5 : ProdD) : List (Nat × Hint) := [(59, .d false), (64, .v (i6 (a3.kids.length : Int))), (67, .v (i6 (x5.right.length : Int)))]
theorem F50_bok (rF50 : T_F50) (hF50 : H_F50 rF50) (a1 : GramD) (a2 : SymD) (a3 : TreeD) {r : Bool} (h : F50_b rF50 a1 a2 a3 = some r) : PR1 prg 50 [aG a1, (.agg ((eSym a2).map .p)), (.agg ((cT a3).map .p))] (F50_v a1 a2 a3 r) := by
 unfold F50_b at h
 refine bi h ?_ ?_ <;> intro h1 h
 ·
  refine bi h ?_ ?_ <;> intro h2 h
  ·
   have q2 := ((lgr tr_map) : lnA (.p (.lst 3 (eTrees a3.kids))) = some (i6 (a3.kids.length : Int)))
   refine bi h ?_ ?_ <;> intro h3 h
   ·
    refine bn h fun x4 h4 h => ?_
    rw [← sj h]
    exact fpr [(12, .d true), (15, .d true), (19, .v (i6 (a3.kids.length : Int))), (20, .d true), (27, .v (vb x4))] (av h1 (av h2 (apc q2 (av h3 (apc (((F70_ok a2 a3 h4).cp rfl _) : CP prg 70 [(.agg ((List.take 4 (List.drop 1 (eSym a2))).map .p)), vi .u8 a3.byte] [bG a1, .cells 68 ((eSym a2).map .p), .cells 51 ((cT a3).map .p)] = some (vb x4)) apn))))) rfl (by kernel_rfl)
   ·
    rw [← sj h]
    exact fpr [(12, .d true), (15, .d true), (19, .v (i6 (a3.kids.length : Int))), (20, .d false)] (av h1 (av h2 (apc q2 (av h3 apn)))) rfl (by kernel_rfl)
  ·
   rw [← sj h]
   exact fpr [(12, .d true), (15, .d false)] (av h1 (av h2 apn)) rfl (by kernel_rfl)
 ·
  refine bi h ?_ ?_ <;> intro h2 h
  ·
   rw [← sj h]
   exact fpr [(12, .d false), (31, .d true)] (av h1 (av h2 apn)) rfl (by kernel_rfl)
  ·
   refine bi h ?_ ?_ <;> intro h3 h
   ·
    rw [← sj h]
    exact fpr [(12, .d false), (31, .d false), (37, .v (i6 (lP a1))), (38, .d true)] (av h1 (av h2 (apc (lg a1.prods eProd 7) (av h3 apn)))) rfl (by kernel_rfl)
   ·
    refine bi h ?_ ?_ <;> intro h4 h
    ·
     rw [← sj h]
     exact fpr [(12, .d false), (31, .d false), (37, .v (i6 (lP a1))), (38, .d false), (43, .d true)] (av h1 (av h2 (apc (lg a1.prods eProd 7) (av h3 (av h4 apn))))) rfl (by kernel_rfl)
    ·
     refine bn h fun x5 h5 h => ?_
     refine bi h ?_ ?_ <;> intro h6 h
     ·
      rw [← sj h]
      exact fpr [(12, .d false), (31, .d false), (37, .v (i6 (lP a1))), (38, .d false), (43, .d false), (49, .v (.ro (eProd x5))), (55, .d true)] (av h1 (av h2 (apc (lg a1.prods eProd 7) (av h3 (av h4 (apc (ig eProd 7 .i64 h5) (av h6 apn))))))) rfl (by kernel_rfl)
     ·
      refine bi h ?_ ?_ <;> intro h7 h
      ·
       rw [← sj h]
       exact fpr [(12, .d false), (31, .d false), (37, .v (i6 (lP a1))), (38, .d false), (43, .d false), (49, .v (.ro (eProd x5))), (55, .d false), (59, .d true)] (av h1 (av h2 (apc (lg a1.prods eProd 7) (av h3 (av h4 (apc (ig eProd 7 .i64 h5) (av h6 (av h7 apn)))))))) rfl (by kernel_rfl)
      ·
       have q8 := ((lgr tr_map) : lnA (.p (.lst 3 (eTrees a3.kids))) = some (i6 (a3.kids.length : Int)))
       refine bi h ?_ ?_ <;> intro h8 h
       ·
        rw [← sj h]
        exact fpr ([(12, .d false), (31, .d false), (37, .v (i6 (lP a1))), (38, .d false), (43, .d false), (49, .v (.ro (eProd x5))), (55, .d false)] ++ ((F50_c0 a3 x5) ++ [(68, .d true)])) (av h1 (av h2 (apc (lg a1.prods eProd 7) (av h3 (av h4 (apc (ig eProd 7 .i64 h5) (av h6 (av h7 (apc q8 (apc (lg x5.right eSym 6) (av h8 apn))))))))))) rfl (by kernel_rfl)
       ·
        have q11 := ((lgr tr_map) : lnA (.p (.lst 3 (eTrees a3.kids))) = some (i6 (a3.kids.length : Int)))
        refine bn h fun r9 h9 h => ?_
        cases r9 with
        | k0 =>
         obtain ⟨g9, y9, e9⟩ := L50_0_run rF50 hF50 a3 (a3.kids.length : Int) a1 a2 x5 0 _ h9
         rw [← sj h]
         exact fpr ([(12, .d false), (31, .d false), (37, .v (i6 (lP a1))), (38, .d false), (43, .d false), (49, .v (.ro (eProd x5))), (55, .d false)] ++ ((F50_c0 a3 x5) ++ [(68, .d false), (72, .v (i6 (a3.kids.length : Int))), (2000, .l .ret ⟨fr 88 g9 [(6, vb false)], y9⟩), (6000, .d true)])) (av h1 (av h2 (apc (lg a1.prods eProd 7) (av h3 (av h4 (apc (ig eProd 7 .i64 h5) (av h6 (av h7 (apc q8 (apc (lg x5.right eSym 6) (av h8 (apc q11 (apc ((oK (ac (ac (ac (ar (ac rfl)))))) : okT 5 (F50_d0 a1 a2 a3 x5) = true) (apc (e9 : L50_0_e a3 (a3.kids.length : Int) a1 a2 x5 0 = some (.ret, ⟨fr 88 g9 [(6, vb false)], y9⟩)) apn)))))))))))))) rfl (by kernel_rfl)
        | k1 =>
         obtain ⟨g9, e9⟩ := L50_0_run rF50 hF50 a3 (a3.kids.length : Int) a1 a2 x5 0 _ h9
         rw [← sj h]
         exact fpr ([(12, .d false), (31, .d false), (37, .v (i6 (lP a1))), (38, .d false), (43, .d false), (49, .v (.ro (eProd x5))), (55, .d false)] ++ ((F50_c0 a3 x5) ++ [(68, .d false), (72, .v (i6 (a3.kids.length : Int))), (2000, .l (.brk 0) (F50_d1 g9 a3 a1 a2 x5)), (6000, .d true)])) (av h1 (av h2 (apc (lg a1.prods eProd 7) (av h3 (av h4 (apc (ig eProd 7 .i64 h5) (av h6 (av h7 (apc q8 (apc (lg x5.right eSym 6) (av h8 (apc q11 (apc ((oK (ac (ac (ac (ar (ac rfl)))))) : okT 5 (F50_d0 a1 a2 a3 x5) = true) (apc (e9 : L50_0_e a3 (a3.kids.length : Int) a1 a2 x5 0 = some ((.brk 0), F50_d1 g9 a3 a1 a2 x5)) apn)))))))))))))) rfl (by kernel_rfl)
def F50 : Nat → T_F50
  | 0 => fun _ _ _ => none
  | Nf + 1 => F50_b (F50 Nf)
theorem F50_ok (Nf : Nat) : H_F50 (F50 Nf) := by
  induction Nf with
  | zero => intro a1 a2 a3 r h; have h : (none : Option Bool) = some r := h; cases h
  | succ Nf ih => intro a1 a2 a3 r h; exact F50_bok (F50 Nf) ih a1 a2 a3 h
def F21_v (a1 : GramD) (a2 : TreeD) (x0 : Int) : AV := (i6 x0)
def F21 (Nf : Nat) (a1 : GramD) (a2 : TreeD) : Option Int :=
  ((F15 a1).bind fun x1 => (bif (x1 != 0) then (some 160) else ((F46 a2).bind fun x3 => (bif (decide (x3 > 16384)) then (some 3) else (bif (decide (a2.prod < 0)) then (some 163) else (bif (decide (a2.prod ≥ (a1.prods.length : Int))) then (some 163) else ((getI a1.prods a2.prod).bind fun x7 => ((F50 Nf a1 (⟨1, 0, 0, 0, 0, x7.left⟩ : SymD) a2).bind fun x8 => (bif x8 then (some 0) else (some 163))))))))))
theorem F21_ok (Nf : Nat) (a1 : GramD) (a2 : TreeD) {r : Int} (h : F21 Nf a1 a2 = some r) : PR1 prg 21 [aG a1, (.agg ((cT a2).map .p))] (F21_v a1 a2 r) := by
 unfold F21 at h
 refine bn h fun x1 h1 h => ?_
 have q0 := (((F15_ok a1 h1).cp rfl _) : CP prg 15 [aG a1] [bG a1, .cells 51 ((cT a2).map .p)] = some (i6 x1))
 refine bi h ?_ ?_ <;> intro h2 h
 ·
  rw [← sj h]
  exact fpr [(7, .v (i6 x1)), (8, .d true)] (apc q0 (av h2 apn)) rfl (by kernel_rfl)
 ·
  refine bn h fun x3 h3 h => ?_
  have q2 := (((F46_ok a2 h3).cp rfl _) : CP prg 46 [(.agg ((cT a2).map .p))] [bG a1, .cells 51 ((cT a2).map .p)] = some (i6 x3))
  refine bi h ?_ ?_ <;> intro h4 h
  ·
   rw [← sj h]
   exact fpr [(7, .v (i6 x1)), (8, .d false), (11, .v (i6 x3)), (12, .d true)] (apc q0 (av h2 (apc q2 (av h4 apn)))) rfl (by kernel_rfl)
  ·
   refine bi h ?_ ?_ <;> intro h5 h
   ·
    rw [← sj h]
    exact fpr [(7, .v (i6 x1)), (8, .d false), (11, .v (i6 x3)), (12, .d false), (16, .d true)] (apc q0 (av h2 (apc q2 (av h4 (av h5 apn))))) rfl (by kernel_rfl)
   ·
    refine bi h ?_ ?_ <;> intro h6 h
    ·
     rw [← sj h]
     exact fpr [(7, .v (i6 x1)), (8, .d false), (11, .v (i6 x3)), (12, .d false), (16, .d false), (22, .v (i6 (lP a1))), (23, .d true)] (apc q0 (av h2 (apc q2 (av h4 (av h5 (apc (lg a1.prods eProd 7) (av h6 apn))))))) rfl (by kernel_rfl)
    ·
     refine bn h fun x7 h7 h => ?_
     refine bn h fun x8 h8 h => ?_
     refine bi h ?_ ?_ <;> intro h9 h
     ·
      rw [← sj h]
      exact fpr [(7, .v (i6 x1)), (8, .d false), (11, .v (i6 x3)), (12, .d false), (16, .d false), (22, .v (i6 (lP a1))), (23, .d false), (31, .v (.ro (eProd x7))), (36, .v (vb true))] (apc q0 (av h2 (apc q2 (av h4 (av h5 (apc (lg a1.prods eProd 7) (av h6 (apc (ig eProd 7 .i64 h7) (apc ((((F50_ok Nf a1 (⟨1, 0, 0, 0, 0, x7.left⟩ : SymD) a2 h8).cp rfl _).trans (congrArg (fun z => some (vb z)) h9)) : CP prg 50 [aG a1, (.agg [i6 1, vi .u64 0, vi .u64 0, vi .u64 0, vi .u64 0, i6 x7.left]), (.agg ((cT a2).map .p))] [bG a1, .cells 51 ((cT a2).map .p)] = some (vb true)) apn))))))))) rfl (by kernel_rfl)
     ·
      rw [← sj h]
      exact fpr [(7, .v (i6 x1)), (8, .d false), (11, .v (i6 x3)), (12, .d false), (16, .d false), (22, .v (i6 (lP a1))), (23, .d false), (31, .v (.ro (eProd x7))), (36, .v (vb false))] (apc q0 (av h2 (apc q2 (av h4 (av h5 (apc (lg a1.prods eProd 7) (av h6 (apc (ig eProd 7 .i64 h7) (apc ((((F50_ok Nf a1 (⟨1, 0, 0, 0, 0, x7.left⟩ : SymD) a2 h8).cp rfl _).trans (congrArg (fun z => some (vb z)) h9)) : CP prg 50 [aG a1, (.agg [i6 1, vi .u64 0, vi .u64 0, vi .u64 0, vi .u64 0, i6 x7.left]), (.agg ((cT a2).map .p))] [bG a1, .cells 51 ((cT a2).map .p)] = some (vb false)) apn))))))))) rfl (by kernel_rfl)
end
end Go.Proofs.Try
