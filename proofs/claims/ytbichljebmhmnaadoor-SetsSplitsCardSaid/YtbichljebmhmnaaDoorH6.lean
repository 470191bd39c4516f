/- Decompiled by a program: functions as plain data see them, part 1. -/
import Derived.Test.YtbichljebmhmnaaDoorWE6
namespace Go.Proofs.Tryd
set_option linter.unusedSimpArgs false
set_option linter.unusedVariables false
set_option maxHeartbeats 4000000
open Go Go.Vs
noncomputable section
inductive E_L33_0_10 where
  | k0 (x0 x1 : Nat) (x2 : List (SetD × Int)) (x3 : List SetD)
section
variable (a3 : List SetD) (a4 a5 : Int) (a6 a7 : Nat) (a8 a9 : Int) (a10 : List SetD) (a11 : Int) (a12 : List SetD) (a13 a16 : SetD)
abbrev L33_0_10_p (l : List AB) : List AB := yV0 :: yV a6 a12 :: .cells 29 ((eSet a13).map .p) :: l
def L33_0_10 (v1 v2 : Nat) (v3 : Int) (v4 : List (SetD × Int)) (v5 : List SetD) : Option (E_L33_0_10 ⊕ (Nat × Nat × Int × (List (SetD × Int)) × (List SetD))) :=
  (bif (decide (v3 < a11)) then ((getI a10 v3).bind fun x2 => (bif (!((x2.a == 0) && ((x2.b == 0) && ((x2.c == 0) && ((x2.d == 0) && true))))) then (bif ((mget 0 (mput (⟨x2.a, x2.b, x2.c, x2.d⟩ : SetD) (IntKind.wrap .i64 ((mget 0 v4 (⟨x2.a, x2.b, x2.c, x2.d⟩ : SetD)) + 1)) v4) (⟨x2.a, x2.b, x2.c, x2.d⟩ : SetD)) == 1) then (bif (apOk v2 ([(⟨x2.a, x2.b, x2.c, x2.d⟩ : SetD)]).length v5.length 32) then (bif (decide (v2 + ([(⟨x2.a, x2.b, x2.c, x2.d⟩ : SetD)]).length ≤ v5.length)) then (some (.inr (v1, (v2 + ([(⟨x2.a, x2.b, x2.c, x2.d⟩ : SetD)]).length), (IntKind.wrap .i64 (v3 + 1)), (mput (⟨x2.a, x2.b, x2.c, x2.d⟩ : SetD) (IntKind.wrap .i64 ((mget 0 v4 (⟨x2.a, x2.b, x2.c, x2.d⟩ : SetD)) + 1)) v4), (splice v5 v2 [(⟨x2.a, x2.b, x2.c, x2.d⟩ : SetD)])))) else (some (.inr ((v1 + 1), (v2 + ([(⟨x2.a, x2.b, x2.c, x2.d⟩ : SetD)]).length), (IntKind.wrap .i64 (v3 + 1)), (mput (⟨x2.a, x2.b, x2.c, x2.d⟩ : SetD) (IntKind.wrap .i64 ((mget 0 v4 (⟨x2.a, x2.b, x2.c, x2.d⟩ : SetD)) + 1)) v4), (v5.take v2 ++ [(⟨x2.a, x2.b, x2.c, x2.d⟩ : SetD)]))))) else none) else (some (.inr (v1, v2, (IntKind.wrap .i64 (v3 + 1)), (mput (⟨x2.a, x2.b, x2.c, x2.d⟩ : SetD) (IntKind.wrap .i64 ((mget 0 v4 (⟨x2.a, x2.b, x2.c, x2.d⟩ : SetD)) + 1)) v4), v5)))) else (some (.inr (v1, v2, (IntKind.wrap .i64 (v3 + 1)), (mput (⟨x2.a, x2.b, x2.c, x2.d⟩ : SetD) (IntKind.wrap .i64 ((mget 0 v4 (⟨x2.a, x2.b, x2.c, x2.d⟩ : SetD)) + 1)) v4), v5))))) else (some (.inl (.k0 v1 v2 v4 v5))))
def L33_0_10_s (v1 v2 : Nat) (v3 : Int) (v4 : List (SetD × Int)) (v5 : List SetD) : St := ⟨fr 65 ug [(5, .ptr 2 0), (6, .mp 3), (7, .sl 4 v1 4 0 v2), (14, ls 4 eSet a3), (15, vi .i64 a4), (16, vi .i64 a5), (21, .sl 1 a6 4 0 a7), (22, vi .i64 a8), (23, vi .i64 a9), (33, ls 4 eSet a10), (34, vi .i64 a11), (35, vi .i64 v3)], (L33_0_10_p a6 a12 a13 [.map (mrow kS vI v4), yV v1 v5, .cells 29 ((eSet a16).map .p)])⟩
theorem L33_0_10_k (v1 v2 : Nat) (v3 : Int) (v4 : List (SetD × Int)) (v5 : List SetD) : okT 6 (L33_0_10_s a3 a4 a5 a6 a7 a8 a9 a10 a11 a12 a13 a16 v1 v2 v3 v4 v5).h = true := (okT_of rfl (ar (ar (ac (abl_cons (abl_map (fun _ => rfl) (fun _ => rfl)) (ar (ac rfl)))))))
abbrev L33_0_10_e (v1 v2 : Nat) (v3 : Int) (v4 : List (SetD × Int)) (v5 : List SetD) := evH prg 6 [5, 6, 7, 14, 15, 16, 21, 22, 23, 33, 34, 35] ir33_l0 (L33_0_10_s a3 a4 a5 a6 a7 a8 a9 a10 a11 a12 a13 a16 v1 v2 v3 v4 v5)
def L33_0_10_x (e : E_L33_0_10) (r : Option (Out × St)) : Prop := match e with | .k0 x0 x1 x2 x3 => ∃ g, r = some ((.brk 4), ⟨fr 65 g [(5, .ptr 2 0), (6, .mp 3), (7, .sl 4 x0 4 0 x1), (14, ls 4 eSet a3), (15, vi .i64 a4), (16, vi .i64 a5), (21, .sl 1 a6 4 0 a7), (22, vi .i64 a8), (23, vi .i64 a9), (33, ls 4 eSet a10)], (L33_0_10_p a6 a12 a13 [.map (mrow kS vI x2), yV x0 x3, .cells 29 ((eSet a16).map .p)])⟩)
abbrev L33_0_10_d0 (v4 : List (SetD × Int)) (v1 : Nat) (v5 : List SetD) (x2 : SetD) : List AB := (L33_0_10_p a6 a12 a13 [.map (mrow kS vI v4), yV v1 v5, .cells 29 ((eSet a16).map .p), .cells 29 ((eSet x2).map .p)])
abbrev L33_0_10_d1 (v4 : List (SetD × Int)) (x2 : SetD) (v1 : Nat) (v5 : List SetD) : List AB := (L33_0_10_p a6 a12 a13 [.map (mrow kS vI (ment 0 v4 (⟨x2.a, x2.b, x2.c, x2.d⟩ : SetD))), yV v1 v5, .cells 29 ((eSet a16).map .p), .cells 29 ((eSet x2).map .p)])
abbrev L33_0_10_d2 (x2 : SetD) (v4 : List (SetD × Int)) (v1 : Nat) (v5 : List SetD) : List AB := (L33_0_10_p a6 a12 a13 [.map (mrow kS vI (mput (⟨x2.a, x2.b, x2.c, x2.d⟩ : SetD) (w6 ((mget 0 v4 (⟨x2.a, x2.b, x2.c, x2.d⟩ : SetD)) + 1)) v4)), yV v1 v5, .cells 29 ((eSet a16).map .p), .cells 29 ((eSet x2).map .p)])
abbrev L33_0_10_d3 (x2 : SetD) (v4 : List (SetD × Int)) (v1 : Nat) (v5 : List SetD) (v2 : Nat) : List AB := (L33_0_10_p a6 a12 a13 [.map (mrow kS vI (mput (⟨x2.a, x2.b, x2.c, x2.d⟩ : SetD) (w6 ((mget 0 v4 (⟨x2.a, x2.b, x2.c, x2.d⟩ : SetD)) + 1)) v4)), yV v1 (splice v5 v2 [(⟨x2.a, x2.b, x2.c, x2.d⟩ : SetD)]), .cells 29 ((eSet a16).map .p), .cells 29 ((eSet x2).map .p)])
abbrev L33_0_10_d4 (x2 : SetD) (v4 : List (SetD × Int)) (v1 : Nat) (v5 : List SetD) (v2 : Nat) : List AB := (L33_0_10_p a6 a12 a13 [.map (mrow kS vI (mput (⟨x2.a, x2.b, x2.c, x2.d⟩ : SetD) (w6 ((mget 0 v4 (⟨x2.a, x2.b, x2.c, x2.d⟩ : SetD)) + 1)) v4)), yV (v1 + 1) (v5.take v2 ++ [(⟨x2.a, x2.b, x2.c, x2.d⟩ : SetD)]), .cells 29 ((eSet a16).map .p), .cells 29 ((eSet x2).map .p)])
theorem L33_0_10_ok (v1 v2 : Nat) (v3 : Int) (v4 : List (SetD × Int)) (v5 : List SetD) {r : E_L33_0_10 ⊕ (Nat × Nat × Int × (List (SetD × Int)) × (List SetD))} (h : L33_0_10 a10 a11 v1 v2 v3 v4 v5 = some r) : OkR (fun e => L33_0_10_x a3 a4 a5 a6 a7 a8 a9 a10 a12 a13 a16 e (L33_0_10_e a3 a4 a5 a6 a7 a8 a9 a10 a11 a12 a13 a16 v1 v2 v3 v4 v5)) (fun s => L33_0_10_e a3 a4 a5 a6 a7 a8 a9 a10 a11 a12 a13 a16 v1 v2 v3 v4 v5 = L33_0_10_e a3 a4 a5 a6 a7 a8 a9 a10 a11 a12 a13 a16 s.1 s.2.1 s.2.2.1 s.2.2.2.1 s.2.2.2.2) r := by
 unfold L33_0_10 at h
 apply bi h <;> intro h1 h
 ·
  apply bn h; intro x2 h2 h
  have q0 := ((lk_row key_set (ve := vI) (es := v4) (k := (⟨x2.a, x2.b, x2.c, x2.d⟩ : SetD)) (z := 0) rfl rfl) : lkA (L33_0_10_d0 a6 a12 a13 a16 v4 v1 v5 x2) [1, 1, 1, 1] .true .false [(.val (.int .i64 0))] .false (.mp 3) (.agg ((eSet x2).map .p)) = some (vi .i64 (mget 0 v4 (⟨x2.a, x2.b, x2.c, x2.d⟩ : SetD))))
  have q1 := ((en_row key_set (ve := vI) (es := v4) (k := (⟨x2.a, x2.b, x2.c, x2.d⟩ : SetD)) (z := 0) rfl rfl) : enA (L33_0_10_d0 a6 a12 a13 a16 v4 v1 v5 x2) [1, 1, 1, 1] .true .false [(.val (.int .i64 0))] (.mp 3) (.agg ((eSet x2).map .p)) = some ((.tup [(vi .i64 (mget 0 v4 (⟨x2.a, x2.b, x2.c, x2.d⟩ : SetD))), (vi .i64 (midx v4 (⟨x2.a, x2.b, x2.c, x2.d⟩ : SetD) : Int))]), L33_0_10_d1 a6 a12 a13 a16 v4 x2 v1 v5))
  have q2 := (⟨es_row key_set (ve := vI) (es := v4) (k := (⟨x2.a, x2.b, x2.c, x2.d⟩ : SetD)) (v := (w6 ((mget 0 v4 (⟨x2.a, x2.b, x2.c, x2.d⟩ : SetD)) + 1))) (z := 0) rfl, rfl⟩ : esA (L33_0_10_d1 a6 a12 a13 a16 v4 x2 v1 v5) (.mp 3) (vi .i64 (midx v4 (⟨x2.a, x2.b, x2.c, x2.d⟩ : SetD) : Int)) (vi .i64 (w6 ((mget 0 v4 (⟨x2.a, x2.b, x2.c, x2.d⟩ : SetD)) + 1))) = some (L33_0_10_d2 a6 a12 a13 a16 x2 v4 v1 v5) ∧ ud = ud)
  have q3 := ((lk_row key_set (ve := vI) (es := (mput (⟨x2.a, x2.b, x2.c, x2.d⟩ : SetD) (w6 ((mget 0 v4 (⟨x2.a, x2.b, x2.c, x2.d⟩ : SetD)) + 1)) v4)) (k := (⟨x2.a, x2.b, x2.c, x2.d⟩ : SetD)) (z := 0) rfl rfl) : lkA (L33_0_10_d2 a6 a12 a13 a16 x2 v4 v1 v5) [1, 1, 1, 1] .true .false [(.val (.int .i64 0))] .false (.mp 3) (.agg ((eSet x2).map .p)) = some (vi .i64 (mget 0 (mput (⟨x2.a, x2.b, x2.c, x2.d⟩ : SetD) (w6 ((mget 0 v4 (⟨x2.a, x2.b, x2.c, x2.d⟩ : SetD)) + 1)) v4) (⟨x2.a, x2.b, x2.c, x2.d⟩ : SetD))))
  have q4 := (L33_0_10_k a3 a4 a5 a6 a7 a8 a9 a10 a11 a12 a13 a16 v1 v2 (w6 (v3 + 1)) (mput (⟨x2.a, x2.b, x2.c, x2.d⟩ : SetD) (w6 ((mget 0 v4 (⟨x2.a, x2.b, x2.c, x2.d⟩ : SetD)) + 1)) v4) v5)
  have k5 := ka [(36, .d true), (37, .v (.ro (eSet x2))), (41, .v (vi .i64 (mget 0 v4 (⟨x2.a, x2.b, x2.c, x2.d⟩ : SetD)))), (43, .r (.tup [(vi .i64 (mget 0 v4 (⟨x2.a, x2.b, x2.c, x2.d⟩ : SetD))), (vi .i64 (midx v4 (⟨x2.a, x2.b, x2.c, x2.d⟩ : SetD) : Int))]) (L33_0_10_d1 a6 a12 a13 a16 v4 x2 v1 v5)), (8042, .r ud (L33_0_10_d2 a6 a12 a13 a16 x2 v4 v1 v5))] (av h1 (apc (ig eSet 4 .i64 h2) (apc q0 (apc q1 (apc q2 apn)))))
  apply bi h <;> intro h3 h
  ·
   have k6 := k5.a [(47, .d true), (51, .v (vi .i64 (mget 0 (mput (⟨x2.a, x2.b, x2.c, x2.d⟩ : SetD) (w6 ((mget 0 v4 (⟨x2.a, x2.b, x2.c, x2.d⟩ : SetD)) + 1)) v4) (⟨x2.a, x2.b, x2.c, x2.d⟩ : SetD))))] (av h3 (apc q3 apn))
   apply bi h <;> intro h4 h
   ·
    apply bi h <;> intro h5 h
    ·
     apply bi h <;> intro h6 h
     ·
      rw [← sj h]
      exact rn ([(52, .d true), (57, .r (.sl 4 v1 4 0 (v2 + ([(⟨x2.a, x2.b, x2.c, x2.d⟩ : SetD)]).length)) (L33_0_10_d3 a6 a12 a13 a16 x2 v4 v1 v5 v2)), (6000, .d true)] ++ kH k6) (k6.b (av h4 (apc ((ap_in (e := eSet) (xs := v5) (news := [(⟨x2.a, x2.b, x2.c, x2.d⟩ : SetD)]) rfl rows_l rfl h5 h6) : appA (L33_0_10_d2 a6 a12 a13 a16 x2 v4 v1 v5) 29 4 32 (.sl 4 v1 4 0 v2) (.p (.lst 4 ([(⟨x2.a, x2.b, x2.c, x2.d⟩ : SetD)].map eSet))) = some ((.sl 4 v1 4 0 (v2 + ([(⟨x2.a, x2.b, x2.c, x2.d⟩ : SetD)]).length)), L33_0_10_d3 a6 a12 a13 a16 x2 v4 v1 v5 v2)) (apc (L33_0_10_k a3 a4 a5 a6 a7 a8 a9 a10 a11 a12 a13 a16 v1 (v2 + ([(⟨x2.a, x2.b, x2.c, x2.d⟩ : SetD)]).length) (w6 (v3 + 1)) (mput (⟨x2.a, x2.b, x2.c, x2.d⟩ : SetD) (w6 ((mget 0 v4 (⟨x2.a, x2.b, x2.c, x2.d⟩ : SetD)) + 1)) v4) (splice v5 v2 [(⟨x2.a, x2.b, x2.c, x2.d⟩ : SetD)])) apn))))
     ·
      rw [← sj h]
      exact rn ([(52, .d true), (57, .r (.sl 4 (v1 + 1) 4 0 (v2 + ([(⟨x2.a, x2.b, x2.c, x2.d⟩ : SetD)]).length)) (L33_0_10_d4 a6 a12 a13 a16 x2 v4 v1 v5 v2)), (6000, .d true)] ++ kH k6) (k6.b (av h4 (apc ((ap_out (e := eSet) (xs := v5) (news := [(⟨x2.a, x2.b, x2.c, x2.d⟩ : SetD)]) rfl rows_l rfl h5 h6) : appA (L33_0_10_d2 a6 a12 a13 a16 x2 v4 v1 v5) 29 4 32 (.sl 4 v1 4 0 v2) (.p (.lst 4 ([(⟨x2.a, x2.b, x2.c, x2.d⟩ : SetD)].map eSet))) = some ((.sl 4 (v1 + 1) 4 0 (v2 + ([(⟨x2.a, x2.b, x2.c, x2.d⟩ : SetD)]).length)), L33_0_10_d4 a6 a12 a13 a16 x2 v4 v1 v5 v2)) (apc (L33_0_10_k a3 a4 a5 a6 a7 a8 a9 a10 a11 a12 a13 a16 (v1 + 1) (v2 + ([(⟨x2.a, x2.b, x2.c, x2.d⟩ : SetD)]).length) (w6 (v3 + 1)) (mput (⟨x2.a, x2.b, x2.c, x2.d⟩ : SetD) (w6 ((mget 0 v4 (⟨x2.a, x2.b, x2.c, x2.d⟩ : SetD)) + 1)) v4) (v5.take v2 ++ [(⟨x2.a, x2.b, x2.c, x2.d⟩ : SetD)])) apn))))
    ·
     cases h
   ·
    rw [← sj h]
    exact rn ([(52, .d false), (6000, .d true)] ++ kH k6) (k6.b (av h4 (apc q4 apn)))
  ·
   rw [← sj h]
   exact rn ([(47, .d false), (6000, .d true)] ++ kH k5) (k5.b (av h3 (apc q4 apn)))
 ·
  rw [← sj h]
  exact xb [(36, .d false), (6000, .d true)] (av h1 apn)
theorem L33_0_10_run (s0 : Nat × Nat × Int × (List (SetD × Int)) × (List SetD)) (e : E_L33_0_10) (h : runL (fun s => L33_0_10 a10 a11 s.1 s.2.1 s.2.2.1 s.2.2.2.1 s.2.2.2.2) s0 = some e) : L33_0_10_x a3 a4 a5 a6 a7 a8 a9 a10 a12 a13 a16 e (L33_0_10_e a3 a4 a5 a6 a7 a8 a9 a10 a11 a12 a13 a16 s0.1 s0.2.1 s0.2.2.1 s0.2.2.2.1 s0.2.2.2.2) := by
  have q := @loop_sound' (Nat × Nat × Int × (List (SetD × Int)) × (List SetD)) E_L33_0_10 (fun s => L33_0_10 a10 a11 s.1 s.2.1 s.2.2.1 s.2.2.2.1 s.2.2.2.2) (fun s => L33_0_10_e a3 a4 a5 a6 a7 a8 a9 a10 a11 a12 a13 a16 s.1 s.2.1 s.2.2.1 s.2.2.2.1 s.2.2.2.2) (L33_0_10_x a3 a4 a5 a6 a7 a8 a9 a10 a12 a13 a16) (fun s r h => L33_0_10_ok a3 a4 a5 a6 a7 a8 a9 a10 a11 a12 a13 a16 s.1 s.2.1 s.2.2.1 s.2.2.2.1 s.2.2.2.2 h) s0 e h
  exact q
end
inductive E_L33_1_3 where
  | k0 (x0 x1 : Nat) (x2 : List (SetD × Int)) (x3 : List SetD)
section
variable (a1 : List SetD) (a2 a3 : Int) (a4 a5 : Nat) (a6 : Int) (a7 : List SetD) (a8 : SetD)
abbrev L33_1_3_p (l : List AB) : List AB := yV0 :: yV a4 a7 :: .cells 29 ((eSet a8).map .p) :: l
def L33_1_3 (v1 v2 : Nat) (v3 : Int) (v4 : List (SetD × Int)) (v5 : List SetD) : Option (E_L33_1_3 ⊕ (Nat × Nat × Int × (List (SetD × Int)) × (List SetD))) :=
  (bif (decide (v3 < a6)) then ((ixN a5 v3).bind fun x2 => ((a7[x2]?).bind fun x3 => ((F18 x3 a8).bind fun x4 => ((F21 x3 a8).bind fun x5 => ((runL (fun s => L33_0_10 ([(⟨x4.a, x4.b, x4.c, x4.d⟩ : SetD), (⟨x5.a, x5.b, x5.c, x5.d⟩ : SetD)]) (([(⟨x4.a, x4.b, x4.c, x4.d⟩ : SetD), (⟨x5.a, x5.b, x5.c, x5.d⟩ : SetD)]).length : Int) s.1 s.2.1 s.2.2.1 s.2.2.2.1 s.2.2.2.2) (v1, v2, 0, v4, v5)).bind fun r6 => match r6 with | .k0 x6_0 x6_1 x6_2 x6_3 => (some (.inr (x6_0, x6_1, (IntKind.wrap .i64 (v3 + 1)), x6_2, x6_3)))))))) else (some (.inl (.k0 v1 v2 v4 v5))))
def L33_1_3_s (v1 v2 : Nat) (v3 : Int) (v4 : List (SetD × Int)) (v5 : List SetD) : St := ⟨fr 65 ug [(5, .ptr 2 0), (6, .mp 3), (7, .sl 4 v1 4 0 v2), (14, ls 4 eSet a1), (15, vi .i64 a2), (16, vi .i64 a3), (21, .sl 1 a4 4 0 a5), (22, vi .i64 a6), (23, vi .i64 v3)], (L33_1_3_p a4 a7 a8 [.map (mrow kS vI v4), yV v1 v5])⟩
theorem L33_1_3_k (v1 v2 : Nat) (v3 : Int) (v4 : List (SetD × Int)) (v5 : List SetD) : okT 5 (L33_1_3_s a1 a2 a3 a4 a5 a6 a7 a8 v1 v2 v3 v4 v5).h = true := (okT_of rfl (ar (ar (ac (abl_cons (abl_map (fun _ => rfl) (fun _ => rfl)) (ar rfl))))))
abbrev L33_1_3_e (v1 v2 : Nat) (v3 : Int) (v4 : List (SetD × Int)) (v5 : List SetD) := evH prg 5 [5, 6, 7, 14, 15, 16, 21, 22, 23, 2000798002100] ir33_l1 (L33_1_3_s a1 a2 a3 a4 a5 a6 a7 a8 v1 v2 v3 v4 v5)
def L33_1_3_x (e : E_L33_1_3) (r : Option (Out × St)) : Prop := match e with | .k0 x0 x1 x2 x3 => ∃ g, r = some ((.brk 2), ⟨fr 65 g [(5, .ptr 2 0), (7, .sl 4 x0 4 0 x1), (14, ls 4 eSet a1), (15, vi .i64 a2), (16, vi .i64 a3), (21, .sl 1 a4 4 0 a5)], (L33_1_3_p a4 a7 a8 [.map (mrow kS vI x2), yV x0 x3])⟩)
abbrev L33_1_3_d0 (g6 : Nat → AV) (x6_0 x6_1 : Nat) (v3 : Int) (x4 x5 : SetD) (x6_2 : List (SetD × Int)) (x6_3 : List SetD) (x3 : SetD) : St := ⟨fr 65 g6 [(5, .ptr 2 0), (6, .mp 3), (7, .sl 4 x6_0 4 0 x6_1), (14, ls 4 eSet a1), (15, vi .i64 a2), (16, vi .i64 a3), (21, .sl 1 a4 4 0 a5), (22, vi .i64 a6), (23, vi .i64 v3), (33, (.p (.lst 4 (([(⟨x4.a, x4.b, x4.c, x4.d⟩ : SetD), (⟨x5.a, x5.b, x5.c, x5.d⟩ : SetD)]).map eSet))))], (L33_1_3_p a4 a7 a8 [.map (mrow kS vI x6_2), yV x6_0 x6_3, .cells 29 ((eSet x3).map .p)])⟩
abbrev L33_1_3_d1 (v4 : List (SetD × Int)) (v1 : Nat) (v5 : List SetD) (x3 : SetD) : List AB := (L33_1_3_p a4 a7 a8 [.map (mrow kS vI v4), yV v1 v5, .cells 29 ((eSet x3).map .p)])
theorem L33_1_3_ok (v1 v2 : Nat) (v3 : Int) (v4 : List (SetD × Int)) (v5 : List SetD) {r : E_L33_1_3 ⊕ (Nat × Nat × Int × (List (SetD × Int)) × (List SetD))} (h : L33_1_3 a5 a6 a7 a8 v1 v2 v3 v4 v5 = some r) : OkR (fun e => L33_1_3_x a1 a2 a3 a4 a5 a7 a8 e (L33_1_3_e a1 a2 a3 a4 a5 a6 a7 a8 v1 v2 v3 v4 v5)) (fun s => L33_1_3_e a1 a2 a3 a4 a5 a6 a7 a8 v1 v2 v3 v4 v5 = L33_1_3_e a1 a2 a3 a4 a5 a6 a7 a8 s.1 s.2.1 s.2.2.1 s.2.2.2.1 s.2.2.2.2) r := by
 unfold L33_1_3 at h
 apply bi h <;> intro h1 h
 ·
  apply bn h; intro x2 h2 h
  apply bn h; intro x3 h3 h
  apply bn h; intro x4 h4 h
  apply bn h; intro x5 h5 h
  apply bn h; intro r6 h6 h
  cases r6 with
  | k0 x6_0 x6_1 x6_2 x6_3 =>
   obtain ⟨g6, e6⟩ := L33_0_10_run a1 a2 a3 a4 a5 a6 v3 ([(⟨x4.a, x4.b, x4.c, x4.d⟩ : SetD), (⟨x5.a, x5.b, x5.c, x5.d⟩ : SetD)]) (([(⟨x4.a, x4.b, x4.c, x4.d⟩ : SetD), (⟨x5.a, x5.b, x5.c, x5.d⟩ : SetD)]).length : Int) a7 a8 x3 (v1, v2, 0, v4, v5) _ h6
   rw [← sj h]
   exact rn [(24, .d true), (25, .v (.rp 1 a4 4 x2 0)), (26, .v (.agg ((eSet x3).map .p))), (29, .v (.agg [vi .u64 x4.a, vi .u64 x4.b, vi .u64 x4.c, vi .u64 x4.d])), (32, .v (.agg [vi .u64 x5.a, vi .u64 x5.b, vi .u64 x5.c, vi .u64 x5.d])), (34, .v (vi .i64 (([(⟨x4.a, x4.b, x4.c, x4.d⟩ : SetD), (⟨x5.a, x5.b, x5.c, x5.d⟩ : SetD)]).length : Int))), (2004, .l (.brk 4) (L33_1_3_d0 a1 a2 a3 a4 a5 a6 a7 a8 g6 x6_0 x6_1 v3 x4 x5 x6_2 x6_3 x3)), (6000, .d true)] (av h1 (apc ((idx_sl h2) : idxA 4 (.sl 1 a4 4 0 a5) (vi .i64 v3) = some (.rp 1 a4 4 x2 0)) (apc ((ld_row rfl h3 rfl) : ldA (L33_1_3_p a4 a7 a8 [.map (mrow kS vI v4), yV v1 v5]) .true 4 (.rp 1 a4 4 x2 0) = some (.agg ((eSet x3).map .p))) (apc (((F18_ok x3 a8 h4).cp rfl _) : CP prg 18 [(.agg ((eSet x3).map .p)), (.agg ((eSet a8).map .p))] (L33_1_3_d1 a4 a7 a8 v4 v1 v5 x3) = some (.agg [vi .u64 x4.a, vi .u64 x4.b, vi .u64 x4.c, vi .u64 x4.d])) (apc (((F21_ok x3 a8 h5).cp rfl _) : CP prg 21 [(.agg ((eSet x3).map .p)), (.agg ((eSet a8).map .p))] (L33_1_3_d1 a4 a7 a8 v4 v1 v5 x3) = some (.agg [vi .u64 x5.a, vi .u64 x5.b, vi .u64 x5.c, vi .u64 x5.d])) (apc (lg [(⟨x4.a, x4.b, x4.c, x4.d⟩ : SetD), (⟨x5.a, x5.b, x5.c, x5.d⟩ : SetD)] eSet 4) (apc (L33_0_10_k a1 a2 a3 a4 a5 a6 v3 ([(⟨x4.a, x4.b, x4.c, x4.d⟩ : SetD), (⟨x5.a, x5.b, x5.c, x5.d⟩ : SetD)]) (([(⟨x4.a, x4.b, x4.c, x4.d⟩ : SetD), (⟨x5.a, x5.b, x5.c, x5.d⟩ : SetD)]).length : Int) a7 a8 x3 v1 v2 0 v4 v5) (apc (e6 : L33_0_10_e a1 a2 a3 a4 a5 a6 v3 ([(⟨x4.a, x4.b, x4.c, x4.d⟩ : SetD), (⟨x5.a, x5.b, x5.c, x5.d⟩ : SetD)]) (([(⟨x4.a, x4.b, x4.c, x4.d⟩ : SetD), (⟨x5.a, x5.b, x5.c, x5.d⟩ : SetD)]).length : Int) a7 a8 x3 v1 v2 0 v4 v5 = some ((.brk 4), L33_1_3_d0 a1 a2 a3 a4 a5 a6 a7 a8 g6 x6_0 x6_1 v3 x4 x5 x6_2 x6_3 x3)) (apc (L33_1_3_k a1 a2 a3 a4 a5 a6 a7 a8 x6_0 x6_1 (w6 (v3 + 1)) x6_2 x6_3) apn)))))))))
 ·
  rw [← sj h]
  exact xb [(24, .d false), (6000, .d true)] (av h1 apn)
theorem L33_1_3_run (s0 : Nat × Nat × Int × (List (SetD × Int)) × (List SetD)) (e : E_L33_1_3) (h : runL (fun s => L33_1_3 a5 a6 a7 a8 s.1 s.2.1 s.2.2.1 s.2.2.2.1 s.2.2.2.2) s0 = some e) : L33_1_3_x a1 a2 a3 a4 a5 a7 a8 e (L33_1_3_e a1 a2 a3 a4 a5 a6 a7 a8 s0.1 s0.2.1 s0.2.2.1 s0.2.2.2.1 s0.2.2.2.2) := by
  have q := @loop_sound' (Nat × Nat × Int × (List (SetD × Int)) × (List SetD)) E_L33_1_3 (fun s => L33_1_3 a5 a6 a7 a8 s.1 s.2.1 s.2.2.1 s.2.2.2.1 s.2.2.2.2) (fun s => L33_1_3_e a1 a2 a3 a4 a5 a6 a7 a8 s.1 s.2.1 s.2.2.1 s.2.2.2.1 s.2.2.2.2) (L33_1_3_x a1 a2 a3 a4 a5 a7 a8) (fun s r h => L33_1_3_ok a1 a2 a3 a4 a5 a6 a7 a8 s.1 s.2.1 s.2.2.1 s.2.2.2.1 s.2.2.2.2 h) s0 e h
  exact q
end
inductive E_L33_2 where
  | k0 (x0 x1 : Nat) (x2 : List SetD)
section
variable (a1 : List SetD) (a2 : Int)
def L33_2 (v1 v2 : Nat) (v3 : Int) (v4 : List SetD) : Option (E_L33_2 ⊕ (Nat × Nat × Int × (List SetD))) :=
  (bif (decide (v3 < a2)) then ((getI a1 v3).bind fun x2 => ((runL (fun s => L33_1_3 v2 ((v2 : Nat) : Int) v4 x2 s.1 s.2.1 s.2.2.1 s.2.2.2.1 s.2.2.2.2) (0, 0, 0, [], [])).bind fun r3 => match r3 with | .k0 x3_0 x3_1 x3_2 x3_3 => (some (.inr ((v1 + 1), x3_1, (IntKind.wrap .i64 (v3 + 1)), x3_3))))) else (some (.inl (.k0 v1 v2 v4))))
def L33_2_s (v1 v2 : Nat) (v3 : Int) (v4 : List SetD) : St := ⟨fr 65 ug [(3, .sl 1 v1 4 0 v2), (14, ls 4 eSet a1), (15, vi .i64 a2), (16, vi .i64 v3)], [yV0, yV v1 v4]⟩
theorem L33_2_k (v1 v2 : Nat) (v3 : Int) (v4 : List SetD) : okT 2 (L33_2_s a1 a2 v1 v2 v3 v4).h = true := (okT_of rfl (ar (ar rfl)))
abbrev L33_2_e (v1 v2 : Nat) (v3 : Int) (v4 : List SetD) := evH prg 2 [3, 14, 15, 16] ir33_l2 (L33_2_s a1 a2 v1 v2 v3 v4)
def L33_2_x (e : E_L33_2) (r : Option (Out × St)) : Prop := match e with | .k0 x0 x1 x2 => ∃ g, r = some ((.brk 0), ⟨fr 65 g [(3, .sl 1 x0 4 0 x1), (14, ls 4 eSet a1)], [yV0, yV x0 x2]⟩)
abbrev L33_2_d0 (g3 : Nat → AV) (x3_0 x3_1 : Nat) (v3 : Int) (v1 v2 : Nat) (v4 : List SetD) (x2 : SetD) (x3_2 : List (SetD × Int)) (x3_3 : List SetD) : St := ⟨fr 65 g3 [(5, .ptr 2 0), (7, .sl 4 x3_0 4 0 x3_1), (14, ls 4 eSet a1), (15, vi .i64 a2), (16, vi .i64 v3), (21, .sl 1 v1 4 0 v2)], [yV0, yV v1 v4, .cells 29 ((eSet x2).map .p), .map (mrow kS vI x3_2), yV x3_0 x3_3]⟩
abbrev L33_2_d1 (v1 : Nat) (x3_3 : List SetD) (x2 : SetD) (x3_2 : List (SetD × Int)) : List AB := [yV0, yV (v1 + 1) x3_3, .cells 29 ((eSet x2).map .p), .map (mrow kS vI x3_2), .dead]
theorem L33_2_ok (v1 v2 : Nat) (v3 : Int) (v4 : List SetD) {r : E_L33_2 ⊕ (Nat × Nat × Int × (List SetD))} (h : L33_2 a1 a2 v1 v2 v3 v4 = some r) : OkR (fun e => L33_2_x a1 e (L33_2_e a1 a2 v1 v2 v3 v4)) (fun s => L33_2_e a1 a2 v1 v2 v3 v4 = L33_2_e a1 a2 s.1 s.2.1 s.2.2.1 s.2.2.2) r := by
 unfold L33_2 at h
 apply bi h <;> intro h1 h
 ·
  apply bn h; intro x2 h2 h
  apply bn h; intro r3 h3 h
  cases r3 with
  | k0 x3_0 x3_1 x3_2 x3_3 =>
   obtain ⟨g3, e3⟩ := L33_1_3_run a1 a2 v3 v1 v2 ((v2 : Nat) : Int) v4 x2 (0, 0, 0, [], []) _ h3
   rw [← sj h]
   exact rn [(17, .d true), (18, .v (.ro (eSet x2))), (2002, .l (.brk 2) (L33_2_d0 a1 a2 g3 x3_0 x3_1 v3 v1 v2 v4 x2 x3_2 x3_3)), (9000, .l .norm ⟨[g3 0, g3 1, g3 2, g3 3, g3 4, .ptr 2 0, g3 6, (.sl 1 (v1 + 1) 4 0 x3_1), g3 8, g3 9, g3 10, g3 11, g3 12, g3 13, ls 4 eSet a1, vi .i64 a2, vi .i64 v3, g3 17, g3 18, g3 19, g3 20, .sl 1 v1 4 0 v2, g3 22, g3 23, g3 24, g3 25, g3 26, g3 27, g3 28, g3 29, g3 30, g3 31, g3 32, g3 33, g3 34, g3 35, g3 36, g3 37, g3 38, g3 39, g3 40, g3 41, g3 42, g3 43, g3 44, g3 45, g3 46, g3 47, g3 48, g3 49, g3 50, g3 51, g3 52, g3 53, g3 54, g3 55, g3 56, g3 57, g3 58, g3 59, g3 60, g3 61, g3 62, g3 63, g3 64], L33_2_d1 v1 x3_3 x2 x3_2⟩), (6000, .d true)] (av h1 (apc (ig eSet 4 .i64 h2) (apc (L33_1_3_k a1 a2 v3 v1 v2 ((v2 : Nat) : Int) v4 x2 0 0 0 ([]) ([])) (apc (e3 : L33_1_3_e a1 a2 v3 v1 v2 ((v2 : Nat) : Int) v4 x2 0 0 0 ([]) ([]) = some ((.brk 2), L33_2_d0 a1 a2 g3 x3_0 x3_1 v3 v1 v2 v4 x2 x3_2 x3_3)) (apc ((frzS_mov rfl rfl rfl rfl rfl (by kernel_rfl) (by kernel_rfl)) : frzS [] [] [(7, 98, 21, 0)] ⟨[g3 0, g3 1, g3 2, g3 3, g3 4, .ptr 2 0, g3 6, .sl 4 x3_0 4 0 x3_1, g3 8, g3 9, g3 10, g3 11, g3 12, g3 13, ls 4 eSet a1, vi .i64 a2, vi .i64 v3, g3 17, g3 18, g3 19, g3 20, .sl 1 v1 4 0 v2, g3 22, g3 23, g3 24, g3 25, g3 26, g3 27, g3 28, g3 29, g3 30, g3 31, g3 32, g3 33, g3 34, g3 35, g3 36, g3 37, g3 38, g3 39, g3 40, g3 41, g3 42, g3 43, g3 44, g3 45, g3 46, g3 47, g3 48, g3 49, g3 50, g3 51, g3 52, g3 53, g3 54, g3 55, g3 56, g3 57, g3 58, g3 59, g3 60, g3 61, g3 62, g3 63, g3 64], [yV0, yV v1 v4, .cells 29 ((eSet x2).map .p), .map (mrow kS vI x3_2), yV x3_0 x3_3]⟩ = ⟨[g3 0, g3 1, g3 2, g3 3, g3 4, .ptr 2 0, g3 6, (.sl 1 (v1 + 1) 4 0 x3_1), g3 8, g3 9, g3 10, g3 11, g3 12, g3 13, ls 4 eSet a1, vi .i64 a2, vi .i64 v3, g3 17, g3 18, g3 19, g3 20, .sl 1 v1 4 0 v2, g3 22, g3 23, g3 24, g3 25, g3 26, g3 27, g3 28, g3 29, g3 30, g3 31, g3 32, g3 33, g3 34, g3 35, g3 36, g3 37, g3 38, g3 39, g3 40, g3 41, g3 42, g3 43, g3 44, g3 45, g3 46, g3 47, g3 48, g3 49, g3 50, g3 51, g3 52, g3 53, g3 54, g3 55, g3 56, g3 57, g3 58, g3 59, g3 60, g3 61, g3 62, g3 63, g3 64], L33_2_d1 v1 x3_3 x2 x3_2⟩) (apc (L33_2_k a1 a2 (v1 + 1) x3_1 (w6 (v3 + 1)) x3_3) apn))))))
 ·
  rw [← sj h]
  exact xb [(17, .d false), (6000, .d true)] (av h1 apn)
theorem L33_2_run (s0 : Nat × Nat × Int × (List SetD)) (e : E_L33_2) (h : runL (fun s => L33_2 a1 a2 s.1 s.2.1 s.2.2.1 s.2.2.2) s0 = some e) : L33_2_x a1 e (L33_2_e a1 a2 s0.1 s0.2.1 s0.2.2.1 s0.2.2.2) := by
  have q := @loop_sound' (Nat × Nat × Int × (List SetD)) E_L33_2 (fun s => L33_2 a1 a2 s.1 s.2.1 s.2.2.1 s.2.2.2) (fun s => L33_2_e a1 a2 s.1 s.2.1 s.2.2.1 s.2.2.2) (L33_2_x a1) (fun s r h => L33_2_ok a1 a2 s.1 s.2.1 s.2.2.1 s.2.2.2 h) s0 e h
  exact q
end
inductive R_F33 where
  | k0 (x0 x1 : Nat) (x2 : List SetD)
def F33_v (a1 : List SetD) (r : R_F33) : AV := match r with | .k0 x0 x1 x2 => (.sl 1 x0 4 0 x1)
def F33_h (a1 : List SetD) (r : R_F33) : List AB := match r with | .k0 x0 x1 x2 => [yV0, yV x0 x2]
def F33 (a1 : List SetD) : Option R_F33 :=
  ((F16).bind fun x1 => ((runL (fun s => L33_2 a1 (a1.length : Int) s.1 s.2.1 s.2.2.1 s.2.2.2) (0, 1, 0, [(⟨x1.a, x1.b, x1.c, x1.d⟩ : SetD)])).bind fun r2 => match r2 with | .k0 x2_0 x2_1 x2_2 => (bif (decide (x2_1 ≤ x2_2.length ∧ x2_2.length ≤ 1000000)) then (bif (x2_2.all sOk) then (some (.k0 x2_0 x2_1 (srtR x2_2 x2_1))) else none) else none)))
abbrev F33_d0 (g2 : Nat → AV) (x2_0 x2_1 : Nat) (a1 x2_2 : List SetD) : St := ⟨fr 65 g2 [(3, .sl 1 x2_0 4 0 x2_1), (14, ls 4 eSet a1)], [yV0, yV x2_0 x2_2]⟩
theorem F33_ok (a1 : List SetD) {r : R_F33} (h : F33 a1 = some r) : CS prg 33 [ls 4 eSet a1] [] = some (F33_v a1 r, F33_h a1 r) := by
 unfold F33 at h
 apply bn h; intro x1 h1 h
 have q0 := (((F16_ok  h1).cp rfl _) : CP prg 16 [] [yV0] = some (.agg [vi .u64 x1.a, vi .u64 x1.b, vi .u64 x1.c, vi .u64 x1.d]))
 have q1 := (L33_2_k a1 (a1.length : Int) 0 1 0 ([(⟨x1.a, x1.b, x1.c, x1.d⟩ : SetD)]))
 have k2 := ka [(12, .v (.agg [vi .u64 x1.a, vi .u64 x1.b, vi .u64 x1.c, vi .u64 x1.d])), (15, .v (vi .i64 (a1.length : Int)))] (apc q0 (apc (lg a1 eSet 4) apn))
 apply bn h; intro r2 h2 h
 cases r2 with
 | k0 x2_0 x2_1 x2_2 =>
  obtain ⟨g2, e2⟩ := L33_2_run a1 (a1.length : Int) (0, 1, 0, [(⟨x1.a, x1.b, x1.c, x1.d⟩ : SetD)]) _ h2
  have q3 := (e2 : L33_2_e a1 (a1.length : Int) 0 1 0 ([(⟨x1.a, x1.b, x1.c, x1.d⟩ : SetD)]) = some ((.brk 0), F33_d0 g2 x2_0 x2_1 a1 x2_2))
  have k4 := k2.a [(2000, .l (.brk 0) (F33_d0 g2 x2_0 x2_1 a1 x2_2))] (apc q1 (apc q3 apn))
  apply bi h <;> intro h3 h
  ·
   apply bi h <;> intro h4 h
   ·
    rw [← sj h]
    exact fc ([(63, .r (.tup []) [yV0, yV x2_0 (srtR x2_2 x2_1)]), (6000, .d true)] ++ kH k4) (k4.b (apc ((cs_sort (xs := x2_2) rfl h3 h4 rfl) : CS prg 41 [.sl 1 x2_0 4 0 x2_1, (.fn 42 [])] [yV0, yV x2_0 x2_2] = some ((.tup []), [yV0, yV x2_0 (srtR x2_2 x2_1)])) apn))
   ·
    cases h
  ·
   cases h
inductive E_L33_0_20 where
  | k0 (x0 x1 : Nat) (x2 : List (SetD × Int)) (x3 : List SetD)
section
variable (a3 : List SetD) (a4 a5 : Int) (a6 a7 : Nat) (a8 a9 : Int) (a10 : List SetD) (a11 : Int) (a12 : Nat) (a13 a14 : List SetD) (a15 a18 : SetD)
abbrev L33_0_20_p (l : List AB) : List AB := yV0 :: yV a12 a13 :: yV0 :: yV a6 a14 :: .cells 29 ((eSet a15).map .p) :: l
def L33_0_20 (v1 v2 : Nat) (v3 : Int) (v4 : List (SetD × Int)) (v5 : List SetD) : Option (E_L33_0_20 ⊕ (Nat × Nat × Int × (List (SetD × Int)) × (List SetD))) :=
  (bif (decide (v3 < a11)) then ((getI a10 v3).bind fun x2 => (bif (!((x2.a == 0) && ((x2.b == 0) && ((x2.c == 0) && ((x2.d == 0) && true))))) then (bif ((mget 0 (mput (⟨x2.a, x2.b, x2.c, x2.d⟩ : SetD) (IntKind.wrap .i64 ((mget 0 v4 (⟨x2.a, x2.b, x2.c, x2.d⟩ : SetD)) + 1)) v4) (⟨x2.a, x2.b, x2.c, x2.d⟩ : SetD)) == 1) then (bif (apOk v2 ([(⟨x2.a, x2.b, x2.c, x2.d⟩ : SetD)]).length v5.length 32) then (bif (decide (v2 + ([(⟨x2.a, x2.b, x2.c, x2.d⟩ : SetD)]).length ≤ v5.length)) then (some (.inr (v1, (v2 + ([(⟨x2.a, x2.b, x2.c, x2.d⟩ : SetD)]).length), (IntKind.wrap .i64 (v3 + 1)), (mput (⟨x2.a, x2.b, x2.c, x2.d⟩ : SetD) (IntKind.wrap .i64 ((mget 0 v4 (⟨x2.a, x2.b, x2.c, x2.d⟩ : SetD)) + 1)) v4), (splice v5 v2 [(⟨x2.a, x2.b, x2.c, x2.d⟩ : SetD)])))) else (some (.inr ((v1 + 1), (v2 + ([(⟨x2.a, x2.b, x2.c, x2.d⟩ : SetD)]).length), (IntKind.wrap .i64 (v3 + 1)), (mput (⟨x2.a, x2.b, x2.c, x2.d⟩ : SetD) (IntKind.wrap .i64 ((mget 0 v4 (⟨x2.a, x2.b, x2.c, x2.d⟩ : SetD)) + 1)) v4), (v5.take v2 ++ [(⟨x2.a, x2.b, x2.c, x2.d⟩ : SetD)]))))) else none) else (some (.inr (v1, v2, (IntKind.wrap .i64 (v3 + 1)), (mput (⟨x2.a, x2.b, x2.c, x2.d⟩ : SetD) (IntKind.wrap .i64 ((mget 0 v4 (⟨x2.a, x2.b, x2.c, x2.d⟩ : SetD)) + 1)) v4), v5)))) else (some (.inr (v1, v2, (IntKind.wrap .i64 (v3 + 1)), (mput (⟨x2.a, x2.b, x2.c, x2.d⟩ : SetD) (IntKind.wrap .i64 ((mget 0 v4 (⟨x2.a, x2.b, x2.c, x2.d⟩ : SetD)) + 1)) v4), v5))))) else (some (.inl (.k0 v1 v2 v4 v5))))
def L33_0_20_s (v1 v2 : Nat) (v3 : Int) (v4 : List (SetD × Int)) (v5 : List SetD) : St := ⟨fr 65 ug [(5, .ptr 4 0), (6, .mp 5), (7, .sl 6 v1 4 0 v2), (14, ls 4 eSet a3), (15, vi .i64 a4), (16, vi .i64 a5), (21, .sl 3 a6 4 0 a7), (22, vi .i64 a8), (23, vi .i64 a9), (33, ls 4 eSet a10), (34, vi .i64 a11), (35, vi .i64 v3)], (L33_0_20_p a6 a12 a13 a14 a15 [.map (mrow kS vI v4), yV v1 v5, .cells 29 ((eSet a18).map .p)])⟩
theorem L33_0_20_k (v1 v2 : Nat) (v3 : Int) (v4 : List (SetD × Int)) (v5 : List SetD) : okT 8 (L33_0_20_s a3 a4 a5 a6 a7 a8 a9 a10 a11 a12 a13 a14 a15 a18 v1 v2 v3 v4 v5).h = true := (okT_of rfl (ar (ar (ar (ar (ac (abl_cons (abl_map (fun _ => rfl) (fun _ => rfl)) (ar (ac rfl)))))))))
abbrev L33_0_20_e (v1 v2 : Nat) (v3 : Int) (v4 : List (SetD × Int)) (v5 : List SetD) := evH prg 8 [5, 6, 7, 14, 15, 16, 21, 22, 23, 33, 34, 35] ir33_l0 (L33_0_20_s a3 a4 a5 a6 a7 a8 a9 a10 a11 a12 a13 a14 a15 a18 v1 v2 v3 v4 v5)
def L33_0_20_x (e : E_L33_0_20) (r : Option (Out × St)) : Prop := match e with | .k0 x0 x1 x2 x3 => ∃ g, r = some ((.brk 4), ⟨fr 65 g [(5, .ptr 4 0), (6, .mp 5), (7, .sl 6 x0 4 0 x1), (14, ls 4 eSet a3), (15, vi .i64 a4), (16, vi .i64 a5), (21, .sl 3 a6 4 0 a7), (22, vi .i64 a8), (23, vi .i64 a9), (33, ls 4 eSet a10)], (L33_0_20_p a6 a12 a13 a14 a15 [.map (mrow kS vI x2), yV x0 x3, .cells 29 ((eSet a18).map .p)])⟩)
abbrev L33_0_20_d0 (v4 : List (SetD × Int)) (v1 : Nat) (v5 : List SetD) (x2 : SetD) : List AB := (L33_0_20_p a6 a12 a13 a14 a15 [.map (mrow kS vI v4), yV v1 v5, .cells 29 ((eSet a18).map .p), .cells 29 ((eSet x2).map .p)])
abbrev L33_0_20_d1 (v4 : List (SetD × Int)) (x2 : SetD) (v1 : Nat) (v5 : List SetD) : List AB := (L33_0_20_p a6 a12 a13 a14 a15 [.map (mrow kS vI (ment 0 v4 (⟨x2.a, x2.b, x2.c, x2.d⟩ : SetD))), yV v1 v5, .cells 29 ((eSet a18).map .p), .cells 29 ((eSet x2).map .p)])
abbrev L33_0_20_d2 (x2 : SetD) (v4 : List (SetD × Int)) (v1 : Nat) (v5 : List SetD) : List AB := (L33_0_20_p a6 a12 a13 a14 a15 [.map (mrow kS vI (mput (⟨x2.a, x2.b, x2.c, x2.d⟩ : SetD) (w6 ((mget 0 v4 (⟨x2.a, x2.b, x2.c, x2.d⟩ : SetD)) + 1)) v4)), yV v1 v5, .cells 29 ((eSet a18).map .p), .cells 29 ((eSet x2).map .p)])
abbrev L33_0_20_d3 (x2 : SetD) (v4 : List (SetD × Int)) (v1 : Nat) (v5 : List SetD) (v2 : Nat) : List AB := (L33_0_20_p a6 a12 a13 a14 a15 [.map (mrow kS vI (mput (⟨x2.a, x2.b, x2.c, x2.d⟩ : SetD) (w6 ((mget 0 v4 (⟨x2.a, x2.b, x2.c, x2.d⟩ : SetD)) + 1)) v4)), yV v1 (splice v5 v2 [(⟨x2.a, x2.b, x2.c, x2.d⟩ : SetD)]), .cells 29 ((eSet a18).map .p), .cells 29 ((eSet x2).map .p)])
abbrev L33_0_20_d4 (x2 : SetD) (v4 : List (SetD × Int)) (v1 : Nat) (v5 : List SetD) (v2 : Nat) : List AB := (L33_0_20_p a6 a12 a13 a14 a15 [.map (mrow kS vI (mput (⟨x2.a, x2.b, x2.c, x2.d⟩ : SetD) (w6 ((mget 0 v4 (⟨x2.a, x2.b, x2.c, x2.d⟩ : SetD)) + 1)) v4)), yV (v1 + 1) (v5.take v2 ++ [(⟨x2.a, x2.b, x2.c, x2.d⟩ : SetD)]), .cells 29 ((eSet a18).map .p), .cells 29 ((eSet x2).map .p)])
theorem L33_0_20_ok (v1 v2 : Nat) (v3 : Int) (v4 : List (SetD × Int)) (v5 : List SetD) {r : E_L33_0_20 ⊕ (Nat × Nat × Int × (List (SetD × Int)) × (List SetD))} (h : L33_0_20 a10 a11 v1 v2 v3 v4 v5 = some r) : OkR (fun e => L33_0_20_x a3 a4 a5 a6 a7 a8 a9 a10 a12 a13 a14 a15 a18 e (L33_0_20_e a3 a4 a5 a6 a7 a8 a9 a10 a11 a12 a13 a14 a15 a18 v1 v2 v3 v4 v5)) (fun s => L33_0_20_e a3 a4 a5 a6 a7 a8 a9 a10 a11 a12 a13 a14 a15 a18 v1 v2 v3 v4 v5 = L33_0_20_e a3 a4 a5 a6 a7 a8 a9 a10 a11 a12 a13 a14 a15 a18 s.1 s.2.1 s.2.2.1 s.2.2.2.1 s.2.2.2.2) r := by
 unfold L33_0_20 at h
 apply bi h <;> intro h1 h
 ·
  apply bn h; intro x2 h2 h
  have q0 := ((lk_row key_set (ve := vI) (es := v4) (k := (⟨x2.a, x2.b, x2.c, x2.d⟩ : SetD)) (z := 0) rfl rfl) : lkA (L33_0_20_d0 a6 a12 a13 a14 a15 a18 v4 v1 v5 x2) [1, 1, 1, 1] .true .false [(.val (.int .i64 0))] .false (.mp 5) (.agg ((eSet x2).map .p)) = some (vi .i64 (mget 0 v4 (⟨x2.a, x2.b, x2.c, x2.d⟩ : SetD))))
  have q1 := ((en_row key_set (ve := vI) (es := v4) (k := (⟨x2.a, x2.b, x2.c, x2.d⟩ : SetD)) (z := 0) rfl rfl) : enA (L33_0_20_d0 a6 a12 a13 a14 a15 a18 v4 v1 v5 x2) [1, 1, 1, 1] .true .false [(.val (.int .i64 0))] (.mp 5) (.agg ((eSet x2).map .p)) = some ((.tup [(vi .i64 (mget 0 v4 (⟨x2.a, x2.b, x2.c, x2.d⟩ : SetD))), (vi .i64 (midx v4 (⟨x2.a, x2.b, x2.c, x2.d⟩ : SetD) : Int))]), L33_0_20_d1 a6 a12 a13 a14 a15 a18 v4 x2 v1 v5))
  have q2 := (⟨es_row key_set (ve := vI) (es := v4) (k := (⟨x2.a, x2.b, x2.c, x2.d⟩ : SetD)) (v := (w6 ((mget 0 v4 (⟨x2.a, x2.b, x2.c, x2.d⟩ : SetD)) + 1))) (z := 0) rfl, rfl⟩ : esA (L33_0_20_d1 a6 a12 a13 a14 a15 a18 v4 x2 v1 v5) (.mp 5) (vi .i64 (midx v4 (⟨x2.a, x2.b, x2.c, x2.d⟩ : SetD) : Int)) (vi .i64 (w6 ((mget 0 v4 (⟨x2.a, x2.b, x2.c, x2.d⟩ : SetD)) + 1))) = some (L33_0_20_d2 a6 a12 a13 a14 a15 a18 x2 v4 v1 v5) ∧ ud = ud)
  have q3 := ((lk_row key_set (ve := vI) (es := (mput (⟨x2.a, x2.b, x2.c, x2.d⟩ : SetD) (w6 ((mget 0 v4 (⟨x2.a, x2.b, x2.c, x2.d⟩ : SetD)) + 1)) v4)) (k := (⟨x2.a, x2.b, x2.c, x2.d⟩ : SetD)) (z := 0) rfl rfl) : lkA (L33_0_20_d2 a6 a12 a13 a14 a15 a18 x2 v4 v1 v5) [1, 1, 1, 1] .true .false [(.val (.int .i64 0))] .false (.mp 5) (.agg ((eSet x2).map .p)) = some (vi .i64 (mget 0 (mput (⟨x2.a, x2.b, x2.c, x2.d⟩ : SetD) (w6 ((mget 0 v4 (⟨x2.a, x2.b, x2.c, x2.d⟩ : SetD)) + 1)) v4) (⟨x2.a, x2.b, x2.c, x2.d⟩ : SetD))))
  have q4 := (L33_0_20_k a3 a4 a5 a6 a7 a8 a9 a10 a11 a12 a13 a14 a15 a18 v1 v2 (w6 (v3 + 1)) (mput (⟨x2.a, x2.b, x2.c, x2.d⟩ : SetD) (w6 ((mget 0 v4 (⟨x2.a, x2.b, x2.c, x2.d⟩ : SetD)) + 1)) v4) v5)
  have k5 := ka [(36, .d true), (37, .v (.ro (eSet x2))), (41, .v (vi .i64 (mget 0 v4 (⟨x2.a, x2.b, x2.c, x2.d⟩ : SetD)))), (43, .r (.tup [(vi .i64 (mget 0 v4 (⟨x2.a, x2.b, x2.c, x2.d⟩ : SetD))), (vi .i64 (midx v4 (⟨x2.a, x2.b, x2.c, x2.d⟩ : SetD) : Int))]) (L33_0_20_d1 a6 a12 a13 a14 a15 a18 v4 x2 v1 v5)), (8042, .r ud (L33_0_20_d2 a6 a12 a13 a14 a15 a18 x2 v4 v1 v5))] (av h1 (apc (ig eSet 4 .i64 h2) (apc q0 (apc q1 (apc q2 apn)))))
  apply bi h <;> intro h3 h
  ·
   have k6 := k5.a [(47, .d true), (51, .v (vi .i64 (mget 0 (mput (⟨x2.a, x2.b, x2.c, x2.d⟩ : SetD) (w6 ((mget 0 v4 (⟨x2.a, x2.b, x2.c, x2.d⟩ : SetD)) + 1)) v4) (⟨x2.a, x2.b, x2.c, x2.d⟩ : SetD))))] (av h3 (apc q3 apn))
   apply bi h <;> intro h4 h
   ·
    apply bi h <;> intro h5 h
    ·
     apply bi h <;> intro h6 h
     ·
      rw [← sj h]
      exact rn ([(52, .d true), (57, .r (.sl 6 v1 4 0 (v2 + ([(⟨x2.a, x2.b, x2.c, x2.d⟩ : SetD)]).length)) (L33_0_20_d3 a6 a12 a13 a14 a15 a18 x2 v4 v1 v5 v2)), (6000, .d true)] ++ kH k6) (k6.b (av h4 (apc ((ap_in (e := eSet) (xs := v5) (news := [(⟨x2.a, x2.b, x2.c, x2.d⟩ : SetD)]) rfl rows_l rfl h5 h6) : appA (L33_0_20_d2 a6 a12 a13 a14 a15 a18 x2 v4 v1 v5) 29 4 32 (.sl 6 v1 4 0 v2) (.p (.lst 4 ([(⟨x2.a, x2.b, x2.c, x2.d⟩ : SetD)].map eSet))) = some ((.sl 6 v1 4 0 (v2 + ([(⟨x2.a, x2.b, x2.c, x2.d⟩ : SetD)]).length)), L33_0_20_d3 a6 a12 a13 a14 a15 a18 x2 v4 v1 v5 v2)) (apc (L33_0_20_k a3 a4 a5 a6 a7 a8 a9 a10 a11 a12 a13 a14 a15 a18 v1 (v2 + ([(⟨x2.a, x2.b, x2.c, x2.d⟩ : SetD)]).length) (w6 (v3 + 1)) (mput (⟨x2.a, x2.b, x2.c, x2.d⟩ : SetD) (w6 ((mget 0 v4 (⟨x2.a, x2.b, x2.c, x2.d⟩ : SetD)) + 1)) v4) (splice v5 v2 [(⟨x2.a, x2.b, x2.c, x2.d⟩ : SetD)])) apn))))
     ·
      rw [← sj h]
      exact rn ([(52, .d true), (57, .r (.sl 6 (v1 + 1) 4 0 (v2 + ([(⟨x2.a, x2.b, x2.c, x2.d⟩ : SetD)]).length)) (L33_0_20_d4 a6 a12 a13 a14 a15 a18 x2 v4 v1 v5 v2)), (6000, .d true)] ++ kH k6) (k6.b (av h4 (apc ((ap_out (e := eSet) (xs := v5) (news := [(⟨x2.a, x2.b, x2.c, x2.d⟩ : SetD)]) rfl rows_l rfl h5 h6) : appA (L33_0_20_d2 a6 a12 a13 a14 a15 a18 x2 v4 v1 v5) 29 4 32 (.sl 6 v1 4 0 v2) (.p (.lst 4 ([(⟨x2.a, x2.b, x2.c, x2.d⟩ : SetD)].map eSet))) = some ((.sl 6 (v1 + 1) 4 0 (v2 + ([(⟨x2.a, x2.b, x2.c, x2.d⟩ : SetD)]).length)), L33_0_20_d4 a6 a12 a13 a14 a15 a18 x2 v4 v1 v5 v2)) (apc (L33_0_20_k a3 a4 a5 a6 a7 a8 a9 a10 a11 a12 a13 a14 a15 a18 (v1 + 1) (v2 + ([(⟨x2.a, x2.b, x2.c, x2.d⟩ : SetD)]).length) (w6 (v3 + 1)) (mput (⟨x2.a, x2.b, x2.c, x2.d⟩ : SetD) (w6 ((mget 0 v4 (⟨x2.a, x2.b, x2.c, x2.d⟩ : SetD)) + 1)) v4) (v5.take v2 ++ [(⟨x2.a, x2.b, x2.c, x2.d⟩ : SetD)])) apn))))
    ·
     cases h
   ·
    rw [← sj h]
    exact rn ([(52, .d false), (6000, .d true)] ++ kH k6) (k6.b (av h4 (apc q4 apn)))
  ·
   rw [← sj h]
   exact rn ([(47, .d false), (6000, .d true)] ++ kH k5) (k5.b (av h3 (apc q4 apn)))
 ·
  rw [← sj h]
  exact xb [(36, .d false), (6000, .d true)] (av h1 apn)
theorem L33_0_20_run (s0 : Nat × Nat × Int × (List (SetD × Int)) × (List SetD)) (e : E_L33_0_20) (h : runL (fun s => L33_0_20 a10 a11 s.1 s.2.1 s.2.2.1 s.2.2.2.1 s.2.2.2.2) s0 = some e) : L33_0_20_x a3 a4 a5 a6 a7 a8 a9 a10 a12 a13 a14 a15 a18 e (L33_0_20_e a3 a4 a5 a6 a7 a8 a9 a10 a11 a12 a13 a14 a15 a18 s0.1 s0.2.1 s0.2.2.1 s0.2.2.2.1 s0.2.2.2.2) := by
  have q := @loop_sound' (Nat × Nat × Int × (List (SetD × Int)) × (List SetD)) E_L33_0_20 (fun s => L33_0_20 a10 a11 s.1 s.2.1 s.2.2.1 s.2.2.2.1 s.2.2.2.2) (fun s => L33_0_20_e a3 a4 a5 a6 a7 a8 a9 a10 a11 a12 a13 a14 a15 a18 s.1 s.2.1 s.2.2.1 s.2.2.2.1 s.2.2.2.2) (L33_0_20_x a3 a4 a5 a6 a7 a8 a9 a10 a12 a13 a14 a15 a18) (fun s r h => L33_0_20_ok a3 a4 a5 a6 a7 a8 a9 a10 a11 a12 a13 a14 a15 a18 s.1 s.2.1 s.2.2.1 s.2.2.2.1 s.2.2.2.2 h) s0 e h
  exact q
end
inductive E_L33_1_6 where
  | k0 (x0 x1 : Nat) (x2 : List (SetD × Int)) (x3 : List SetD)
section
variable (a1 : List SetD) (a2 a3 : Int) (a4 a5 : Nat) (a6 : Int) (a7 : Nat) (a8 a9 : List SetD) (a10 : SetD)
abbrev L33_1_6_p (l : List AB) : List AB := yV0 :: yV a7 a8 :: yV0 :: yV a4 a9 :: .cells 29 ((eSet a10).map .p) :: l
def L33_1_6 (v1 v2 : Nat) (v3 : Int) (v4 : List (SetD × Int)) (v5 : List SetD) : Option (E_L33_1_6 ⊕ (Nat × Nat × Int × (List (SetD × Int)) × (List SetD))) :=
  (bif (decide (v3 < a6)) then ((ixN a5 v3).bind fun x2 => ((a9[x2]?).bind fun x3 => ((F18 x3 a10).bind fun x4 => ((F21 x3 a10).bind fun x5 => ((runL (fun s => L33_0_20 ([(⟨x4.a, x4.b, x4.c, x4.d⟩ : SetD), (⟨x5.a, x5.b, x5.c, x5.d⟩ : SetD)]) (([(⟨x4.a, x4.b, x4.c, x4.d⟩ : SetD), (⟨x5.a, x5.b, x5.c, x5.d⟩ : SetD)]).length : Int) s.1 s.2.1 s.2.2.1 s.2.2.2.1 s.2.2.2.2) (v1, v2, 0, v4, v5)).bind fun r6 => match r6 with | .k0 x6_0 x6_1 x6_2 x6_3 => (some (.inr (x6_0, x6_1, (IntKind.wrap .i64 (v3 + 1)), x6_2, x6_3)))))))) else (some (.inl (.k0 v1 v2 v4 v5))))
def L33_1_6_s (v1 v2 : Nat) (v3 : Int) (v4 : List (SetD × Int)) (v5 : List SetD) : St := ⟨fr 65 ug [(5, .ptr 4 0), (6, .mp 5), (7, .sl 6 v1 4 0 v2), (14, ls 4 eSet a1), (15, vi .i64 a2), (16, vi .i64 a3), (21, .sl 3 a4 4 0 a5), (22, vi .i64 a6), (23, vi .i64 v3)], (L33_1_6_p a4 a7 a8 a9 a10 [.map (mrow kS vI v4), yV v1 v5])⟩
theorem L33_1_6_k (v1 v2 : Nat) (v3 : Int) (v4 : List (SetD × Int)) (v5 : List SetD) : okT 7 (L33_1_6_s a1 a2 a3 a4 a5 a6 a7 a8 a9 a10 v1 v2 v3 v4 v5).h = true := (okT_of rfl (ar (ar (ar (ar (ac (abl_cons (abl_map (fun _ => rfl) (fun _ => rfl)) (ar rfl))))))))
abbrev L33_1_6_e (v1 v2 : Nat) (v3 : Int) (v4 : List (SetD × Int)) (v5 : List SetD) := evH prg 7 [5, 6, 7, 14, 15, 16, 21, 22, 23, 2000798002100] ir33_l1 (L33_1_6_s a1 a2 a3 a4 a5 a6 a7 a8 a9 a10 v1 v2 v3 v4 v5)
def L33_1_6_x (e : E_L33_1_6) (r : Option (Out × St)) : Prop := match e with | .k0 x0 x1 x2 x3 => ∃ g, r = some ((.brk 2), ⟨fr 65 g [(5, .ptr 4 0), (7, .sl 6 x0 4 0 x1), (14, ls 4 eSet a1), (15, vi .i64 a2), (16, vi .i64 a3), (21, .sl 3 a4 4 0 a5)], (L33_1_6_p a4 a7 a8 a9 a10 [.map (mrow kS vI x2), yV x0 x3])⟩)
abbrev L33_1_6_d0 (g6 : Nat → AV) (x6_0 x6_1 : Nat) (v3 : Int) (x4 x5 : SetD) (x6_2 : List (SetD × Int)) (x6_3 : List SetD) (x3 : SetD) : St := ⟨fr 65 g6 [(5, .ptr 4 0), (6, .mp 5), (7, .sl 6 x6_0 4 0 x6_1), (14, ls 4 eSet a1), (15, vi .i64 a2), (16, vi .i64 a3), (21, .sl 3 a4 4 0 a5), (22, vi .i64 a6), (23, vi .i64 v3), (33, (.p (.lst 4 (([(⟨x4.a, x4.b, x4.c, x4.d⟩ : SetD), (⟨x5.a, x5.b, x5.c, x5.d⟩ : SetD)]).map eSet))))], (L33_1_6_p a4 a7 a8 a9 a10 [.map (mrow kS vI x6_2), yV x6_0 x6_3, .cells 29 ((eSet x3).map .p)])⟩
abbrev L33_1_6_d1 (v4 : List (SetD × Int)) (v1 : Nat) (v5 : List SetD) (x3 : SetD) : List AB := (L33_1_6_p a4 a7 a8 a9 a10 [.map (mrow kS vI v4), yV v1 v5, .cells 29 ((eSet x3).map .p)])
theorem L33_1_6_ok (v1 v2 : Nat) (v3 : Int) (v4 : List (SetD × Int)) (v5 : List SetD) {r : E_L33_1_6 ⊕ (Nat × Nat × Int × (List (SetD × Int)) × (List SetD))} (h : L33_1_6 a5 a6 a9 a10 v1 v2 v3 v4 v5 = some r) : OkR (fun e => L33_1_6_x a1 a2 a3 a4 a5 a7 a8 a9 a10 e (L33_1_6_e a1 a2 a3 a4 a5 a6 a7 a8 a9 a10 v1 v2 v3 v4 v5)) (fun s => L33_1_6_e a1 a2 a3 a4 a5 a6 a7 a8 a9 a10 v1 v2 v3 v4 v5 = L33_1_6_e a1 a2 a3 a4 a5 a6 a7 a8 a9 a10 s.1 s.2.1 s.2.2.1 s.2.2.2.1 s.2.2.2.2) r := by
 unfold L33_1_6 at h
 apply bi h <;> intro h1 h
 ·
  apply bn h; intro x2 h2 h
  apply bn h; intro x3 h3 h
  apply bn h; intro x4 h4 h
  apply bn h; intro x5 h5 h
  apply bn h; intro r6 h6 h
  cases r6 with
  | k0 x6_0 x6_1 x6_2 x6_3 =>
   obtain ⟨g6, e6⟩ := L33_0_20_run a1 a2 a3 a4 a5 a6 v3 ([(⟨x4.a, x4.b, x4.c, x4.d⟩ : SetD), (⟨x5.a, x5.b, x5.c, x5.d⟩ : SetD)]) (([(⟨x4.a, x4.b, x4.c, x4.d⟩ : SetD), (⟨x5.a, x5.b, x5.c, x5.d⟩ : SetD)]).length : Int) a7 a8 a9 a10 x3 (v1, v2, 0, v4, v5) _ h6
   rw [← sj h]
   exact rn [(24, .d true), (25, .v (.rp 3 a4 4 x2 0)), (26, .v (.agg ((eSet x3).map .p))), (29, .v (.agg [vi .u64 x4.a, vi .u64 x4.b, vi .u64 x4.c, vi .u64 x4.d])), (32, .v (.agg [vi .u64 x5.a, vi .u64 x5.b, vi .u64 x5.c, vi .u64 x5.d])), (34, .v (vi .i64 (([(⟨x4.a, x4.b, x4.c, x4.d⟩ : SetD), (⟨x5.a, x5.b, x5.c, x5.d⟩ : SetD)]).length : Int))), (2004, .l (.brk 4) (L33_1_6_d0 a1 a2 a3 a4 a5 a6 a7 a8 a9 a10 g6 x6_0 x6_1 v3 x4 x5 x6_2 x6_3 x3)), (6000, .d true)] (av h1 (apc ((idx_sl h2) : idxA 4 (.sl 3 a4 4 0 a5) (vi .i64 v3) = some (.rp 3 a4 4 x2 0)) (apc ((ld_row rfl h3 rfl) : ldA (L33_1_6_p a4 a7 a8 a9 a10 [.map (mrow kS vI v4), yV v1 v5]) .true 4 (.rp 3 a4 4 x2 0) = some (.agg ((eSet x3).map .p))) (apc (((F18_ok x3 a10 h4).cp rfl _) : CP prg 18 [(.agg ((eSet x3).map .p)), (.agg ((eSet a10).map .p))] (L33_1_6_d1 a4 a7 a8 a9 a10 v4 v1 v5 x3) = some (.agg [vi .u64 x4.a, vi .u64 x4.b, vi .u64 x4.c, vi .u64 x4.d])) (apc (((F21_ok x3 a10 h5).cp rfl _) : CP prg 21 [(.agg ((eSet x3).map .p)), (.agg ((eSet a10).map .p))] (L33_1_6_d1 a4 a7 a8 a9 a10 v4 v1 v5 x3) = some (.agg [vi .u64 x5.a, vi .u64 x5.b, vi .u64 x5.c, vi .u64 x5.d])) (apc (lg [(⟨x4.a, x4.b, x4.c, x4.d⟩ : SetD), (⟨x5.a, x5.b, x5.c, x5.d⟩ : SetD)] eSet 4) (apc (L33_0_20_k a1 a2 a3 a4 a5 a6 v3 ([(⟨x4.a, x4.b, x4.c, x4.d⟩ : SetD), (⟨x5.a, x5.b, x5.c, x5.d⟩ : SetD)]) (([(⟨x4.a, x4.b, x4.c, x4.d⟩ : SetD), (⟨x5.a, x5.b, x5.c, x5.d⟩ : SetD)]).length : Int) a7 a8 a9 a10 x3 v1 v2 0 v4 v5) (apc (e6 : L33_0_20_e a1 a2 a3 a4 a5 a6 v3 ([(⟨x4.a, x4.b, x4.c, x4.d⟩ : SetD), (⟨x5.a, x5.b, x5.c, x5.d⟩ : SetD)]) (([(⟨x4.a, x4.b, x4.c, x4.d⟩ : SetD), (⟨x5.a, x5.b, x5.c, x5.d⟩ : SetD)]).length : Int) a7 a8 a9 a10 x3 v1 v2 0 v4 v5 = some ((.brk 4), L33_1_6_d0 a1 a2 a3 a4 a5 a6 a7 a8 a9 a10 g6 x6_0 x6_1 v3 x4 x5 x6_2 x6_3 x3)) (apc (L33_1_6_k a1 a2 a3 a4 a5 a6 a7 a8 a9 a10 x6_0 x6_1 (w6 (v3 + 1)) x6_2 x6_3) apn)))))))))
 ·
  rw [← sj h]
  exact xb [(24, .d false), (6000, .d true)] (av h1 apn)
theorem L33_1_6_run (s0 : Nat × Nat × Int × (List (SetD × Int)) × (List SetD)) (e : E_L33_1_6) (h : runL (fun s => L33_1_6 a5 a6 a9 a10 s.1 s.2.1 s.2.2.1 s.2.2.2.1 s.2.2.2.2) s0 = some e) : L33_1_6_x a1 a2 a3 a4 a5 a7 a8 a9 a10 e (L33_1_6_e a1 a2 a3 a4 a5 a6 a7 a8 a9 a10 s0.1 s0.2.1 s0.2.2.1 s0.2.2.2.1 s0.2.2.2.2) := by
  have q := @loop_sound' (Nat × Nat × Int × (List (SetD × Int)) × (List SetD)) E_L33_1_6 (fun s => L33_1_6 a5 a6 a9 a10 s.1 s.2.1 s.2.2.1 s.2.2.2.1 s.2.2.2.2) (fun s => L33_1_6_e a1 a2 a3 a4 a5 a6 a7 a8 a9 a10 s.1 s.2.1 s.2.2.1 s.2.2.2.1 s.2.2.2.2) (L33_1_6_x a1 a2 a3 a4 a5 a7 a8 a9 a10) (fun s r h => L33_1_6_ok a1 a2 a3 a4 a5 a6 a7 a8 a9 a10 s.1 s.2.1 s.2.2.1 s.2.2.2.1 s.2.2.2.2 h) s0 e h
  exact q
end
inductive E_L33_2_2 where
  | k0 (x0 x1 : Nat) (x2 : List SetD)
section
variable (a1 : List SetD) (a2 : Int) (a3 : Nat) (a4 : List SetD)
abbrev L33_2_2_p (l : List AB) : List AB := yV0 :: yV a3 a4 :: yV0 :: l
def L33_2_2 (v1 v2 : Nat) (v3 : Int) (v4 : List SetD) : Option (E_L33_2_2 ⊕ (Nat × Nat × Int × (List SetD))) :=
  (bif (decide (v3 < a2)) then ((getI a1 v3).bind fun x2 => ((runL (fun s => L33_1_6 v2 ((v2 : Nat) : Int) v4 x2 s.1 s.2.1 s.2.2.1 s.2.2.2.1 s.2.2.2.2) (0, 0, 0, [], [])).bind fun r3 => match r3 with | .k0 x3_0 x3_1 x3_2 x3_3 => (some (.inr ((v1 + 1), x3_1, (IntKind.wrap .i64 (v3 + 1)), x3_3))))) else (some (.inl (.k0 v1 v2 v4))))
def L33_2_2_s (v1 v2 : Nat) (v3 : Int) (v4 : List SetD) : St := ⟨fr 65 ug [(3, .sl 3 v1 4 0 v2), (14, ls 4 eSet a1), (15, vi .i64 a2), (16, vi .i64 v3)], (L33_2_2_p a3 a4 [yV v1 v4])⟩
theorem L33_2_2_k (v1 v2 : Nat) (v3 : Int) (v4 : List SetD) : okT 4 (L33_2_2_s a1 a2 a3 a4 v1 v2 v3 v4).h = true := (okT_of rfl (ar (ar (ar (ar rfl)))))
abbrev L33_2_2_e (v1 v2 : Nat) (v3 : Int) (v4 : List SetD) := evH prg 4 [3, 14, 15, 16] ir33_l2 (L33_2_2_s a1 a2 a3 a4 v1 v2 v3 v4)
def L33_2_2_x (e : E_L33_2_2) (r : Option (Out × St)) : Prop := match e with | .k0 x0 x1 x2 => ∃ g, r = some ((.brk 0), ⟨fr 65 g [(3, .sl 3 x0 4 0 x1), (14, ls 4 eSet a1)], (L33_2_2_p a3 a4 [yV x0 x2])⟩)
abbrev L33_2_2_d0 (g3 : Nat → AV) (x3_0 x3_1 : Nat) (v3 : Int) (v1 v2 : Nat) (v4 : List SetD) (x2 : SetD) (x3_2 : List (SetD × Int)) (x3_3 : List SetD) : St := ⟨fr 65 g3 [(5, .ptr 4 0), (7, .sl 6 x3_0 4 0 x3_1), (14, ls 4 eSet a1), (15, vi .i64 a2), (16, vi .i64 v3), (21, .sl 3 v1 4 0 v2)], (L33_2_2_p a3 a4 [yV v1 v4, .cells 29 ((eSet x2).map .p), .map (mrow kS vI x3_2), yV x3_0 x3_3])⟩
abbrev L33_2_2_d1 (v1 : Nat) (x3_3 : List SetD) (x2 : SetD) (x3_2 : List (SetD × Int)) : List AB := (L33_2_2_p a3 a4 [yV (v1 + 1) x3_3, .cells 29 ((eSet x2).map .p), .map (mrow kS vI x3_2), .dead])
theorem L33_2_2_ok (v1 v2 : Nat) (v3 : Int) (v4 : List SetD) {r : E_L33_2_2 ⊕ (Nat × Nat × Int × (List SetD))} (h : L33_2_2 a1 a2 v1 v2 v3 v4 = some r) : OkR (fun e => L33_2_2_x a1 a3 a4 e (L33_2_2_e a1 a2 a3 a4 v1 v2 v3 v4)) (fun s => L33_2_2_e a1 a2 a3 a4 v1 v2 v3 v4 = L33_2_2_e a1 a2 a3 a4 s.1 s.2.1 s.2.2.1 s.2.2.2) r := by
 unfold L33_2_2 at h
 apply bi h <;> intro h1 h
 ·
  apply bn h; intro x2 h2 h
  apply bn h; intro r3 h3 h
  cases r3 with
  | k0 x3_0 x3_1 x3_2 x3_3 =>
   obtain ⟨g3, e3⟩ := L33_1_6_run a1 a2 v3 v1 v2 ((v2 : Nat) : Int) a3 a4 v4 x2 (0, 0, 0, [], []) _ h3
   rw [← sj h]
   exact rn [(17, .d true), (18, .v (.ro (eSet x2))), (2002, .l (.brk 2) (L33_2_2_d0 a1 a2 a3 a4 g3 x3_0 x3_1 v3 v1 v2 v4 x2 x3_2 x3_3)), (9000, .l .norm ⟨[g3 0, g3 1, g3 2, g3 3, g3 4, .ptr 4 0, g3 6, (.sl 3 (v1 + 1) 4 0 x3_1), g3 8, g3 9, g3 10, g3 11, g3 12, g3 13, ls 4 eSet a1, vi .i64 a2, vi .i64 v3, g3 17, g3 18, g3 19, g3 20, .sl 3 v1 4 0 v2, g3 22, g3 23, g3 24, g3 25, g3 26, g3 27, g3 28, g3 29, g3 30, g3 31, g3 32, g3 33, g3 34, g3 35, g3 36, g3 37, g3 38, g3 39, g3 40, g3 41, g3 42, g3 43, g3 44, g3 45, g3 46, g3 47, g3 48, g3 49, g3 50, g3 51, g3 52, g3 53, g3 54, g3 55, g3 56, g3 57, g3 58, g3 59, g3 60, g3 61, g3 62, g3 63, g3 64], L33_2_2_d1 a3 a4 v1 x3_3 x2 x3_2⟩), (6000, .d true)] (av h1 (apc (ig eSet 4 .i64 h2) (apc (L33_1_6_k a1 a2 v3 v1 v2 ((v2 : Nat) : Int) a3 a4 v4 x2 0 0 0 ([]) ([])) (apc (e3 : L33_1_6_e a1 a2 v3 v1 v2 ((v2 : Nat) : Int) a3 a4 v4 x2 0 0 0 ([]) ([]) = some ((.brk 2), L33_2_2_d0 a1 a2 a3 a4 g3 x3_0 x3_1 v3 v1 v2 v4 x2 x3_2 x3_3)) (apc ((frzS_mov rfl rfl rfl rfl rfl (by kernel_rfl) (by kernel_rfl)) : frzS [] [] [(7, 98, 21, 0)] ⟨[g3 0, g3 1, g3 2, g3 3, g3 4, .ptr 4 0, g3 6, .sl 6 x3_0 4 0 x3_1, g3 8, g3 9, g3 10, g3 11, g3 12, g3 13, ls 4 eSet a1, vi .i64 a2, vi .i64 v3, g3 17, g3 18, g3 19, g3 20, .sl 3 v1 4 0 v2, g3 22, g3 23, g3 24, g3 25, g3 26, g3 27, g3 28, g3 29, g3 30, g3 31, g3 32, g3 33, g3 34, g3 35, g3 36, g3 37, g3 38, g3 39, g3 40, g3 41, g3 42, g3 43, g3 44, g3 45, g3 46, g3 47, g3 48, g3 49, g3 50, g3 51, g3 52, g3 53, g3 54, g3 55, g3 56, g3 57, g3 58, g3 59, g3 60, g3 61, g3 62, g3 63, g3 64], (L33_2_2_p a3 a4 [yV v1 v4, .cells 29 ((eSet x2).map .p), .map (mrow kS vI x3_2), yV x3_0 x3_3])⟩ = ⟨[g3 0, g3 1, g3 2, g3 3, g3 4, .ptr 4 0, g3 6, (.sl 3 (v1 + 1) 4 0 x3_1), g3 8, g3 9, g3 10, g3 11, g3 12, g3 13, ls 4 eSet a1, vi .i64 a2, vi .i64 v3, g3 17, g3 18, g3 19, g3 20, .sl 3 v1 4 0 v2, g3 22, g3 23, g3 24, g3 25, g3 26, g3 27, g3 28, g3 29, g3 30, g3 31, g3 32, g3 33, g3 34, g3 35, g3 36, g3 37, g3 38, g3 39, g3 40, g3 41, g3 42, g3 43, g3 44, g3 45, g3 46, g3 47, g3 48, g3 49, g3 50, g3 51, g3 52, g3 53, g3 54, g3 55, g3 56, g3 57, g3 58, g3 59, g3 60, g3 61, g3 62, g3 63, g3 64], L33_2_2_d1 a3 a4 v1 x3_3 x2 x3_2⟩) (apc (L33_2_2_k a1 a2 a3 a4 (v1 + 1) x3_1 (w6 (v3 + 1)) x3_3) apn))))))
 ·
  rw [← sj h]
  exact xb [(17, .d false), (6000, .d true)] (av h1 apn)
theorem L33_2_2_run (s0 : Nat × Nat × Int × (List SetD)) (e : E_L33_2_2) (h : runL (fun s => L33_2_2 a1 a2 s.1 s.2.1 s.2.2.1 s.2.2.2) s0 = some e) : L33_2_2_x a1 a3 a4 e (L33_2_2_e a1 a2 a3 a4 s0.1 s0.2.1 s0.2.2.1 s0.2.2.2) := by
  have q := @loop_sound' (Nat × Nat × Int × (List SetD)) E_L33_2_2 (fun s => L33_2_2 a1 a2 s.1 s.2.1 s.2.2.1 s.2.2.2) (fun s => L33_2_2_e a1 a2 a3 a4 s.1 s.2.1 s.2.2.1 s.2.2.2) (L33_2_2_x a1 a3 a4) (fun s r h => L33_2_2_ok a1 a2 a3 a4 s.1 s.2.1 s.2.2.1 s.2.2.2 h) s0 e h
  exact q
end
inductive R_F33_2 where
  | k0 (x0 x1 : Nat) (x2 : List SetD)
def F33_2_v (a1 : List SetD) (a2 : Nat) (a3 : List SetD) (r : R_F33_2) : AV := match r with | .k0 x0 x1 x2 => (.sl 3 x0 4 0 x1)
def F33_2_h (a1 : List SetD) (a2 : Nat) (a3 : List SetD) (r : R_F33_2) : List AB := match r with | .k0 x0 x1 x2 => [yV0, yV a2 a3, yV0, yV x0 x2]
def F33_2 (a1 : List SetD) : Option R_F33_2 :=
  ((F16).bind fun x1 => ((runL (fun s => L33_2_2 a1 (a1.length : Int) s.1 s.2.1 s.2.2.1 s.2.2.2) (0, 1, 0, [(⟨x1.a, x1.b, x1.c, x1.d⟩ : SetD)])).bind fun r2 => match r2 with | .k0 x2_0 x2_1 x2_2 => (bif (decide (x2_1 ≤ x2_2.length ∧ x2_2.length ≤ 1000000)) then (bif (x2_2.all sOk) then (some (.k0 x2_0 x2_1 (srtR x2_2 x2_1))) else none) else none)))
abbrev F33_2_d0 (g2 : Nat → AV) (x2_0 x2_1 : Nat) (a1 : List SetD) (a2 : Nat) (a3 x2_2 : List SetD) : St := ⟨fr 65 g2 [(3, .sl 3 x2_0 4 0 x2_1), (14, ls 4 eSet a1)], [yV0, yV a2 a3, yV0, yV x2_0 x2_2]⟩
abbrev F33_2_d1 (a2 : Nat) (a3 : List SetD) (x2_0 : Nat) (x2_2 : List SetD) (x2_1 : Nat) : List AB := [yV0, yV a2 a3, yV0, yV x2_0 (srtR x2_2 x2_1)]
theorem F33_2_ok (a1 : List SetD) (a2 : Nat) (a3 : List SetD) {r : R_F33_2} (h : F33_2 a1 = some r) : CS prg 33 [ls 4 eSet a1] [yV0, yV a2 a3] = some (F33_2_v a1 a2 a3 r, F33_2_h a1 a2 a3 r) := by
 unfold F33_2 at h
 apply bn h; intro x1 h1 h
 have q0 := (((F16_ok  h1).cp rfl _) : CP prg 16 [] [yV0, yV a2 a3, yV0] = some (.agg [vi .u64 x1.a, vi .u64 x1.b, vi .u64 x1.c, vi .u64 x1.d]))
 have q1 := (L33_2_2_k a1 (a1.length : Int) a2 a3 0 1 0 ([(⟨x1.a, x1.b, x1.c, x1.d⟩ : SetD)]))
 have k2 := ka [(12, .v (.agg [vi .u64 x1.a, vi .u64 x1.b, vi .u64 x1.c, vi .u64 x1.d])), (15, .v (vi .i64 (a1.length : Int)))] (apc q0 (apc (lg a1 eSet 4) apn))
 apply bn h; intro r2 h2 h
 cases r2 with
 | k0 x2_0 x2_1 x2_2 =>
  obtain ⟨g2, e2⟩ := L33_2_2_run a1 (a1.length : Int) a2 a3 (0, 1, 0, [(⟨x1.a, x1.b, x1.c, x1.d⟩ : SetD)]) _ h2
  have q3 := (e2 : L33_2_2_e a1 (a1.length : Int) a2 a3 0 1 0 ([(⟨x1.a, x1.b, x1.c, x1.d⟩ : SetD)]) = some ((.brk 0), F33_2_d0 g2 x2_0 x2_1 a1 a2 a3 x2_2))
  have k4 := k2.a [(2000, .l (.brk 0) (F33_2_d0 g2 x2_0 x2_1 a1 a2 a3 x2_2))] (apc q1 (apc q3 apn))
  apply bi h <;> intro h3 h
  ·
   apply bi h <;> intro h4 h
   ·
    rw [← sj h]
    exact fc ([(63, .r (.tup []) (F33_2_d1 a2 a3 x2_0 x2_2 x2_1)), (6000, .d true)] ++ kH k4) (k4.b (apc ((cs_sort (xs := x2_2) rfl h3 h4 rfl) : CS prg 41 [.sl 3 x2_0 4 0 x2_1, (.fn 42 [])] [yV0, yV a2 a3, yV0, yV x2_0 x2_2] = some ((.tup []), F33_2_d1 a2 a3 x2_0 x2_2 x2_1)) apn))
   ·
    cases h
  ·
   cases h
def F15_2_v (a1 : SetD) (a2 : Int) (x0 : Bool) : AV := (vb x0)
def F15_2 (a1 : SetD) (a2 : Int) : Option Bool :=
  (bif ((IntKind.wrap .i64 (Int.tdiv a2 64)) == 0) then (bif (decide ((Int.tmod a2 64) < 0)) then none else (some ((Int.tmod (Int.fdiv a1.a (2 ^ (min (Int.toNat (Int.tmod a2 64)) (IntKind.bits .u64)))) 2) == 1))) else (bif ((IntKind.wrap .i64 (Int.tdiv a2 64)) == 1) then (bif (decide ((Int.tmod a2 64) < 0)) then none else (some ((Int.tmod (Int.fdiv a1.b (2 ^ (min (Int.toNat (Int.tmod a2 64)) (IntKind.bits .u64)))) 2) == 1))) else (bif ((IntKind.wrap .i64 (Int.tdiv a2 64)) == 2) then (bif (decide ((Int.tmod a2 64) < 0)) then none else (some ((Int.tmod (Int.fdiv a1.c (2 ^ (min (Int.toNat (Int.tmod a2 64)) (IntKind.bits .u64)))) 2) == 1))) else (bif ((IntKind.wrap .i64 (Int.tdiv a2 64)) == 3) then (bif (decide ((Int.tmod a2 64) < 0)) then none else (some ((Int.tmod (Int.fdiv a1.d (2 ^ (min (Int.toNat (Int.tmod a2 64)) (IntKind.bits .u64)))) 2) == 1))) else none))))
theorem F15_2_ok (a1 : SetD) (a2 : Int) {r : Bool} (h : F15_2 a1 a2 = some r) : PR1 prg 15 [(.agg ((eSet a1).map .p)), vi .i64 a2] (F15_2_v a1 a2 r) := by
 unfold F15_2 at h
 apply bi h <;> intro h1 h
 ·
  have q0 := ((ix_lit h1 (fun z => ixP 4 1 (.ptr 0 0) (vi .i64 z)) rfl) : ixP 4 1 (.ptr 0 0) (vi .i64 (w6 (Int.tdiv a2 64))) = some (.ptr 0 0))
  apply bi h <;> intro h2 h
  ·
   cases h
  ·
   rw [← sj h]
   exact fq [(7, .v (.ptr 0 0)), (11, .v (vi .u64 (Int.fdiv a1.a (2 ^ (min (Int.toNat (Int.tmod a2 64)) (IntKind.bits .u64))))))] (apc q0 (apc ((sh_shr (of_decide_eq_false h2)) : binA .shr (vi .u64 a1.a) (vi .i64 (Int.tmod a2 64)) = some (vi .u64 (Int.fdiv a1.a (2 ^ (min (Int.toNat (Int.tmod a2 64)) (IntKind.bits .u64)))))) apn))
 ·
  apply bi h <;> intro h2 h
  ·
   have q1 := ((ix_lit h2 (fun z => ixP 4 1 (.ptr 0 0) (vi .i64 z)) rfl) : ixP 4 1 (.ptr 0 0) (vi .i64 (w6 (Int.tdiv a2 64))) = some (.ptr 0 1))
   apply bi h <;> intro h3 h
   ·
    cases h
   ·
    rw [← sj h]
    exact fq [(7, .v (.ptr 0 1)), (11, .v (vi .u64 (Int.fdiv a1.b (2 ^ (min (Int.toNat (Int.tmod a2 64)) (IntKind.bits .u64))))))] (apc q1 (apc ((sh_shr (of_decide_eq_false h3)) : binA .shr (vi .u64 a1.b) (vi .i64 (Int.tmod a2 64)) = some (vi .u64 (Int.fdiv a1.b (2 ^ (min (Int.toNat (Int.tmod a2 64)) (IntKind.bits .u64)))))) apn))
  ·
   apply bi h <;> intro h3 h
   ·
    have q2 := ((ix_lit h3 (fun z => ixP 4 1 (.ptr 0 0) (vi .i64 z)) rfl) : ixP 4 1 (.ptr 0 0) (vi .i64 (w6 (Int.tdiv a2 64))) = some (.ptr 0 2))
    apply bi h <;> intro h4 h
    ·
     cases h
    ·
     rw [← sj h]
     exact fq [(7, .v (.ptr 0 2)), (11, .v (vi .u64 (Int.fdiv a1.c (2 ^ (min (Int.toNat (Int.tmod a2 64)) (IntKind.bits .u64))))))] (apc q2 (apc ((sh_shr (of_decide_eq_false h4)) : binA .shr (vi .u64 a1.c) (vi .i64 (Int.tmod a2 64)) = some (vi .u64 (Int.fdiv a1.c (2 ^ (min (Int.toNat (Int.tmod a2 64)) (IntKind.bits .u64)))))) apn))
   ·
    apply bi h <;> intro h4 h
    ·
     have q3 := ((ix_lit h4 (fun z => ixP 4 1 (.ptr 0 0) (vi .i64 z)) rfl) : ixP 4 1 (.ptr 0 0) (vi .i64 (w6 (Int.tdiv a2 64))) = some (.ptr 0 3))
     apply bi h <;> intro h5 h
     ·
      cases h
     ·
      rw [← sj h]
      exact fq [(7, .v (.ptr 0 3)), (11, .v (vi .u64 (Int.fdiv a1.d (2 ^ (min (Int.toNat (Int.tmod a2 64)) (IntKind.bits .u64))))))] (apc q3 (apc ((sh_shr (of_decide_eq_false h5)) : binA .shr (vi .u64 a1.d) (vi .i64 (Int.tmod a2 64)) = some (vi .u64 (Int.fdiv a1.d (2 ^ (min (Int.toNat (Int.tmod a2 64)) (IntKind.bits .u64)))))) apn))
    ·
     cases h
inductive E_L34_0_4 where
  | k0 (x0 : Bool)
section
variable (a1 : List SetD) (a2 a3 a4 a5 : Nat) (a6 a7 a8 : Int) (a9 : List SetD) (a10 : List Int)
def L34_0_4 (v1 : Bool) (v2 : Int) : Option (E_L34_0_4 ⊕ (Bool × Int)) :=
  (bif (decide (v2 < (a1.length : Int))) then (bif v1 then ((getI a1 v2).bind fun x3 => ((F15_2 x3 a6).bind fun x4 => ((ixN a5 a8).bind fun x5 => ((a10[x5]?).bind fun x6 => ((F15_2 x3 x6).bind fun x7 => (bif ((x4 == x7) && true) then (some (.inr (true, (IntKind.wrap .i64 (v2 + 1))))) else (some (.inr (false, (IntKind.wrap .i64 (v2 + 1))))))))))) else (some (.inr (false, (IntKind.wrap .i64 (v2 + 1)))))) else (some (.inl (.k0 v1))))
def L34_0_4_s (v1 : Bool) (v2 : Int) : St := ⟨fr 69 ug [(0, ls 4 eSet a1), (3, .sl 1 a2 4 0 a3), (4, .sl 2 a4 1 0 a5), (5, vi .i64 a6), (6, vi .i64 a7), (7, vi .i64 a8), (8, vb v1), (9, vi .i64 v2)], [yV0, yV a2 a9, yI a4 a10]⟩
theorem L34_0_4_k (v1 : Bool) (v2 : Int) : okT 3 (L34_0_4_s a1 a2 a3 a4 a5 a6 a7 a8 a9 a10 v1 v2).h = true := (okT_of rfl (ar (ar (ar rfl))))
abbrev L34_0_4_e (v1 : Bool) (v2 : Int) := evH prg 3 [0, 3, 4, 5, 6, 7, 8, 9] ir34_l0 (L34_0_4_s a1 a2 a3 a4 a5 a6 a7 a8 a9 a10 v1 v2)
def L34_0_4_x (e : E_L34_0_4) (r : Option (Out × St)) : Prop := match e with | .k0 x0 => ∃ g, r = some ((.brk 4), ⟨fr 69 g [(0, ls 4 eSet a1), (3, .sl 1 a2 4 0 a3), (4, .sl 2 a4 1 0 a5), (5, vi .i64 a6), (6, vi .i64 a7), (7, vi .i64 a8), (8, vb x0)], [yV0, yV a2 a9, yI a4 a10]⟩)
abbrev L34_0_4_d0 : List AB := [yV0, yV a2 a9, yI a4 a10]
theorem L34_0_4_ok (v1 : Bool) (v2 : Int) {r : E_L34_0_4 ⊕ (Bool × Int)} (h : L34_0_4 a1 a5 a6 a8 a10 v1 v2 = some r) : OkR (fun e => L34_0_4_x a1 a2 a3 a4 a5 a6 a7 a8 a9 a10 e (L34_0_4_e a1 a2 a3 a4 a5 a6 a7 a8 a9 a10 v1 v2)) (fun s => L34_0_4_e a1 a2 a3 a4 a5 a6 a7 a8 a9 a10 v1 v2 = L34_0_4_e a1 a2 a3 a4 a5 a6 a7 a8 a9 a10 s.1 s.2) r := by
 unfold L34_0_4 at h
 have q0 := (L34_0_4_k a1 a2 a3 a4 a5 a6 a7 a8 a9 a10 false (w6 (v2 + 1)))
 have k1 := ka [(22, .v (vi .i64 (a1.length : Int)))] (apc (lg a1 eSet 4) apn)
 apply bi h <;> intro h1 h
 ·
  apply bi h <;> intro h2 h
  ·
   have k2 := k1.a [(23, .d true), (26, .d true)] (av h1 (av h2 apn))
   apply bn h; intro x3 h3 h
   apply bn h; intro x4 h4 h
   have q3 := (((F15_2_ok x3 a6 h4).cp rfl _) : CP prg 15 [(.agg ((eSet x3).map .p)), vi .i64 a6] (L34_0_4_d0 a2 a4 a9 a10) = some (vb x4))
   have k4 := k2.a [(30, .v (.ro (eSet x3))), (33, .v (vb x4)), (36, .v (.ro (eSet x3)))] (apc (ig eSet 4 .i64 h3) (apc q3 (apc (ig eSet 4 .i64 h3) apn)))
   apply bn h; intro x5 h5 h
   have q5 := ((idx_sl h5) : idxA 1 (.sl 2 a4 1 0 a5) (vi .i64 a8) = some (.rp 2 a4 1 x5 0))
   apply bn h; intro x6 h6 h
   have q6 := ((ld_row rfl h6 rfl) : ldA (L34_0_4_d0 a2 a4 a9 a10) .false 1 (.rp 2 a4 1 x5 0) = some (vi .i64 x6))
   have k7 := k4.a [(40, .v (.rp 2 a4 1 x5 0)), (41, .v (vi .i64 x6))] (apc q5 (apc q6 apn))
   apply bn h; intro x7 h7 h
   have q8 := (((F15_2_ok x3 x6 h7).cp rfl _) : CP prg 15 [(.agg ((eSet x3).map .p)), vi .i64 x6] (L34_0_4_d0 a2 a4 a9 a10) = some (vb x7))
   apply bi h <;> intro h8 h
   ·
    rw [← sj h]
    exact rn ([(42, .v (vb x7)), (43, .d true), (6000, .d true)] ++ kH k7) (k7.b (apc q8 (av h8 (apc (L34_0_4_k a1 a2 a3 a4 a5 a6 a7 a8 a9 a10 true (w6 (v2 + 1))) apn))))
   ·
    rw [← sj h]
    exact rn ([(42, .v (vb x7)), (43, .d false), (6000, .d true)] ++ kH k7) (k7.b (apc q8 (av h8 (apc q0 apn))))
  ·
   rw [← sj h]
   exact rn ([(23, .d true), (26, .d false), (6000, .d true)] ++ kH k1) (k1.b (av h1 (av h2 (apc q0 apn))))
 ·
  rw [← sj h]
  exact xb ([(23, .d false), (6000, .d true)] ++ kH k1) (k1.b (av h1 apn))
theorem L34_0_4_run (s0 : Bool × Int) (e : E_L34_0_4) (h : runL (fun s => L34_0_4 a1 a5 a6 a8 a10 s.1 s.2) s0 = some e) : L34_0_4_x a1 a2 a3 a4 a5 a6 a7 a8 a9 a10 e (L34_0_4_e a1 a2 a3 a4 a5 a6 a7 a8 a9 a10 s0.1 s0.2) := by
  have q := @loop_sound' (Bool × Int) E_L34_0_4 (fun s => L34_0_4 a1 a5 a6 a8 a10 s.1 s.2) (fun s => L34_0_4_e a1 a2 a3 a4 a5 a6 a7 a8 a9 a10 s.1 s.2) (L34_0_4_x a1 a2 a3 a4 a5 a6 a7 a8 a9 a10) (fun s r h => L34_0_4_ok a1 a2 a3 a4 a5 a6 a7 a8 a9 a10 s.1 s.2 h) s0 e h
  exact q
end
inductive E_L34_1_3 where
  | k0 (x0 : Int)
section
variable (a1 : List SetD) (a2 a3 a4 a5 : Nat) (a6 : Int) (a7 : List SetD) (a8 : List Int)
def L34_1_3 (v1 v2 : Int) : Option (E_L34_1_3 ⊕ (Int × Int)) :=
  (bif (decide (v2 < ((a5 : Nat) : Int))) then ((runL (fun s => L34_0_4 a1 a5 a6 v2 a8 s.1 s.2) (true, 0)).bind fun r2 => match r2 with | .k0 x2_0 => (bif x2_0 then (some (.inr (v2, (IntKind.wrap .i64 (v2 + 1))))) else (some (.inr (v1, (IntKind.wrap .i64 (v2 + 1))))))) else (some (.inl (.k0 v1))))
def L34_1_3_s (v1 v2 : Int) : St := ⟨fr 69 ug [(0, ls 4 eSet a1), (3, .sl 1 a2 4 0 a3), (4, .sl 2 a4 1 0 a5), (5, vi .i64 a6), (6, vi .i64 v1), (7, vi .i64 v2)], [yV0, yV a2 a7, yI a4 a8]⟩
theorem L34_1_3_k (v1 v2 : Int) : okT 3 (L34_1_3_s a1 a2 a3 a4 a5 a6 a7 a8 v1 v2).h = true := (okT_of rfl (ar (ar (ar rfl))))
abbrev L34_1_3_e (v1 v2 : Int) := evH prg 3 [0, 3, 4, 5, 6, 7] ir34_l1 (L34_1_3_s a1 a2 a3 a4 a5 a6 a7 a8 v1 v2)
def L34_1_3_x (e : E_L34_1_3) (r : Option (Out × St)) : Prop := match e with | .k0 x0 => ∃ g, r = some ((.brk 2), ⟨fr 69 g [(0, ls 4 eSet a1), (3, .sl 1 a2 4 0 a3), (4, .sl 2 a4 1 0 a5), (5, vi .i64 a6), (6, vi .i64 x0)], [yV0, yV a2 a7, yI a4 a8]⟩)
abbrev L34_1_3_d0 (g2 : Nat → AV) (v1 v2 : Int) (x2_0 : Bool) : St := ⟨fr 69 g2 [(0, ls 4 eSet a1), (3, .sl 1 a2 4 0 a3), (4, .sl 2 a4 1 0 a5), (5, vi .i64 a6), (6, vi .i64 v1), (7, vi .i64 v2), (8, vb x2_0)], [yV0, yV a2 a7, yI a4 a8]⟩
theorem L34_1_3_ok (v1 v2 : Int) {r : E_L34_1_3 ⊕ (Int × Int)} (h : L34_1_3 a1 a5 a6 a8 v1 v2 = some r) : OkR (fun e => L34_1_3_x a1 a2 a3 a4 a5 a6 a7 a8 e (L34_1_3_e a1 a2 a3 a4 a5 a6 a7 a8 v1 v2)) (fun s => L34_1_3_e a1 a2 a3 a4 a5 a6 a7 a8 v1 v2 = L34_1_3_e a1 a2 a3 a4 a5 a6 a7 a8 s.1 s.2) r := by
 unfold L34_1_3 at h
 apply bi h <;> intro h1 h
 ·
  apply bn h; intro r2 h2 h
  cases r2 with
  | k0 x2_0 =>
   obtain ⟨g2, e2⟩ := L34_0_4_run a1 a2 a3 a4 a5 a6 v1 v2 a7 a8 (true, 0) _ h2
   have q0 := (e2 : L34_0_4_e a1 a2 a3 a4 a5 a6 v1 v2 a7 a8 true 0 = some ((.brk 4), L34_1_3_d0 a1 a2 a3 a4 a5 a6 a7 a8 g2 v1 v2 x2_0))
   have k1 := ka [(17, .d true), (2004, .l (.brk 4) (L34_1_3_d0 a1 a2 a3 a4 a5 a6 a7 a8 g2 v1 v2 x2_0))] (av h1 (apc (L34_0_4_k a1 a2 a3 a4 a5 a6 v1 v2 a7 a8 true 0) (apc q0 apn)))
   apply bi h <;> intro h3 h
   ·
    rw [← sj h]
    exact rn ([(45, .d true), (6000, .d true)] ++ kH k1) (k1.b (av h3 (apc (L34_1_3_k a1 a2 a3 a4 a5 a6 a7 a8 v2 (w6 (v2 + 1))) apn)))
   ·
    rw [← sj h]
    exact rn ([(45, .d false), (6000, .d true)] ++ kH k1) (k1.b (av h3 (apc (L34_1_3_k a1 a2 a3 a4 a5 a6 a7 a8 v1 (w6 (v2 + 1))) apn)))
 ·
  rw [← sj h]
  exact xb [(17, .d false), (6000, .d true)] (av h1 apn)
theorem L34_1_3_run (s0 : Int × Int) (e : E_L34_1_3) (h : runL (fun s => L34_1_3 a1 a5 a6 a8 s.1 s.2) s0 = some e) : L34_1_3_x a1 a2 a3 a4 a5 a6 a7 a8 e (L34_1_3_e a1 a2 a3 a4 a5 a6 a7 a8 s0.1 s0.2) := by
  have q := @loop_sound' (Int × Int) E_L34_1_3 (fun s => L34_1_3 a1 a5 a6 a8 s.1 s.2) (fun s => L34_1_3_e a1 a2 a3 a4 a5 a6 a7 a8 s.1 s.2) (L34_1_3_x a1 a2 a3 a4 a5 a6 a7 a8) (fun s r h => L34_1_3_ok a1 a2 a3 a4 a5 a6 a7 a8 s.1 s.2 h) s0 e h
  exact q
end
inductive R_F37_2 where
  | k0 (x0 x1 x2 x3 : Int)
def F37_2_v (a1 : SetD) (a2 : Int) (r : R_F37_2) : AV := match r with | .k0 x0 x1 x2 x3 => (.agg [vi .u64 x0, vi .u64 x1, vi .u64 x2, vi .u64 x3])
def F37_2 (a1 : SetD) (a2 : Int) : Option R_F37_2 :=
  ((F15_2 a1 a2).bind fun x1 => (bif x1 then (some (.k0 a1.a a1.b a1.c a1.d)) else (bif ((IntKind.wrap .i64 (Int.tdiv a2 64)) == 0) then (bif (decide ((Int.tmod a2 64) < 0)) then none else (some (.k0 (IntKind.wrap .u64 (a1.a + (IntKind.wrap .u64 (1 * 2 ^ (min (Int.toNat (Int.tmod a2 64)) (IntKind.bits .u64)))))) a1.b a1.c a1.d))) else (bif ((IntKind.wrap .i64 (Int.tdiv a2 64)) == 1) then (bif (decide ((Int.tmod a2 64) < 0)) then none else (some (.k0 a1.a (IntKind.wrap .u64 (a1.b + (IntKind.wrap .u64 (1 * 2 ^ (min (Int.toNat (Int.tmod a2 64)) (IntKind.bits .u64)))))) a1.c a1.d))) else (bif ((IntKind.wrap .i64 (Int.tdiv a2 64)) == 2) then (bif (decide ((Int.tmod a2 64) < 0)) then none else (some (.k0 a1.a a1.b (IntKind.wrap .u64 (a1.c + (IntKind.wrap .u64 (1 * 2 ^ (min (Int.toNat (Int.tmod a2 64)) (IntKind.bits .u64)))))) a1.d))) else (bif ((IntKind.wrap .i64 (Int.tdiv a2 64)) == 3) then (bif (decide ((Int.tmod a2 64) < 0)) then none else (some (.k0 a1.a a1.b a1.c (IntKind.wrap .u64 (a1.d + (IntKind.wrap .u64 (1 * 2 ^ (min (Int.toNat (Int.tmod a2 64)) (IntKind.bits .u64))))))))) else none))))))
abbrev F37_2_d0 (a1 : SetD) : List AB := [.cells 29 ((eSet a1).map .p), .cells 29 [vi .u64 0, vi .u64 0, vi .u64 0, vi .u64 0]]
theorem F37_2_ok (a1 : SetD) (a2 : Int) {r : R_F37_2} (h : F37_2 a1 a2 = some r) : PR1 prg 37 [(.agg ((eSet a1).map .p)), vi .i64 a2] (F37_2_v a1 a2 r) := by
 unfold F37_2 at h
 apply bn h; intro x1 h1 h
 apply bi h <;> intro h2 h
 ·
  rw [← sj h]
  exact fq [(7, .v (vb true))] (apc ((((F15_2_ok a1 a2 h1).cp rfl _).trans (congrArg (fun z => some (vb z)) h2)) : CP prg 15 [(.agg ((eSet a1).map .p)), vi .i64 a2] (F37_2_d0 a1) = some (vb true)) apn)
 ·
  have q0 := ((((F15_2_ok a1 a2 h1).cp rfl _).trans (congrArg (fun z => some (vb z)) h2)) : CP prg 15 [(.agg ((eSet a1).map .p)), vi .i64 a2] (F37_2_d0 a1) = some (vb false))
  apply bi h <;> intro h3 h
  ·
   have q1 := ((ix_lit h3 (fun z => ixP 4 1 (.ptr 0 0) (vi .i64 z)) rfl) : ixP 4 1 (.ptr 0 0) (vi .i64 (w6 (Int.tdiv a2 64))) = some (.ptr 0 0))
   have k2 := ka [(7, .v (vb false)), (13, .v (.ptr 0 0))] (apc q0 (apc q1 apn))
   apply bi h <;> intro h4 h
   ·
    cases h
   ·
    rw [← sj h]
    exact fq ([(17, .v (vi .u64 (IntKind.wrap .u64 (1 * 2 ^ (min (Int.toNat (Int.tmod a2 64)) (IntKind.bits .u64)))))), (19, .v (.ptr 0 0))] ++ kH k2) (k2.b (apc ((sh_shl (of_decide_eq_false h4)) : binA .shl (vi .u64 1) (vi .i64 (Int.tmod a2 64)) = some (vi .u64 (IntKind.wrap .u64 (1 * 2 ^ (min (Int.toNat (Int.tmod a2 64)) (IntKind.bits .u64)))))) (apc q1 apn)))
  ·
   apply bi h <;> intro h4 h
   ·
    have q3 := ((ix_lit h4 (fun z => ixP 4 1 (.ptr 0 0) (vi .i64 z)) rfl) : ixP 4 1 (.ptr 0 0) (vi .i64 (w6 (Int.tdiv a2 64))) = some (.ptr 0 1))
    have k4 := ka [(7, .v (vb false)), (13, .v (.ptr 0 1))] (apc q0 (apc q3 apn))
    apply bi h <;> intro h5 h
    ·
     cases h
    ·
     rw [← sj h]
     exact fq ([(17, .v (vi .u64 (IntKind.wrap .u64 (1 * 2 ^ (min (Int.toNat (Int.tmod a2 64)) (IntKind.bits .u64)))))), (19, .v (.ptr 0 1))] ++ kH k4) (k4.b (apc ((sh_shl (of_decide_eq_false h5)) : binA .shl (vi .u64 1) (vi .i64 (Int.tmod a2 64)) = some (vi .u64 (IntKind.wrap .u64 (1 * 2 ^ (min (Int.toNat (Int.tmod a2 64)) (IntKind.bits .u64)))))) (apc q3 apn)))
   ·
    apply bi h <;> intro h5 h
    ·
     have q5 := ((ix_lit h5 (fun z => ixP 4 1 (.ptr 0 0) (vi .i64 z)) rfl) : ixP 4 1 (.ptr 0 0) (vi .i64 (w6 (Int.tdiv a2 64))) = some (.ptr 0 2))
     have k6 := ka [(7, .v (vb false)), (13, .v (.ptr 0 2))] (apc q0 (apc q5 apn))
     apply bi h <;> intro h6 h
     ·
      cases h
     ·
      rw [← sj h]
      exact fq ([(17, .v (vi .u64 (IntKind.wrap .u64 (1 * 2 ^ (min (Int.toNat (Int.tmod a2 64)) (IntKind.bits .u64)))))), (19, .v (.ptr 0 2))] ++ kH k6) (k6.b (apc ((sh_shl (of_decide_eq_false h6)) : binA .shl (vi .u64 1) (vi .i64 (Int.tmod a2 64)) = some (vi .u64 (IntKind.wrap .u64 (1 * 2 ^ (min (Int.toNat (Int.tmod a2 64)) (IntKind.bits .u64)))))) (apc q5 apn)))
    ·
     apply bi h <;> intro h6 h
     ·
      have q7 := ((ix_lit h6 (fun z => ixP 4 1 (.ptr 0 0) (vi .i64 z)) rfl) : ixP 4 1 (.ptr 0 0) (vi .i64 (w6 (Int.tdiv a2 64))) = some (.ptr 0 3))
      have k8 := ka [(7, .v (vb false)), (13, .v (.ptr 0 3))] (apc q0 (apc q7 apn))
      apply bi h <;> intro h7 h
      ·
       cases h
      ·
       rw [← sj h]
       exact fq ([(17, .v (vi .u64 (IntKind.wrap .u64 (1 * 2 ^ (min (Int.toNat (Int.tmod a2 64)) (IntKind.bits .u64)))))), (19, .v (.ptr 0 3))] ++ kH k8) (k8.b (apc ((sh_shl (of_decide_eq_false h7)) : binA .shl (vi .u64 1) (vi .i64 (Int.tmod a2 64)) = some (vi .u64 (IntKind.wrap .u64 (1 * 2 ^ (min (Int.toNat (Int.tmod a2 64)) (IntKind.bits .u64)))))) (apc q7 apn)))
     ·
      cases h
inductive E_L34_2 where
  | k0 (x0 x1 : Nat) (x2 : List SetD) (x3 : Nat) (x4 : List Int)
section
variable (a1 : List SetD)
def L34_2 (v1 v2 v3 v4 : Nat) (v5 : Int) (v6 : List SetD) (v7 : List Int) : Option (E_L34_2 ⊕ (Nat × Nat × Nat × Nat × Int × (List SetD) × (List Int))) :=
  (bif (decide (v5 < 256)) then ((runL (fun s => L34_1_3 a1 v4 v5 v7 s.1 s.2) ((-1), 0)).bind fun r2 => match r2 with | .k0 x2_0 => (bif (decide (x2_0 < 0)) then (bif (apOk v2 ([(⟨0, 0, 0, 0⟩ : SetD)]).length v6.length 32) then (bif (decide (v2 + ([(⟨0, 0, 0, 0⟩ : SetD)]).length ≤ v6.length)) then (bif (apOk v4 ([v5]).length v7.length 8) then (bif (decide (v4 + ([v5]).length ≤ v7.length)) then ((ixN (v2 + ([(⟨0, 0, 0, 0⟩ : SetD)]).length) ((v2 : Nat) : Int)).bind fun x8 => (((splice v6 v2 [(⟨0, 0, 0, 0⟩ : SetD)])[x8]?).bind fun x9 => ((F37_2 x9 v5).bind fun r10 => match r10 with | .k0 x10_0 x10_1 x10_2 x10_3 => (some (.inr (v1, (v2 + ([(⟨0, 0, 0, 0⟩ : SetD)]).length), v3, (v4 + ([v5]).length), (IntKind.wrap .i64 (v5 + 1)), ((splice v6 v2 [(⟨0, 0, 0, 0⟩ : SetD)]).set x8 (⟨x10_0, x10_1, x10_2, x10_3⟩ : SetD)), (splice v7 v4 [v5]))))))) else ((ixN (v2 + ([(⟨0, 0, 0, 0⟩ : SetD)]).length) ((v2 : Nat) : Int)).bind fun x8 => (((splice v6 v2 [(⟨0, 0, 0, 0⟩ : SetD)])[x8]?).bind fun x9 => ((F37_2 x9 v5).bind fun r10 => match r10 with | .k0 x10_0 x10_1 x10_2 x10_3 => (some (.inr (v1, (v2 + ([(⟨0, 0, 0, 0⟩ : SetD)]).length), v3 + 1, (v4 + ([v5]).length), (IntKind.wrap .i64 (v5 + 1)), ((splice v6 v2 [(⟨0, 0, 0, 0⟩ : SetD)]).set x8 (⟨x10_0, x10_1, x10_2, x10_3⟩ : SetD)), (v7.take v4 ++ [v5])))))))) else none) else (bif (apOk v4 ([v5]).length v7.length 8) then (bif (decide (v4 + ([v5]).length ≤ v7.length)) then ((ixN (v2 + ([(⟨0, 0, 0, 0⟩ : SetD)]).length) ((v2 : Nat) : Int)).bind fun x8 => (((v6.take v2 ++ [(⟨0, 0, 0, 0⟩ : SetD)])[x8]?).bind fun x9 => ((F37_2 x9 v5).bind fun r10 => match r10 with | .k0 x10_0 x10_1 x10_2 x10_3 => (some (.inr ((v1 + 1), (v2 + ([(⟨0, 0, 0, 0⟩ : SetD)]).length), v3, (v4 + ([v5]).length), (IntKind.wrap .i64 (v5 + 1)), ((v6.take v2 ++ [(⟨0, 0, 0, 0⟩ : SetD)]).set x8 (⟨x10_0, x10_1, x10_2, x10_3⟩ : SetD)), (splice v7 v4 [v5]))))))) else ((ixN (v2 + ([(⟨0, 0, 0, 0⟩ : SetD)]).length) ((v2 : Nat) : Int)).bind fun x8 => (((v6.take v2 ++ [(⟨0, 0, 0, 0⟩ : SetD)])[x8]?).bind fun x9 => ((F37_2 x9 v5).bind fun r10 => match r10 with | .k0 x10_0 x10_1 x10_2 x10_3 => (some (.inr ((v1 + 1), (v2 + ([(⟨0, 0, 0, 0⟩ : SetD)]).length), v3 + 1, (v4 + ([v5]).length), (IntKind.wrap .i64 (v5 + 1)), ((v6.take v2 ++ [(⟨0, 0, 0, 0⟩ : SetD)]).set x8 (⟨x10_0, x10_1, x10_2, x10_3⟩ : SetD)), (v7.take v4 ++ [v5])))))))) else none)) else none) else ((ixN v2 x2_0).bind fun x4 => ((v6[x4]?).bind fun x5 => ((F37_2 x5 v5).bind fun r6 => match r6 with | .k0 x6_0 x6_1 x6_2 x6_3 => (some (.inr (v1, v2, v3, v4, (IntKind.wrap .i64 (v5 + 1)), (v6.set x4 (⟨x6_0, x6_1, x6_2, x6_3⟩ : SetD)), v7)))))))) else (some (.inl (.k0 v1 v2 v6 v3 v7))))
def L34_2_s (v1 v2 v3 v4 : Nat) (v5 : Int) (v6 : List SetD) (v7 : List Int) : St := ⟨fr 69 ug [(0, ls 4 eSet a1), (3, .sl 1 v1 4 0 v2), (4, .sl 2 v3 1 0 v4), (5, vi .i64 v5)], [yV0, yV v1 v6, yI v3 v7]⟩
theorem L34_2_k (v1 v2 v3 v4 : Nat) (v5 : Int) (v6 : List SetD) (v7 : List Int) : okT 3 (L34_2_s a1 v1 v2 v3 v4 v5 v6 v7).h = true := (okT_of rfl (ar (ar (ar rfl))))
abbrev L34_2_e (v1 v2 v3 v4 : Nat) (v5 : Int) (v6 : List SetD) (v7 : List Int) := evH prg 3 [0, 3, 4, 5] ir34_l2 (L34_2_s a1 v1 v2 v3 v4 v5 v6 v7)
def L34_2_x (e : E_L34_2) (r : Option (Out × St)) : Prop := match e with | .k0 x0 x1 x2 x3 x4 => ∃ g, r = some ((.brk 0), ⟨fr 69 g [(3, .sl 1 x0 4 0 x1)], [yV0, yV x0 x2, yI x3 x4]⟩)
abbrev L34_2_d0 (g2 : Nat → AV) (v1 v2 v3 v4 : Nat) (v5 x2_0 : Int) (v6 : List SetD) (v7 : List Int) : St := ⟨fr 69 g2 [(0, ls 4 eSet a1), (3, .sl 1 v1 4 0 v2), (4, .sl 2 v3 1 0 v4), (5, vi .i64 v5), (6, vi .i64 x2_0)], [yV0, yV v1 v6, yI v3 v7]⟩
abbrev L34_2_d1 (v1 : Nat) (v6 : List SetD) (v3 : Nat) (v7 : List Int) : List AB := [yV0, yV v1 v6, yI v3 v7]
abbrev L34_2_d2 (v1 : Nat) (v6 : List SetD) (v2 v3 : Nat) (v7 : List Int) : List AB := [yV0, yV v1 (splice v6 v2 [(⟨0, 0, 0, 0⟩ : SetD)]), yI v3 v7]
abbrev L34_2_d3 (v1 : Nat) (v6 : List SetD) (v2 v3 : Nat) (v7 : List Int) (v4 : Nat) (v5 : Int) : List AB := [yV0, yV v1 (splice v6 v2 [(⟨0, 0, 0, 0⟩ : SetD)]), yI v3 (splice v7 v4 [v5])]
abbrev L34_2_d4 (v1 : Nat) (v6 : List SetD) (v2 x8 : Nat) (x10_0 x10_1 x10_2 x10_3 : Int) (v3 : Nat) (v7 : List Int) (v4 : Nat) (v5 : Int) : List AB := [yV0, yV v1 ((splice v6 v2 [(⟨0, 0, 0, 0⟩ : SetD)]).set x8 (⟨x10_0, x10_1, x10_2, x10_3⟩ : SetD)), yI v3 (splice v7 v4 [v5])]
abbrev L34_2_d5 (v1 : Nat) (v6 : List SetD) (v2 v3 : Nat) (v7 : List Int) (v4 : Nat) (v5 : Int) : List AB := [yV0, yV v1 (splice v6 v2 [(⟨0, 0, 0, 0⟩ : SetD)]), yI (v3 + 1) (v7.take v4 ++ [v5])]
abbrev L34_2_d6 (v1 : Nat) (v6 : List SetD) (v2 x8 : Nat) (x10_0 x10_1 x10_2 x10_3 : Int) (v3 : Nat) (v7 : List Int) (v4 : Nat) (v5 : Int) : List AB := [yV0, yV v1 ((splice v6 v2 [(⟨0, 0, 0, 0⟩ : SetD)]).set x8 (⟨x10_0, x10_1, x10_2, x10_3⟩ : SetD)), yI (v3 + 1) (v7.take v4 ++ [v5])]
abbrev L34_2_d7 (v1 : Nat) (v6 : List SetD) (v2 v3 : Nat) (v7 : List Int) : List AB := [yV0, yV (v1 + 1) (v6.take v2 ++ [(⟨0, 0, 0, 0⟩ : SetD)]), yI v3 v7]
abbrev L34_2_d8 (v1 : Nat) (v6 : List SetD) (v2 v3 : Nat) (v7 : List Int) (v4 : Nat) (v5 : Int) : List AB := [yV0, yV (v1 + 1) (v6.take v2 ++ [(⟨0, 0, 0, 0⟩ : SetD)]), yI v3 (splice v7 v4 [v5])]
abbrev L34_2_d9 (v1 : Nat) (v6 : List SetD) (v2 x8 : Nat) (x10_0 x10_1 x10_2 x10_3 : Int) (v3 : Nat) (v7 : List Int) (v4 : Nat) (v5 : Int) : List AB := [yV0, yV (v1 + 1) ((v6.take v2 ++ [(⟨0, 0, 0, 0⟩ : SetD)]).set x8 (⟨x10_0, x10_1, x10_2, x10_3⟩ : SetD)), yI v3 (splice v7 v4 [v5])]
abbrev L34_2_d10 (v1 : Nat) (v6 : List SetD) (v2 v3 : Nat) (v7 : List Int) (v4 : Nat) (v5 : Int) : List AB := [yV0, yV (v1 + 1) (v6.take v2 ++ [(⟨0, 0, 0, 0⟩ : SetD)]), yI (v3 + 1) (v7.take v4 ++ [v5])]
abbrev L34_2_d11 (v1 : Nat) (v6 : List SetD) (v2 x8 : Nat) (x10_0 x10_1 x10_2 x10_3 : Int) (v3 : Nat) (v7 : List Int) (v4 : Nat) (v5 : Int) : List AB := [yV0, yV (v1 + 1) ((v6.take v2 ++ [(⟨0, 0, 0, 0⟩ : SetD)]).set x8 (⟨x10_0, x10_1, x10_2, x10_3⟩ : SetD)), yI (v3 + 1) (v7.take v4 ++ [v5])]
abbrev L34_2_d12 (v1 : Nat) (v6 : List SetD) (x4 : Nat) (x6_0 x6_1 x6_2 x6_3 : Int) (v3 : Nat) (v7 : List Int) : List AB := [yV0, yV v1 (v6.set x4 (⟨x6_0, x6_1, x6_2, x6_3⟩ : SetD)), yI v3 v7]
theorem L34_2_ok (v1 v2 v3 v4 : Nat) (v5 : Int) (v6 : List SetD) (v7 : List Int) {r : E_L34_2 ⊕ (Nat × Nat × Nat × Nat × Int × (List SetD) × (List Int))} (h : L34_2 a1 v1 v2 v3 v4 v5 v6 v7 = some r) : OkR (fun e => L34_2_x e (L34_2_e a1 v1 v2 v3 v4 v5 v6 v7)) (fun s => L34_2_e a1 v1 v2 v3 v4 v5 v6 v7 = L34_2_e a1 s.1 s.2.1 s.2.2.1 s.2.2.2.1 s.2.2.2.2.1 s.2.2.2.2.2.1 s.2.2.2.2.2.2) r := by
 unfold L34_2 at h
 apply bi h <;> intro h1 h
 ·
  apply bn h; intro r2 h2 h
  cases r2 with
  | k0 x2_0 =>
   obtain ⟨g2, e2⟩ := L34_1_3_run a1 v1 v2 v3 v4 v5 v6 v7 ((-1), 0) _ h2
   have q0 := (e2 : L34_1_3_e a1 v1 v2 v3 v4 v5 v6 v7 (-1) 0 = some ((.brk 2), L34_2_d0 a1 g2 v1 v2 v3 v4 v5 x2_0 v6 v7))
   have k1 := ka [(11, .d true), (2002, .l (.brk 2) (L34_2_d0 a1 g2 v1 v2 v3 v4 v5 x2_0 v6 v7))] (av h1 (apc (L34_1_3_k a1 v1 v2 v3 v4 v5 v6 v7 (-1) 0) (apc q0 apn)))
   apply bi h <;> intro h3 h
   ·
    apply bi h <;> intro h4 h
    ·
     apply bi h <;> intro h5 h
     ·
      have q2 := ((ap_in (e := eSet) (xs := v6) (news := [(⟨0, 0, 0, 0⟩ : SetD)]) rfl rows_l rfl h4 h5) : appA (L34_2_d1 v1 v6 v3 v7) 29 4 32 (.sl 1 v1 4 0 v2) (.p (.lst 4 ([(⟨0, 0, 0, 0⟩ : SetD)].map eSet))) = some ((.sl 1 v1 4 0 (v2 + ([(⟨0, 0, 0, 0⟩ : SetD)]).length)), L34_2_d2 v1 v6 v2 v3 v7))
      have k3 := k1.a [(48, .d true), (54, .r (.sl 1 v1 4 0 (v2 + ([(⟨0, 0, 0, 0⟩ : SetD)]).length)) (L34_2_d2 v1 v6 v2 v3 v7))] (av h3 (apc q2 apn))
      apply bi h <;> intro h6 h
      ·
       apply bi h <;> intro h7 h
       ·
        apply bn h; intro x8 h8 h
        have q4 := ((idx_sl h8) : idxA 4 (.sl 1 v1 4 0 (v2 + ([(⟨0, 0, 0, 0⟩ : SetD)]).length)) (vi .i64 ((v2 : Nat) : Int)) = some (.rp 1 v1 4 x8 0))
        apply bn h; intro x9 h9 h
        apply bn h; intro r10 h10 h
        cases r10 with
        | k0 x10_0 x10_1 x10_2 x10_3 =>
         rw [← sj h]
         exact rn ([(58, .r (.sl 2 v3 1 0 (v4 + ([v5]).length)) (L34_2_d3 v1 v6 v2 v3 v7 v4 v5)), (63, .v (.rp 1 v1 4 x8 0)), (64, .v (.agg ((eSet x9).map .p))), (66, .v (.agg [vi .u64 x10_0, vi .u64 x10_1, vi .u64 x10_2, vi .u64 x10_3])), (67, .v (.rp 1 v1 4 x8 0)), (1067, .r ud (L34_2_d4 v1 v6 v2 x8 x10_0 x10_1 x10_2 x10_3 v3 v7 v4 v5)), (6000, .d true)] ++ kH k3) (k3.b (apc ((ap_in (e := eI64) (xs := v7) (news := [v5]) rfl rows_l rfl h6 h7) : appA (L34_2_d2 v1 v6 v2 v3 v7) 3 1 8 (.sl 2 v3 1 0 v4) (.p (.lst 1 ([v5].map eI64))) = some ((.sl 2 v3 1 0 (v4 + ([v5]).length)), L34_2_d3 v1 v6 v2 v3 v7 v4 v5)) (apc q4 (apc ((ld_row rfl h9 rfl) : ldA (L34_2_d3 v1 v6 v2 v3 v7 v4 v5) .true 4 (.rp 1 v1 4 x8 0) = some (.agg ((eSet x9).map .p))) (apc (((F37_2_ok x9 v5 h10).cp rfl _) : CP prg 37 [(.agg ((eSet x9).map .p)), vi .i64 v5] (L34_2_d3 v1 v6 v2 v3 v7 v4 v5) = some (.agg [vi .u64 x10_0, vi .u64 x10_1, vi .u64 x10_2, vi .u64 x10_3])) (apc q4 (apc (⟨st_row (v' := (⟨x10_0, x10_1, x10_2, x10_3⟩ : SetD)) rfl h9 rfl rfl (Nat.le_of_ble_eq_true rfl) rfl, rfl⟩ : stA (L34_2_d3 v1 v6 v2 v3 v7 v4 v5) 4 (.rp 1 v1 4 x8 0) (.agg [vi .u64 x10_0, vi .u64 x10_1, vi .u64 x10_2, vi .u64 x10_3]) = some (L34_2_d4 v1 v6 v2 x8 x10_0 x10_1 x10_2 x10_3 v3 v7 v4 v5) ∧ ud = ud) (apc (L34_2_k a1 v1 (v2 + ([(⟨0, 0, 0, 0⟩ : SetD)]).length) v3 (v4 + ([v5]).length) (w6 (v5 + 1)) ((splice v6 v2 [(⟨0, 0, 0, 0⟩ : SetD)]).set x8 (⟨x10_0, x10_1, x10_2, x10_3⟩ : SetD)) (splice v7 v4 [v5])) apn))))))))
       ·
        apply bn h; intro x8 h8 h
        have q5 := ((idx_sl h8) : idxA 4 (.sl 1 v1 4 0 (v2 + ([(⟨0, 0, 0, 0⟩ : SetD)]).length)) (vi .i64 ((v2 : Nat) : Int)) = some (.rp 1 v1 4 x8 0))
        apply bn h; intro x9 h9 h
        apply bn h; intro r10 h10 h
        cases r10 with
        | k0 x10_0 x10_1 x10_2 x10_3 =>
         rw [← sj h]
         exact rn ([(58, .r (.sl 2 (v3 + 1) 1 0 (v4 + ([v5]).length)) (L34_2_d5 v1 v6 v2 v3 v7 v4 v5)), (63, .v (.rp 1 v1 4 x8 0)), (64, .v (.agg ((eSet x9).map .p))), (66, .v (.agg [vi .u64 x10_0, vi .u64 x10_1, vi .u64 x10_2, vi .u64 x10_3])), (67, .v (.rp 1 v1 4 x8 0)), (1067, .r ud (L34_2_d6 v1 v6 v2 x8 x10_0 x10_1 x10_2 x10_3 v3 v7 v4 v5)), (6000, .d true)] ++ kH k3) (k3.b (apc ((ap_out (e := eI64) (xs := v7) (news := [v5]) rfl rows_l rfl h6 h7) : appA (L34_2_d2 v1 v6 v2 v3 v7) 3 1 8 (.sl 2 v3 1 0 v4) (.p (.lst 1 ([v5].map eI64))) = some ((.sl 2 (v3 + 1) 1 0 (v4 + ([v5]).length)), L34_2_d5 v1 v6 v2 v3 v7 v4 v5)) (apc q5 (apc ((ld_row rfl h9 rfl) : ldA (L34_2_d5 v1 v6 v2 v3 v7 v4 v5) .true 4 (.rp 1 v1 4 x8 0) = some (.agg ((eSet x9).map .p))) (apc (((F37_2_ok x9 v5 h10).cp rfl _) : CP prg 37 [(.agg ((eSet x9).map .p)), vi .i64 v5] (L34_2_d5 v1 v6 v2 v3 v7 v4 v5) = some (.agg [vi .u64 x10_0, vi .u64 x10_1, vi .u64 x10_2, vi .u64 x10_3])) (apc q5 (apc (⟨st_row (v' := (⟨x10_0, x10_1, x10_2, x10_3⟩ : SetD)) rfl h9 rfl rfl (Nat.le_of_ble_eq_true rfl) rfl, rfl⟩ : stA (L34_2_d5 v1 v6 v2 v3 v7 v4 v5) 4 (.rp 1 v1 4 x8 0) (.agg [vi .u64 x10_0, vi .u64 x10_1, vi .u64 x10_2, vi .u64 x10_3]) = some (L34_2_d6 v1 v6 v2 x8 x10_0 x10_1 x10_2 x10_3 v3 v7 v4 v5) ∧ ud = ud) (apc (L34_2_k a1 v1 (v2 + ([(⟨0, 0, 0, 0⟩ : SetD)]).length) (v3 + 1) (v4 + ([v5]).length) (w6 (v5 + 1)) ((splice v6 v2 [(⟨0, 0, 0, 0⟩ : SetD)]).set x8 (⟨x10_0, x10_1, x10_2, x10_3⟩ : SetD)) (v7.take v4 ++ [v5])) apn))))))))
      ·
       cases h
     ·
      have q6 := ((ap_out (e := eSet) (xs := v6) (news := [(⟨0, 0, 0, 0⟩ : SetD)]) rfl rows_l rfl h4 h5) : appA (L34_2_d1 v1 v6 v3 v7) 29 4 32 (.sl 1 v1 4 0 v2) (.p (.lst 4 ([(⟨0, 0, 0, 0⟩ : SetD)].map eSet))) = some ((.sl 1 (v1 + 1) 4 0 (v2 + ([(⟨0, 0, 0, 0⟩ : SetD)]).length)), L34_2_d7 v1 v6 v2 v3 v7))
      have k7 := k1.a [(48, .d true), (54, .r (.sl 1 (v1 + 1) 4 0 (v2 + ([(⟨0, 0, 0, 0⟩ : SetD)]).length)) (L34_2_d7 v1 v6 v2 v3 v7))] (av h3 (apc q6 apn))
      apply bi h <;> intro h6 h
      ·
       apply bi h <;> intro h7 h
       ·
        apply bn h; intro x8 h8 h
        have q8 := ((idx_sl h8) : idxA 4 (.sl 1 (v1 + 1) 4 0 (v2 + ([(⟨0, 0, 0, 0⟩ : SetD)]).length)) (vi .i64 ((v2 : Nat) : Int)) = some (.rp 1 (v1 + 1) 4 x8 0))
        apply bn h; intro x9 h9 h
        apply bn h; intro r10 h10 h
        cases r10 with
        | k0 x10_0 x10_1 x10_2 x10_3 =>
         rw [← sj h]
         exact rn ([(58, .r (.sl 2 v3 1 0 (v4 + ([v5]).length)) (L34_2_d8 v1 v6 v2 v3 v7 v4 v5)), (63, .v (.rp 1 (v1 + 1) 4 x8 0)), (64, .v (.agg ((eSet x9).map .p))), (66, .v (.agg [vi .u64 x10_0, vi .u64 x10_1, vi .u64 x10_2, vi .u64 x10_3])), (67, .v (.rp 1 (v1 + 1) 4 x8 0)), (1067, .r ud (L34_2_d9 v1 v6 v2 x8 x10_0 x10_1 x10_2 x10_3 v3 v7 v4 v5)), (6000, .d true)] ++ kH k7) (k7.b (apc ((ap_in (e := eI64) (xs := v7) (news := [v5]) rfl rows_l rfl h6 h7) : appA (L34_2_d7 v1 v6 v2 v3 v7) 3 1 8 (.sl 2 v3 1 0 v4) (.p (.lst 1 ([v5].map eI64))) = some ((.sl 2 v3 1 0 (v4 + ([v5]).length)), L34_2_d8 v1 v6 v2 v3 v7 v4 v5)) (apc q8 (apc ((ld_row rfl h9 rfl) : ldA (L34_2_d8 v1 v6 v2 v3 v7 v4 v5) .true 4 (.rp 1 (v1 + 1) 4 x8 0) = some (.agg ((eSet x9).map .p))) (apc (((F37_2_ok x9 v5 h10).cp rfl _) : CP prg 37 [(.agg ((eSet x9).map .p)), vi .i64 v5] (L34_2_d8 v1 v6 v2 v3 v7 v4 v5) = some (.agg [vi .u64 x10_0, vi .u64 x10_1, vi .u64 x10_2, vi .u64 x10_3])) (apc q8 (apc (⟨st_row (v' := (⟨x10_0, x10_1, x10_2, x10_3⟩ : SetD)) rfl h9 rfl rfl (Nat.le_of_ble_eq_true rfl) rfl, rfl⟩ : stA (L34_2_d8 v1 v6 v2 v3 v7 v4 v5) 4 (.rp 1 (v1 + 1) 4 x8 0) (.agg [vi .u64 x10_0, vi .u64 x10_1, vi .u64 x10_2, vi .u64 x10_3]) = some (L34_2_d9 v1 v6 v2 x8 x10_0 x10_1 x10_2 x10_3 v3 v7 v4 v5) ∧ ud = ud) (apc (L34_2_k a1 (v1 + 1) (v2 + ([(⟨0, 0, 0, 0⟩ : SetD)]).length) v3 (v4 + ([v5]).length) (w6 (v5 + 1)) ((v6.take v2 ++ [(⟨0, 0, 0, 0⟩ : SetD)]).set x8 (⟨x10_0, x10_1, x10_2, x10_3⟩ : SetD)) (splice v7 v4 [v5])) apn))))))))
       ·
        apply bn h; intro x8 h8 h
        have q9 := ((idx_sl h8) : idxA 4 (.sl 1 (v1 + 1) 4 0 (v2 + ([(⟨0, 0, 0, 0⟩ : SetD)]).length)) (vi .i64 ((v2 : Nat) : Int)) = some (.rp 1 (v1 + 1) 4 x8 0))
        apply bn h; intro x9 h9 h
        apply bn h; intro r10 h10 h
        cases r10 with
        | k0 x10_0 x10_1 x10_2 x10_3 =>
         rw [← sj h]
         exact rn ([(58, .r (.sl 2 (v3 + 1) 1 0 (v4 + ([v5]).length)) (L34_2_d10 v1 v6 v2 v3 v7 v4 v5)), (63, .v (.rp 1 (v1 + 1) 4 x8 0)), (64, .v (.agg ((eSet x9).map .p))), (66, .v (.agg [vi .u64 x10_0, vi .u64 x10_1, vi .u64 x10_2, vi .u64 x10_3])), (67, .v (.rp 1 (v1 + 1) 4 x8 0)), (1067, .r ud (L34_2_d11 v1 v6 v2 x8 x10_0 x10_1 x10_2 x10_3 v3 v7 v4 v5)), (6000, .d true)] ++ kH k7) (k7.b (apc ((ap_out (e := eI64) (xs := v7) (news := [v5]) rfl rows_l rfl h6 h7) : appA (L34_2_d7 v1 v6 v2 v3 v7) 3 1 8 (.sl 2 v3 1 0 v4) (.p (.lst 1 ([v5].map eI64))) = some ((.sl 2 (v3 + 1) 1 0 (v4 + ([v5]).length)), L34_2_d10 v1 v6 v2 v3 v7 v4 v5)) (apc q9 (apc ((ld_row rfl h9 rfl) : ldA (L34_2_d10 v1 v6 v2 v3 v7 v4 v5) .true 4 (.rp 1 (v1 + 1) 4 x8 0) = some (.agg ((eSet x9).map .p))) (apc (((F37_2_ok x9 v5 h10).cp rfl _) : CP prg 37 [(.agg ((eSet x9).map .p)), vi .i64 v5] (L34_2_d10 v1 v6 v2 v3 v7 v4 v5) = some (.agg [vi .u64 x10_0, vi .u64 x10_1, vi .u64 x10_2, vi .u64 x10_3])) (apc q9 (apc (⟨st_row (v' := (⟨x10_0, x10_1, x10_2, x10_3⟩ : SetD)) rfl h9 rfl rfl (Nat.le_of_ble_eq_true rfl) rfl, rfl⟩ : stA (L34_2_d10 v1 v6 v2 v3 v7 v4 v5) 4 (.rp 1 (v1 + 1) 4 x8 0) (.agg [vi .u64 x10_0, vi .u64 x10_1, vi .u64 x10_2, vi .u64 x10_3]) = some (L34_2_d11 v1 v6 v2 x8 x10_0 x10_1 x10_2 x10_3 v3 v7 v4 v5) ∧ ud = ud) (apc (L34_2_k a1 (v1 + 1) (v2 + ([(⟨0, 0, 0, 0⟩ : SetD)]).length) (v3 + 1) (v4 + ([v5]).length) (w6 (v5 + 1)) ((v6.take v2 ++ [(⟨0, 0, 0, 0⟩ : SetD)]).set x8 (⟨x10_0, x10_1, x10_2, x10_3⟩ : SetD)) (v7.take v4 ++ [v5])) apn))))))))
      ·
       cases h
    ·
     cases h
   ·
    apply bn h; intro x4 h4 h
    have q10 := ((idx_sl h4) : idxA 4 (.sl 1 v1 4 0 v2) (vi .i64 x2_0) = some (.rp 1 v1 4 x4 0))
    apply bn h; intro x5 h5 h
    apply bn h; intro r6 h6 h
    cases r6 with
    | k0 x6_0 x6_1 x6_2 x6_3 =>
     rw [← sj h]
     exact rn ([(48, .d false), (63, .v (.rp 1 v1 4 x4 0)), (64, .v (.agg ((eSet x5).map .p))), (66, .v (.agg [vi .u64 x6_0, vi .u64 x6_1, vi .u64 x6_2, vi .u64 x6_3])), (67, .v (.rp 1 v1 4 x4 0)), (1067, .r ud (L34_2_d12 v1 v6 x4 x6_0 x6_1 x6_2 x6_3 v3 v7)), (6000, .d true)] ++ kH k1) (k1.b (av h3 (apc q10 (apc ((ld_row rfl h5 rfl) : ldA (L34_2_d1 v1 v6 v3 v7) .true 4 (.rp 1 v1 4 x4 0) = some (.agg ((eSet x5).map .p))) (apc (((F37_2_ok x5 v5 h6).cp rfl _) : CP prg 37 [(.agg ((eSet x5).map .p)), vi .i64 v5] (L34_2_d1 v1 v6 v3 v7) = some (.agg [vi .u64 x6_0, vi .u64 x6_1, vi .u64 x6_2, vi .u64 x6_3])) (apc q10 (apc (⟨st_row (v' := (⟨x6_0, x6_1, x6_2, x6_3⟩ : SetD)) rfl h5 rfl rfl (Nat.le_of_ble_eq_true rfl) rfl, rfl⟩ : stA (L34_2_d1 v1 v6 v3 v7) 4 (.rp 1 v1 4 x4 0) (.agg [vi .u64 x6_0, vi .u64 x6_1, vi .u64 x6_2, vi .u64 x6_3]) = some (L34_2_d12 v1 v6 x4 x6_0 x6_1 x6_2 x6_3 v3 v7) ∧ ud = ud) (apc (L34_2_k a1 v1 v2 v3 v4 (w6 (v5 + 1)) (v6.set x4 (⟨x6_0, x6_1, x6_2, x6_3⟩ : SetD)) v7) apn))))))))
 ·
  rw [← sj h]
  exact xb [(11, .d false), (6000, .d true)] (av h1 apn)
theorem L34_2_run (s0 : Nat × Nat × Nat × Nat × Int × (List SetD) × (List Int)) (e : E_L34_2) (h : runL (fun s => L34_2 a1 s.1 s.2.1 s.2.2.1 s.2.2.2.1 s.2.2.2.2.1 s.2.2.2.2.2.1 s.2.2.2.2.2.2) s0 = some e) : L34_2_x e (L34_2_e a1 s0.1 s0.2.1 s0.2.2.1 s0.2.2.2.1 s0.2.2.2.2.1 s0.2.2.2.2.2.1 s0.2.2.2.2.2.2) := by
  have q := @loop_sound' (Nat × Nat × Nat × Nat × Int × (List SetD) × (List Int)) E_L34_2 (fun s => L34_2 a1 s.1 s.2.1 s.2.2.1 s.2.2.2.1 s.2.2.2.2.1 s.2.2.2.2.2.1 s.2.2.2.2.2.2) (fun s => L34_2_e a1 s.1 s.2.1 s.2.2.1 s.2.2.2.1 s.2.2.2.2.1 s.2.2.2.2.2.1 s.2.2.2.2.2.2) (L34_2_x) (fun s r h => L34_2_ok a1 s.1 s.2.1 s.2.2.1 s.2.2.2.1 s.2.2.2.2.1 s.2.2.2.2.2.1 s.2.2.2.2.2.2 h) s0 e h
  exact q
end
def F34_v (a1 : List SetD) (x0 : (List SetD)) : AV := (ls 4 eSet x0)
def F34 (a1 : List SetD) : Option (List SetD) :=
  ((runL (fun s => L34_2 a1 s.1 s.2.1 s.2.2.1 s.2.2.2.1 s.2.2.2.2.1 s.2.2.2.2.2.1 s.2.2.2.2.2.2) (0, 0, 0, 0, 0, [], [])).bind fun r1 => match r1 with | .k0 x1_0 x1_1 x1_2 x1_3 x1_4 => (bif (decide (x1_1 ≤ x1_2.length)) then (some (x1_2.take x1_1)) else none))
abbrev F34_d0 (g1 : Nat → AV) (x1_0 x1_1 : Nat) (x1_2 : List SetD) (x1_3 : Nat) (x1_4 : List Int) : St := ⟨fr 69 g1 [(3, .sl 1 x1_0 4 0 x1_1)], [yV0, yV x1_0 x1_2, yI x1_3 x1_4]⟩
theorem F34_ok (a1 : List SetD) {r : (List SetD)} (h : F34 a1 = some r) : PR2 prg 34 [ls 4 eSet a1] (F34_v a1 r) := by
 unfold F34 at h
 apply bn h; intro r1 h1 h
 cases r1 with
 | k0 x1_0 x1_1 x1_2 x1_3 x1_4 =>
  obtain ⟨g1, e1⟩ := L34_2_run a1 (0, 0, 0, 0, 0, [], []) _ h1
  have q0 := (e1 : L34_2_e a1 0 0 0 0 0 ([]) ([]) = some ((.brk 0), F34_d0 g1 x1_0 x1_1 x1_2 x1_3 x1_4))
  have k1 := ka [(2000, .l (.brk 0) (F34_d0 g1 x1_0 x1_1 x1_2 x1_3 x1_4))] (apc (L34_2_k a1 0 0 0 0 0 ([]) ([])) (apc q0 apn))
  apply bi h <;> intro h2 h
  ·
   rw [← sj h]
   exact fpn (v := (.sl 1 x1_0 4 0 x1_1)) (h' := [yV0, yV x1_0 x1_2, yI x1_3 x1_4]) ([(6000, .d true)] ++ kH k1) (k1.b apn) (purA_sl (e := eSet) rfl h2) rfl (purA_sl (e := eSet) (getq rfl (nols_ra (fun _ => rfl))) h2) (by kernel_rfl)
  ·
   cases h
inductive E_L6_1 where
  | k0
  | k1 (x0 : List SetD)
section
variable (a1 a2 a3 a4 : Nat) (a5 a7 : List SetD)
def L6_1 (v1 : Int) (v2 : List SetD) : Option (E_L6_1 ⊕ (Int × (List SetD))) :=
  (bif (decide (v1 < (a5.length : Int))) then ((ixN a2 v1).bind fun x2 => ((v2[x2]?).bind fun x3 => ((getI a5 v1).bind fun x4 => (bif (!((x3.a == x4.a) && ((x3.b == x4.b) && ((x3.c == x4.c) && ((x3.d == x4.d) && true))))) then (some (.inl (.k0))) else (some (.inr ((IntKind.wrap .i64 (v1 + 1)), (v2.set x2 (⟨0, 0, 0, 0⟩ : SetD))))))))) else (some (.inl (.k1 v2))))
def L6_1_s (v1 : Int) (v2 : List SetD) : St := ⟨fr 65 ug [(3, .sl 1 a1 4 0 a2), (4, .sl 3 a3 4 0 a4), (5, ls 4 eSet a5), (6, vi .i64 v1)], [yV0, yV a1 v2, yV0, yV a3 a7]⟩
theorem L6_1_k (v1 : Int) (v2 : List SetD) : okT 4 (L6_1_s a1 a2 a3 a4 a5 a7 v1 v2).h = true := (okT_of rfl (ar (ar (ar (ar rfl)))))
abbrev L6_1_e (v1 : Int) (v2 : List SetD) := evH prg 4 [3, 4, 5, 6] ir6_l1 (L6_1_s a1 a2 a3 a4 a5 a7 v1 v2)
def L6_1_x (e : E_L6_1) (r : Option (Out × St)) : Prop := match e with | .k0 => ∃ g y, r = some (.ret, ⟨fr 65 g [(2, vb false)], y⟩) | .k1 x0 => ∃ g, r = some ((.brk 0), ⟨fr 65 g [(3, .sl 1 a1 4 0 a2), (4, .sl 3 a3 4 0 a4), (5, ls 4 eSet a5)], [yV0, yV a1 x0, yV0, yV a3 a7]⟩)
abbrev L6_1_d0 (v2 : List SetD) : List AB := [yV0, yV a1 v2, yV0, yV a3 a7]
abbrev L6_1_d1 (v2 : List SetD) (x2 : Nat) : List AB := [yV0, yV a1 (v2.set x2 (⟨0, 0, 0, 0⟩ : SetD)), yV0, yV a3 a7]
theorem L6_1_ok (v1 : Int) (v2 : List SetD) {r : E_L6_1 ⊕ (Int × (List SetD))} (h : L6_1 a2 a5 v1 v2 = some r) : OkR (fun e => L6_1_x a1 a2 a3 a4 a5 a7 e (L6_1_e a1 a2 a3 a4 a5 a7 v1 v2)) (fun s => L6_1_e a1 a2 a3 a4 a5 a7 v1 v2 = L6_1_e a1 a2 a3 a4 a5 a7 s.1 s.2) r := by
 unfold L6_1 at h
 have k0 := ka [(32, .v (vi .i64 (a5.length : Int)))] (apc (lg a5 eSet 4) apn)
 apply bi h <;> intro h1 h
 ·
  apply bn h; intro x2 h2 h
  have q1 := ((idx_sl h2) : idxA 4 (.sl 1 a1 4 0 a2) (vi .i64 v1) = some (.rp 1 a1 4 x2 0))
  have k2 := k0.a [(33, .d true), (38, .v (.rp 1 a1 4 x2 0))] (av h1 (apc q1 apn))
  apply bn h; intro x3 h3 h
  have q3 := ((ld_row rfl h3 rfl) : ldA (L6_1_d0 a1 a3 a7 v2) .true 4 (.rp 1 a1 4 x2 0) = some (.agg ((eSet x3).map .p)))
  apply bn h; intro x4 h4 h
  have k4 := k2.a [(39, .v (.agg ((eSet x3).map .p))), (42, .v (.ro (eSet x4)))] (apc q3 (apc (ig eSet 4 .i64 h4) apn))
  apply bi h <;> intro h5 h
  ·
   rw [← sj h]
   exact xy ([(44, .d true), (6000, .d true)] ++ kH k4) (k4.b (av h5 apn))
  ·
   rw [← sj h]
   exact rn ([(44, .d false), (48, .v (.rp 1 a1 4 x2 0)), (1048, .r ud (L6_1_d1 a1 a3 a7 v2 x2)), (6000, .d true)] ++ kH k4) (k4.b (av h5 (apc q1 (apc (⟨st_row (v' := (⟨0, 0, 0, 0⟩ : SetD)) rfl h3 rfl rfl (Nat.le_of_ble_eq_true rfl) rfl, rfl⟩ : stA (L6_1_d0 a1 a3 a7 v2) 4 (.rp 1 a1 4 x2 0) (.agg [vi .u64 0, vi .u64 0, vi .u64 0, vi .u64 0]) = some (L6_1_d1 a1 a3 a7 v2 x2) ∧ ud = ud) (apc (L6_1_k a1 a2 a3 a4 a5 a7 (w6 (v1 + 1)) (v2.set x2 (⟨0, 0, 0, 0⟩ : SetD))) apn)))))
 ·
  rw [← sj h]
  exact xb ([(33, .d false), (6000, .d true)] ++ kH k0) (k0.b (av h1 apn))
theorem L6_1_run (s0 : Int × (List SetD)) (e : E_L6_1) (h : runL (fun s => L6_1 a2 a5 s.1 s.2) s0 = some e) : L6_1_x a1 a2 a3 a4 a5 a7 e (L6_1_e a1 a2 a3 a4 a5 a7 s0.1 s0.2) := by
  have q := @loop_sound' (Int × (List SetD)) E_L6_1 (fun s => L6_1 a2 a5 s.1 s.2) (fun s => L6_1_e a1 a2 a3 a4 a5 a7 s.1 s.2) (L6_1_x a1 a2 a3 a4 a5 a7) (fun s r h => L6_1_ok a1 a2 a3 a4 a5 a7 s.1 s.2 h) s0 e h
  exact q
end
inductive E_L6_0 where
  | k0
  | k1
section
variable (a1 a2 : Nat) (a3 : List SetD) (a4 : Nat) (a5 a6 : List SetD)
abbrev L6_0_p (l : List AB) : List AB := yV0 :: yV a4 a5 :: yV0 :: yV a1 a6 :: l
def L6_0 (v1 : Int) : Option (E_L6_0 ⊕ (Int)) :=
  (bif (decide (v1 < (a3.length : Int))) then ((ixN a2 v1).bind fun x2 => ((a6[x2]?).bind fun x3 => ((getI a3 v1).bind fun x4 => (bif (!((x3.a == x4.a) && ((x3.b == x4.b) && ((x3.c == x4.c) && ((x3.d == x4.d) && true))))) then (some (.inl (.k0))) else (some (.inr ((IntKind.wrap .i64 (v1 + 1))))))))) else (some (.inl (.k1))))
def L6_0_s (v1 : Int) : St := ⟨fr 65 ug [(4, .sl 3 a1 4 0 a2), (5, ls 4 eSet a3), (7, vi .i64 v1)], (L6_0_p a1 a4 a5 a6 [])⟩
theorem L6_0_k (v1 : Int) : okT 4 (L6_0_s a1 a2 a3 a4 a5 a6 v1).h = true := (okT_of rfl (ar (ar (ar (ar rfl)))))
abbrev L6_0_e (v1 : Int) := evH prg 4 [4, 5, 7] ir6_l0 (L6_0_s a1 a2 a3 a4 a5 a6 v1)
def L6_0_x (e : E_L6_0) (r : Option (Out × St)) : Prop := match e with | .k0 => ∃ g y, r = some (.ret, ⟨fr 65 g [(2, vb false)], y⟩) | .k1 => ∃ g, r = some ((.brk 2), ⟨fr 65 g [(4, .sl 3 a1 4 0 a2), (5, ls 4 eSet a3)], (L6_0_p a1 a4 a5 a6 [])⟩)
theorem L6_0_ok (v1 : Int) {r : E_L6_0 ⊕ (Int)} (h : L6_0 a2 a3 a6 v1 = some r) : OkR (fun e => L6_0_x a1 a2 a3 a4 a5 a6 e (L6_0_e a1 a2 a3 a4 a5 a6 v1)) (fun s => L6_0_e a1 a2 a3 a4 a5 a6 v1 = L6_0_e a1 a2 a3 a4 a5 a6 s) r := by
 unfold L6_0 at h
 have k0 := ka [(51, .v (vi .i64 (a3.length : Int)))] (apc (lg a3 eSet 4) apn)
 apply bi h <;> intro h1 h
 ·
  apply bn h; intro x2 h2 h
  have q1 := ((idx_sl h2) : idxA 4 (.sl 3 a1 4 0 a2) (vi .i64 v1) = some (.rp 3 a1 4 x2 0))
  have k2 := k0.a [(52, .d true), (57, .v (.rp 3 a1 4 x2 0))] (av h1 (apc q1 apn))
  apply bn h; intro x3 h3 h
  have q3 := ((ld_row rfl h3 rfl) : ldA (L6_0_p a1 a4 a5 a6 []) .true 4 (.rp 3 a1 4 x2 0) = some (.agg ((eSet x3).map .p)))
  apply bn h; intro x4 h4 h
  have k4 := k2.a [(58, .v (.agg ((eSet x3).map .p))), (61, .v (.ro (eSet x4)))] (apc q3 (apc (ig eSet 4 .i64 h4) apn))
  apply bi h <;> intro h5 h
  ·
   rw [← sj h]
   exact xy ([(63, .d true), (6000, .d true)] ++ kH k4) (k4.b (av h5 apn))
  ·
   rw [← sj h]
   exact rn ([(63, .d false), (6000, .d true)] ++ kH k4) (k4.b (av h5 (apc (L6_0_k a1 a2 a3 a4 a5 a6 (w6 (v1 + 1))) apn)))
 ·
  rw [← sj h]
  exact xb ([(52, .d false), (6000, .d true)] ++ kH k0) (k0.b (av h1 apn))
theorem L6_0_run (s0 : Int) (e : E_L6_0) (h : runL (fun s => L6_0 a2 a3 a6 s) s0 = some e) : L6_0_x a1 a2 a3 a4 a5 a6 e (L6_0_e a1 a2 a3 a4 a5 a6 s0) := by
  have q := @loop_sound' (Int) E_L6_0 (fun s => L6_0 a2 a3 a6 s) (fun s => L6_0_e a1 a2 a3 a4 a5 a6 s) (L6_0_x a1 a2 a3 a4 a5 a6) (fun s r h => L6_0_ok a1 a2 a3 a4 a5 a6 s h) s0 e h
  exact q
end
def F6_v (a1 : List SetD) (x0 : Bool) : AV := (vb x0)
def F6 (a1 : List SetD) : Option Bool :=
  (bif (decide ((a1.length : Int) > 30)) then ((F8).bind fun x2 => (some x2)) else ((F33 a1).bind fun r2 => match r2 with | .k0 x2_0 x2_1 x2_2 => ((F33_2 a1).bind fun r3 => match r3 with | .k0 x3_0 x3_1 x3_2 => ((F34 a1).bind fun x4 => (bif (((x2_1 : Nat) : Int) != (x4.length : Int)) then (some false) else (bif (((x3_1 : Nat) : Int) != (x4.length : Int)) then (some false) else ((runL (fun s => L6_1 x2_1 x4 s.1 s.2) (0, x2_2)).bind fun r7 => match r7 with | .k0 => (some false) | .k1 x7_0 => ((runL (fun s => L6_0 x3_1 x4 x3_2 s) 0).bind fun r8 => match r8 with | .k0 => (some false) | .k1 => ((F8).bind fun x9 => (some x9))))))))))
abbrev F6_d0 (x2_0 : Nat) (x2_2 : List SetD) (x3_0 : Nat) (x3_2 : List SetD) : List AB := [yV0, yV x2_0 x2_2, yV0, yV x3_0 x3_2]
abbrev F6_d1 (g7 : Nat → AV) (x2_0 x2_1 x3_0 x3_1 : Nat) (x4 x7_0 x3_2 : List SetD) : St := ⟨fr 65 g7 [(3, .sl 1 x2_0 4 0 x2_1), (4, .sl 3 x3_0 4 0 x3_1), (5, ls 4 eSet x4)], [yV0, yV x2_0 x7_0, yV0, yV x3_0 x3_2]⟩
abbrev F6_d2 (g8 : Nat → AV) (x3_0 x3_1 : Nat) (x4 : List SetD) (x2_0 : Nat) (x7_0 x3_2 : List SetD) : St := ⟨fr 65 g8 [(4, .sl 3 x3_0 4 0 x3_1), (5, ls 4 eSet x4)], [yV0, yV x2_0 x7_0, yV0, yV x3_0 x3_2]⟩
theorem F6_ok (a1 : List SetD) {r : Bool} (h : F6 a1 = some r) : PR1 prg 6 [ls 4 eSet a1] (F6_v a1 r) := by
 unfold F6 at h
 have k0 := ka [(9, .v (vi .i64 (a1.length : Int)))] (apc (lg a1 eSet 4) apn)
 apply bi h <;> intro h1 h
 ·
  apply bn h; intro x2 h2 h
  rw [← sj h]
  exact fq ([(10, .d true), (11, .v (vb x2))] ++ kH k0) (k0.b (av h1 (apc (((F8_ok  h2).cp rfl _) : CP prg 8 [] [] = some (vb x2)) apn)))
 ·
  apply bn h; intro r2 h2 h
  cases r2 with
  | k0 x2_0 x2_1 x2_2 =>
   have q1 := ((F33_ok a1 h2) : CS prg 33 [ls 4 eSet a1] [] = some ((.sl 1 x2_0 4 0 x2_1), [yV0, yV x2_0 x2_2]))
   have k2 := k0.a [(10, .d false), (13, .r (.sl 1 x2_0 4 0 x2_1) [yV0, yV x2_0 x2_2])] (av h1 (apc q1 apn))
   apply bn h; intro r3 h3 h
   cases r3 with
   | k0 x3_0 x3_1 x3_2 =>
    have q3 := ((F33_2_ok a1 x2_0 x2_2 h3) : CS prg 33 [ls 4 eSet a1] [yV0, yV x2_0 x2_2] = some ((.sl 3 x3_0 4 0 x3_1), F6_d0 x2_0 x2_2 x3_0 x3_2))
    have k4 := k2.a [(15, .r (.sl 3 x3_0 4 0 x3_1) (F6_d0 x2_0 x2_2 x3_0 x3_2))] (apc q3 apn)
    apply bn h; intro x4 h4 h
    have q5 := (((F34_ok a1 h4).cp rfl _) : CP prg 34 [ls 4 eSet a1] (F6_d0 x2_0 x2_2 x3_0 x3_2) = some (ls 4 eSet x4))
    have k6 := k4.a [(17, .v (ls 4 eSet x4)), (21, .v (vi .i64 (x4.length : Int)))] (apc q5 (apc (lg x4 eSet 4) apn))
    apply bi h <;> intro h5 h
    ·
     rw [← sj h]
     exact fq ([(22, .d true)] ++ kH k6) (k6.b (av h5 apn))
    ·
     have k7 := k6.a [(22, .d false), (27, .v (vi .i64 (x4.length : Int)))] (av h5 (apc (lg x4 eSet 4) apn))
     apply bi h <;> intro h6 h
     ·
      rw [← sj h]
      exact fq ([(28, .d true)] ++ kH k7) (k7.b (av h6 apn))
     ·
      apply bn h; intro r7 h7 h
      cases r7 with
      | k0 =>
       obtain ⟨g7, y7, e7⟩ := L6_1_run x2_0 x2_1 x3_0 x3_1 x4 x3_2 (0, x2_2) _ h7
       rw [← sj h]
       exact fq ([(28, .d false), (2000, .l .ret ⟨fr 65 g7 [(2, vb false)], y7⟩), (6000, .d true)] ++ kH k7) (k7.b (av h6 (apc (L6_1_k x2_0 x2_1 x3_0 x3_1 x4 x3_2 0 x2_2) (apc (e7 : L6_1_e x2_0 x2_1 x3_0 x3_1 x4 x3_2 0 x2_2 = some (.ret, ⟨fr 65 g7 [(2, vb false)], y7⟩)) apn))))
      | k1 x7_0 =>
       obtain ⟨g7, e7⟩ := L6_1_run x2_0 x2_1 x3_0 x3_1 x4 x3_2 (0, x2_2) _ h7
       have q8 := (e7 : L6_1_e x2_0 x2_1 x3_0 x3_1 x4 x3_2 0 x2_2 = some ((.brk 0), F6_d1 g7 x2_0 x2_1 x3_0 x3_1 x4 x7_0 x3_2))
       have k9 := k7.a [(28, .d false), (2000, .l (.brk 0) (F6_d1 g7 x2_0 x2_1 x3_0 x3_1 x4 x7_0 x3_2))] (av h6 (apc (L6_1_k x2_0 x2_1 x3_0 x3_1 x4 x3_2 0 x2_2) (apc q8 apn)))
       apply bn h; intro r8 h8 h
       cases r8 with
       | k0 =>
        obtain ⟨g8, y8, e8⟩ := L6_0_run x3_0 x3_1 x4 x2_0 x7_0 x3_2 0 _ h8
        rw [← sj h]
        exact fq ([(2002, .l .ret ⟨fr 65 g8 [(2, vb false)], y8⟩), (6000, .d true)] ++ kH k9) (k9.b (apc (L6_0_k x3_0 x3_1 x4 x2_0 x7_0 x3_2 0) (apc (e8 : L6_0_e x3_0 x3_1 x4 x2_0 x7_0 x3_2 0 = some (.ret, ⟨fr 65 g8 [(2, vb false)], y8⟩)) apn)))
       | k1 =>
        obtain ⟨g8, e8⟩ := L6_0_run x3_0 x3_1 x4 x2_0 x7_0 x3_2 0 _ h8
        apply bn h; intro x9 h9 h
        rw [← sj h]
        exact fq ([(2002, .l (.brk 2) (F6_d2 g8 x3_0 x3_1 x4 x2_0 x7_0 x3_2)), (64, .v (vb x9)), (6000, .d true)] ++ kH k9) (k9.b (apc (L6_0_k x3_0 x3_1 x4 x2_0 x7_0 x3_2 0) (apc (e8 : L6_0_e x3_0 x3_1 x4 x2_0 x7_0 x3_2 0 = some ((.brk 2), F6_d2 g8 x3_0 x3_1 x4 x2_0 x7_0 x3_2)) (apc (((F8_ok  h9).cp rfl _) : CP prg 8 [] [yV0, yV x2_0 x7_0, yV0, yV x3_0 x3_2] = some (vb x9)) apn))))
end
end Go.Proofs.Tryd
