/- Decompiled by a program: functions as plain data see them, part 1. -/
import Derived.Test.YtbichljebmhmnaaDoorWE7
namespace Go.Proofs.Tryd
set_option linter.unusedSimpArgs false
set_option linter.unusedVariables false
set_option maxHeartbeats 4000000
open Go Go.Vs
noncomputable section
inductive E_L7_3 where
  | k0 (x0 x1 : Nat) (x2 : List SetD)
section
variable (a1 : List SetD)
def L7_3 (v1 v2 : Nat) (v3 : Int) (v4 : List SetD) : Option (E_L7_3 ⊕ (Nat × Nat × Int × (List SetD))) :=
  (bif (decide (v3 ≥ 0)) then ((getI a1 v3).bind fun x2 => (bif (apOk v2 ([(⟨x2.a, x2.b, x2.c, x2.d⟩ : SetD), (⟨x2.a, x2.b, x2.c, x2.d⟩ : SetD)]).length v4.length 32) then (bif (decide (v2 + ([(⟨x2.a, x2.b, x2.c, x2.d⟩ : SetD), (⟨x2.a, x2.b, x2.c, x2.d⟩ : SetD)]).length ≤ v4.length)) then (some (.inr (v1, (v2 + ([(⟨x2.a, x2.b, x2.c, x2.d⟩ : SetD), (⟨x2.a, x2.b, x2.c, x2.d⟩ : SetD)]).length), (IntKind.wrap .i64 (v3 - 1)), (splice v4 v2 [(⟨x2.a, x2.b, x2.c, x2.d⟩ : SetD), (⟨x2.a, x2.b, x2.c, x2.d⟩ : SetD)])))) else (some (.inr ((v1 + 1), (v2 + ([(⟨x2.a, x2.b, x2.c, x2.d⟩ : SetD), (⟨x2.a, x2.b, x2.c, x2.d⟩ : SetD)]).length), (IntKind.wrap .i64 (v3 - 1)), (v4.take v2 ++ [(⟨x2.a, x2.b, x2.c, x2.d⟩ : SetD), (⟨x2.a, x2.b, x2.c, x2.d⟩ : SetD)]))))) else none)) else (some (.inl (.k0 v1 v2 v4))))
def L7_3_s (v1 v2 : Nat) (v3 : Int) (v4 : List SetD) : St := ⟨fr 110 ug [(0, ls 4 eSet a1), (3, .sl 0 v1 4 0 v2), (4, vi .i64 v3)], [yV v1 v4]⟩
theorem L7_3_k (v1 v2 : Nat) (v3 : Int) (v4 : List SetD) : okT 1 (L7_3_s a1 v1 v2 v3 v4).h = true := (okT_of rfl (ar rfl))
abbrev L7_3_e (v1 v2 : Nat) (v3 : Int) (v4 : List SetD) := evH prg 1 [0, 3, 4, 5000003] ir7_l3 (L7_3_s a1 v1 v2 v3 v4)
def L7_3_x (e : E_L7_3) (r : Option (Out × St)) : Prop := match e with | .k0 x0 x1 x2 => ∃ g, r = some ((.brk 0), ⟨fr 110 g [(0, ls 4 eSet a1), (3, .sl 0 x0 4 0 x1)], [yV x0 x2]⟩)
abbrev L7_3_d0 (v1 : Nat) (v4 : List SetD) (v2 : Nat) (x2 : SetD) : List AB := [yV v1 (splice v4 v2 [(⟨x2.a, x2.b, x2.c, x2.d⟩ : SetD), (⟨x2.a, x2.b, x2.c, x2.d⟩ : SetD)])]
abbrev L7_3_d1 (v1 : Nat) (v4 : List SetD) (v2 : Nat) (x2 : SetD) : List AB := [yV (v1 + 1) (v4.take v2 ++ [(⟨x2.a, x2.b, x2.c, x2.d⟩ : SetD), (⟨x2.a, x2.b, x2.c, x2.d⟩ : SetD)])]
theorem L7_3_ok (v1 v2 : Nat) (v3 : Int) (v4 : List SetD) {r : E_L7_3 ⊕ (Nat × Nat × Int × (List SetD))} (h : L7_3 a1 v1 v2 v3 v4 = some r) : OkR (fun e => L7_3_x a1 e (L7_3_e a1 v1 v2 v3 v4)) (fun s => L7_3_e a1 v1 v2 v3 v4 = L7_3_e a1 s.1 s.2.1 s.2.2.1 s.2.2.2) r := by
 unfold L7_3 at h
 apply bi h <;> intro h1 h
 ·
  apply bn h; intro x2 h2 h
  have k0 := ka [(20, .d true), (26, .v (.ro (eSet x2))), (30, .v (.ro (eSet x2)))] (av h1 (apc (ig eSet 4 .i64 h2) (apc (ig eSet 4 .i64 h2) apn)))
  apply bi h <;> intro h3 h
  ·
   apply bi h <;> intro h4 h
   ·
    rw [← sj h]
    exact rn ([(33, .r (.sl 0 v1 4 0 (v2 + ([(⟨x2.a, x2.b, x2.c, x2.d⟩ : SetD), (⟨x2.a, x2.b, x2.c, x2.d⟩ : SetD)]).length)) (L7_3_d0 v1 v4 v2 x2)), (6000, .d true)] ++ kH k0) (k0.b (apc ((ap_in (e := eSet) (xs := v4) (news := [(⟨x2.a, x2.b, x2.c, x2.d⟩ : SetD), (⟨x2.a, x2.b, x2.c, x2.d⟩ : SetD)]) rfl rows_l rfl h3 h4) : appA [yV v1 v4] 29 4 32 (.sl 0 v1 4 0 v2) (.p (.lst 4 ([(⟨x2.a, x2.b, x2.c, x2.d⟩ : SetD), (⟨x2.a, x2.b, x2.c, x2.d⟩ : SetD)].map eSet))) = some ((.sl 0 v1 4 0 (v2 + ([(⟨x2.a, x2.b, x2.c, x2.d⟩ : SetD), (⟨x2.a, x2.b, x2.c, x2.d⟩ : SetD)]).length)), L7_3_d0 v1 v4 v2 x2)) (apc (L7_3_k a1 v1 (v2 + ([(⟨x2.a, x2.b, x2.c, x2.d⟩ : SetD), (⟨x2.a, x2.b, x2.c, x2.d⟩ : SetD)]).length) (w6 (v3 - 1)) (splice v4 v2 [(⟨x2.a, x2.b, x2.c, x2.d⟩ : SetD), (⟨x2.a, x2.b, x2.c, x2.d⟩ : SetD)])) apn)))
   ·
    rw [← sj h]
    exact rn ([(33, .r (.sl 0 (v1 + 1) 4 0 (v2 + ([(⟨x2.a, x2.b, x2.c, x2.d⟩ : SetD), (⟨x2.a, x2.b, x2.c, x2.d⟩ : SetD)]).length)) (L7_3_d1 v1 v4 v2 x2)), (6000, .d true)] ++ kH k0) (k0.b (apc ((ap_out (e := eSet) (xs := v4) (news := [(⟨x2.a, x2.b, x2.c, x2.d⟩ : SetD), (⟨x2.a, x2.b, x2.c, x2.d⟩ : SetD)]) rfl rows_l rfl h3 h4) : appA [yV v1 v4] 29 4 32 (.sl 0 v1 4 0 v2) (.p (.lst 4 ([(⟨x2.a, x2.b, x2.c, x2.d⟩ : SetD), (⟨x2.a, x2.b, x2.c, x2.d⟩ : SetD)].map eSet))) = some ((.sl 0 (v1 + 1) 4 0 (v2 + ([(⟨x2.a, x2.b, x2.c, x2.d⟩ : SetD), (⟨x2.a, x2.b, x2.c, x2.d⟩ : SetD)]).length)), L7_3_d1 v1 v4 v2 x2)) (apc (L7_3_k a1 (v1 + 1) (v2 + ([(⟨x2.a, x2.b, x2.c, x2.d⟩ : SetD), (⟨x2.a, x2.b, x2.c, x2.d⟩ : SetD)]).length) (w6 (v3 - 1)) (v4.take v2 ++ [(⟨x2.a, x2.b, x2.c, x2.d⟩ : SetD), (⟨x2.a, x2.b, x2.c, x2.d⟩ : SetD)])) apn)))
  ·
   cases h
 ·
  rw [← sj h]
  exact xb [(20, .d false), (6000, .d true)] (av h1 apn)
theorem L7_3_run (s0 : Nat × Nat × Int × (List SetD)) (e : E_L7_3) (h : runL (fun s => L7_3 a1 s.1 s.2.1 s.2.2.1 s.2.2.2) s0 = some e) : L7_3_x a1 e (L7_3_e a1 s0.1 s0.2.1 s0.2.2.1 s0.2.2.2) := by
  have q := @loop_sound' (Nat × Nat × Int × (List SetD)) E_L7_3 (fun s => L7_3 a1 s.1 s.2.1 s.2.2.1 s.2.2.2) (fun s => L7_3_e a1 s.1 s.2.1 s.2.2.1 s.2.2.2) (L7_3_x a1) (fun s r h => L7_3_ok a1 s.1 s.2.1 s.2.2.1 s.2.2.2 h) s0 e h
  exact q
end
inductive E_L33_0_10 where
  | k0 (x0 x1 : Nat) (x2 : List (SetD × Int)) (x3 : List SetD)
section
variable (a3 : List SetD) (a4 a5 : Int) (a6 a7 : Nat) (a8 a9 : Int) (a10 : List SetD) (a11 : Int) (a12 : List SetD) (a13 a16 : SetD)
abbrev L33_0_10_p (l : List AB) : List AB := yV0 :: yV a6 a12 :: .cells 29 ((eSet a13).map .p) :: l
def L33_0_10 (v1 v2 : Nat) (v3 : Int) (v4 : List (SetD × Int)) (v5 : List SetD) : Option (E_L33_0_10 ⊕ (Nat × Nat × Int × (List (SetD × Int)) × (List SetD))) :=
  (bif (decide (v3 < a11)) then ((getI a10 v3).bind fun x2 => (bif (!((x2.a == 0) && ((x2.b == 0) && ((x2.c == 0) && ((x2.d == 0) && true))))) then (bif ((mget 0 (mput (⟨x2.a, x2.b, x2.c, x2.d⟩ : SetD) (IntKind.wrap .i64 ((mget 0 v4 (⟨x2.a, x2.b, x2.c, x2.d⟩ : SetD)) + 1)) v4) (⟨x2.a, x2.b, x2.c, x2.d⟩ : SetD)) == 1) then (bif (apOk v2 ([(⟨x2.a, x2.b, x2.c, x2.d⟩ : SetD)]).length v5.length 32) then (bif (decide (v2 + ([(⟨x2.a, x2.b, x2.c, x2.d⟩ : SetD)]).length ≤ v5.length)) then (some (.inr (v1, (v2 + ([(⟨x2.a, x2.b, x2.c, x2.d⟩ : SetD)]).length), (IntKind.wrap .i64 (v3 + 1)), (mput (⟨x2.a, x2.b, x2.c, x2.d⟩ : SetD) (IntKind.wrap .i64 ((mget 0 v4 (⟨x2.a, x2.b, x2.c, x2.d⟩ : SetD)) + 1)) v4), (splice v5 v2 [(⟨x2.a, x2.b, x2.c, x2.d⟩ : SetD)])))) else (some (.inr ((v1 + 1), (v2 + ([(⟨x2.a, x2.b, x2.c, x2.d⟩ : SetD)]).length), (IntKind.wrap .i64 (v3 + 1)), (mput (⟨x2.a, x2.b, x2.c, x2.d⟩ : SetD) (IntKind.wrap .i64 ((mget 0 v4 (⟨x2.a, x2.b, x2.c, x2.d⟩ : SetD)) + 1)) v4), (v5.take v2 ++ [(⟨x2.a, x2.b, x2.c, x2.d⟩ : SetD)]))))) else none) else (some (.inr (v1, v2, (IntKind.wrap .i64 (v3 + 1)), (mput (⟨x2.a, x2.b, x2.c, x2.d⟩ : SetD) (IntKind.wrap .i64 ((mget 0 v4 (⟨x2.a, x2.b, x2.c, x2.d⟩ : SetD)) + 1)) v4), v5)))) else (some (.inr (v1, v2, (IntKind.wrap .i64 (v3 + 1)), (mput (⟨x2.a, x2.b, x2.c, x2.d⟩ : SetD) (IntKind.wrap .i64 ((mget 0 v4 (⟨x2.a, x2.b, x2.c, x2.d⟩ : SetD)) + 1)) v4), v5))))) else (some (.inl (.k0 v1 v2 v4 v5))))
def L33_0_10_s (v1 v2 : Nat) (v3 : Int) (v4 : List (SetD × Int)) (v5 : List SetD) : St := ⟨fr 65 ug [(5, .ptr 2 0), (6, .mp 3), (7, .sl 4 v1 4 0 v2), (14, ls 4 eSet a3), (15, vi .i64 a4), (16, vi .i64 a5), (21, .sl 1 a6 4 0 a7), (22, vi .i64 a8), (23, vi .i64 a9), (33, ls 4 eSet a10), (34, vi .i64 a11), (35, vi .i64 v3)], (L33_0_10_p a6 a12 a13 [.map (mrow kS vI v4), yV v1 v5, .cells 29 ((eSet a16).map .p)])⟩
theorem L33_0_10_k (v1 v2 : Nat) (v3 : Int) (v4 : List (SetD × Int)) (v5 : List SetD) : okT 6 (L33_0_10_s a3 a4 a5 a6 a7 a8 a9 a10 a11 a12 a13 a16 v1 v2 v3 v4 v5).h = true := (okT_of rfl (ar (ar (ac (abl_cons (abl_map (fun _ => rfl) (fun _ => rfl)) (ar (ac rfl)))))))
abbrev L33_0_10_e (v1 v2 : Nat) (v3 : Int) (v4 : List (SetD × Int)) (v5 : List SetD) := evH prg 6 [5, 6, 7, 14, 15, 16, 21, 22, 23, 33, 34, 35] ir33_l0 (L33_0_10_s a3 a4 a5 a6 a7 a8 a9 a10 a11 a12 a13 a16 v1 v2 v3 v4 v5)
def L33_0_10_x (e : E_L33_0_10) (r : Option (Out × St)) : Prop := match e with | .k0 x0 x1 x2 x3 => ∃ g, r = some ((.brk 4), ⟨fr 65 g [(5, .ptr 2 0), (6, .mp 3), (7, .sl 4 x0 4 0 x1), (14, ls 4 eSet a3), (15, vi .i64 a4), (16, vi .i64 a5), (21, .sl 1 a6 4 0 a7), (22, vi .i64 a8), (23, vi .i64 a9), (33, ls 4 eSet a10)], (L33_0_10_p a6 a12 a13 [.map (mrow kS vI x2), yV x0 x3, .cells 29 ((eSet a16).map .p)])⟩)
abbrev L33_0_10_d0 (v4 : List (SetD × Int)) (v1 : Nat) (v5 : List SetD) (x2 : SetD) : List AB := (L33_0_10_p a6 a12 a13 [.map (mrow kS vI v4), yV v1 v5, .cells 29 ((eSet a16).map .p), .cells 29 ((eSet x2).map .p)])
abbrev L33_0_10_d1 (v4 : List (SetD × Int)) (x2 : SetD) (v1 : Nat) (v5 : List SetD) : List AB := (L33_0_10_p a6 a12 a13 [.map (mrow kS vI (ment 0 v4 (⟨x2.a, x2.b, x2.c, x2.d⟩ : SetD))), yV v1 v5, .cells 29 ((eSet a16).map .p), .cells 29 ((eSet x2).map .p)])
abbrev L33_0_10_d2 (x2 : SetD) (v4 : List (SetD × Int)) (v1 : Nat) (v5 : List SetD) : List AB := (L33_0_10_p a6 a12 a13 [.map (mrow kS vI (mput (⟨x2.a, x2.b, x2.c, x2.d⟩ : SetD) (w6 ((mget 0 v4 (⟨x2.a, x2.b, x2.c, x2.d⟩ : SetD)) + 1)) v4)), yV v1 v5, .cells 29 ((eSet a16).map .p), .cells 29 ((eSet x2).map .p)])
abbrev L33_0_10_d3 (x2 : SetD) (v4 : List (SetD × Int)) (v1 : Nat) (v5 : List SetD) (v2 : Nat) : List AB := (L33_0_10_p a6 a12 a13 [.map (mrow kS vI (mput (⟨x2.a, x2.b, x2.c, x2.d⟩ : SetD) (w6 ((mget 0 v4 (⟨x2.a, x2.b, x2.c, x2.d⟩ : SetD)) + 1)) v4)), yV v1 (splice v5 v2 [(⟨x2.a, x2.b, x2.c, x2.d⟩ : SetD)]), .cells 29 ((eSet a16).map .p), .cells 29 ((eSet x2).map .p)])
abbrev L33_0_10_d4 (x2 : SetD) (v4 : List (SetD × Int)) (v1 : Nat) (v5 : List SetD) (v2 : Nat) : List AB := (L33_0_10_p a6 a12 a13 [.map (mrow kS vI (mput (⟨x2.a, x2.b, x2.c, x2.d⟩ : SetD) (w6 ((mget 0 v4 (⟨x2.a, x2.b, x2.c, x2.d⟩ : SetD)) + 1)) v4)), yV (v1 + 1) (v5.take v2 ++ [(⟨x2.a, x2.b, x2.c, x2.d⟩ : SetD)]), .cells 29 ((eSet a16).map .p), .cells 29 ((eSet x2).map .p)])
theorem L33_0_10_ok (v1 v2 : Nat) (v3 : Int) (v4 : List (SetD × Int)) (v5 : List SetD) {r : E_L33_0_10 ⊕ (Nat × Nat × Int × (List (SetD × Int)) × (List SetD))} (h : L33_0_10 a10 a11 v1 v2 v3 v4 v5 = some r) : OkR (fun e => L33_0_10_x a3 a4 a5 a6 a7 a8 a9 a10 a12 a13 a16 e (L33_0_10_e a3 a4 a5 a6 a7 a8 a9 a10 a11 a12 a13 a16 v1 v2 v3 v4 v5)) (fun s => L33_0_10_e a3 a4 a5 a6 a7 a8 a9 a10 a11 a12 a13 a16 v1 v2 v3 v4 v5 = L33_0_10_e a3 a4 a5 a6 a7 a8 a9 a10 a11 a12 a13 a16 s.1 s.2.1 s.2.2.1 s.2.2.2.1 s.2.2.2.2) r := by
 unfold L33_0_10 at h
 apply bi h <;> intro h1 h
 ·
  apply bn h; intro x2 h2 h
  have q0 := ((lk_row key_set (ve := vI) (es := v4) (k := (⟨x2.a, x2.b, x2.c, x2.d⟩ : SetD)) (z := 0) rfl rfl) : lkA (L33_0_10_d0 a6 a12 a13 a16 v4 v1 v5 x2) [1, 1, 1, 1] .true .false [(.val (.int .i64 0))] .false (.mp 3) (.agg ((eSet x2).map .p)) = some (vi .i64 (mget 0 v4 (⟨x2.a, x2.b, x2.c, x2.d⟩ : SetD))))
  have q1 := ((en_row key_set (ve := vI) (es := v4) (k := (⟨x2.a, x2.b, x2.c, x2.d⟩ : SetD)) (z := 0) rfl rfl) : enA (L33_0_10_d0 a6 a12 a13 a16 v4 v1 v5 x2) [1, 1, 1, 1] .true .false [(.val (.int .i64 0))] (.mp 3) (.agg ((eSet x2).map .p)) = some ((.tup [(vi .i64 (mget 0 v4 (⟨x2.a, x2.b, x2.c, x2.d⟩ : SetD))), (vi .i64 (midx v4 (⟨x2.a, x2.b, x2.c, x2.d⟩ : SetD) : Int))]), L33_0_10_d1 a6 a12 a13 a16 v4 x2 v1 v5))
  have q2 := (⟨es_row key_set (ve := vI) (es := v4) (k := (⟨x2.a, x2.b, x2.c, x2.d⟩ : SetD)) (v := (w6 ((mget 0 v4 (⟨x2.a, x2.b, x2.c, x2.d⟩ : SetD)) + 1))) (z := 0) rfl, rfl⟩ : esA (L33_0_10_d1 a6 a12 a13 a16 v4 x2 v1 v5) (.mp 3) (vi .i64 (midx v4 (⟨x2.a, x2.b, x2.c, x2.d⟩ : SetD) : Int)) (vi .i64 (w6 ((mget 0 v4 (⟨x2.a, x2.b, x2.c, x2.d⟩ : SetD)) + 1))) = some (L33_0_10_d2 a6 a12 a13 a16 x2 v4 v1 v5) ∧ ud = ud)
  have q3 := ((lk_row key_set (ve := vI) (es := (mput (⟨x2.a, x2.b, x2.c, x2.d⟩ : SetD) (w6 ((mget 0 v4 (⟨x2.a, x2.b, x2.c, x2.d⟩ : SetD)) + 1)) v4)) (k := (⟨x2.a, x2.b, x2.c, x2.d⟩ : SetD)) (z := 0) rfl rfl) : lkA (L33_0_10_d2 a6 a12 a13 a16 x2 v4 v1 v5) [1, 1, 1, 1] .true .false [(.val (.int .i64 0))] .false (.mp 3) (.agg ((eSet x2).map .p)) = some (vi .i64 (mget 0 (mput (⟨x2.a, x2.b, x2.c, x2.d⟩ : SetD) (w6 ((mget 0 v4 (⟨x2.a, x2.b, x2.c, x2.d⟩ : SetD)) + 1)) v4) (⟨x2.a, x2.b, x2.c, x2.d⟩ : SetD))))
  have q4 := (L33_0_10_k a3 a4 a5 a6 a7 a8 a9 a10 a11 a12 a13 a16 v1 v2 (w6 (v3 + 1)) (mput (⟨x2.a, x2.b, x2.c, x2.d⟩ : SetD) (w6 ((mget 0 v4 (⟨x2.a, x2.b, x2.c, x2.d⟩ : SetD)) + 1)) v4) v5)
  have k5 := ka [(36, .d true), (37, .v (.ro (eSet x2))), (41, .v (vi .i64 (mget 0 v4 (⟨x2.a, x2.b, x2.c, x2.d⟩ : SetD)))), (43, .r (.tup [(vi .i64 (mget 0 v4 (⟨x2.a, x2.b, x2.c, x2.d⟩ : SetD))), (vi .i64 (midx v4 (⟨x2.a, x2.b, x2.c, x2.d⟩ : SetD) : Int))]) (L33_0_10_d1 a6 a12 a13 a16 v4 x2 v1 v5)), (8042, .r ud (L33_0_10_d2 a6 a12 a13 a16 x2 v4 v1 v5))] (av h1 (apc (ig eSet 4 .i64 h2) (apc q0 (apc q1 (apc q2 apn)))))
  apply bi h <;> intro h3 h
  ·
   have k6 := k5.a [(47, .d true), (51, .v (vi .i64 (mget 0 (mput (⟨x2.a, x2.b, x2.c, x2.d⟩ : SetD) (w6 ((mget 0 v4 (⟨x2.a, x2.b, x2.c, x2.d⟩ : SetD)) + 1)) v4) (⟨x2.a, x2.b, x2.c, x2.d⟩ : SetD))))] (av h3 (apc q3 apn))
   apply bi h <;> intro h4 h
   ·
    apply bi h <;> intro h5 h
    ·
     apply bi h <;> intro h6 h
     ·
      rw [← sj h]
      exact rn ([(52, .d true), (57, .r (.sl 4 v1 4 0 (v2 + ([(⟨x2.a, x2.b, x2.c, x2.d⟩ : SetD)]).length)) (L33_0_10_d3 a6 a12 a13 a16 x2 v4 v1 v5 v2)), (6000, .d true)] ++ kH k6) (k6.b (av h4 (apc ((ap_in (e := eSet) (xs := v5) (news := [(⟨x2.a, x2.b, x2.c, x2.d⟩ : SetD)]) rfl rows_l rfl h5 h6) : appA (L33_0_10_d2 a6 a12 a13 a16 x2 v4 v1 v5) 29 4 32 (.sl 4 v1 4 0 v2) (.p (.lst 4 ([(⟨x2.a, x2.b, x2.c, x2.d⟩ : SetD)].map eSet))) = some ((.sl 4 v1 4 0 (v2 + ([(⟨x2.a, x2.b, x2.c, x2.d⟩ : SetD)]).length)), L33_0_10_d3 a6 a12 a13 a16 x2 v4 v1 v5 v2)) (apc (L33_0_10_k a3 a4 a5 a6 a7 a8 a9 a10 a11 a12 a13 a16 v1 (v2 + ([(⟨x2.a, x2.b, x2.c, x2.d⟩ : SetD)]).length) (w6 (v3 + 1)) (mput (⟨x2.a, x2.b, x2.c, x2.d⟩ : SetD) (w6 ((mget 0 v4 (⟨x2.a, x2.b, x2.c, x2.d⟩ : SetD)) + 1)) v4) (splice v5 v2 [(⟨x2.a, x2.b, x2.c, x2.d⟩ : SetD)])) apn))))
     ·
      rw [← sj h]
      exact rn ([(52, .d true), (57, .r (.sl 4 (v1 + 1) 4 0 (v2 + ([(⟨x2.a, x2.b, x2.c, x2.d⟩ : SetD)]).length)) (L33_0_10_d4 a6 a12 a13 a16 x2 v4 v1 v5 v2)), (6000, .d true)] ++ kH k6) (k6.b (av h4 (apc ((ap_out (e := eSet) (xs := v5) (news := [(⟨x2.a, x2.b, x2.c, x2.d⟩ : SetD)]) rfl rows_l rfl h5 h6) : appA (L33_0_10_d2 a6 a12 a13 a16 x2 v4 v1 v5) 29 4 32 (.sl 4 v1 4 0 v2) (.p (.lst 4 ([(⟨x2.a, x2.b, x2.c, x2.d⟩ : SetD)].map eSet))) = some ((.sl 4 (v1 + 1) 4 0 (v2 + ([(⟨x2.a, x2.b, x2.c, x2.d⟩ : SetD)]).length)), L33_0_10_d4 a6 a12 a13 a16 x2 v4 v1 v5 v2)) (apc (L33_0_10_k a3 a4 a5 a6 a7 a8 a9 a10 a11 a12 a13 a16 (v1 + 1) (v2 + ([(⟨x2.a, x2.b, x2.c, x2.d⟩ : SetD)]).length) (w6 (v3 + 1)) (mput (⟨x2.a, x2.b, x2.c, x2.d⟩ : SetD) (w6 ((mget 0 v4 (⟨x2.a, x2.b, x2.c, x2.d⟩ : SetD)) + 1)) v4) (v5.take v2 ++ [(⟨x2.a, x2.b, x2.c, x2.d⟩ : SetD)])) apn))))
    ·
     cases h
   ·
    rw [← sj h]
    exact rn ([(52, .d false), (6000, .d true)] ++ kH k6) (k6.b (av h4 (apc q4 apn)))
  ·
   rw [← sj h]
   exact rn ([(47, .d false), (6000, .d true)] ++ kH k5) (k5.b (av h3 (apc q4 apn)))
 ·
  rw [← sj h]
  exact xb [(36, .d false), (6000, .d true)] (av h1 apn)
theorem L33_0_10_run (s0 : Nat × Nat × Int × (List (SetD × Int)) × (List SetD)) (e : E_L33_0_10) (h : runL (fun s => L33_0_10 a10 a11 s.1 s.2.1 s.2.2.1 s.2.2.2.1 s.2.2.2.2) s0 = some e) : L33_0_10_x a3 a4 a5 a6 a7 a8 a9 a10 a12 a13 a16 e (L33_0_10_e a3 a4 a5 a6 a7 a8 a9 a10 a11 a12 a13 a16 s0.1 s0.2.1 s0.2.2.1 s0.2.2.2.1 s0.2.2.2.2) := by
  have q := @loop_sound' (Nat × Nat × Int × (List (SetD × Int)) × (List SetD)) E_L33_0_10 (fun s => L33_0_10 a10 a11 s.1 s.2.1 s.2.2.1 s.2.2.2.1 s.2.2.2.2) (fun s => L33_0_10_e a3 a4 a5 a6 a7 a8 a9 a10 a11 a12 a13 a16 s.1 s.2.1 s.2.2.1 s.2.2.2.1 s.2.2.2.2) (L33_0_10_x a3 a4 a5 a6 a7 a8 a9 a10 a12 a13 a16) (fun s r h => L33_0_10_ok a3 a4 a5 a6 a7 a8 a9 a10 a11 a12 a13 a16 s.1 s.2.1 s.2.2.1 s.2.2.2.1 s.2.2.2.2 h) s0 e h
  exact q
end
inductive E_L33_1_3 where
  | k0 (x0 x1 : Nat) (x2 : List (SetD × Int)) (x3 : List SetD)
section
variable (a1 : List SetD) (a2 a3 : Int) (a4 a5 : Nat) (a6 : Int) (a7 : List SetD) (a8 : SetD)
abbrev L33_1_3_p (l : List AB) : List AB := yV0 :: yV a4 a7 :: .cells 29 ((eSet a8).map .p) :: l
def L33_1_3 (v1 v2 : Nat) (v3 : Int) (v4 : List (SetD × Int)) (v5 : List SetD) : Option (E_L33_1_3 ⊕ (Nat × Nat × Int × (List (SetD × Int)) × (List SetD))) :=
  (bif (decide (v3 < a6)) then ((ixN a5 v3).bind fun x2 => ((a7[x2]?).bind fun x3 => ((F18 x3 a8).bind fun x4 => ((F21 x3 a8).bind fun x5 => ((runL (fun s => L33_0_10 ([(⟨x4.a, x4.b, x4.c, x4.d⟩ : SetD), (⟨x5.a, x5.b, x5.c, x5.d⟩ : SetD)]) (([(⟨x4.a, x4.b, x4.c, x4.d⟩ : SetD), (⟨x5.a, x5.b, x5.c, x5.d⟩ : SetD)]).length : Int) s.1 s.2.1 s.2.2.1 s.2.2.2.1 s.2.2.2.2) (v1, v2, 0, v4, v5)).bind fun r6 => match r6 with | .k0 x6_0 x6_1 x6_2 x6_3 => (some (.inr (x6_0, x6_1, (IntKind.wrap .i64 (v3 + 1)), x6_2, x6_3)))))))) else (some (.inl (.k0 v1 v2 v4 v5))))
def L33_1_3_s (v1 v2 : Nat) (v3 : Int) (v4 : List (SetD × Int)) (v5 : List SetD) : St := ⟨fr 65 ug [(5, .ptr 2 0), (6, .mp 3), (7, .sl 4 v1 4 0 v2), (14, ls 4 eSet a1), (15, vi .i64 a2), (16, vi .i64 a3), (21, .sl 1 a4 4 0 a5), (22, vi .i64 a6), (23, vi .i64 v3)], (L33_1_3_p a4 a7 a8 [.map (mrow kS vI v4), yV v1 v5])⟩
theorem L33_1_3_k (v1 v2 : Nat) (v3 : Int) (v4 : List (SetD × Int)) (v5 : List SetD) : okT 5 (L33_1_3_s a1 a2 a3 a4 a5 a6 a7 a8 v1 v2 v3 v4 v5).h = true := (okT_of rfl (ar (ar (ac (abl_cons (abl_map (fun _ => rfl) (fun _ => rfl)) (ar rfl))))))
abbrev L33_1_3_e (v1 v2 : Nat) (v3 : Int) (v4 : List (SetD × Int)) (v5 : List SetD) := evH prg 5 [5, 6, 7, 14, 15, 16, 21, 22, 23, 2000798002100] ir33_l1 (L33_1_3_s a1 a2 a3 a4 a5 a6 a7 a8 v1 v2 v3 v4 v5)
def L33_1_3_x (e : E_L33_1_3) (r : Option (Out × St)) : Prop := match e with | .k0 x0 x1 x2 x3 => ∃ g, r = some ((.brk 2), ⟨fr 65 g [(5, .ptr 2 0), (7, .sl 4 x0 4 0 x1), (14, ls 4 eSet a1), (15, vi .i64 a2), (16, vi .i64 a3), (21, .sl 1 a4 4 0 a5)], (L33_1_3_p a4 a7 a8 [.map (mrow kS vI x2), yV x0 x3])⟩)
abbrev L33_1_3_d0 (g6 : Nat → AV) (x6_0 x6_1 : Nat) (v3 : Int) (x4 x5 : SetD) (x6_2 : List (SetD × Int)) (x6_3 : List SetD) (x3 : SetD) : St := ⟨fr 65 g6 [(5, .ptr 2 0), (6, .mp 3), (7, .sl 4 x6_0 4 0 x6_1), (14, ls 4 eSet a1), (15, vi .i64 a2), (16, vi .i64 a3), (21, .sl 1 a4 4 0 a5), (22, vi .i64 a6), (23, vi .i64 v3), (33, (.p (.lst 4 (([(⟨x4.a, x4.b, x4.c, x4.d⟩ : SetD), (⟨x5.a, x5.b, x5.c, x5.d⟩ : SetD)]).map eSet))))], (L33_1_3_p a4 a7 a8 [.map (mrow kS vI x6_2), yV x6_0 x6_3, .cells 29 ((eSet x3).map .p)])⟩
abbrev L33_1_3_d1 (v4 : List (SetD × Int)) (v1 : Nat) (v5 : List SetD) (x3 : SetD) : List AB := (L33_1_3_p a4 a7 a8 [.map (mrow kS vI v4), yV v1 v5, .cells 29 ((eSet x3).map .p)])
theorem L33_1_3_ok (v1 v2 : Nat) (v3 : Int) (v4 : List (SetD × Int)) (v5 : List SetD) {r : E_L33_1_3 ⊕ (Nat × Nat × Int × (List (SetD × Int)) × (List SetD))} (h : L33_1_3 a5 a6 a7 a8 v1 v2 v3 v4 v5 = some r) : OkR (fun e => L33_1_3_x a1 a2 a3 a4 a5 a7 a8 e (L33_1_3_e a1 a2 a3 a4 a5 a6 a7 a8 v1 v2 v3 v4 v5)) (fun s => L33_1_3_e a1 a2 a3 a4 a5 a6 a7 a8 v1 v2 v3 v4 v5 = L33_1_3_e a1 a2 a3 a4 a5 a6 a7 a8 s.1 s.2.1 s.2.2.1 s.2.2.2.1 s.2.2.2.2) r := by
 unfold L33_1_3 at h
 apply bi h <;> intro h1 h
 ·
  apply bn h; intro x2 h2 h
  apply bn h; intro x3 h3 h
  apply bn h; intro x4 h4 h
  apply bn h; intro x5 h5 h
  apply bn h; intro r6 h6 h
  cases r6 with
  | k0 x6_0 x6_1 x6_2 x6_3 =>
   obtain ⟨g6, e6⟩ := L33_0_10_run a1 a2 a3 a4 a5 a6 v3 ([(⟨x4.a, x4.b, x4.c, x4.d⟩ : SetD), (⟨x5.a, x5.b, x5.c, x5.d⟩ : SetD)]) (([(⟨x4.a, x4.b, x4.c, x4.d⟩ : SetD), (⟨x5.a, x5.b, x5.c, x5.d⟩ : SetD)]).length : Int) a7 a8 x3 (v1, v2, 0, v4, v5) _ h6
   rw [← sj h]
   exact rn [(24, .d true), (25, .v (.rp 1 a4 4 x2 0)), (26, .v (.agg ((eSet x3).map .p))), (29, .v (.agg [vi .u64 x4.a, vi .u64 x4.b, vi .u64 x4.c, vi .u64 x4.d])), (32, .v (.agg [vi .u64 x5.a, vi .u64 x5.b, vi .u64 x5.c, vi .u64 x5.d])), (34, .v (vi .i64 (([(⟨x4.a, x4.b, x4.c, x4.d⟩ : SetD), (⟨x5.a, x5.b, x5.c, x5.d⟩ : SetD)]).length : Int))), (2004, .l (.brk 4) (L33_1_3_d0 a1 a2 a3 a4 a5 a6 a7 a8 g6 x6_0 x6_1 v3 x4 x5 x6_2 x6_3 x3)), (6000, .d true)] (av h1 (apc ((idx_sl h2) : idxA 4 (.sl 1 a4 4 0 a5) (vi .i64 v3) = some (.rp 1 a4 4 x2 0)) (apc ((ld_row rfl h3 rfl) : ldA (L33_1_3_p a4 a7 a8 [.map (mrow kS vI v4), yV v1 v5]) .true 4 (.rp 1 a4 4 x2 0) = some (.agg ((eSet x3).map .p))) (apc (((F18_ok x3 a8 h4).cp rfl _) : CP prg 18 [(.agg ((eSet x3).map .p)), (.agg ((eSet a8).map .p))] (L33_1_3_d1 a4 a7 a8 v4 v1 v5 x3) = some (.agg [vi .u64 x4.a, vi .u64 x4.b, vi .u64 x4.c, vi .u64 x4.d])) (apc (((F21_ok x3 a8 h5).cp rfl _) : CP prg 21 [(.agg ((eSet x3).map .p)), (.agg ((eSet a8).map .p))] (L33_1_3_d1 a4 a7 a8 v4 v1 v5 x3) = some (.agg [vi .u64 x5.a, vi .u64 x5.b, vi .u64 x5.c, vi .u64 x5.d])) (apc (lg [(⟨x4.a, x4.b, x4.c, x4.d⟩ : SetD), (⟨x5.a, x5.b, x5.c, x5.d⟩ : SetD)] eSet 4) (apc (L33_0_10_k a1 a2 a3 a4 a5 a6 v3 ([(⟨x4.a, x4.b, x4.c, x4.d⟩ : SetD), (⟨x5.a, x5.b, x5.c, x5.d⟩ : SetD)]) (([(⟨x4.a, x4.b, x4.c, x4.d⟩ : SetD), (⟨x5.a, x5.b, x5.c, x5.d⟩ : SetD)]).length : Int) a7 a8 x3 v1 v2 0 v4 v5) (apc (e6 : L33_0_10_e a1 a2 a3 a4 a5 a6 v3 ([(⟨x4.a, x4.b, x4.c, x4.d⟩ : SetD), (⟨x5.a, x5.b, x5.c, x5.d⟩ : SetD)]) (([(⟨x4.a, x4.b, x4.c, x4.d⟩ : SetD), (⟨x5.a, x5.b, x5.c, x5.d⟩ : SetD)]).length : Int) a7 a8 x3 v1 v2 0 v4 v5 = some ((.brk 4), L33_1_3_d0 a1 a2 a3 a4 a5 a6 a7 a8 g6 x6_0 x6_1 v3 x4 x5 x6_2 x6_3 x3)) (apc (L33_1_3_k a1 a2 a3 a4 a5 a6 a7 a8 x6_0 x6_1 (w6 (v3 + 1)) x6_2 x6_3) apn)))))))))
 ·
  rw [← sj h]
  exact xb [(24, .d false), (6000, .d true)] (av h1 apn)
theorem L33_1_3_run (s0 : Nat × Nat × Int × (List (SetD × Int)) × (List SetD)) (e : E_L33_1_3) (h : runL (fun s => L33_1_3 a5 a6 a7 a8 s.1 s.2.1 s.2.2.1 s.2.2.2.1 s.2.2.2.2) s0 = some e) : L33_1_3_x a1 a2 a3 a4 a5 a7 a8 e (L33_1_3_e a1 a2 a3 a4 a5 a6 a7 a8 s0.1 s0.2.1 s0.2.2.1 s0.2.2.2.1 s0.2.2.2.2) := by
  have q := @loop_sound' (Nat × Nat × Int × (List (SetD × Int)) × (List SetD)) E_L33_1_3 (fun s => L33_1_3 a5 a6 a7 a8 s.1 s.2.1 s.2.2.1 s.2.2.2.1 s.2.2.2.2) (fun s => L33_1_3_e a1 a2 a3 a4 a5 a6 a7 a8 s.1 s.2.1 s.2.2.1 s.2.2.2.1 s.2.2.2.2) (L33_1_3_x a1 a2 a3 a4 a5 a7 a8) (fun s r h => L33_1_3_ok a1 a2 a3 a4 a5 a6 a7 a8 s.1 s.2.1 s.2.2.1 s.2.2.2.1 s.2.2.2.2 h) s0 e h
  exact q
end
inductive E_L33_2 where
  | k0 (x0 x1 : Nat) (x2 : List SetD)
section
variable (a1 : List SetD) (a2 : Int)
def L33_2 (v1 v2 : Nat) (v3 : Int) (v4 : List SetD) : Option (E_L33_2 ⊕ (Nat × Nat × Int × (List SetD))) :=
  (bif (decide (v3 < a2)) then ((getI a1 v3).bind fun x2 => ((runL (fun s => L33_1_3 v2 ((v2 : Nat) : Int) v4 x2 s.1 s.2.1 s.2.2.1 s.2.2.2.1 s.2.2.2.2) (0, 0, 0, [], [])).bind fun r3 => match r3 with | .k0 x3_0 x3_1 x3_2 x3_3 => (some (.inr ((v1 + 1), x3_1, (IntKind.wrap .i64 (v3 + 1)), x3_3))))) else (some (.inl (.k0 v1 v2 v4))))
def L33_2_s (v1 v2 : Nat) (v3 : Int) (v4 : List SetD) : St := ⟨fr 65 ug [(3, .sl 1 v1 4 0 v2), (14, ls 4 eSet a1), (15, vi .i64 a2), (16, vi .i64 v3)], [yV0, yV v1 v4]⟩
theorem L33_2_k (v1 v2 : Nat) (v3 : Int) (v4 : List SetD) : okT 2 (L33_2_s a1 a2 v1 v2 v3 v4).h = true := (okT_of rfl (ar (ar rfl)))
abbrev L33_2_e (v1 v2 : Nat) (v3 : Int) (v4 : List SetD) := evH prg 2 [3, 14, 15, 16] ir33_l2 (L33_2_s a1 a2 v1 v2 v3 v4)
def L33_2_x (e : E_L33_2) (r : Option (Out × St)) : Prop := match e with | .k0 x0 x1 x2 => ∃ g, r = some ((.brk 0), ⟨fr 65 g [(3, .sl 1 x0 4 0 x1), (14, ls 4 eSet a1)], [yV0, yV x0 x2]⟩)
abbrev L33_2_d0 (g3 : Nat → AV) (x3_0 x3_1 : Nat) (v3 : Int) (v1 v2 : Nat) (v4 : List SetD) (x2 : SetD) (x3_2 : List (SetD × Int)) (x3_3 : List SetD) : St := ⟨fr 65 g3 [(5, .ptr 2 0), (7, .sl 4 x3_0 4 0 x3_1), (14, ls 4 eSet a1), (15, vi .i64 a2), (16, vi .i64 v3), (21, .sl 1 v1 4 0 v2)], [yV0, yV v1 v4, .cells 29 ((eSet x2).map .p), .map (mrow kS vI x3_2), yV x3_0 x3_3]⟩
abbrev L33_2_d1 (v1 : Nat) (x3_3 : List SetD) (x2 : SetD) (x3_2 : List (SetD × Int)) : List AB := [yV0, yV (v1 + 1) x3_3, .cells 29 ((eSet x2).map .p), .map (mrow kS vI x3_2), .dead]
theorem L33_2_ok (v1 v2 : Nat) (v3 : Int) (v4 : List SetD) {r : E_L33_2 ⊕ (Nat × Nat × Int × (List SetD))} (h : L33_2 a1 a2 v1 v2 v3 v4 = some r) : OkR (fun e => L33_2_x a1 e (L33_2_e a1 a2 v1 v2 v3 v4)) (fun s => L33_2_e a1 a2 v1 v2 v3 v4 = L33_2_e a1 a2 s.1 s.2.1 s.2.2.1 s.2.2.2) r := by
 unfold L33_2 at h
 apply bi h <;> intro h1 h
 ·
  apply bn h; intro x2 h2 h
  apply bn h; intro r3 h3 h
  cases r3 with
  | k0 x3_0 x3_1 x3_2 x3_3 =>
   obtain ⟨g3, e3⟩ := L33_1_3_run a1 a2 v3 v1 v2 ((v2 : Nat) : Int) v4 x2 (0, 0, 0, [], []) _ h3
   rw [← sj h]
   exact rn [(17, .d true), (18, .v (.ro (eSet x2))), (2002, .l (.brk 2) (L33_2_d0 a1 a2 g3 x3_0 x3_1 v3 v1 v2 v4 x2 x3_2 x3_3)), (9000, .l .norm ⟨[g3 0, g3 1, g3 2, g3 3, g3 4, .ptr 2 0, g3 6, (.sl 1 (v1 + 1) 4 0 x3_1), g3 8, g3 9, g3 10, g3 11, g3 12, g3 13, ls 4 eSet a1, vi .i64 a2, vi .i64 v3, g3 17, g3 18, g3 19, g3 20, .sl 1 v1 4 0 v2, g3 22, g3 23, g3 24, g3 25, g3 26, g3 27, g3 28, g3 29, g3 30, g3 31, g3 32, g3 33, g3 34, g3 35, g3 36, g3 37, g3 38, g3 39, g3 40, g3 41, g3 42, g3 43, g3 44, g3 45, g3 46, g3 47, g3 48, g3 49, g3 50, g3 51, g3 52, g3 53, g3 54, g3 55, g3 56, g3 57, g3 58, g3 59, g3 60, g3 61, g3 62, g3 63, g3 64], L33_2_d1 v1 x3_3 x2 x3_2⟩), (6000, .d true)] (av h1 (apc (ig eSet 4 .i64 h2) (apc (L33_1_3_k a1 a2 v3 v1 v2 ((v2 : Nat) : Int) v4 x2 0 0 0 ([]) ([])) (apc (e3 : L33_1_3_e a1 a2 v3 v1 v2 ((v2 : Nat) : Int) v4 x2 0 0 0 ([]) ([]) = some ((.brk 2), L33_2_d0 a1 a2 g3 x3_0 x3_1 v3 v1 v2 v4 x2 x3_2 x3_3)) (apc ((frzS_mov rfl rfl rfl rfl rfl (by kernel_rfl) (by kernel_rfl)) : frzS [] [] [(7, 98, 21, 0)] ⟨[g3 0, g3 1, g3 2, g3 3, g3 4, .ptr 2 0, g3 6, .sl 4 x3_0 4 0 x3_1, g3 8, g3 9, g3 10, g3 11, g3 12, g3 13, ls 4 eSet a1, vi .i64 a2, vi .i64 v3, g3 17, g3 18, g3 19, g3 20, .sl 1 v1 4 0 v2, g3 22, g3 23, g3 24, g3 25, g3 26, g3 27, g3 28, g3 29, g3 30, g3 31, g3 32, g3 33, g3 34, g3 35, g3 36, g3 37, g3 38, g3 39, g3 40, g3 41, g3 42, g3 43, g3 44, g3 45, g3 46, g3 47, g3 48, g3 49, g3 50, g3 51, g3 52, g3 53, g3 54, g3 55, g3 56, g3 57, g3 58, g3 59, g3 60, g3 61, g3 62, g3 63, g3 64], [yV0, yV v1 v4, .cells 29 ((eSet x2).map .p), .map (mrow kS vI x3_2), yV x3_0 x3_3]⟩ = ⟨[g3 0, g3 1, g3 2, g3 3, g3 4, .ptr 2 0, g3 6, (.sl 1 (v1 + 1) 4 0 x3_1), g3 8, g3 9, g3 10, g3 11, g3 12, g3 13, ls 4 eSet a1, vi .i64 a2, vi .i64 v3, g3 17, g3 18, g3 19, g3 20, .sl 1 v1 4 0 v2, g3 22, g3 23, g3 24, g3 25, g3 26, g3 27, g3 28, g3 29, g3 30, g3 31, g3 32, g3 33, g3 34, g3 35, g3 36, g3 37, g3 38, g3 39, g3 40, g3 41, g3 42, g3 43, g3 44, g3 45, g3 46, g3 47, g3 48, g3 49, g3 50, g3 51, g3 52, g3 53, g3 54, g3 55, g3 56, g3 57, g3 58, g3 59, g3 60, g3 61, g3 62, g3 63, g3 64], L33_2_d1 v1 x3_3 x2 x3_2⟩) (apc (L33_2_k a1 a2 (v1 + 1) x3_1 (w6 (v3 + 1)) x3_3) apn))))))
 ·
  rw [← sj h]
  exact xb [(17, .d false), (6000, .d true)] (av h1 apn)
theorem L33_2_run (s0 : Nat × Nat × Int × (List SetD)) (e : E_L33_2) (h : runL (fun s => L33_2 a1 a2 s.1 s.2.1 s.2.2.1 s.2.2.2) s0 = some e) : L33_2_x a1 e (L33_2_e a1 a2 s0.1 s0.2.1 s0.2.2.1 s0.2.2.2) := by
  have q := @loop_sound' (Nat × Nat × Int × (List SetD)) E_L33_2 (fun s => L33_2 a1 a2 s.1 s.2.1 s.2.2.1 s.2.2.2) (fun s => L33_2_e a1 a2 s.1 s.2.1 s.2.2.1 s.2.2.2) (L33_2_x a1) (fun s r h => L33_2_ok a1 a2 s.1 s.2.1 s.2.2.1 s.2.2.2 h) s0 e h
  exact q
end
def F33_v (a1 : List SetD) (x0 : (List SetD)) : AV := (ls 4 eSet x0)
def F33 (a1 : List SetD) : Option (List SetD) :=
  ((F16).bind fun x1 => ((runL (fun s => L33_2 a1 (a1.length : Int) s.1 s.2.1 s.2.2.1 s.2.2.2) (0, 1, 0, [(⟨x1.a, x1.b, x1.c, x1.d⟩ : SetD)])).bind fun r2 => match r2 with | .k0 x2_0 x2_1 x2_2 => (bif (decide (x2_1 ≤ x2_2.length ∧ x2_2.length ≤ 1000000)) then (bif (x2_2.all sOk) then (bif (decide (x2_1 ≤ (srtR x2_2 x2_1).length)) then (some ((srtR x2_2 x2_1).take x2_1)) else none) else none) else none)))
abbrev F33_d0 (g2 : Nat → AV) (x2_0 x2_1 : Nat) (a1 x2_2 : List SetD) : St := ⟨fr 65 g2 [(3, .sl 1 x2_0 4 0 x2_1), (14, ls 4 eSet a1)], [yV0, yV x2_0 x2_2]⟩
theorem F33_ok (a1 : List SetD) {r : (List SetD)} (h : F33 a1 = some r) : PR2 prg 33 [ls 4 eSet a1] (F33_v a1 r) := by
 unfold F33 at h
 apply bn h; intro x1 h1 h
 have q0 := (((F16_ok  h1).cp rfl _) : CP prg 16 [] [yV0] = some (.agg [vi .u64 x1.a, vi .u64 x1.b, vi .u64 x1.c, vi .u64 x1.d]))
 have q1 := (L33_2_k a1 (a1.length : Int) 0 1 0 ([(⟨x1.a, x1.b, x1.c, x1.d⟩ : SetD)]))
 have k2 := ka [(12, .v (.agg [vi .u64 x1.a, vi .u64 x1.b, vi .u64 x1.c, vi .u64 x1.d])), (15, .v (vi .i64 (a1.length : Int)))] (apc q0 (apc (lg a1 eSet 4) apn))
 apply bn h; intro r2 h2 h
 cases r2 with
 | k0 x2_0 x2_1 x2_2 =>
  obtain ⟨g2, e2⟩ := L33_2_run a1 (a1.length : Int) (0, 1, 0, [(⟨x1.a, x1.b, x1.c, x1.d⟩ : SetD)]) _ h2
  have q3 := (e2 : L33_2_e a1 (a1.length : Int) 0 1 0 ([(⟨x1.a, x1.b, x1.c, x1.d⟩ : SetD)]) = some ((.brk 0), F33_d0 g2 x2_0 x2_1 a1 x2_2))
  have k4 := k2.a [(2000, .l (.brk 0) (F33_d0 g2 x2_0 x2_1 a1 x2_2))] (apc q1 (apc q3 apn))
  apply bi h <;> intro h3 h
  ·
   apply bi h <;> intro h4 h
   ·
    have q5 := ((cs_sort (xs := x2_2) rfl h3 h4 rfl) : CS prg 41 [.sl 1 x2_0 4 0 x2_1, (.fn 42 [])] [yV0, yV x2_0 x2_2] = some ((.tup []), [yV0, yV x2_0 (srtR x2_2 x2_1)]))
    have k6 := k4.a [(63, .r (.tup []) [yV0, yV x2_0 (srtR x2_2 x2_1)])] (apc q5 apn)
    apply bi h <;> intro h5 h
    ·
     rw [← sj h]
     exact fpn (v := (.sl 1 x2_0 4 0 x2_1)) (h' := [yV0, yV x2_0 (srtR x2_2 x2_1)]) ([(6000, .d true)] ++ kH k6) (k6.b apn) (purA_sl (e := eSet) rfl h5) rfl (purA_sl (e := eSet) (getq rfl (nols_ra (fun _ => rfl))) h5) (by kernel_rfl)
    ·
     cases h
   ·
    cases h
  ·
   cases h
inductive E_L20_0_3 where
  | k0 (x0 x1 x2 x3 : Int)
section
variable (a1 : List SetD) (a2 a3 : Int) (a8 : SetD)
def L20_0_3 (v1 v2 v3 v4 v5 : Int) : Option (E_L20_0_3 ⊕ (Int × Int × Int × Int × Int)) :=
  (bif (decide (v1 < 4)) then (bif (v1 == 0) then (some (.inr ((IntKind.wrap .i64 (v1 + 1)), (IntKind.wrap .u64 ((BitVec.ofInt (IntKind.bits .u64) v2 ||| BitVec.ofInt (IntKind.bits .u64) a8.a).toNat : Int)), v3, v4, v5))) else (bif (v1 == 1) then (some (.inr ((IntKind.wrap .i64 (v1 + 1)), v2, (IntKind.wrap .u64 ((BitVec.ofInt (IntKind.bits .u64) v3 ||| BitVec.ofInt (IntKind.bits .u64) a8.b).toNat : Int)), v4, v5))) else (bif (v1 == 2) then (some (.inr ((IntKind.wrap .i64 (v1 + 1)), v2, v3, (IntKind.wrap .u64 ((BitVec.ofInt (IntKind.bits .u64) v4 ||| BitVec.ofInt (IntKind.bits .u64) a8.c).toNat : Int)), v5))) else (bif (v1 == 3) then (some (.inr ((IntKind.wrap .i64 (v1 + 1)), v2, v3, v4, (IntKind.wrap .u64 ((BitVec.ofInt (IntKind.bits .u64) v5 ||| BitVec.ofInt (IntKind.bits .u64) a8.d).toNat : Int))))) else none)))) else (some (.inl (.k0 v2 v3 v4 v5))))
def L20_0_3_s (v1 v2 v3 v4 v5 : Int) : St := ⟨fr 27 ug [(2, .ptr 0 0), (3, .ptr 1 0), (5, .ptr 2 0), (7, ls 4 eSet a1), (8, vi .i64 a2), (9, vi .i64 a3), (13, vi .i64 v1)], [.cells 29 [vi .u64 0, vi .u64 0, vi .u64 0, vi .u64 0], .cells 29 [vi .u64 v2, vi .u64 v3, vi .u64 v4, vi .u64 v5], .cells 29 ((eSet a8).map .p)]⟩
theorem L20_0_3_k (v1 v2 v3 v4 v5 : Int) : okT 3 (L20_0_3_s a1 a2 a3 a8 v1 v2 v3 v4 v5).h = true := (okT_of rfl (ac (ac (ac rfl))))
abbrev L20_0_3_e (v1 v2 v3 v4 v5 : Int) := evH prg 3 [2, 3, 5, 7, 8, 9, 13] ir20_l0 (L20_0_3_s a1 a2 a3 a8 v1 v2 v3 v4 v5)
def L20_0_3_x (e : E_L20_0_3) (r : Option (Out × St)) : Prop := match e with | .k0 x0 x1 x2 x3 => ∃ g, r = some ((.brk 2), ⟨fr 27 g [(2, .ptr 0 0), (3, .ptr 1 0), (5, .ptr 2 0), (7, ls 4 eSet a1), (8, vi .i64 a2), (9, vi .i64 a3)], [.cells 29 [vi .u64 0, vi .u64 0, vi .u64 0, vi .u64 0], .cells 29 [vi .u64 x0, vi .u64 x1, vi .u64 x2, vi .u64 x3], .cells 29 ((eSet a8).map .p)]⟩)
theorem L20_0_3_ok (v1 v2 v3 v4 v5 : Int) {r : E_L20_0_3 ⊕ (Int × Int × Int × Int × Int)} (h : L20_0_3 a8 v1 v2 v3 v4 v5 = some r) : OkR (fun e => L20_0_3_x a1 a2 a3 a8 e (L20_0_3_e a1 a2 a3 a8 v1 v2 v3 v4 v5)) (fun s => L20_0_3_e a1 a2 a3 a8 v1 v2 v3 v4 v5 = L20_0_3_e a1 a2 a3 a8 s.1 s.2.1 s.2.2.1 s.2.2.2.1 s.2.2.2.2) r := by
 unfold L20_0_3 at h
 apply bi h <;> intro h1 h
 ·
  apply bi h <;> intro h2 h
  ·
   have q0 := ((ix_lit h2 (fun z => ixP 4 1 (.ptr 1 0) (vi .i64 z)) rfl) : ixP 4 1 (.ptr 1 0) (vi .i64 v1) = some (.ptr 1 0))
   rw [← sj h]
   exact rn [(14, .d true), (17, .v (.ptr 1 0)), (20, .v (.ptr 2 0)), (23, .v (.ptr 1 0)), (6000, .d true)] (av h1 (apc q0 (apc ((ix_lit h2 (fun z => ixP 4 1 (.ptr 2 0) (vi .i64 z)) rfl) : ixP 4 1 (.ptr 2 0) (vi .i64 v1) = some (.ptr 2 0)) (apc q0 (apc (L20_0_3_k a1 a2 a3 a8 (w6 (v1 + 1)) (IntKind.wrap .u64 ((BitVec.ofInt (IntKind.bits .u64) v2 ||| BitVec.ofInt (IntKind.bits .u64) a8.a).toNat : Int)) v3 v4 v5) apn)))))
  ·
   apply bi h <;> intro h3 h
   ·
    have q1 := ((ix_lit h3 (fun z => ixP 4 1 (.ptr 1 0) (vi .i64 z)) rfl) : ixP 4 1 (.ptr 1 0) (vi .i64 v1) = some (.ptr 1 1))
    rw [← sj h]
    exact rn [(14, .d true), (17, .v (.ptr 1 1)), (20, .v (.ptr 2 1)), (23, .v (.ptr 1 1)), (6000, .d true)] (av h1 (apc q1 (apc ((ix_lit h3 (fun z => ixP 4 1 (.ptr 2 0) (vi .i64 z)) rfl) : ixP 4 1 (.ptr 2 0) (vi .i64 v1) = some (.ptr 2 1)) (apc q1 (apc (L20_0_3_k a1 a2 a3 a8 (w6 (v1 + 1)) v2 (IntKind.wrap .u64 ((BitVec.ofInt (IntKind.bits .u64) v3 ||| BitVec.ofInt (IntKind.bits .u64) a8.b).toNat : Int)) v4 v5) apn)))))
   ·
    apply bi h <;> intro h4 h
    ·
     have q2 := ((ix_lit h4 (fun z => ixP 4 1 (.ptr 1 0) (vi .i64 z)) rfl) : ixP 4 1 (.ptr 1 0) (vi .i64 v1) = some (.ptr 1 2))
     rw [← sj h]
     exact rn [(14, .d true), (17, .v (.ptr 1 2)), (20, .v (.ptr 2 2)), (23, .v (.ptr 1 2)), (6000, .d true)] (av h1 (apc q2 (apc ((ix_lit h4 (fun z => ixP 4 1 (.ptr 2 0) (vi .i64 z)) rfl) : ixP 4 1 (.ptr 2 0) (vi .i64 v1) = some (.ptr 2 2)) (apc q2 (apc (L20_0_3_k a1 a2 a3 a8 (w6 (v1 + 1)) v2 v3 (IntKind.wrap .u64 ((BitVec.ofInt (IntKind.bits .u64) v4 ||| BitVec.ofInt (IntKind.bits .u64) a8.c).toNat : Int)) v5) apn)))))
    ·
     apply bi h <;> intro h5 h
     ·
      have q3 := ((ix_lit h5 (fun z => ixP 4 1 (.ptr 1 0) (vi .i64 z)) rfl) : ixP 4 1 (.ptr 1 0) (vi .i64 v1) = some (.ptr 1 3))
      rw [← sj h]
      exact rn [(14, .d true), (17, .v (.ptr 1 3)), (20, .v (.ptr 2 3)), (23, .v (.ptr 1 3)), (6000, .d true)] (av h1 (apc q3 (apc ((ix_lit h5 (fun z => ixP 4 1 (.ptr 2 0) (vi .i64 z)) rfl) : ixP 4 1 (.ptr 2 0) (vi .i64 v1) = some (.ptr 2 3)) (apc q3 (apc (L20_0_3_k a1 a2 a3 a8 (w6 (v1 + 1)) v2 v3 v4 (IntKind.wrap .u64 ((BitVec.ofInt (IntKind.bits .u64) v5 ||| BitVec.ofInt (IntKind.bits .u64) a8.d).toNat : Int))) apn)))))
     ·
      cases h
 ·
  rw [← sj h]
  exact xb [(14, .d false), (6000, .d true)] (av h1 apn)
theorem L20_0_3_run (s0 : Int × Int × Int × Int × Int) (e : E_L20_0_3) (h : runL (fun s => L20_0_3 a8 s.1 s.2.1 s.2.2.1 s.2.2.2.1 s.2.2.2.2) s0 = some e) : L20_0_3_x a1 a2 a3 a8 e (L20_0_3_e a1 a2 a3 a8 s0.1 s0.2.1 s0.2.2.1 s0.2.2.2.1 s0.2.2.2.2) := by
  have q := @loop_sound' (Int × Int × Int × Int × Int) E_L20_0_3 (fun s => L20_0_3 a8 s.1 s.2.1 s.2.2.1 s.2.2.2.1 s.2.2.2.2) (fun s => L20_0_3_e a1 a2 a3 a8 s.1 s.2.1 s.2.2.1 s.2.2.2.1 s.2.2.2.2) (L20_0_3_x a1 a2 a3 a8) (fun s r h => L20_0_3_ok a1 a2 a3 a8 s.1 s.2.1 s.2.2.1 s.2.2.2.1 s.2.2.2.2 h) s0 e h
  exact q
end
inductive E_L20_1 where
  | k0 (x0 x1 x2 x3 : Int)
section
variable (a1 : List SetD) (a2 : Int)
def L20_1 (v1 v2 v3 v4 v5 : Int) : Option (E_L20_1 ⊕ (Int × Int × Int × Int × Int)) :=
  (bif (decide (v1 < a2)) then ((getI a1 v1).bind fun x2 => ((runL (fun s => L20_0_3 x2 s.1 s.2.1 s.2.2.1 s.2.2.2.1 s.2.2.2.2) (0, v2, v3, v4, v5)).bind fun r3 => match r3 with | .k0 x3_0 x3_1 x3_2 x3_3 => (some (.inr ((IntKind.wrap .i64 (v1 + 1)), x3_0, x3_1, x3_2, x3_3))))) else (some (.inl (.k0 v2 v3 v4 v5))))
def L20_1_s (v1 v2 v3 v4 v5 : Int) : St := ⟨fr 27 ug [(2, .ptr 0 0), (3, .ptr 1 0), (7, ls 4 eSet a1), (8, vi .i64 a2), (9, vi .i64 v1)], [.cells 29 [vi .u64 0, vi .u64 0, vi .u64 0, vi .u64 0], .cells 29 [vi .u64 v2, vi .u64 v3, vi .u64 v4, vi .u64 v5]]⟩
theorem L20_1_k (v1 v2 v3 v4 v5 : Int) : okT 2 (L20_1_s a1 a2 v1 v2 v3 v4 v5).h = true := (okT_of rfl (ac (ac rfl)))
abbrev L20_1_e (v1 v2 v3 v4 v5 : Int) := evH prg 2 [2, 3, 7, 8, 9] ir20_l1 (L20_1_s a1 a2 v1 v2 v3 v4 v5)
def L20_1_x (e : E_L20_1) (r : Option (Out × St)) : Prop := match e with | .k0 x0 x1 x2 x3 => ∃ g, r = some ((.brk 0), ⟨fr 27 g [(2, .ptr 0 0), (3, .ptr 1 0), (7, ls 4 eSet a1)], [.cells 29 [vi .u64 0, vi .u64 0, vi .u64 0, vi .u64 0], .cells 29 [vi .u64 x0, vi .u64 x1, vi .u64 x2, vi .u64 x3]]⟩)
abbrev L20_1_d0 (g3 : Nat → AV) (v1 x3_0 x3_1 x3_2 x3_3 : Int) (x2 : SetD) : St := ⟨fr 27 g3 [(2, .ptr 0 0), (3, .ptr 1 0), (5, .ptr 2 0), (7, ls 4 eSet a1), (8, vi .i64 a2), (9, vi .i64 v1)], [.cells 29 [vi .u64 0, vi .u64 0, vi .u64 0, vi .u64 0], .cells 29 [vi .u64 x3_0, vi .u64 x3_1, vi .u64 x3_2, vi .u64 x3_3], .cells 29 ((eSet x2).map .p)]⟩
theorem L20_1_ok (v1 v2 v3 v4 v5 : Int) {r : E_L20_1 ⊕ (Int × Int × Int × Int × Int)} (h : L20_1 a1 a2 v1 v2 v3 v4 v5 = some r) : OkR (fun e => L20_1_x a1 e (L20_1_e a1 a2 v1 v2 v3 v4 v5)) (fun s => L20_1_e a1 a2 v1 v2 v3 v4 v5 = L20_1_e a1 a2 s.1 s.2.1 s.2.2.1 s.2.2.2.1 s.2.2.2.2) r := by
 unfold L20_1 at h
 apply bi h <;> intro h1 h
 ·
  apply bn h; intro x2 h2 h
  apply bn h; intro r3 h3 h
  cases r3 with
  | k0 x3_0 x3_1 x3_2 x3_3 =>
   obtain ⟨g3, e3⟩ := L20_0_3_run a1 a2 v1 x2 (0, v2, v3, v4, v5) _ h3
   rw [← sj h]
   exact rn [(10, .d true), (11, .v (.ro (eSet x2))), (2002, .l (.brk 2) (L20_1_d0 a1 a2 g3 v1 x3_0 x3_1 x3_2 x3_3 x2)), (6000, .d true)] (av h1 (apc (ig eSet 4 .i64 h2) (apc (L20_0_3_k a1 a2 v1 x2 0 v2 v3 v4 v5) (apc (e3 : L20_0_3_e a1 a2 v1 x2 0 v2 v3 v4 v5 = some ((.brk 2), L20_1_d0 a1 a2 g3 v1 x3_0 x3_1 x3_2 x3_3 x2)) (apc (L20_1_k a1 a2 (w6 (v1 + 1)) x3_0 x3_1 x3_2 x3_3) apn)))))
 ·
  rw [← sj h]
  exact xb [(10, .d false), (6000, .d true)] (av h1 apn)
theorem L20_1_run (s0 : Int × Int × Int × Int × Int) (e : E_L20_1) (h : runL (fun s => L20_1 a1 a2 s.1 s.2.1 s.2.2.1 s.2.2.2.1 s.2.2.2.2) s0 = some e) : L20_1_x a1 e (L20_1_e a1 a2 s0.1 s0.2.1 s0.2.2.1 s0.2.2.2.1 s0.2.2.2.2) := by
  have q := @loop_sound' (Int × Int × Int × Int × Int) E_L20_1 (fun s => L20_1 a1 a2 s.1 s.2.1 s.2.2.1 s.2.2.2.1 s.2.2.2.2) (fun s => L20_1_e a1 a2 s.1 s.2.1 s.2.2.1 s.2.2.2.1 s.2.2.2.2) (L20_1_x a1) (fun s r h => L20_1_ok a1 a2 s.1 s.2.1 s.2.2.1 s.2.2.2.1 s.2.2.2.2 h) s0 e h
  exact q
end
inductive R_F20 where
  | k0 (x0 x1 x2 x3 : Int)
def F20_v (a1 : List SetD) (r : R_F20) : AV := match r with | .k0 x0 x1 x2 x3 => (.agg [vi .u64 x0, vi .u64 x1, vi .u64 x2, vi .u64 x3])
def F20 (a1 : List SetD) : Option R_F20 :=
  ((runL (fun s => L20_1 a1 (a1.length : Int) s.1 s.2.1 s.2.2.1 s.2.2.2.1 s.2.2.2.2) (0, 0, 0, 0, 0)).bind fun r1 => match r1 with | .k0 x1_0 x1_1 x1_2 x1_3 => (some (.k0 x1_0 x1_1 x1_2 x1_3)))
abbrev F20_d0 (g1 : Nat → AV) (a1 : List SetD) (x1_0 x1_1 x1_2 x1_3 : Int) : St := ⟨fr 27 g1 [(2, .ptr 0 0), (3, .ptr 1 0), (7, ls 4 eSet a1)], [.cells 29 [vi .u64 0, vi .u64 0, vi .u64 0, vi .u64 0], .cells 29 [vi .u64 x1_0, vi .u64 x1_1, vi .u64 x1_2, vi .u64 x1_3]]⟩
theorem F20_ok (a1 : List SetD) {r : R_F20} (h : F20 a1 = some r) : PR1 prg 20 [ls 4 eSet a1] (F20_v a1 r) := by
 unfold F20 at h
 apply bn h; intro r1 h1 h
 cases r1 with
 | k0 x1_0 x1_1 x1_2 x1_3 =>
  obtain ⟨g1, e1⟩ := L20_1_run a1 (a1.length : Int) (0, 0, 0, 0, 0) _ h1
  rw [← sj h]
  exact fq [(8, .v (vi .i64 (a1.length : Int))), (2000, .l (.brk 0) (F20_d0 g1 a1 x1_0 x1_1 x1_2 x1_3)), (6000, .d true)] (apc (lg a1 eSet 4) (apc (L20_1_k a1 (a1.length : Int) 0 0 0 0 0) (apc (e1 : L20_1_e a1 (a1.length : Int) 0 0 0 0 0 = some ((.brk 0), F20_d0 g1 a1 x1_0 x1_1 x1_2 x1_3)) apn)))
inductive E_L7_2 where
  | k0
  | k1
section
variable (a1 a2 a3 : List SetD) (a4 : Nat) (a5 : List SetD)
def L7_2 (v1 : Int) : Option (E_L7_2 ⊕ (Int)) :=
  (bif (decide (v1 < (a2.length : Int))) then ((getI a2 v1).bind fun x2 => ((getI a3 v1).bind fun x3 => (bif (!((x2.a == x3.a) && ((x2.b == x3.b) && ((x2.c == x3.c) && ((x2.d == x3.d) && true))))) then (some (.inl (.k0))) else (some (.inr ((IntKind.wrap .i64 (v1 + 1)))))))) else (some (.inl (.k1))))
def L7_2_s (v1 : Int) : St := ⟨fr 110 ug [(0, ls 4 eSet a1), (5, ls 4 eSet a2), (6, ls 4 eSet a3), (7, vi .i64 v1)], [.frz 4 a4 (a5.map eSet)]⟩
theorem L7_2_k (v1 : Int) : okT 1 (L7_2_s a1 a2 a3 a4 a5 v1).h = true := (okT_of rfl (ac rfl))
abbrev L7_2_e (v1 : Int) := evH prg 1 [0, 5, 6, 7] ir7_l2 (L7_2_s a1 a2 a3 a4 a5 v1)
def L7_2_x (e : E_L7_2) (r : Option (Out × St)) : Prop := match e with | .k0 => ∃ g y, r = some (.ret, ⟨fr 110 g [(2, vb false)], y⟩) | .k1 => ∃ g, r = some ((.brk 2), ⟨fr 110 g [(0, ls 4 eSet a1), (5, ls 4 eSet a2), (6, ls 4 eSet a3)], [.frz 4 a4 (a5.map eSet)]⟩)
theorem L7_2_ok (v1 : Int) {r : E_L7_2 ⊕ (Int)} (h : L7_2 a2 a3 v1 = some r) : OkR (fun e => L7_2_x a1 a2 a3 a4 a5 e (L7_2_e a1 a2 a3 a4 a5 v1)) (fun s => L7_2_e a1 a2 a3 a4 a5 v1 = L7_2_e a1 a2 a3 a4 a5 s) r := by
 unfold L7_2 at h
 have k0 := ka [(52, .v (vi .i64 (a2.length : Int)))] (apc (lg a2 eSet 4) apn)
 apply bi h <;> intro h1 h
 ·
  apply bn h; intro x2 h2 h
  have k1 := k0.a [(53, .d true), (58, .v (.ro (eSet x2)))] (av h1 (apc (ig eSet 4 .i64 h2) apn))
  apply bn h; intro x3 h3 h
  apply bi h <;> intro h4 h
  ·
   rw [← sj h]
   exact xy ([(62, .v (.ro (eSet x3))), (64, .d true), (6000, .d true)] ++ kH k1) (k1.b (apc (ig eSet 4 .i64 h3) (av h4 apn)))
  ·
   rw [← sj h]
   exact rn ([(62, .v (.ro (eSet x3))), (64, .d false), (6000, .d true)] ++ kH k1) (k1.b (apc (ig eSet 4 .i64 h3) (av h4 (apc (L7_2_k a1 a2 a3 a4 a5 (w6 (v1 + 1))) apn))))
 ·
  rw [← sj h]
  exact xb ([(53, .d false), (6000, .d true)] ++ kH k0) (k0.b (av h1 apn))
theorem L7_2_run (s0 : Int) (e : E_L7_2) (h : runL (fun s => L7_2 a2 a3 s) s0 = some e) : L7_2_x a1 a2 a3 a4 a5 e (L7_2_e a1 a2 a3 a4 a5 s0) := by
  have q := @loop_sound' (Int) E_L7_2 (fun s => L7_2 a2 a3 s) (fun s => L7_2_e a1 a2 a3 a4 a5 s) (L7_2_x a1 a2 a3 a4 a5) (fun s r h => L7_2_ok a1 a2 a3 a4 a5 s h) s0 e h
  exact q
end
def F22_v (a1 a2 : SetD) (x0 : Bool) : AV := (vb x0)
def F22 (a1 a2 : SetD) : Option Bool :=
  ((F21 a1 a2).bind fun x1 => (some ((x1.a == 0) && ((x1.b == 0) && ((x1.c == 0) && ((x1.d == 0) && true))))))
theorem F22_ok (a1 a2 : SetD) {r : Bool} (h : F22 a1 a2 = some r) : PR1 prg 22 [(.agg ((eSet a1).map .p)), (.agg ((eSet a2).map .p))] (F22_v a1 a2 r) := by
 unfold F22 at h
 apply bn h; intro x1 h1 h
 rw [← sj h]
 exact fq [(7, .v (.agg [vi .u64 x1.a, vi .u64 x1.b, vi .u64 x1.c, vi .u64 x1.d]))] (apc (((F21_ok a1 a2 h1).cp rfl _) : CP prg 21 [(.agg ((eSet a1).map .p)), (.agg ((eSet a2).map .p))] [.cells 29 ((eSet a1).map .p), .cells 29 ((eSet a2).map .p)] = some (.agg [vi .u64 x1.a, vi .u64 x1.b, vi .u64 x1.c, vi .u64 x1.d])) apn)
inductive E_L7_0_2 where
  | k0 (x0 : Int)
section
variable (a1 a2 : List SetD) (a3 : Int) (a4 : Nat) (a5 : List SetD)
def L7_0_2 (v1 v2 : Int) : Option (E_L7_0_2 ⊕ (Int × Int)) :=
  (bif (decide (v2 < (a2.length : Int))) then ((getI a1 a3).bind fun x2 => ((getI a2 v2).bind fun x3 => ((F22 x2 x3).bind fun x4 => (bif x4 then (some (.inr ((IntKind.wrap .i64 (v1 + 1)), (IntKind.wrap .i64 (v2 + 1))))) else (some (.inr (v1, (IntKind.wrap .i64 (v2 + 1))))))))) else (some (.inl (.k0 v1))))
def L7_0_2_s (v1 v2 : Int) : St := ⟨fr 110 ug [(5, ls 4 eSet a1), (8, ls 4 eSet a2), (9, vi .i64 a3), (10, vi .i64 v1), (11, vi .i64 v2)], [.frz 4 a4 (a5.map eSet)]⟩
theorem L7_0_2_k (v1 v2 : Int) : okT 1 (L7_0_2_s a1 a2 a3 a4 a5 v1 v2).h = true := (okT_of rfl (ac rfl))
abbrev L7_0_2_e (v1 v2 : Int) := evH prg 1 [5, 8, 9, 10, 11] ir7_l0 (L7_0_2_s a1 a2 a3 a4 a5 v1 v2)
def L7_0_2_x (e : E_L7_0_2) (r : Option (Out × St)) : Prop := match e with | .k0 x0 => ∃ g, r = some ((.brk 6), ⟨fr 110 g [(5, ls 4 eSet a1), (8, ls 4 eSet a2), (9, vi .i64 a3), (10, vi .i64 x0)], [.frz 4 a4 (a5.map eSet)]⟩)
theorem L7_0_2_ok (v1 v2 : Int) {r : E_L7_0_2 ⊕ (Int × Int)} (h : L7_0_2 a1 a2 a3 v1 v2 = some r) : OkR (fun e => L7_0_2_x a1 a2 a3 a4 a5 e (L7_0_2_e a1 a2 a3 a4 a5 v1 v2)) (fun s => L7_0_2_e a1 a2 a3 a4 a5 v1 v2 = L7_0_2_e a1 a2 a3 a4 a5 s.1 s.2) r := by
 unfold L7_0_2 at h
 have k0 := ka [(85, .v (vi .i64 (a2.length : Int)))] (apc (lg a2 eSet 4) apn)
 apply bi h <;> intro h1 h
 ·
  apply bn h; intro x2 h2 h
  have k1 := k0.a [(86, .d true), (91, .v (.ro (eSet x2)))] (av h1 (apc (ig eSet 4 .i64 h2) apn))
  apply bn h; intro x3 h3 h
  apply bn h; intro x4 h4 h
  apply bi h <;> intro h5 h
  ·
   rw [← sj h]
   exact rn ([(95, .v (.ro (eSet x3))), (97, .v (vb true)), (6000, .d true)] ++ kH k1) (k1.b (apc (ig eSet 4 .i64 h3) (apc ((((F22_ok x2 x3 h4).cp rfl _).trans (congrArg (fun z => some (vb z)) h5)) : CP prg 22 [(.agg ((eSet x2).map .p)), (.agg ((eSet x3).map .p))] [.frz 4 a4 (a5.map eSet)] = some (vb true)) (apc (L7_0_2_k a1 a2 a3 a4 a5 (w6 (v1 + 1)) (w6 (v2 + 1))) apn))))
  ·
   rw [← sj h]
   exact rn ([(95, .v (.ro (eSet x3))), (97, .v (vb false)), (6000, .d true)] ++ kH k1) (k1.b (apc (ig eSet 4 .i64 h3) (apc ((((F22_ok x2 x3 h4).cp rfl _).trans (congrArg (fun z => some (vb z)) h5)) : CP prg 22 [(.agg ((eSet x2).map .p)), (.agg ((eSet x3).map .p))] [.frz 4 a4 (a5.map eSet)] = some (vb false)) (apc (L7_0_2_k a1 a2 a3 a4 a5 v1 (w6 (v2 + 1))) apn))))
 ·
  rw [← sj h]
  exact xb ([(86, .d false), (6000, .d true)] ++ kH k0) (k0.b (av h1 apn))
theorem L7_0_2_run (s0 : Int × Int) (e : E_L7_0_2) (h : runL (fun s => L7_0_2 a1 a2 a3 s.1 s.2) s0 = some e) : L7_0_2_x a1 a2 a3 a4 a5 e (L7_0_2_e a1 a2 a3 a4 a5 s0.1 s0.2) := by
  have q := @loop_sound' (Int × Int) E_L7_0_2 (fun s => L7_0_2 a1 a2 a3 s.1 s.2) (fun s => L7_0_2_e a1 a2 a3 a4 a5 s.1 s.2) (L7_0_2_x a1 a2 a3 a4 a5) (fun s r h => L7_0_2_ok a1 a2 a3 a4 a5 s.1 s.2 h) s0 e h
  exact q
end
inductive E_L7_1 where
  | k0
  | k1
section
variable (a1 a2 : List SetD) (a3 : Nat) (a4 : List SetD)
def L7_1 (v1 : Int) : Option (E_L7_1 ⊕ (Int)) :=
  (bif (decide (v1 < (a1.length : Int))) then ((runL (fun s => L7_0_2 a1 a2 v1 s.1 s.2) (0, 0)).bind fun r2 => match r2 with | .k0 x2_0 => (bif (x2_0 != 1) then (some (.inl (.k0))) else (some (.inr ((IntKind.wrap .i64 (v1 + 1))))))) else (some (.inl (.k1))))
def L7_1_s (v1 : Int) : St := ⟨fr 110 ug [(5, ls 4 eSet a1), (8, ls 4 eSet a2), (9, vi .i64 v1)], [.frz 4 a3 (a4.map eSet)]⟩
theorem L7_1_k (v1 : Int) : okT 1 (L7_1_s a1 a2 a3 a4 v1).h = true := (okT_of rfl (ac rfl))
abbrev L7_1_e (v1 : Int) := evH prg 1 [5, 8, 9] ir7_l1 (L7_1_s a1 a2 a3 a4 v1)
def L7_1_x (e : E_L7_1) (r : Option (Out × St)) : Prop := match e with | .k0 => ∃ g y, r = some (.ret, ⟨fr 110 g [(2, vb false)], y⟩) | .k1 => ∃ g, r = some ((.brk 4), ⟨fr 110 g [(5, ls 4 eSet a1), (8, ls 4 eSet a2)], [.frz 4 a3 (a4.map eSet)]⟩)
abbrev L7_1_d0 (g2 : Nat → AV) (v1 x2_0 : Int) : St := ⟨fr 110 g2 [(5, ls 4 eSet a1), (8, ls 4 eSet a2), (9, vi .i64 v1), (10, vi .i64 x2_0)], [.frz 4 a3 (a4.map eSet)]⟩
theorem L7_1_ok (v1 : Int) {r : E_L7_1 ⊕ (Int)} (h : L7_1 a1 a2 v1 = some r) : OkR (fun e => L7_1_x a1 a2 a3 a4 e (L7_1_e a1 a2 a3 a4 v1)) (fun s => L7_1_e a1 a2 a3 a4 v1 = L7_1_e a1 a2 a3 a4 s) r := by
 unfold L7_1 at h
 have k0 := ka [(79, .v (vi .i64 (a1.length : Int)))] (apc (lg a1 eSet 4) apn)
 apply bi h <;> intro h1 h
 ·
  apply bn h; intro r2 h2 h
  cases r2 with
  | k0 x2_0 =>
   obtain ⟨g2, e2⟩ := L7_0_2_run a1 a2 v1 a3 a4 (0, 0) _ h2
   have q1 := (e2 : L7_0_2_e a1 a2 v1 a3 a4 0 0 = some ((.brk 6), L7_1_d0 a1 a2 a3 a4 g2 v1 x2_0))
   have k2 := k0.a [(80, .d true), (2006, .l (.brk 6) (L7_1_d0 a1 a2 a3 a4 g2 v1 x2_0))] (av h1 (apc (L7_0_2_k a1 a2 v1 a3 a4 0 0) (apc q1 apn)))
   apply bi h <;> intro h3 h
   ·
    rw [← sj h]
    exact xy ([(101, .d true), (6000, .d true)] ++ kH k2) (k2.b (av h3 apn))
   ·
    rw [← sj h]
    exact rn ([(101, .d false), (6000, .d true)] ++ kH k2) (k2.b (av h3 (apc (L7_1_k a1 a2 a3 a4 (w6 (v1 + 1))) apn)))
 ·
  rw [← sj h]
  exact xb ([(80, .d false), (6000, .d true)] ++ kH k0) (k0.b (av h1 apn))
theorem L7_1_run (s0 : Int) (e : E_L7_1) (h : runL (fun s => L7_1 a1 a2 s) s0 = some e) : L7_1_x a1 a2 a3 a4 e (L7_1_e a1 a2 a3 a4 s0) := by
  have q := @loop_sound' (Int) E_L7_1 (fun s => L7_1 a1 a2 s) (fun s => L7_1_e a1 a2 a3 a4 s) (L7_1_x a1 a2 a3 a4) (fun s r h => L7_1_ok a1 a2 a3 a4 s h) s0 e h
  exact q
end
def F7_v (a1 : List SetD) (x0 : Bool) : AV := (vb x0)
def F7 (a1 : List SetD) : Option Bool :=
  (bif (decide ((a1.length : Int) > 12)) then ((F8).bind fun x2 => (some x2)) else ((runL (fun s => L7_3 a1 s.1 s.2.1 s.2.2.1 s.2.2.2) (0, 0, (IntKind.wrap .i64 ((a1.length : Int) - 1)), [])).bind fun r2 => match r2 with | .k0 x2_0 x2_1 x2_2 => (bif (decide (x2_1 ≤ x2_2.length)) then ((F33 a1).bind fun x4 => ((F33 (x2_2.take x2_1)).bind fun x5 => (bif ((x4.length : Int) != (x5.length : Int)) then (some false) else ((F20 a1).bind fun r7 => match r7 with | .k0 x7_0 x7_1 x7_2 x7_3 => ((F20 (x2_2.take x2_1)).bind fun r8 => match r8 with | .k0 x8_0 x8_1 x8_2 x8_3 => (bif (!((x7_0 == x8_0) && ((x7_1 == x8_1) && ((x7_2 == x8_2) && ((x7_3 == x8_3) && true))))) then (some false) else ((runL (fun s => L7_2 x4 x5 s) 0).bind fun r10 => match r10 with | .k0 => (some false) | .k1 => (bif ((a1.length : Int) == 0) then (bif ((x4.length : Int) == 1) then ((F8).bind fun x13 => (some x13)) else (some false)) else (bif (sl_ok 1 (a1.length : Int) a1.length) then ((F33 (a1.drop (Int.toNat 1))).bind fun x13 => ((runL (fun s => L7_1 x4 x13 s) 0).bind fun r14 => match r14 with | .k0 => (some false) | .k1 => (bif (decide ((x13.length : Int) ≤ (x4.length : Int))) then ((F8).bind fun x16 => (some x16)) else (some false)))) else none))))))))) else none)))
abbrev F7_d0 (g2 : Nat → AV) (a1 : List SetD) (x2_0 x2_1 : Nat) (x2_2 : List SetD) : St := ⟨fr 110 g2 [(0, ls 4 eSet a1), (3, .sl 0 x2_0 4 0 x2_1)], [yV x2_0 x2_2]⟩
abbrev F7_d1 (g10 : Nat → AV) (a1 x4 x5 : List SetD) (x2_0 : Nat) (x2_2 : List SetD) : St := ⟨fr 110 g10 [(0, ls 4 eSet a1), (5, ls 4 eSet x4), (6, ls 4 eSet x5)], [.frz 4 x2_0 (x2_2.map eSet)]⟩
theorem F7_ok (a1 : List SetD) {r : Bool} (h : F7 a1 = some r) : PR1 prg 7 [ls 4 eSet a1] (F7_v a1 r) := by
 unfold F7 at h
 have q0 := (L7_3_k a1 0 0 (w6 ((a1.length : Int) - 1)) ([]))
 have k1 := ka [(13, .v (vi .i64 (a1.length : Int)))] (apc (lg a1 eSet 4) apn)
 apply bi h <;> intro h1 h
 ·
  apply bn h; intro x2 h2 h
  rw [← sj h]
  exact fq ([(14, .d true), (15, .v (vb x2))] ++ kH k1) (k1.b (av h1 (apc (((F8_ok  h2).cp rfl _) : CP prg 8 [] [] = some (vb x2)) apn)))
 ·
  have k2 := k1.a [(14, .d false), (17, .v (vi .i64 (a1.length : Int)))] (av h1 (apc (lg a1 eSet 4) apn))
  apply bn h; intro r2 h2 h
  cases r2 with
  | k0 x2_0 x2_1 x2_2 =>
   obtain ⟨g2, e2⟩ := L7_3_run a1 (0, 0, (w6 ((a1.length : Int) - 1)), []) _ h2
   have q3 := (e2 : L7_3_e a1 0 0 (w6 ((a1.length : Int) - 1)) ([]) = some ((.brk 0), F7_d0 g2 a1 x2_0 x2_1 x2_2))
   have k4 := k2.a [(2000, .l (.brk 0) (F7_d0 g2 a1 x2_0 x2_1 x2_2))] (apc q0 (apc q3 apn))
   apply bi h <;> intro h3 h
   ·
    have q5 := ((frzS_one (e := eSet) (xs := x2_2) rfl rfl h3 (by kernel_rfl) (by kernel_rfl)) : frzS [3] [] [] ⟨[ls 4 eSet a1, g2 1, g2 2, .sl 0 x2_0 4 0 x2_1, g2 4, g2 5, g2 6, g2 7, g2 8, g2 9, g2 10, g2 11, g2 12, g2 13, g2 14, g2 15, g2 16, g2 17, g2 18, g2 19, g2 20, g2 21, g2 22, g2 23, g2 24, g2 25, g2 26, g2 27, g2 28, g2 29, g2 30, g2 31, g2 32, g2 33, g2 34, g2 35, g2 36, g2 37, g2 38, g2 39, g2 40, g2 41, g2 42, g2 43, g2 44, g2 45, g2 46, g2 47, g2 48, g2 49, g2 50, g2 51, g2 52, g2 53, g2 54, g2 55, g2 56, g2 57, g2 58, g2 59, g2 60, g2 61, g2 62, g2 63, g2 64, g2 65, g2 66, g2 67, g2 68, g2 69, g2 70, g2 71, g2 72, g2 73, g2 74, g2 75, g2 76, g2 77, g2 78, g2 79, g2 80, g2 81, g2 82, g2 83, g2 84, g2 85, g2 86, g2 87, g2 88, g2 89, g2 90, g2 91, g2 92, g2 93, g2 94, g2 95, g2 96, g2 97, g2 98, g2 99, g2 100, g2 101, g2 102, g2 103, g2 104, g2 105, g2 106, g2 107, g2 108, g2 109], [yV x2_0 x2_2]⟩ = ⟨[ls 4 eSet a1, g2 1, g2 2, (.p (.lst 4 ((x2_2.take x2_1).map eSet))), g2 4, g2 5, g2 6, g2 7, g2 8, g2 9, g2 10, g2 11, g2 12, g2 13, g2 14, g2 15, g2 16, g2 17, g2 18, g2 19, g2 20, g2 21, g2 22, g2 23, g2 24, g2 25, g2 26, g2 27, g2 28, g2 29, g2 30, g2 31, g2 32, g2 33, g2 34, g2 35, g2 36, g2 37, g2 38, g2 39, g2 40, g2 41, g2 42, g2 43, g2 44, g2 45, g2 46, g2 47, g2 48, g2 49, g2 50, g2 51, g2 52, g2 53, g2 54, g2 55, g2 56, g2 57, g2 58, g2 59, g2 60, g2 61, g2 62, g2 63, g2 64, g2 65, g2 66, g2 67, g2 68, g2 69, g2 70, g2 71, g2 72, g2 73, g2 74, g2 75, g2 76, g2 77, g2 78, g2 79, g2 80, g2 81, g2 82, g2 83, g2 84, g2 85, g2 86, g2 87, g2 88, g2 89, g2 90, g2 91, g2 92, g2 93, g2 94, g2 95, g2 96, g2 97, g2 98, g2 99, g2 100, g2 101, g2 102, g2 103, g2 104, g2 105, g2 106, g2 107, g2 108, g2 109], [.frz 4 x2_0 (x2_2.map eSet)]⟩)
    have k6 := k4.a [(9003, .l .norm ⟨[ls 4 eSet a1, g2 1, g2 2, (.p (.lst 4 ((x2_2.take x2_1).map eSet))), g2 4, g2 5, g2 6, g2 7, g2 8, g2 9, g2 10, g2 11, g2 12, g2 13, g2 14, g2 15, g2 16, g2 17, g2 18, g2 19, g2 20, g2 21, g2 22, g2 23, g2 24, g2 25, g2 26, g2 27, g2 28, g2 29, g2 30, g2 31, g2 32, g2 33, g2 34, g2 35, g2 36, g2 37, g2 38, g2 39, g2 40, g2 41, g2 42, g2 43, g2 44, g2 45, g2 46, g2 47, g2 48, g2 49, g2 50, g2 51, g2 52, g2 53, g2 54, g2 55, g2 56, g2 57, g2 58, g2 59, g2 60, g2 61, g2 62, g2 63, g2 64, g2 65, g2 66, g2 67, g2 68, g2 69, g2 70, g2 71, g2 72, g2 73, g2 74, g2 75, g2 76, g2 77, g2 78, g2 79, g2 80, g2 81, g2 82, g2 83, g2 84, g2 85, g2 86, g2 87, g2 88, g2 89, g2 90, g2 91, g2 92, g2 93, g2 94, g2 95, g2 96, g2 97, g2 98, g2 99, g2 100, g2 101, g2 102, g2 103, g2 104, g2 105, g2 106, g2 107, g2 108, g2 109], [.frz 4 x2_0 (x2_2.map eSet)]⟩)] (apc q5 apn)
    apply bn h; intro x4 h4 h
    have q7 := (((F33_ok a1 h4).cp rfl _) : CP prg 33 [ls 4 eSet a1] [.frz 4 x2_0 (x2_2.map eSet)] = some (ls 4 eSet x4))
    apply bn h; intro x5 h5 h
    have q8 := (((F33_ok (x2_2.take x2_1) h5).cp rfl _) : CP prg 33 [(.p (.lst 4 ((x2_2.take x2_1).map eSet)))] [.frz 4 x2_0 (x2_2.map eSet)] = some (ls 4 eSet x5))
    have k9 := k6.a [(35, .v (ls 4 eSet x4)), (37, .v (ls 4 eSet x5)), (39, .v (vi .i64 (x4.length : Int))), (41, .v (vi .i64 (x5.length : Int)))] (apc q7 (apc q8 (apc (lg x4 eSet 4) (apc (lg x5 eSet 4) apn))))
    apply bi h <;> intro h6 h
    ·
     rw [← sj h]
     exact fq ([(42, .d true), (6000, .d true)] ++ kH k9) (k9.b (av h6 apn))
    ·
     apply bn h; intro r7 h7 h
     cases r7 with
     | k0 x7_0 x7_1 x7_2 x7_3 =>
      have q10 := (((F20_ok a1 h7).cp rfl _) : CP prg 20 [ls 4 eSet a1] [.frz 4 x2_0 (x2_2.map eSet)] = some (.agg [vi .u64 x7_0, vi .u64 x7_1, vi .u64 x7_2, vi .u64 x7_3]))
      have k11 := k9.a [(42, .d false), (45, .v (.agg [vi .u64 x7_0, vi .u64 x7_1, vi .u64 x7_2, vi .u64 x7_3]))] (av h6 (apc q10 apn))
      apply bn h; intro r8 h8 h
      cases r8 with
      | k0 x8_0 x8_1 x8_2 x8_3 =>
       have q12 := (((F20_ok (x2_2.take x2_1) h8).cp rfl _) : CP prg 20 [(.p (.lst 4 ((x2_2.take x2_1).map eSet)))] [.frz 4 x2_0 (x2_2.map eSet)] = some (.agg [vi .u64 x8_0, vi .u64 x8_1, vi .u64 x8_2, vi .u64 x8_3]))
       have k13 := k11.a [(47, .v (.agg [vi .u64 x8_0, vi .u64 x8_1, vi .u64 x8_2, vi .u64 x8_3]))] (apc q12 apn)
       apply bi h <;> intro h9 h
       ·
        rw [← sj h]
        exact fq ([(48, .d true), (6000, .d true)] ++ kH k13) (k13.b (av h9 apn))
       ·
        apply bn h; intro r10 h10 h
        cases r10 with
        | k0 =>
         obtain ⟨g10, y10, e10⟩ := L7_2_run a1 x4 x5 x2_0 x2_2 0 _ h10
         rw [← sj h]
         exact fq ([(48, .d false), (2002, .l .ret ⟨fr 110 g10 [(2, vb false)], y10⟩), (6000, .d true)] ++ kH k13) (k13.b (av h9 (apc (L7_2_k a1 x4 x5 x2_0 x2_2 0) (apc (e10 : L7_2_e a1 x4 x5 x2_0 x2_2 0 = some (.ret, ⟨fr 110 g10 [(2, vb false)], y10⟩)) apn))))
        | k1 =>
         obtain ⟨g10, e10⟩ := L7_2_run a1 x4 x5 x2_0 x2_2 0 _ h10
         have q14 := (e10 : L7_2_e a1 x4 x5 x2_0 x2_2 0 = some ((.brk 2), F7_d1 g10 a1 x4 x5 x2_0 x2_2))
         have k15 := k13.a [(48, .d false), (2002, .l (.brk 2) (F7_d1 g10 a1 x4 x5 x2_0 x2_2)), (66, .v (vi .i64 (a1.length : Int)))] (av h9 (apc (L7_2_k a1 x4 x5 x2_0 x2_2 0) (apc q14 (apc (lg a1 eSet 4) apn))))
         apply bi h <;> intro h11 h
         ·
          have k16 := k15.a [(67, .d true), (69, .v (vi .i64 (x4.length : Int)))] (av h11 (apc (lg x4 eSet 4) apn))
          apply bi h <;> intro h12 h
          ·
           apply bn h; intro x13 h13 h
           rw [← sj h]
           exact fq ([(70, .d true), (72, .v (vb x13)), (6000, .d true)] ++ kH k16) (k16.b (av h12 (apc (((F8_ok  h13).cp rfl _) : CP prg 8 [] [.frz 4 x2_0 (x2_2.map eSet)] = some (vb x13)) apn)))
          ·
           rw [← sj h]
           exact fq ([(70, .d false), (6000, .d true)] ++ kH k16) (k16.b (av h12 apn))
         ·
          apply bi h <;> intro h12 h
          ·
           have q17 := ((sl_hi h12) : slL 4 (ls 4 eSet a1) (some 1) (some (((a1.map eSet).length : Nat) : Int)) = some (.p (.lst 4 ((a1.drop (Int.toNat 1)).map eSet))))
           have k18 := k15.a [(67, .d false), (75, .v (.p (.lst 4 ((a1.drop (Int.toNat 1)).map eSet))))] (av h11 (apc q17 apn))
           apply bn h; intro x13 h13 h
           have q19 := (((F33_ok (a1.drop (Int.toNat 1)) h13).cp rfl _) : CP prg 33 [(.p (.lst 4 ((a1.drop (Int.toNat 1)).map eSet)))] [.frz 4 x2_0 (x2_2.map eSet)] = some (ls 4 eSet x13))
           apply bn h; intro r14 h14 h
           cases r14 with
           | k0 =>
            obtain ⟨g14, y14, e14⟩ := L7_1_run x4 x13 x2_0 x2_2 0 _ h14
            rw [← sj h]
            exact fq ([(76, .v (ls 4 eSet x13)), (2004, .l .ret ⟨fr 110 g14 [(2, vb false)], y14⟩), (6000, .d true)] ++ kH k18) (k18.b (apc q19 (apc (L7_1_k x4 x13 x2_0 x2_2 0) (apc (e14 : L7_1_e x4 x13 x2_0 x2_2 0 = some (.ret, ⟨fr 110 g14 [(2, vb false)], y14⟩)) apn))))
           | k1 =>
            obtain ⟨g14, e14⟩ := L7_1_run x4 x13 x2_0 x2_2 0 _ h14
            have q20 := (e14 : L7_1_e x4 x13 x2_0 x2_2 0 = some ((.brk 4), ⟨fr 110 g14 [(5, ls 4 eSet x4), (8, ls 4 eSet x13)], [.frz 4 x2_0 (x2_2.map eSet)]⟩))
            have k21 := k18.a [(76, .v (ls 4 eSet x13)), (2004, .l (.brk 4) ⟨fr 110 g14 [(5, ls 4 eSet x4), (8, ls 4 eSet x13)], [.frz 4 x2_0 (x2_2.map eSet)]⟩), (103, .v (vi .i64 (x13.length : Int))), (105, .v (vi .i64 (x4.length : Int)))] (apc q19 (apc (L7_1_k x4 x13 x2_0 x2_2 0) (apc q20 (apc (lg x13 eSet 4) (apc (lg x4 eSet 4) apn)))))
            apply bi h <;> intro h15 h
            ·
             apply bn h; intro x16 h16 h
             rw [← sj h]
             exact fq ([(106, .d true), (108, .v (vb x16)), (6000, .d true)] ++ kH k21) (k21.b (av h15 (apc (((F8_ok  h16).cp rfl _) : CP prg 8 [] [.frz 4 x2_0 (x2_2.map eSet)] = some (vb x16)) apn)))
            ·
             rw [← sj h]
             exact fq ([(106, .d false), (6000, .d true)] ++ kH k21) (k21.b (av h15 apn))
          ·
           cases h
   ·
    cases h
end
end Go.Proofs.Tryd
