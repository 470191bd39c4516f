/- Decompiled by a program: functions as plain data see them, part 1. -/
import Derived.Test.YtcdebkkjbminoaaDoorW32
namespace Go.Proofs.Tryd
set_option linter.unusedSimpArgs false
set_option linter.unusedVariables false
set_option linter.unusedSectionVars false
set_option maxHeartbeats 4000000
open Go Go.Vs
noncomputable section
section
variable [ErC]
inductive R_F44_2 where
  | k0 (x0 x1 : Int) (x2 : List TreeD) (x3 : Int)
def F44_2_v (a1 : ByteArray) (a2 : Int) (r : R_F44_2) : AV := match r with | .k0 x0 x1 x2 x3 => (.tup [(.agg [i6 x0, vi .u8 x1, (.p (.lst 3 (eTrees x2)))]), i6 x3])
abbrev T_F44_2 := ByteArray → Int → Option R_F44_2
abbrev H_F44_2 (f : T_F44_2) : Prop := ∀ (a1 : ByteArray) (a2 : Int) {r : R_F44_2}, f a1 a2 = some r → PR1 pg 44 [vs a1, i6 a2] (F44_2_v a1 a2 r)
def F67_v (a1 : Int) (x0 : Int) : AV := (i6 x0)
def F67 (a1 : Int) : Option Int :=
  (bif (decide (a1 ≥ 48)) then (bif (decide (a1 ≤ 57)) then (some (IntKind.wrap .i64 (IntKind.wrap .u8 (a1 - 48)))) else (bif (decide (a1 ≥ 97)) then (bif (decide (a1 ≤ 102)) then (some (IntKind.wrap .i64 ((IntKind.wrap .i64 (IntKind.wrap .u8 (a1 - 97))) + 10))) else (some (-1))) else (some (-1)))) else (bif (decide (a1 ≥ 97)) then (bif (decide (a1 ≤ 102)) then (some (IntKind.wrap .i64 ((IntKind.wrap .i64 (IntKind.wrap .u8 (a1 - 97))) + 10))) else (some (-1))) else (some (-1))))
theorem F67_ok (a1 : Int) {r : Int} (h : F67 a1 = some r) : PR1 pg 67 [vi .u8 a1] (F67_v a1 r) := by
 unfold F67 at h
 apply bi h <;> intro h1 h
 ·
  apply bi h <;> intro h2 h
  ·
   rw [← sj h]
   exact fq [(4, .d true), (7, .d true)] (av h1 (av h2 apn))
  ·
   have k0 := ka [(4, .d true), (7, .d false)] (av h1 (av h2 apn))
   apply bi h <;> intro h3 h
   ·
    apply bi h <;> intro h4 h
    ·
     rw [← sj h]
     exact fq ([(13, .d true), (16, .d true)] ++ kH k0) (k0.b (av h3 (av h4 apn)))
    ·
     rw [← sj h]
     exact fq ([(13, .d true), (16, .d false)] ++ kH k0) (k0.b (av h3 (av h4 apn)))
   ·
    rw [← sj h]
    exact fq ([(13, .d false)] ++ kH k0) (k0.b (av h3 apn))
 ·
  apply bi h <;> intro h2 h
  ·
   have k1 := ka [(4, .d false), (13, .d true)] (av h1 (av h2 apn))
   apply bi h <;> intro h3 h
   ·
    rw [← sj h]
    exact fq ([(16, .d true)] ++ kH k1) (k1.b (av h3 apn))
   ·
    rw [← sj h]
    exact fq ([(16, .d false)] ++ kH k1) (k1.b (av h3 apn))
  ·
   rw [← sj h]
   exact fq [(4, .d false), (13, .d false)] (av h1 (av h2 apn))
inductive E_L44_1_2 where
  | k0 (x0 x1 : Int)
section
variable (a1 : ByteArray) (a2 : Int)
def L44_1_2 (v1 v2 : Int) : Option (E_L44_1_2 ⊕ (Int × Int)) :=
  (bif (decide (v1 < (a1.size : Int))) then ((getI a1.data.toList v1).bind fun x2 => (bif (decide ((x2.toNat : Int) ≥ 48)) then (bif (decide ((x2.toNat : Int) ≤ 57)) then (bif (decide (v2 ≤ 2147483647)) then (some (.inr ((IntKind.wrap .i64 (v1 + 1)), (IntKind.wrap .i64 ((IntKind.wrap .i64 (10 * v2)) + (IntKind.wrap .i64 (IntKind.wrap .u8 ((x2.toNat : Int) - 48)))))))) else (some (.inl (.k0 v1 v2)))) else (some (.inl (.k0 v1 v2)))) else (some (.inl (.k0 v1 v2))))) else (some (.inl (.k0 v1 v2))))
def L44_1_2_s (v1 v2 : Int) : St := ⟨fr 171 ug [(0, vs a1), (1, i6 v1), (4, .ptr 1 0), (6, i6 v2), (7, i6 a2)], [yT0, .cells 25 [i6 0, vi .u8 0, .sl 0 0 3 0 0]]⟩
theorem L44_1_2_k (v1 v2 : Int) : okT 2 (L44_1_2_s a1 a2 v1 v2).h = true := (okT_of rfl (ar (ac rfl)))
abbrev L44_1_2_e (v1 v2 : Int) := evH pg 2 [0, 1, 4, 6, 7] ir44_l1 (L44_1_2_s a1 a2 v1 v2)
def L44_1_2_x (e : E_L44_1_2) (r : Option (Out × St)) : Prop := match e with | .k0 x0 x1 => ∃ g, r = some ((.brk 0), ⟨fr 171 g [(0, vs a1), (1, i6 x0), (4, .ptr 1 0), (6, i6 x1), (7, i6 a2)], [yT0, .cells 25 [i6 0, vi .u8 0, .sl 0 0 3 0 0]]⟩)
theorem L44_1_2_ok (v1 v2 : Int) {r : E_L44_1_2 ⊕ (Int × Int)} (h : L44_1_2 a1 v1 v2 = some r) : OkR (fun e => L44_1_2_x a1 a2 e (L44_1_2_e a1 a2 v1 v2)) (fun s => L44_1_2_e a1 a2 v1 v2 = L44_1_2_e a1 a2 s.1 s.2) r := by
 unfold L44_1_2 at h
 apply bi h <;> intro h1 h
 ·
  apply bn h; intro x2 h2 h
  have q0 := ((ix_str h2) : ixS (vs a1) (i6 v1) = some (vi .u8 (x2.toNat : Int)))
  have k1 := ka [(63, .d true), (67, .v (vi .u8 (x2.toNat : Int)))] (av h1 (apc q0 apn))
  apply bi h <;> intro h3 h
  ·
   have k2 := k1.a [(68, .d true), (73, .v (vi .u8 (x2.toNat : Int)))] (av h3 (apc q0 apn))
   apply bi h <;> intro h4 h
   ·
    apply bi h <;> intro h5 h
    ·
     rw [← sj h]
     exact rn ([(74, .d true), (78, .d true), (84, .v (vi .u8 (x2.toNat : Int))), (6000, .d true)] ++ kH k2) (k2.b (av h4 (av h5 (apc q0 (apc (L44_1_2_k a1 a2 (w6 (v1 + 1)) (w6 ((w6 (10 * v2)) + (w6 (IntKind.wrap .u8 ((x2.toNat : Int) - 48)))))) apn)))))
    ·
     rw [← sj h]
     exact xb ([(74, .d true), (78, .d false), (6000, .d true)] ++ kH k2) (k2.b (av h4 (av h5 apn)))
   ·
    rw [← sj h]
    exact xb ([(74, .d false), (6000, .d true)] ++ kH k2) (k2.b (av h4 apn))
  ·
   rw [← sj h]
   exact xb ([(68, .d false), (6000, .d true)] ++ kH k1) (k1.b (av h3 apn))
 ·
  rw [← sj h]
  exact xb [(63, .d false), (6000, .d true)] (av h1 apn)
theorem L44_1_2_run (s0 : Int × Int) (e : E_L44_1_2) (h : runL (fun s => L44_1_2 a1 s.1 s.2) s0 = some e) : L44_1_2_x a1 a2 e (L44_1_2_e a1 a2 s0.1 s0.2) := by
  have q := @loop_sound' (Int × Int) E_L44_1_2 (fun s => L44_1_2 a1 s.1 s.2) (fun s => L44_1_2_e a1 a2 s.1 s.2) (L44_1_2_x a1 a2) (fun s r h => L44_1_2_ok a1 a2 s.1 s.2 h) s0 e h
  exact q
end
inductive E_L44_0 where
  | k0 (x0 : Nat) (x1 : List TreeD) (x2 : Nat)
  | k1 (x0 : Nat) (x1 : List TreeD) (x2 : Nat) (x3 x4 : Int) (x5 : List TreeD)
  | k2 (x0 : Int) (x1 : Nat) (x2 : List TreeD) (x3 : Nat)
def L44_0 (rF44_2 : T_F44_2) (a1 : ByteArray) (v1 : Int) (v2 : Nat) (v3 : List TreeD) (v4 : Nat) : Option (E_L44_0 ⊕ (Int × Nat × (List TreeD) × Nat)) :=
  (bif (decide (v1 < (a1.size : Int))) then ((getI a1.data.toList v1).bind fun x2 => (bif ((x2.toNat : Int) != 41) then (bif (decide (((v4 : Nat) : Int) > 0)) then (bif ((x2.toNat : Int) != 32) then (some (.inl (.k0 v2 v3 v4))) else ((rF44_2 a1 (IntKind.wrap .i64 (v1 + 1))).bind fun r6 => match r6 with | .k0 x6_0 x6_1 x6_2 x6_3 => (bif (decide (x6_3 < 0)) then (some (.inl (.k1 v2 v3 v4 x6_0 x6_1 x6_2))) else (bif (apOk v4 1 v3.length 40) then (bif (decide (v4 + 1 ≤ v3.length)) then (some (.inr (x6_3, v2, (splice v3 v4 [TreeD.mk x6_0 x6_1 x6_2]), v4 + 1))) else (some (.inr (x6_3, v2 + 1, (v3.take v4 ++ [TreeD.mk x6_0 x6_1 x6_2]), v4 + 1)))) else none)))) else ((rF44_2 a1 v1).bind fun r5 => match r5 with | .k0 x5_0 x5_1 x5_2 x5_3 => (bif (decide (x5_3 < 0)) then (some (.inl (.k1 v2 v3 v4 x5_0 x5_1 x5_2))) else (bif (apOk v4 1 v3.length 40) then (bif (decide (v4 + 1 ≤ v3.length)) then (some (.inr (x5_3, v2, (splice v3 v4 [TreeD.mk x5_0 x5_1 x5_2]), v4 + 1))) else (some (.inr (x5_3, v2 + 1, (v3.take v4 ++ [TreeD.mk x5_0 x5_1 x5_2]), v4 + 1)))) else none)))) else (some (.inl (.k2 v1 v2 v3 v4))))) else (some (.inl (.k2 v1 v2 v3 v4))))
def L44_0_s (a1 : ByteArray) (a3 : Int) (v1 : Int) (v2 : Nat) (v3 : List TreeD) (v4 : Nat) : St := ⟨fr 171 ug [(0, vs a1), (1, i6 v1), (4, .ptr 1 0), (8, .ptr 4 0)], [yT0, .cells 25 [i6 0, vi .u8 0, .sl 0 0 3 0 0], yT v2 v3, yT0, .cells 25 [i6 a3, vi .u8 0, .sl 2 v2 3 0 v4]]⟩
theorem L44_0_k (a1 : ByteArray) (a3 : Int) (v1 : Int) (v2 : Nat) (v3 : List TreeD) (v4 : Nat) : okT 5 (L44_0_s a1 a3 v1 v2 v3 v4).h = true := (okT_of rfl (ar (ac (ar (ar (ac rfl))))))
abbrev L44_0_e (a1 : ByteArray) (a3 : Int) (v1 : Int) (v2 : Nat) (v3 : List TreeD) (v4 : Nat) := evH pg 5 [0, 1, 4, 8] ir44_l0 (L44_0_s a1 a3 v1 v2 v3 v4)
def L44_0_x (a1 : ByteArray) (a3 : Int) (e : E_L44_0) (r : Option (Out × St)) : Prop := match e with | .k0 x0 x1 x2 => ∃ g, r = some (.ret, ⟨fr 171 g [(4, .ptr 1 0), (5, (i6 (-1)))], [yT0, .cells 25 [i6 0, vi .u8 0, (.p (.lst 3 (eTrees ([]))))], yT x0 x1, yT0, .cells 25 [i6 a3, vi .u8 0, .sl 2 x0 3 0 x2]]⟩) | .k1 x0 x1 x2 x3 x4 x5 => ∃ g, r = some (.ret, ⟨fr 171 g [(4, .ptr 1 0), (5, (i6 (-1)))], [yT0, .cells 25 [i6 0, vi .u8 0, (.p (.lst 3 (eTrees ([]))))], yT x0 x1, yT0, .cells 25 [i6 a3, vi .u8 0, .sl 2 x0 3 0 x2], yT0, .cells 25 [i6 x3, vi .u8 x4, (.p (.lst 3 (eTrees x5)))]]⟩) | .k2 x0 x1 x2 x3 => ∃ g, r = some ((.brk 2), ⟨fr 171 g [(0, vs a1), (1, i6 x0), (4, .ptr 1 0), (8, .ptr 4 0)], [yT0, .cells 25 [i6 0, vi .u8 0, .sl 0 0 3 0 0], yT x1 x2, yT0, .cells 25 [i6 a3, vi .u8 0, .sl 2 x1 3 0 x3]]⟩)
abbrev L44_0_d0 (v2 : Nat) (v3 : List TreeD) (a3 : Int) (v4 : Nat) : List AB := [yT0, .cells 25 [i6 0, vi .u8 0, .sl 0 0 3 0 0], yT v2 v3, yT0, .cells 25 [i6 a3, vi .u8 0, .sl 2 v2 3 0 v4]]
abbrev L44_0_d1 (v2 : Nat) (v3 : List TreeD) (v4 : Nat) (x6_0 x6_1 : Int) (x6_2 : List TreeD) (a3 : Int) : List AB := [yT0, .cells 25 [i6 0, vi .u8 0, .sl 0 0 3 0 0], yT v2 (splice v3 v4 [TreeD.mk x6_0 x6_1 x6_2]), yT0, .cells 25 [i6 a3, vi .u8 0, .sl 2 v2 3 0 v4], yT0, .cells 25 [i6 x6_0, vi .u8 x6_1, (.p (.lst 3 (eTrees x6_2)))], .row 25 3 0 [[i6 x6_0, vi .u8 x6_1, (.p (.lst 3 (eTrees x6_2)))]]]
abbrev L44_0_d2 (v2 : Nat) (v3 : List TreeD) (a3 : Int) (v4 : Nat) (x6_0 x6_1 : Int) (x6_2 : List TreeD) : List AB := [yT0, .cells 25 [i6 0, vi .u8 0, .sl 0 0 3 0 0], yT v2 v3, yT0, .cells 25 [i6 a3, vi .u8 0, .sl 2 v2 3 0 v4], yT0, .cells 25 [i6 x6_0, vi .u8 x6_1, (.p (.lst 3 (eTrees x6_2)))], .row 25 3 0 [[i6 x6_0, vi .u8 x6_1, (.p (.lst 3 (eTrees x6_2)))]]]
abbrev L44_0_d3 (v2 : Nat) (v3 : List TreeD) (v4 : Nat) (x6_0 x6_1 : Int) (x6_2 : List TreeD) (a3 : Int) : List AB := [yT0, .cells 25 [i6 0, vi .u8 0, .sl 0 0 3 0 0], yT (v2 + 1) (v3.take v4 ++ [TreeD.mk x6_0 x6_1 x6_2]), yT0, .cells 25 [i6 a3, vi .u8 0, .sl 2 v2 3 0 v4], yT0, .cells 25 [i6 x6_0, vi .u8 x6_1, (.p (.lst 3 (eTrees x6_2)))], .row 25 3 0 [[i6 x6_0, vi .u8 x6_1, (.p (.lst 3 (eTrees x6_2)))]]]
abbrev L44_0_d4 (v2 : Nat) (v3 : List TreeD) (v4 : Nat) (x5_0 x5_1 : Int) (x5_2 : List TreeD) (a3 : Int) : List AB := [yT0, .cells 25 [i6 0, vi .u8 0, .sl 0 0 3 0 0], yT v2 (splice v3 v4 [TreeD.mk x5_0 x5_1 x5_2]), yT0, .cells 25 [i6 a3, vi .u8 0, .sl 2 v2 3 0 v4], yT0, .cells 25 [i6 x5_0, vi .u8 x5_1, (.p (.lst 3 (eTrees x5_2)))], .row 25 3 0 [[i6 x5_0, vi .u8 x5_1, (.p (.lst 3 (eTrees x5_2)))]]]
abbrev L44_0_d5 (v2 : Nat) (v3 : List TreeD) (a3 : Int) (v4 : Nat) (x5_0 x5_1 : Int) (x5_2 : List TreeD) : List AB := [yT0, .cells 25 [i6 0, vi .u8 0, .sl 0 0 3 0 0], yT v2 v3, yT0, .cells 25 [i6 a3, vi .u8 0, .sl 2 v2 3 0 v4], yT0, .cells 25 [i6 x5_0, vi .u8 x5_1, (.p (.lst 3 (eTrees x5_2)))], .row 25 3 0 [[i6 x5_0, vi .u8 x5_1, (.p (.lst 3 (eTrees x5_2)))]]]
abbrev L44_0_d6 (v2 : Nat) (v3 : List TreeD) (v4 : Nat) (x5_0 x5_1 : Int) (x5_2 : List TreeD) (a3 : Int) : List AB := [yT0, .cells 25 [i6 0, vi .u8 0, .sl 0 0 3 0 0], yT (v2 + 1) (v3.take v4 ++ [TreeD.mk x5_0 x5_1 x5_2]), yT0, .cells 25 [i6 a3, vi .u8 0, .sl 2 v2 3 0 v4], yT0, .cells 25 [i6 x5_0, vi .u8 x5_1, (.p (.lst 3 (eTrees x5_2)))], .row 25 3 0 [[i6 x5_0, vi .u8 x5_1, (.p (.lst 3 (eTrees x5_2)))]]]
theorem L44_0_ok (rF44_2 : T_F44_2) (hF44_2 : H_F44_2 rF44_2) (a1 : ByteArray) (a3 : Int) (v1 : Int) (v2 : Nat) (v3 : List TreeD) (v4 : Nat) {r : E_L44_0 ⊕ (Int × Nat × (List TreeD) × Nat)} (h : L44_0 rF44_2 a1 v1 v2 v3 v4 = some r) : OkR (fun e => L44_0_x a1 a3 e (L44_0_e a1 a3 v1 v2 v3 v4)) (fun s => L44_0_e a1 a3 v1 v2 v3 v4 = L44_0_e a1 a3 s.1 s.2.1 s.2.2.1 s.2.2.2) r := by
 unfold L44_0 at h
 apply bi h <;> intro h1 h
 ·
  apply bn h; intro x2 h2 h
  have q0 := ((ix_str h2) : ixS (vs a1) (i6 v1) = some (vi .u8 (x2.toNat : Int)))
  have k1 := ka [(129, .d true), (133, .v (vi .u8 (x2.toNat : Int)))] (av h1 (apc q0 apn))
  apply bi h <;> intro h3 h
  ·
   apply bi h <;> intro h4 h
   ·
    have k2 := k1.a [(134, .d true), (139, .d true), (142, .v (vi .u8 (x2.toNat : Int)))] (av h3 (av h4 (apc q0 apn)))
    apply bi h <;> intro h5 h
    ·
     rw [← sj h]
     exact xr ([(143, .d true), (6000, .d true)] ++ kH k2) (k2.b (av h5 apn))
    ·
     apply bn h; intro r6 h6 h
     cases r6 with
     | k0 x6_0 x6_1 x6_2 x6_3 =>
      have q3 := (((hF44_2 a1 (w6 (v1 + 1)) h6).cp rfl _) : CP pg 44 [vs a1, (i6 (w6 (v1 + 1)))] (L44_0_d0 v2 v3 a3 v4) = some (.tup [(.agg [i6 x6_0, vi .u8 x6_1, (.p (.lst 3 (eTrees x6_2)))]), i6 x6_3]))
      have k4 := k2.a [(143, .d false), (150, .v (.tup [(.agg [i6 x6_0, vi .u8 x6_1, (.p (.lst 3 (eTrees x6_2)))]), i6 x6_3]))] (av h5 (apc q3 apn))
      apply bi h <;> intro h7 h
      ·
       rw [← sj h]
       exact xr ([(154, .d true), (6000, .d true)] ++ kH k4) (k4.b (av h7 apn))
      ·
       apply bi h <;> intro h8 h
       ·
        apply bi h <;> intro h9 h
        ·
         rw [← sj h]
         exact rn ([(154, .d false), (160, .r (.sl 2 v2 3 0 (v4 + 1)) (L44_0_d1 v2 v3 v4 x6_0 x6_1 x6_2 a3)), (6000, .d true)] ++ kH k4) (k4.b (av h7 (apc ((ap_in (e := cT) (xs := v3) (news := [TreeD.mk x6_0 x6_1 x6_2]) rfl (rows_x (e := cT) (xs := [TreeD.mk x6_0 x6_1 x6_2]) rfl) rfl h8 h9) : appA (L44_0_d2 v2 v3 a3 v4 x6_0 x6_1 x6_2) 25 3 40 (.sl 2 v2 3 0 v4) (.sl 7 0 3 0 1) = some ((.sl 2 v2 3 0 (v4 + 1)), L44_0_d1 v2 v3 v4 x6_0 x6_1 x6_2 a3)) (apc (L44_0_k a1 a3 x6_3 v2 (splice v3 v4 [TreeD.mk x6_0 x6_1 x6_2]) (v4 + 1)) apn))))
        ·
         rw [← sj h]
         exact rn ([(154, .d false), (160, .r (.sl 2 (v2 + 1) 3 0 (v4 + 1)) (L44_0_d3 v2 v3 v4 x6_0 x6_1 x6_2 a3)), (6000, .d true)] ++ kH k4) (k4.b (av h7 (apc ((ap_out (e := cT) (xs := v3) (news := [TreeD.mk x6_0 x6_1 x6_2]) rfl (rows_x (e := cT) (xs := [TreeD.mk x6_0 x6_1 x6_2]) rfl) rfl h8 h9) : appA (L44_0_d2 v2 v3 a3 v4 x6_0 x6_1 x6_2) 25 3 40 (.sl 2 v2 3 0 v4) (.sl 7 0 3 0 1) = some ((.sl 2 (v2 + 1) 3 0 (v4 + 1)), L44_0_d3 v2 v3 v4 x6_0 x6_1 x6_2 a3)) (apc (L44_0_k a1 a3 x6_3 (v2 + 1) (v3.take v4 ++ [TreeD.mk x6_0 x6_1 x6_2]) (v4 + 1)) apn))))
       ·
        cases h
   ·
    have k5 := k1.a [(134, .d true), (139, .d false)] (av h3 (av h4 apn))
    apply bn h; intro r5 h5 h
    cases r5 with
    | k0 x5_0 x5_1 x5_2 x5_3 =>
     have q6 := (((hF44_2 a1 v1 h5).cp rfl _) : CP pg 44 [vs a1, i6 v1] (L44_0_d0 v2 v3 a3 v4) = some (.tup [(.agg [i6 x5_0, vi .u8 x5_1, (.p (.lst 3 (eTrees x5_2)))]), i6 x5_3]))
     have k7 := k5.a [(150, .v (.tup [(.agg [i6 x5_0, vi .u8 x5_1, (.p (.lst 3 (eTrees x5_2)))]), i6 x5_3]))] (apc q6 apn)
     apply bi h <;> intro h6 h
     ·
      rw [← sj h]
      exact xr ([(154, .d true), (6000, .d true)] ++ kH k7) (k7.b (av h6 apn))
     ·
      apply bi h <;> intro h7 h
      ·
       apply bi h <;> intro h8 h
       ·
        rw [← sj h]
        exact rn ([(154, .d false), (160, .r (.sl 2 v2 3 0 (v4 + 1)) (L44_0_d4 v2 v3 v4 x5_0 x5_1 x5_2 a3)), (6000, .d true)] ++ kH k7) (k7.b (av h6 (apc ((ap_in (e := cT) (xs := v3) (news := [TreeD.mk x5_0 x5_1 x5_2]) rfl (rows_x (e := cT) (xs := [TreeD.mk x5_0 x5_1 x5_2]) rfl) rfl h7 h8) : appA (L44_0_d5 v2 v3 a3 v4 x5_0 x5_1 x5_2) 25 3 40 (.sl 2 v2 3 0 v4) (.sl 7 0 3 0 1) = some ((.sl 2 v2 3 0 (v4 + 1)), L44_0_d4 v2 v3 v4 x5_0 x5_1 x5_2 a3)) (apc (L44_0_k a1 a3 x5_3 v2 (splice v3 v4 [TreeD.mk x5_0 x5_1 x5_2]) (v4 + 1)) apn))))
       ·
        rw [← sj h]
        exact rn ([(154, .d false), (160, .r (.sl 2 (v2 + 1) 3 0 (v4 + 1)) (L44_0_d6 v2 v3 v4 x5_0 x5_1 x5_2 a3)), (6000, .d true)] ++ kH k7) (k7.b (av h6 (apc ((ap_out (e := cT) (xs := v3) (news := [TreeD.mk x5_0 x5_1 x5_2]) rfl (rows_x (e := cT) (xs := [TreeD.mk x5_0 x5_1 x5_2]) rfl) rfl h7 h8) : appA (L44_0_d5 v2 v3 a3 v4 x5_0 x5_1 x5_2) 25 3 40 (.sl 2 v2 3 0 v4) (.sl 7 0 3 0 1) = some ((.sl 2 (v2 + 1) 3 0 (v4 + 1)), L44_0_d6 v2 v3 v4 x5_0 x5_1 x5_2 a3)) (apc (L44_0_k a1 a3 x5_3 (v2 + 1) (v3.take v4 ++ [TreeD.mk x5_0 x5_1 x5_2]) (v4 + 1)) apn))))
      ·
       cases h
  ·
   rw [← sj h]
   exact xb ([(134, .d false), (6000, .d true)] ++ kH k1) (k1.b (av h3 apn))
 ·
  rw [← sj h]
  exact xb [(129, .d false), (6000, .d true)] (av h1 apn)
theorem L44_0_run (rF44_2 : T_F44_2) (hF44_2 : H_F44_2 rF44_2) (a1 : ByteArray) (a3 : Int) (s0 : Int × Nat × (List TreeD) × Nat) (e : E_L44_0) (h : runL (fun s => L44_0 rF44_2 a1 s.1 s.2.1 s.2.2.1 s.2.2.2) s0 = some e) : L44_0_x a1 a3 e (L44_0_e a1 a3 s0.1 s0.2.1 s0.2.2.1 s0.2.2.2) := by
  have q := @loop_sound' (Int × Nat × (List TreeD) × Nat) E_L44_0 (fun s => L44_0 rF44_2 a1 s.1 s.2.1 s.2.2.1 s.2.2.2) (fun s => L44_0_e a1 a3 s.1 s.2.1 s.2.2.1 s.2.2.2) (L44_0_x a1 a3) (fun s r h => L44_0_ok rF44_2 hF44_2 a1 a3 s.1 s.2.1 s.2.2.1 s.2.2.2 h) s0 e h
  exact q
def F44_2_b (rF44_2 : T_F44_2) (a1 : ByteArray) (a2 : Int) : Option R_F44_2 :=
  (bif (decide (a2 < (a1.size : Int))) then ((getI a1.data.toList a2).bind fun x2 => (bif ((x2.toNat : Int) == 120) then (bif (decide ((IntKind.wrap .i64 ((a1.size : Int) - a2)) < 3)) then (some (.k0 0 0 ([]) (-1))) else ((getI a1.data.toList (IntKind.wrap .i64 (a2 + 1))).bind fun x5 => ((F67 (x5.toNat : Int)).bind fun x6 => (bif (decide (x6 < 0)) then (some (.k0 0 0 ([]) (-1))) else ((getI a1.data.toList (IntKind.wrap .i64 (a2 + 2))).bind fun x8 => ((F67 (x8.toNat : Int)).bind fun x9 => (bif (decide (x9 < 0)) then (some (.k0 0 0 ([]) (-1))) else ((F67 (x5.toNat : Int)).bind fun x11 => ((F67 (x8.toNat : Int)).bind fun x12 => (some (.k0 (-1) (IntKind.wrap .u8 (IntKind.wrap .i64 ((IntKind.wrap .i64 (16 * x11)) + x12))) ([]) (IntKind.wrap .i64 (a2 + 3))))))))))))) else ((runL (fun s => L44_1_2 a1 s.1 s.2) (a2, 0)).bind fun r4 => match r4 with | .k0 x4_0 x4_1 => (bif (x4_0 == a2) then (some (.k0 0 0 ([]) (-1))) else (bif (decide ((IntKind.wrap .i64 (x4_0 - a2)) > 1)) then (bif ((x2.toNat : Int) == 48) then (some (.k0 0 0 ([]) (-1))) else (bif (decide (x4_1 > 2147483647)) then (some (.k0 0 0 ([]) (-1))) else (bif (decide (x4_0 ≥ (a1.size : Int))) then (some (.k0 0 0 ([]) (-1))) else ((getI a1.data.toList x4_0).bind fun x10 => (bif ((x10.toNat : Int) != 40) then (some (.k0 0 0 ([]) (-1))) else ((runL (fun s => L44_0 rF44_2 a1 s.1 s.2.1 s.2.2.1 s.2.2.2) ((IntKind.wrap .i64 (x4_0 + 1)), 0, [], 0)).bind fun r12 => match r12 with | .k0 x12_0 x12_1 x12_2 => (some (.k0 0 0 ([]) (-1))) | .k1 x12_0 x12_1 x12_2 x12_3 x12_4 x12_5 => (some (.k0 0 0 ([]) (-1))) | .k2 x12_0 x12_1 x12_2 x12_3 => (bif (decide (x12_0 ≥ (a1.size : Int))) then (some (.k0 0 0 ([]) (-1))) else (bif (decide (x12_3 ≤ x12_2.length)) then (some (.k0 x4_1 0 (x12_2.take x12_3) (IntKind.wrap .i64 (x12_0 + 1)))) else none)))))))) else (bif (decide (x4_1 > 2147483647)) then (some (.k0 0 0 ([]) (-1))) else (bif (decide (x4_0 ≥ (a1.size : Int))) then (some (.k0 0 0 ([]) (-1))) else ((getI a1.data.toList x4_0).bind fun x9 => (bif ((x9.toNat : Int) != 40) then (some (.k0 0 0 ([]) (-1))) else ((runL (fun s => L44_0 rF44_2 a1 s.1 s.2.1 s.2.2.1 s.2.2.2) ((IntKind.wrap .i64 (x4_0 + 1)), 0, [], 0)).bind fun r11 => match r11 with | .k0 x11_0 x11_1 x11_2 => (some (.k0 0 0 ([]) (-1))) | .k1 x11_0 x11_1 x11_2 x11_3 x11_4 x11_5 => (some (.k0 0 0 ([]) (-1))) | .k2 x11_0 x11_1 x11_2 x11_3 => (bif (decide (x11_0 ≥ (a1.size : Int))) then (some (.k0 0 0 ([]) (-1))) else (bif (decide (x11_3 ≤ x11_2.length)) then (some (.k0 x4_1 0 (x11_2.take x11_3) (IntKind.wrap .i64 (x11_0 + 1)))) else none)))))))))))) else ((runL (fun s => L44_1_2 a1 s.1 s.2) (a2, 0)).bind fun r2 => match r2 with | .k0 x2_0 x2_1 => (bif (x2_0 == a2) then (some (.k0 0 0 ([]) (-1))) else (bif (decide ((IntKind.wrap .i64 (x2_0 - a2)) > 1)) then ((getI a1.data.toList a2).bind fun x5 => (bif ((x5.toNat : Int) == 48) then (some (.k0 0 0 ([]) (-1))) else (bif (decide (x2_1 > 2147483647)) then (some (.k0 0 0 ([]) (-1))) else (bif (decide (x2_0 ≥ (a1.size : Int))) then (some (.k0 0 0 ([]) (-1))) else ((getI a1.data.toList x2_0).bind fun x9 => (bif ((x9.toNat : Int) != 40) then (some (.k0 0 0 ([]) (-1))) else ((runL (fun s => L44_0 rF44_2 a1 s.1 s.2.1 s.2.2.1 s.2.2.2) ((IntKind.wrap .i64 (x2_0 + 1)), 0, [], 0)).bind fun r11 => match r11 with | .k0 x11_0 x11_1 x11_2 => (some (.k0 0 0 ([]) (-1))) | .k1 x11_0 x11_1 x11_2 x11_3 x11_4 x11_5 => (some (.k0 0 0 ([]) (-1))) | .k2 x11_0 x11_1 x11_2 x11_3 => (bif (decide (x11_0 ≥ (a1.size : Int))) then (some (.k0 0 0 ([]) (-1))) else (bif (decide (x11_3 ≤ x11_2.length)) then (some (.k0 x2_1 0 (x11_2.take x11_3) (IntKind.wrap .i64 (x11_0 + 1)))) else none))))))))) else (bif (decide (x2_1 > 2147483647)) then (some (.k0 0 0 ([]) (-1))) else (bif (decide (x2_0 ≥ (a1.size : Int))) then (some (.k0 0 0 ([]) (-1))) else ((getI a1.data.toList x2_0).bind fun x7 => (bif ((x7.toNat : Int) != 40) then (some (.k0 0 0 ([]) (-1))) else ((runL (fun s => L44_0 rF44_2 a1 s.1 s.2.1 s.2.2.1 s.2.2.2) ((IntKind.wrap .i64 (x2_0 + 1)), 0, [], 0)).bind fun r9 => match r9 with | .k0 x9_0 x9_1 x9_2 => (some (.k0 0 0 ([]) (-1))) | .k1 x9_0 x9_1 x9_2 x9_3 x9_4 x9_5 => (some (.k0 0 0 ([]) (-1))) | .k2 x9_0 x9_1 x9_2 x9_3 => (bif (decide (x9_0 ≥ (a1.size : Int))) then (some (.k0 0 0 ([]) (-1))) else (bif (decide (x9_3 ≤ x9_2.length)) then (some (.k0 x2_1 0 (x9_2.take x9_3) (IntKind.wrap .i64 (x9_0 + 1)))) else none)))))))))))
abbrev F44_2_d0 : List AB := [yT0, .cells 25 [i6 0, vi .u8 0, .sl 0 0 3 0 0]]
abbrev F44_2_d1 (g4 : Nat → AV) (a1 : ByteArray) (x4_0 x4_1 a2 : Int) : St := ⟨fr 171 g4 [(0, vs a1), (1, i6 x4_0), (4, .ptr 1 0), (6, i6 x4_1), (7, i6 a2)], [yT0, .cells 25 [i6 0, vi .u8 0, .sl 0 0 3 0 0]]⟩
abbrev F44_2_d8 (g2 : Nat → AV) (a1 : ByteArray) (x2_0 x2_1 a2 : Int) : St := ⟨fr 171 g2 [(0, vs a1), (1, i6 x2_0), (4, .ptr 1 0), (6, i6 x2_1), (7, i6 a2)], [yT0, .cells 25 [i6 0, vi .u8 0, .sl 0 0 3 0 0]]⟩
theorem F44_2_bok (rF44_2 : T_F44_2) (hF44_2 : H_F44_2 rF44_2) (a1 : ByteArray) (a2 : Int) {r : R_F44_2} (h : F44_2_b rF44_2 a1 a2 = some r) : PR1 pg 44 [vs a1, i6 a2] (F44_2_v a1 a2 r) := by
 unfold F44_2_b at h
 apply bi h <;> intro h1 h
 ·
  apply bn h; intro x2 h2 h
  have q0 := ((ix_str h2) : ixS (vs a1) (i6 a2) = some (vi .u8 (x2.toNat : Int)))
  have k1 := ka [(14, .d true), (18, .v (vi .u8 (x2.toNat : Int)))] (av h1 (apc q0 apn))
  apply bi h <;> intro h3 h
  ·
   apply bi h <;> intro h4 h
   ·
    rw [← sj h]
    exact fq ([(19, .d true), (25, .d true)] ++ kH k1) (k1.b (av h3 (av h4 apn)))
   ·
    have k2 := k1.a [(19, .d true), (25, .d false)] (av h3 (av h4 apn))
    apply bn h; intro x5 h5 h
    have q3 := ((ix_str h5) : ixS (vs a1) (i6 (w6 (a2 + 1))) = some (vi .u8 (x5.toNat : Int)))
    apply bn h; intro x6 h6 h
    have q4 := (((F67_ok (x5.toNat : Int) h6).cp rfl _) : CP pg 67 [(vi .u8 (x5.toNat : Int))] F44_2_d0 = some (i6 x6))
    have k5 := k2.a [(30, .v (vi .u8 (x5.toNat : Int))), (31, .v (i6 x6))] (apc q3 (apc q4 apn))
    apply bi h <;> intro h7 h
    ·
     rw [← sj h]
     exact fq ([(32, .d true)] ++ kH k5) (k5.b (av h7 apn))
    ·
     apply bn h; intro x8 h8 h
     have q6 := ((ix_str h8) : ixS (vs a1) (i6 (w6 (a2 + 2))) = some (vi .u8 (x8.toNat : Int)))
     have k7 := k5.a [(32, .d false), (38, .v (vi .u8 (x8.toNat : Int)))] (av h7 (apc q6 apn))
     apply bn h; intro x9 h9 h
     have q8 := (((F67_ok (x8.toNat : Int) h9).cp rfl _) : CP pg 67 [(vi .u8 (x8.toNat : Int))] F44_2_d0 = some (i6 x9))
     apply bi h <;> intro h10 h
     ·
      rw [← sj h]
      exact fq ([(39, .v (i6 x9)), (40, .d true)] ++ kH k7) (k7.b (apc q8 (av h10 apn)))
     ·
      apply bn h; intro x11 h11 h
      apply bn h; intro x12 h12 h
      rw [← sj h]
      exact fq ([(39, .v (i6 x9)), (40, .d false), (46, .v (vi .u8 (x5.toNat : Int))), (47, .v (i6 x11)), (52, .v (vi .u8 (x8.toNat : Int))), (53, .v (i6 x12))] ++ kH k7) (k7.b (apc q8 (av h10 (apc q3 (apc (((F67_ok (x5.toNat : Int) h11).cp rfl _) : CP pg 67 [(vi .u8 (x5.toNat : Int))] F44_2_d0 = some (i6 x11)) (apc q6 (apc (((F67_ok (x8.toNat : Int) h12).cp rfl _) : CP pg 67 [(vi .u8 (x8.toNat : Int))] F44_2_d0 = some (i6 x12)) apn)))))))
  ·
   apply bn h; intro r4 h4 h
   cases r4 with
   | k0 x4_0 x4_1 =>
    obtain ⟨g4, e4⟩ := L44_1_2_run a1 a2 (a2, 0) _ h4
    have q9 := (e4 : L44_1_2_e a1 a2 a2 0 = some ((.brk 0), F44_2_d1 g4 a1 x4_0 x4_1 a2))
    have k10 := k1.a [(19, .d false), (2000, .l (.brk 0) (F44_2_d1 g4 a1 x4_0 x4_1 a2))] (av h3 (apc (L44_1_2_k a1 a2 a2 0) (apc q9 apn)))
    apply bi h <;> intro h5 h
    ·
     rw [← sj h]
     exact fq ([(92, .d true), (6000, .d true)] ++ kH k10) (k10.b (av h5 apn))
    ·
     apply bi h <;> intro h6 h
     ·
      have k11 := k10.a [(92, .d false), (97, .d true), (101, .v (vi .u8 (x2.toNat : Int)))] (av h5 (av h6 (apc q0 apn)))
      apply bi h <;> intro h7 h
      ·
       rw [← sj h]
       exact fq ([(102, .d true), (6000, .d true)] ++ kH k11) (k11.b (av h7 apn))
      ·
       apply bi h <;> intro h8 h
       ·
        rw [← sj h]
        exact fq ([(102, .d false), (107, .d true), (6000, .d true)] ++ kH k11) (k11.b (av h7 (av h8 apn)))
       ·
        have k12 := k11.a [(102, .d false), (107, .d false)] (av h7 (av h8 apn))
        apply bi h <;> intro h9 h
        ·
         rw [← sj h]
         exact fq ([(113, .d true), (6000, .d true)] ++ kH k12) (k12.b (av h9 apn))
        ·
         apply bn h; intro x10 h10 h
         have q13 := ((ix_str h10) : ixS (vs a1) (i6 x4_0) = some (vi .u8 (x10.toNat : Int)))
         have k14 := k12.a [(113, .d false), (118, .v (vi .u8 (x10.toNat : Int)))] (av h9 (apc q13 apn))
         apply bi h <;> intro h11 h
         ·
          rw [← sj h]
          exact fq ([(119, .d true), (6000, .d true)] ++ kH k14) (k14.b (av h11 apn))
         ·
          apply bn h; intro r12 h12 h
          cases r12 with
          | k0 x12_0 x12_1 x12_2 =>
           obtain ⟨g12, e12⟩ := L44_0_run rF44_2 hF44_2 a1 x4_1 ((w6 (x4_0 + 1)), 0, [], 0) _ h12
           rw [← sj h]
           exact fq ([(119, .d false), (2002, .l .ret ⟨fr 171 g12 [(4, .ptr 1 0), (5, (i6 (-1)))], [yT0, .cells 25 [i6 0, vi .u8 0, (.p (.lst 3 (eTrees ([]))))], yT x12_0 x12_1, yT0, .cells 25 [i6 x4_1, vi .u8 0, .sl 2 x12_0 3 0 x12_2]]⟩), (6000, .d true)] ++ kH k14) (k14.b (av h11 (apc (L44_0_k a1 x4_1 (w6 (x4_0 + 1)) 0 ([]) 0) (apc (e12 : L44_0_e a1 x4_1 (w6 (x4_0 + 1)) 0 ([]) 0 = some (.ret, ⟨fr 171 g12 [(4, .ptr 1 0), (5, (i6 (-1)))], [yT0, .cells 25 [i6 0, vi .u8 0, (.p (.lst 3 (eTrees ([]))))], yT x12_0 x12_1, yT0, .cells 25 [i6 x4_1, vi .u8 0, .sl 2 x12_0 3 0 x12_2]]⟩)) apn))))
          | k1 x12_0 x12_1 x12_2 x12_3 x12_4 x12_5 =>
           obtain ⟨g12, e12⟩ := L44_0_run rF44_2 hF44_2 a1 x4_1 ((w6 (x4_0 + 1)), 0, [], 0) _ h12
           rw [← sj h]
           exact fq ([(119, .d false), (2002, .l .ret ⟨fr 171 g12 [(4, .ptr 1 0), (5, (i6 (-1)))], [yT0, .cells 25 [i6 0, vi .u8 0, (.p (.lst 3 (eTrees ([]))))], yT x12_0 x12_1, yT0, .cells 25 [i6 x4_1, vi .u8 0, .sl 2 x12_0 3 0 x12_2], yT0, .cells 25 [i6 x12_3, vi .u8 x12_4, (.p (.lst 3 (eTrees x12_5)))]]⟩), (6000, .d true)] ++ kH k14) (k14.b (av h11 (apc (L44_0_k a1 x4_1 (w6 (x4_0 + 1)) 0 ([]) 0) (apc (e12 : L44_0_e a1 x4_1 (w6 (x4_0 + 1)) 0 ([]) 0 = some (.ret, ⟨fr 171 g12 [(4, .ptr 1 0), (5, (i6 (-1)))], [yT0, .cells 25 [i6 0, vi .u8 0, (.p (.lst 3 (eTrees ([]))))], yT x12_0 x12_1, yT0, .cells 25 [i6 x4_1, vi .u8 0, .sl 2 x12_0 3 0 x12_2], yT0, .cells 25 [i6 x12_3, vi .u8 x12_4, (.p (.lst 3 (eTrees x12_5)))]]⟩)) apn))))
          | k2 x12_0 x12_1 x12_2 x12_3 =>
           obtain ⟨g12, e12⟩ := L44_0_run rF44_2 hF44_2 a1 x4_1 ((w6 (x4_0 + 1)), 0, [], 0) _ h12
           have q15 := (e12 : L44_0_e a1 x4_1 (w6 (x4_0 + 1)) 0 ([]) 0 = some ((.brk 2), ⟨fr 171 g12 [(0, vs a1), (1, i6 x12_0), (4, .ptr 1 0), (8, .ptr 4 0)], [yT0, .cells 25 [i6 0, vi .u8 0, .sl 0 0 3 0 0], yT x12_1 x12_2, yT0, .cells 25 [i6 x4_1, vi .u8 0, .sl 2 x12_1 3 0 x12_3]]⟩))
           have k16 := k14.a [(119, .d false), (2002, .l (.brk 2) ⟨fr 171 g12 [(0, vs a1), (1, i6 x12_0), (4, .ptr 1 0), (8, .ptr 4 0)], [yT0, .cells 25 [i6 0, vi .u8 0, .sl 0 0 3 0 0], yT x12_1 x12_2, yT0, .cells 25 [i6 x4_1, vi .u8 0, .sl 2 x12_1 3 0 x12_3]]⟩)] (av h11 (apc (L44_0_k a1 x4_1 (w6 (x4_0 + 1)) 0 ([]) 0) (apc q15 apn)))
           apply bi h <;> intro h13 h
           ·
            rw [← sj h]
            exact fq ([(166, .d true), (6000, .d true)] ++ kH k16) (k16.b (av h13 apn))
           ·
            apply bi h <;> intro h14 h
            ·
             rw [← sj h]
             exact fpo (v := (.tup [(.agg [i6 x4_1, vi .u8 0, .sl 2 x12_1 3 0 x12_3]), (i6 (w6 (x12_0 + 1)))])) (h' := [yT0, .cells 25 [i6 x4_1, vi .u8 0, .sl 2 x12_1 3 0 x12_3], yT x12_1 x12_2, yT0, .cells 25 [i6 x4_1, vi .u8 0, .sl 2 x12_1 3 0 x12_3]]) ([(166, .d false), (6000, .d true)] ++ kH k16) (k16.b (av h13 apn)) (purA_tup (purAs_cons (purA_agg (purAs_cons rfl (purAs_cons rfl (purAs_cons (purA_slr (e := cT) tr_map rfl h14) purAs_nil)))) (purAs_cons rfl purAs_nil))) (by kernel_rfl)
            ·
             cases h
     ·
      have k17 := k10.a [(92, .d false), (97, .d false)] (av h5 (av h6 apn))
      apply bi h <;> intro h7 h
      ·
       rw [← sj h]
       exact fq ([(107, .d true), (6000, .d true)] ++ kH k17) (k17.b (av h7 apn))
      ·
       apply bi h <;> intro h8 h
       ·
        rw [← sj h]
        exact fq ([(107, .d false), (113, .d true), (6000, .d true)] ++ kH k17) (k17.b (av h7 (av h8 apn)))
       ·
        have k18 := k17.a [(107, .d false), (113, .d false)] (av h7 (av h8 apn))
        apply bn h; intro x9 h9 h
        have q19 := ((ix_str h9) : ixS (vs a1) (i6 x4_0) = some (vi .u8 (x9.toNat : Int)))
        apply bi h <;> intro h10 h
        ·
         rw [← sj h]
         exact fq ([(118, .v (vi .u8 (x9.toNat : Int))), (119, .d true), (6000, .d true)] ++ kH k18) (k18.b (apc q19 (av h10 apn)))
        ·
         have k20 := k18.a [(118, .v (vi .u8 (x9.toNat : Int))), (119, .d false)] (apc q19 (av h10 apn))
         apply bn h; intro r11 h11 h
         cases r11 with
         | k0 x11_0 x11_1 x11_2 =>
          obtain ⟨g11, e11⟩ := L44_0_run rF44_2 hF44_2 a1 x4_1 ((w6 (x4_0 + 1)), 0, [], 0) _ h11
          rw [← sj h]
          exact fq ([(2002, .l .ret ⟨fr 171 g11 [(4, .ptr 1 0), (5, (i6 (-1)))], [yT0, .cells 25 [i6 0, vi .u8 0, (.p (.lst 3 (eTrees ([]))))], yT x11_0 x11_1, yT0, .cells 25 [i6 x4_1, vi .u8 0, .sl 2 x11_0 3 0 x11_2]]⟩), (6000, .d true)] ++ kH k20) (k20.b (apc (L44_0_k a1 x4_1 (w6 (x4_0 + 1)) 0 ([]) 0) (apc (e11 : L44_0_e a1 x4_1 (w6 (x4_0 + 1)) 0 ([]) 0 = some (.ret, ⟨fr 171 g11 [(4, .ptr 1 0), (5, (i6 (-1)))], [yT0, .cells 25 [i6 0, vi .u8 0, (.p (.lst 3 (eTrees ([]))))], yT x11_0 x11_1, yT0, .cells 25 [i6 x4_1, vi .u8 0, .sl 2 x11_0 3 0 x11_2]]⟩)) apn)))
         | k1 x11_0 x11_1 x11_2 x11_3 x11_4 x11_5 =>
          obtain ⟨g11, e11⟩ := L44_0_run rF44_2 hF44_2 a1 x4_1 ((w6 (x4_0 + 1)), 0, [], 0) _ h11
          rw [← sj h]
          exact fq ([(2002, .l .ret ⟨fr 171 g11 [(4, .ptr 1 0), (5, (i6 (-1)))], [yT0, .cells 25 [i6 0, vi .u8 0, (.p (.lst 3 (eTrees ([]))))], yT x11_0 x11_1, yT0, .cells 25 [i6 x4_1, vi .u8 0, .sl 2 x11_0 3 0 x11_2], yT0, .cells 25 [i6 x11_3, vi .u8 x11_4, (.p (.lst 3 (eTrees x11_5)))]]⟩), (6000, .d true)] ++ kH k20) (k20.b (apc (L44_0_k a1 x4_1 (w6 (x4_0 + 1)) 0 ([]) 0) (apc (e11 : L44_0_e a1 x4_1 (w6 (x4_0 + 1)) 0 ([]) 0 = some (.ret, ⟨fr 171 g11 [(4, .ptr 1 0), (5, (i6 (-1)))], [yT0, .cells 25 [i6 0, vi .u8 0, (.p (.lst 3 (eTrees ([]))))], yT x11_0 x11_1, yT0, .cells 25 [i6 x4_1, vi .u8 0, .sl 2 x11_0 3 0 x11_2], yT0, .cells 25 [i6 x11_3, vi .u8 x11_4, (.p (.lst 3 (eTrees x11_5)))]]⟩)) apn)))
         | k2 x11_0 x11_1 x11_2 x11_3 =>
          obtain ⟨g11, e11⟩ := L44_0_run rF44_2 hF44_2 a1 x4_1 ((w6 (x4_0 + 1)), 0, [], 0) _ h11
          have q21 := (e11 : L44_0_e a1 x4_1 (w6 (x4_0 + 1)) 0 ([]) 0 = some ((.brk 2), ⟨fr 171 g11 [(0, vs a1), (1, i6 x11_0), (4, .ptr 1 0), (8, .ptr 4 0)], [yT0, .cells 25 [i6 0, vi .u8 0, .sl 0 0 3 0 0], yT x11_1 x11_2, yT0, .cells 25 [i6 x4_1, vi .u8 0, .sl 2 x11_1 3 0 x11_3]]⟩))
          have k22 := k20.a [(2002, .l (.brk 2) ⟨fr 171 g11 [(0, vs a1), (1, i6 x11_0), (4, .ptr 1 0), (8, .ptr 4 0)], [yT0, .cells 25 [i6 0, vi .u8 0, .sl 0 0 3 0 0], yT x11_1 x11_2, yT0, .cells 25 [i6 x4_1, vi .u8 0, .sl 2 x11_1 3 0 x11_3]]⟩)] (apc (L44_0_k a1 x4_1 (w6 (x4_0 + 1)) 0 ([]) 0) (apc q21 apn))
          apply bi h <;> intro h12 h
          ·
           rw [← sj h]
           exact fq ([(166, .d true), (6000, .d true)] ++ kH k22) (k22.b (av h12 apn))
          ·
           apply bi h <;> intro h13 h
           ·
            rw [← sj h]
            exact fpo (v := (.tup [(.agg [i6 x4_1, vi .u8 0, .sl 2 x11_1 3 0 x11_3]), (i6 (w6 (x11_0 + 1)))])) (h' := [yT0, .cells 25 [i6 x4_1, vi .u8 0, .sl 2 x11_1 3 0 x11_3], yT x11_1 x11_2, yT0, .cells 25 [i6 x4_1, vi .u8 0, .sl 2 x11_1 3 0 x11_3]]) ([(166, .d false), (6000, .d true)] ++ kH k22) (k22.b (av h12 apn)) (purA_tup (purAs_cons (purA_agg (purAs_cons rfl (purAs_cons rfl (purAs_cons (purA_slr (e := cT) tr_map rfl h13) purAs_nil)))) (purAs_cons rfl purAs_nil))) (by kernel_rfl)
           ·
            cases h
 ·
  apply bn h; intro r2 h2 h
  cases r2 with
  | k0 x2_0 x2_1 =>
   obtain ⟨g2, e2⟩ := L44_1_2_run a1 a2 (a2, 0) _ h2
   have q23 := (e2 : L44_1_2_e a1 a2 a2 0 = some ((.brk 0), F44_2_d8 g2 a1 x2_0 x2_1 a2))
   have k24 := ka [(14, .d false), (2000, .l (.brk 0) (F44_2_d8 g2 a1 x2_0 x2_1 a2))] (av h1 (apc (L44_1_2_k a1 a2 a2 0) (apc q23 apn)))
   apply bi h <;> intro h3 h
   ·
    rw [← sj h]
    exact fq ([(92, .d true), (6000, .d true)] ++ kH k24) (k24.b (av h3 apn))
   ·
    apply bi h <;> intro h4 h
    ·
     have k25 := k24.a [(92, .d false), (97, .d true)] (av h3 (av h4 apn))
     apply bn h; intro x5 h5 h
     have q26 := ((ix_str h5) : ixS (vs a1) (i6 a2) = some (vi .u8 (x5.toNat : Int)))
     apply bi h <;> intro h6 h
     ·
      rw [← sj h]
      exact fq ([(101, .v (vi .u8 (x5.toNat : Int))), (102, .d true), (6000, .d true)] ++ kH k25) (k25.b (apc q26 (av h6 apn)))
     ·
      have k27 := k25.a [(101, .v (vi .u8 (x5.toNat : Int))), (102, .d false)] (apc q26 (av h6 apn))
      apply bi h <;> intro h7 h
      ·
       rw [← sj h]
       exact fq ([(107, .d true), (6000, .d true)] ++ kH k27) (k27.b (av h7 apn))
      ·
       apply bi h <;> intro h8 h
       ·
        rw [← sj h]
        exact fq ([(107, .d false), (113, .d true), (6000, .d true)] ++ kH k27) (k27.b (av h7 (av h8 apn)))
       ·
        have k28 := k27.a [(107, .d false), (113, .d false)] (av h7 (av h8 apn))
        apply bn h; intro x9 h9 h
        have q29 := ((ix_str h9) : ixS (vs a1) (i6 x2_0) = some (vi .u8 (x9.toNat : Int)))
        apply bi h <;> intro h10 h
        ·
         rw [← sj h]
         exact fq ([(118, .v (vi .u8 (x9.toNat : Int))), (119, .d true), (6000, .d true)] ++ kH k28) (k28.b (apc q29 (av h10 apn)))
        ·
         have k30 := k28.a [(118, .v (vi .u8 (x9.toNat : Int))), (119, .d false)] (apc q29 (av h10 apn))
         apply bn h; intro r11 h11 h
         cases r11 with
         | k0 x11_0 x11_1 x11_2 =>
          obtain ⟨g11, e11⟩ := L44_0_run rF44_2 hF44_2 a1 x2_1 ((w6 (x2_0 + 1)), 0, [], 0) _ h11
          rw [← sj h]
          exact fq ([(2002, .l .ret ⟨fr 171 g11 [(4, .ptr 1 0), (5, (i6 (-1)))], [yT0, .cells 25 [i6 0, vi .u8 0, (.p (.lst 3 (eTrees ([]))))], yT x11_0 x11_1, yT0, .cells 25 [i6 x2_1, vi .u8 0, .sl 2 x11_0 3 0 x11_2]]⟩), (6000, .d true)] ++ kH k30) (k30.b (apc (L44_0_k a1 x2_1 (w6 (x2_0 + 1)) 0 ([]) 0) (apc (e11 : L44_0_e a1 x2_1 (w6 (x2_0 + 1)) 0 ([]) 0 = some (.ret, ⟨fr 171 g11 [(4, .ptr 1 0), (5, (i6 (-1)))], [yT0, .cells 25 [i6 0, vi .u8 0, (.p (.lst 3 (eTrees ([]))))], yT x11_0 x11_1, yT0, .cells 25 [i6 x2_1, vi .u8 0, .sl 2 x11_0 3 0 x11_2]]⟩)) apn)))
         | k1 x11_0 x11_1 x11_2 x11_3 x11_4 x11_5 =>
          obtain ⟨g11, e11⟩ := L44_0_run rF44_2 hF44_2 a1 x2_1 ((w6 (x2_0 + 1)), 0, [], 0) _ h11
          rw [← sj h]
          exact fq ([(2002, .l .ret ⟨fr 171 g11 [(4, .ptr 1 0), (5, (i6 (-1)))], [yT0, .cells 25 [i6 0, vi .u8 0, (.p (.lst 3 (eTrees ([]))))], yT x11_0 x11_1, yT0, .cells 25 [i6 x2_1, vi .u8 0, .sl 2 x11_0 3 0 x11_2], yT0, .cells 25 [i6 x11_3, vi .u8 x11_4, (.p (.lst 3 (eTrees x11_5)))]]⟩), (6000, .d true)] ++ kH k30) (k30.b (apc (L44_0_k a1 x2_1 (w6 (x2_0 + 1)) 0 ([]) 0) (apc (e11 : L44_0_e a1 x2_1 (w6 (x2_0 + 1)) 0 ([]) 0 = some (.ret, ⟨fr 171 g11 [(4, .ptr 1 0), (5, (i6 (-1)))], [yT0, .cells 25 [i6 0, vi .u8 0, (.p (.lst 3 (eTrees ([]))))], yT x11_0 x11_1, yT0, .cells 25 [i6 x2_1, vi .u8 0, .sl 2 x11_0 3 0 x11_2], yT0, .cells 25 [i6 x11_3, vi .u8 x11_4, (.p (.lst 3 (eTrees x11_5)))]]⟩)) apn)))
         | k2 x11_0 x11_1 x11_2 x11_3 =>
          obtain ⟨g11, e11⟩ := L44_0_run rF44_2 hF44_2 a1 x2_1 ((w6 (x2_0 + 1)), 0, [], 0) _ h11
          have q31 := (e11 : L44_0_e a1 x2_1 (w6 (x2_0 + 1)) 0 ([]) 0 = some ((.brk 2), ⟨fr 171 g11 [(0, vs a1), (1, i6 x11_0), (4, .ptr 1 0), (8, .ptr 4 0)], [yT0, .cells 25 [i6 0, vi .u8 0, .sl 0 0 3 0 0], yT x11_1 x11_2, yT0, .cells 25 [i6 x2_1, vi .u8 0, .sl 2 x11_1 3 0 x11_3]]⟩))
          have k32 := k30.a [(2002, .l (.brk 2) ⟨fr 171 g11 [(0, vs a1), (1, i6 x11_0), (4, .ptr 1 0), (8, .ptr 4 0)], [yT0, .cells 25 [i6 0, vi .u8 0, .sl 0 0 3 0 0], yT x11_1 x11_2, yT0, .cells 25 [i6 x2_1, vi .u8 0, .sl 2 x11_1 3 0 x11_3]]⟩)] (apc (L44_0_k a1 x2_1 (w6 (x2_0 + 1)) 0 ([]) 0) (apc q31 apn))
          apply bi h <;> intro h12 h
          ·
           rw [← sj h]
           exact fq ([(166, .d true), (6000, .d true)] ++ kH k32) (k32.b (av h12 apn))
          ·
           apply bi h <;> intro h13 h
           ·
            rw [← sj h]
            exact fpo (v := (.tup [(.agg [i6 x2_1, vi .u8 0, .sl 2 x11_1 3 0 x11_3]), (i6 (w6 (x11_0 + 1)))])) (h' := [yT0, .cells 25 [i6 x2_1, vi .u8 0, .sl 2 x11_1 3 0 x11_3], yT x11_1 x11_2, yT0, .cells 25 [i6 x2_1, vi .u8 0, .sl 2 x11_1 3 0 x11_3]]) ([(166, .d false), (6000, .d true)] ++ kH k32) (k32.b (av h12 apn)) (purA_tup (purAs_cons (purA_agg (purAs_cons rfl (purAs_cons rfl (purAs_cons (purA_slr (e := cT) tr_map rfl h13) purAs_nil)))) (purAs_cons rfl purAs_nil))) (by kernel_rfl)
           ·
            cases h
    ·
     have k33 := k24.a [(92, .d false), (97, .d false)] (av h3 (av h4 apn))
     apply bi h <;> intro h5 h
     ·
      rw [← sj h]
      exact fq ([(107, .d true), (6000, .d true)] ++ kH k33) (k33.b (av h5 apn))
     ·
      apply bi h <;> intro h6 h
      ·
       rw [← sj h]
       exact fq ([(107, .d false), (113, .d true), (6000, .d true)] ++ kH k33) (k33.b (av h5 (av h6 apn)))
      ·
       have k34 := k33.a [(107, .d false), (113, .d false)] (av h5 (av h6 apn))
       apply bn h; intro x7 h7 h
       have q35 := ((ix_str h7) : ixS (vs a1) (i6 x2_0) = some (vi .u8 (x7.toNat : Int)))
       apply bi h <;> intro h8 h
       ·
        rw [← sj h]
        exact fq ([(118, .v (vi .u8 (x7.toNat : Int))), (119, .d true), (6000, .d true)] ++ kH k34) (k34.b (apc q35 (av h8 apn)))
       ·
        have k36 := k34.a [(118, .v (vi .u8 (x7.toNat : Int))), (119, .d false)] (apc q35 (av h8 apn))
        apply bn h; intro r9 h9 h
        cases r9 with
        | k0 x9_0 x9_1 x9_2 =>
         obtain ⟨g9, e9⟩ := L44_0_run rF44_2 hF44_2 a1 x2_1 ((w6 (x2_0 + 1)), 0, [], 0) _ h9
         rw [← sj h]
         exact fq ([(2002, .l .ret ⟨fr 171 g9 [(4, .ptr 1 0), (5, (i6 (-1)))], [yT0, .cells 25 [i6 0, vi .u8 0, (.p (.lst 3 (eTrees ([]))))], yT x9_0 x9_1, yT0, .cells 25 [i6 x2_1, vi .u8 0, .sl 2 x9_0 3 0 x9_2]]⟩), (6000, .d true)] ++ kH k36) (k36.b (apc (L44_0_k a1 x2_1 (w6 (x2_0 + 1)) 0 ([]) 0) (apc (e9 : L44_0_e a1 x2_1 (w6 (x2_0 + 1)) 0 ([]) 0 = some (.ret, ⟨fr 171 g9 [(4, .ptr 1 0), (5, (i6 (-1)))], [yT0, .cells 25 [i6 0, vi .u8 0, (.p (.lst 3 (eTrees ([]))))], yT x9_0 x9_1, yT0, .cells 25 [i6 x2_1, vi .u8 0, .sl 2 x9_0 3 0 x9_2]]⟩)) apn)))
        | k1 x9_0 x9_1 x9_2 x9_3 x9_4 x9_5 =>
         obtain ⟨g9, e9⟩ := L44_0_run rF44_2 hF44_2 a1 x2_1 ((w6 (x2_0 + 1)), 0, [], 0) _ h9
         rw [← sj h]
         exact fq ([(2002, .l .ret ⟨fr 171 g9 [(4, .ptr 1 0), (5, (i6 (-1)))], [yT0, .cells 25 [i6 0, vi .u8 0, (.p (.lst 3 (eTrees ([]))))], yT x9_0 x9_1, yT0, .cells 25 [i6 x2_1, vi .u8 0, .sl 2 x9_0 3 0 x9_2], yT0, .cells 25 [i6 x9_3, vi .u8 x9_4, (.p (.lst 3 (eTrees x9_5)))]]⟩), (6000, .d true)] ++ kH k36) (k36.b (apc (L44_0_k a1 x2_1 (w6 (x2_0 + 1)) 0 ([]) 0) (apc (e9 : L44_0_e a1 x2_1 (w6 (x2_0 + 1)) 0 ([]) 0 = some (.ret, ⟨fr 171 g9 [(4, .ptr 1 0), (5, (i6 (-1)))], [yT0, .cells 25 [i6 0, vi .u8 0, (.p (.lst 3 (eTrees ([]))))], yT x9_0 x9_1, yT0, .cells 25 [i6 x2_1, vi .u8 0, .sl 2 x9_0 3 0 x9_2], yT0, .cells 25 [i6 x9_3, vi .u8 x9_4, (.p (.lst 3 (eTrees x9_5)))]]⟩)) apn)))
        | k2 x9_0 x9_1 x9_2 x9_3 =>
         obtain ⟨g9, e9⟩ := L44_0_run rF44_2 hF44_2 a1 x2_1 ((w6 (x2_0 + 1)), 0, [], 0) _ h9
         have q37 := (e9 : L44_0_e a1 x2_1 (w6 (x2_0 + 1)) 0 ([]) 0 = some ((.brk 2), ⟨fr 171 g9 [(0, vs a1), (1, i6 x9_0), (4, .ptr 1 0), (8, .ptr 4 0)], [yT0, .cells 25 [i6 0, vi .u8 0, .sl 0 0 3 0 0], yT x9_1 x9_2, yT0, .cells 25 [i6 x2_1, vi .u8 0, .sl 2 x9_1 3 0 x9_3]]⟩))
         have k38 := k36.a [(2002, .l (.brk 2) ⟨fr 171 g9 [(0, vs a1), (1, i6 x9_0), (4, .ptr 1 0), (8, .ptr 4 0)], [yT0, .cells 25 [i6 0, vi .u8 0, .sl 0 0 3 0 0], yT x9_1 x9_2, yT0, .cells 25 [i6 x2_1, vi .u8 0, .sl 2 x9_1 3 0 x9_3]]⟩)] (apc (L44_0_k a1 x2_1 (w6 (x2_0 + 1)) 0 ([]) 0) (apc q37 apn))
         apply bi h <;> intro h10 h
         ·
          rw [← sj h]
          exact fq ([(166, .d true), (6000, .d true)] ++ kH k38) (k38.b (av h10 apn))
         ·
          apply bi h <;> intro h11 h
          ·
           rw [← sj h]
           exact fpo (v := (.tup [(.agg [i6 x2_1, vi .u8 0, .sl 2 x9_1 3 0 x9_3]), (i6 (w6 (x9_0 + 1)))])) (h' := [yT0, .cells 25 [i6 x2_1, vi .u8 0, .sl 2 x9_1 3 0 x9_3], yT x9_1 x9_2, yT0, .cells 25 [i6 x2_1, vi .u8 0, .sl 2 x9_1 3 0 x9_3]]) ([(166, .d false), (6000, .d true)] ++ kH k38) (k38.b (av h10 apn)) (purA_tup (purAs_cons (purA_agg (purAs_cons rfl (purAs_cons rfl (purAs_cons (purA_slr (e := cT) tr_map rfl h11) purAs_nil)))) (purAs_cons rfl purAs_nil))) (by kernel_rfl)
          ·
           cases h
def F44_2 : Nat → T_F44_2
  | 0 => fun _ _ => none
  | Nf + 1 => F44_2_b (F44_2 Nf)
theorem F44_2_ok (Nf : Nat) : H_F44_2 (F44_2 Nf) := by
  induction Nf with
  | zero => intro a1 a2 r h; have h : (none : Option R_F44_2) = some r := h; cases h
  | succ Nf ih => intro a1 a2 r h; exact F44_2_bok (F44_2 Nf) ih a1 a2 h
def F45_2_v (a1 : TreeD) (a2 : Int) (x0 : Bool) : AV := (vb x0)
abbrev T_F45_2 := TreeD → Int → Option Bool
abbrev H_F45_2 (f : T_F45_2) : Prop := ∀ (a1 : TreeD) (a2 : Int) {r : Bool}, f a1 a2 = some r → PR1 pg 45 [(.agg ((cT a1).map .p)), i6 a2] (F45_2_v a1 a2 r)
inductive E_L45_0_2 where
  | k0
  | k1
def L45_0_2 (rF45_2 : T_F45_2) (a1 : Int) (a2 : TreeD) (v1 : Int) : Option (E_L45_0_2 ⊕ (Int)) :=
  (bif (decide (v1 < (a2.kids.length : Int))) then ((getI a2.kids v1).bind fun x2 => ((rF45_2 x2 (IntKind.wrap .i64 (a1 - 1))).bind fun x3 => (bif x3 then (some (.inl (.k0))) else (some (.inr ((IntKind.wrap .i64 (v1 + 1)))))))) else (some (.inl (.k1))))
def L45_0_2_s (a1 : Int) (a2 : TreeD) (v1 : Int) : St := ⟨fr 23 ug [(1, i6 a1), (2, .ptr 0 0), (5, i6 v1)], [.cells 25 ((cT a2).map .p)]⟩
theorem L45_0_2_k (a1 : Int) (a2 : TreeD) (v1 : Int) : okT 1 (L45_0_2_s a1 a2 v1).h = true := (okT_of rfl (ac rfl))
abbrev L45_0_2_e (a1 : Int) (a2 : TreeD) (v1 : Int) := evH pg 1 [1, 2, 5] ir45_l0 (L45_0_2_s a1 a2 v1)
def L45_0_2_x (a1 : Int) (a2 : TreeD) (e : E_L45_0_2) (r : Option (Out × St)) : Prop := match e with | .k0 => ∃ g y, r = some (.ret, ⟨fr 23 g [(4, vb true)], y⟩) | .k1 => ∃ g, r = some ((.brk 0), ⟨fr 23 g [(1, i6 a1)], [.cells 25 ((cT a2).map .p)]⟩)
theorem L45_0_2_ok (rF45_2 : T_F45_2) (hF45_2 : H_F45_2 rF45_2) (a1 : Int) (a2 : TreeD) (v1 : Int) {r : E_L45_0_2 ⊕ (Int)} (h : L45_0_2 rF45_2 a1 a2 v1 = some r) : OkR (fun e => L45_0_2_x a1 a2 e (L45_0_2_e a1 a2 v1)) (fun s => L45_0_2_e a1 a2 v1 = L45_0_2_e a1 a2 s) r := by
 unfold L45_0_2 at h
 have q0 := ((lgr tr_map) : lnA (.p (.lst 3 (eTrees a2.kids))) = some (i6 (a2.kids.length : Int)))
 apply bi h <;> intro h1 h
 ·
  have k1 := ka [(11, .v (i6 (a2.kids.length : Int))), (12, .d true)] (apc q0 (av h1 apn))
  apply bn h; intro x2 h2 h
  have q2 := ((igr tr_map h2) : idxA 3 (.p (.lst 3 (eTrees a2.kids))) (i6 v1) = some (.ro (cT x2)))
  apply bn h; intro x3 h3 h
  apply bi h <;> intro h4 h
  ·
   rw [← sj h]
   exact xy ([(18, .v (.ro (cT x2))), (22, .v (vb true)), (6000, .d true)] ++ kH k1) (k1.b (apc q2 (apc ((((hF45_2 x2 (w6 (a1 - 1)) h3).cp rfl _).trans (congrArg (fun z => some (vb z)) h4)) : CP pg 45 [(.agg ((cT x2).map .p)), (i6 (w6 (a1 - 1)))] [.cells 25 ((cT a2).map .p)] = some (vb true)) apn)))
  ·
   rw [← sj h]
   exact rn ([(18, .v (.ro (cT x2))), (22, .v (vb false)), (6000, .d true)] ++ kH k1) (k1.b (apc q2 (apc ((((hF45_2 x2 (w6 (a1 - 1)) h3).cp rfl _).trans (congrArg (fun z => some (vb z)) h4)) : CP pg 45 [(.agg ((cT x2).map .p)), (i6 (w6 (a1 - 1)))] [.cells 25 ((cT a2).map .p)] = some (vb false)) (apc (L45_0_2_k a1 a2 (w6 (v1 + 1))) apn))))
 ·
  rw [← sj h]
  exact xb [(11, .v (i6 (a2.kids.length : Int))), (12, .d false), (6000, .d true)] (apc q0 (av h1 apn))
theorem L45_0_2_run (rF45_2 : T_F45_2) (hF45_2 : H_F45_2 rF45_2) (a1 : Int) (a2 : TreeD) (s0 : Int) (e : E_L45_0_2) (h : runL (fun s => L45_0_2 rF45_2 a1 a2 s) s0 = some e) : L45_0_2_x a1 a2 e (L45_0_2_e a1 a2 s0) := by
  have q := @loop_sound' (Int) E_L45_0_2 (fun s => L45_0_2 rF45_2 a1 a2 s) (fun s => L45_0_2_e a1 a2 s) (L45_0_2_x a1 a2) (fun s r h => L45_0_2_ok rF45_2 hF45_2 a1 a2 s h) s0 e h
  exact q
def F45_2_b (rF45_2 : T_F45_2) (a1 : TreeD) (a2 : Int) : Option Bool :=
  (bif (decide (a2 < 1)) then (some true) else ((runL (fun s => L45_0_2 rF45_2 a2 a1 s) 0).bind fun r2 => match r2 with | .k0 => (some true) | .k1 => (some false)))
theorem F45_2_bok (rF45_2 : T_F45_2) (hF45_2 : H_F45_2 rF45_2) (a1 : TreeD) (a2 : Int) {r : Bool} (h : F45_2_b rF45_2 a1 a2 = some r) : PR1 pg 45 [(.agg ((cT a1).map .p)), i6 a2] (F45_2_v a1 a2 r) := by
 unfold F45_2_b at h
 apply bi h <;> intro h1 h
 ·
  rw [← sj h]
  exact fq [(7, .d true)] (av h1 apn)
 ·
  apply bn h; intro r2 h2 h
  cases r2 with
  | k0 =>
   obtain ⟨g2, y2, e2⟩ := L45_0_2_run rF45_2 hF45_2 a2 a1 0 _ h2
   rw [← sj h]
   exact fq [(7, .d false), (2000, .l .ret ⟨fr 23 g2 [(4, vb true)], y2⟩), (6000, .d true)] (av h1 (apc (L45_0_2_k a2 a1 0) (apc (e2 : L45_0_2_e a2 a1 0 = some (.ret, ⟨fr 23 g2 [(4, vb true)], y2⟩)) apn)))
  | k1 =>
   obtain ⟨g2, e2⟩ := L45_0_2_run rF45_2 hF45_2 a2 a1 0 _ h2
   rw [← sj h]
   exact fq [(7, .d false), (2000, .l (.brk 0) ⟨fr 23 g2 [(1, i6 a2)], [.cells 25 ((cT a1).map .p)]⟩), (6000, .d true)] (av h1 (apc (L45_0_2_k a2 a1 0) (apc (e2 : L45_0_2_e a2 a1 0 = some ((.brk 0), ⟨fr 23 g2 [(1, i6 a2)], [.cells 25 ((cT a1).map .p)]⟩)) apn)))
def F45_2 : Nat → T_F45_2
  | 0 => fun _ _ => none
  | Nf + 1 => F45_2_b (F45_2 Nf)
theorem F45_2_ok (Nf : Nat) : H_F45_2 (F45_2 Nf) := by
  induction Nf with
  | zero => intro a1 a2 r h; have h : (none : Option Bool) = some r := h; cases h
  | succ Nf ih => intro a1 a2 r h; exact F45_2_bok (F45_2 Nf) ih a1 a2 h
inductive R_F13 where
  | k0 (x0 x1 : Int) (x2 : List TreeD) (x3 : Int)
def F13_v (a1 : ByteArray) (r : R_F13) : AV := match r with | .k0 x0 x1 x2 x3 => (.tup [(.agg [i6 x0, vi .u8 x1, (.p (.lst 3 (eTrees x2)))]), i6 x3])
def F13 (Nf : Nat) (a1 : ByteArray) : Option R_F13 :=
  (bif (decide ((a1.size : Int) > 1048576)) then (some (.k0 0 0 ([]) 3)) else ((F44_2 Nf a1 0).bind fun r2 => match r2 with | .k0 x2_0 x2_1 x2_2 x2_3 => (bif (x2_3 != (a1.size : Int)) then (some (.k0 0 0 ([]) 240)) else ((F45_2 Nf (TreeD.mk x2_0 x2_1 x2_2) 16384).bind fun x4 => (bif x4 then (some (.k0 0 0 ([]) 3)) else (some (.k0 x2_0 x2_1 x2_2 0)))))))
abbrev F13_d0 (x2_0 x2_1 : Int) (x2_2 : List TreeD) : List AB := [yT0, .cells 25 [i6 0, vi .u8 0, .sl 0 0 3 0 0], yT0, .cells 25 [i6 x2_0, vi .u8 x2_1, (.p (.lst 3 (eTrees x2_2)))]]
theorem F13_ok (Nf : Nat) (a1 : ByteArray) {r : R_F13} (h : F13 Nf a1 = some r) : PR1 pg 13 [vs a1] (F13_v a1 r) := by
 unfold F13 at h
 apply bi h <;> intro h1 h
 ·
  rw [← sj h]
  exact fq [(8, .d true)] (av h1 apn)
 ·
  apply bn h; intro r2 h2 h
  cases r2 with
  | k0 x2_0 x2_1 x2_2 x2_3 =>
   have q0 := (((F44_2_ok Nf a1 0 h2).cp rfl _) : CP pg 44 [vs a1, i6 0] [yT0, .cells 25 [i6 0, vi .u8 0, .sl 0 0 3 0 0]] = some (.tup [(.agg [i6 x2_0, vi .u8 x2_1, (.p (.lst 3 (eTrees x2_2)))]), i6 x2_3]))
   have k1 := ka [(8, .d false), (12, .v (.tup [(.agg [i6 x2_0, vi .u8 x2_1, (.p (.lst 3 (eTrees x2_2)))]), i6 x2_3]))] (av h1 (apc q0 apn))
   apply bi h <;> intro h3 h
   ·
    rw [← sj h]
    exact fq ([(18, .d true)] ++ kH k1) (k1.b (av h3 apn))
   ·
    apply bn h; intro x4 h4 h
    apply bi h <;> intro h5 h
    ·
     rw [← sj h]
     exact fq ([(18, .d false), (21, .v (vb true))] ++ kH k1) (k1.b (av h3 (apc ((((F45_2_ok Nf (TreeD.mk x2_0 x2_1 x2_2) 16384 h4).cp rfl _).trans (congrArg (fun z => some (vb z)) h5)) : CP pg 45 [(.agg [i6 x2_0, vi .u8 x2_1, (.p (.lst 3 (eTrees x2_2)))]), i6 16384] (F13_d0 x2_0 x2_1 x2_2) = some (vb true)) apn)))
    ·
     rw [← sj h]
     exact fq ([(18, .d false), (21, .v (vb false))] ++ kH k1) (k1.b (av h3 (apc ((((F45_2_ok Nf (TreeD.mk x2_0 x2_1 x2_2) 16384 h4).cp rfl _).trans (congrArg (fun z => some (vb z)) h5)) : CP pg 45 [(.agg [i6 x2_0, vi .u8 x2_1, (.p (.lst 3 (eTrees x2_2)))]), i6 16384] (F13_d0 x2_0 x2_1 x2_2) = some (vb false)) apn)))
def F14_v (a1 a2 : TreeD) (x0 : Bool) : AV := (vb x0)
abbrev T_F14 := TreeD → TreeD → Option Bool
abbrev H_F14 (f : T_F14) : Prop := ∀ (a1 a2 : TreeD) {r : Bool}, f a1 a2 = some r → PR1 pg 14 [(.agg ((cT a1).map .p)), (.agg ((cT a2).map .p))] (F14_v a1 a2 r)
inductive E_L14_0 where
  | k0
  | k1
def L14_0 (rF14 : T_F14) (a1 a2 : TreeD) (v1 : Int) : Option (E_L14_0 ⊕ (Int)) :=
  (bif (decide (v1 < (a1.kids.length : Int))) then ((getI a1.kids v1).bind fun x2 => ((getI a2.kids v1).bind fun x3 => ((rF14 x2 x3).bind fun x4 => (bif x4 then (some (.inr ((IntKind.wrap .i64 (v1 + 1))))) else (some (.inl (.k0))))))) else (some (.inl (.k1))))
def L14_0_s (a1 a2 : TreeD) (v1 : Int) : St := ⟨fr 46 ug [(2, .ptr 0 0), (3, .ptr 1 0), (5, i6 v1)], [.cells 25 ((cT a1).map .p), .cells 25 ((cT a2).map .p)]⟩
theorem L14_0_k (a1 a2 : TreeD) (v1 : Int) : okT 2 (L14_0_s a1 a2 v1).h = true := (okT_of rfl (ac (ac rfl)))
abbrev L14_0_e (a1 a2 : TreeD) (v1 : Int) := evH pg 2 [2, 3, 5] ir14_l0 (L14_0_s a1 a2 v1)
def L14_0_x (a1 a2 : TreeD) (e : E_L14_0) (r : Option (Out × St)) : Prop := match e with | .k0 => ∃ g y, r = some (.ret, ⟨fr 46 g [(4, vb false)], y⟩) | .k1 => ∃ g, r = some ((.brk 0), ⟨fr 46 g [(2, .ptr 0 0), (3, .ptr 1 0)], [.cells 25 ((cT a1).map .p), .cells 25 ((cT a2).map .p)]⟩)
theorem L14_0_ok (rF14 : T_F14) (hF14 : H_F14 rF14) (a1 a2 : TreeD) (v1 : Int) {r : E_L14_0 ⊕ (Int)} (h : L14_0 rF14 a1 a2 v1 = some r) : OkR (fun e => L14_0_x a1 a2 e (L14_0_e a1 a2 v1)) (fun s => L14_0_e a1 a2 v1 = L14_0_e a1 a2 s) r := by
 unfold L14_0 at h
 have q0 := ((lgr tr_map) : lnA (.p (.lst 3 (eTrees a1.kids))) = some (i6 (a1.kids.length : Int)))
 apply bi h <;> intro h1 h
 ·
  have k1 := ka [(30, .v (i6 (a1.kids.length : Int))), (31, .d true)] (apc q0 (av h1 apn))
  apply bn h; intro x2 h2 h
  have q2 := ((igr tr_map h2) : idxA 3 (.p (.lst 3 (eTrees a1.kids))) (i6 v1) = some (.ro (cT x2)))
  apply bn h; intro x3 h3 h
  have q3 := ((igr tr_map h3) : idxA 3 (.p (.lst 3 (eTrees a2.kids))) (i6 v1) = some (.ro (cT x3)))
  have k4 := k1.a [(37, .v (.ro (cT x2))), (42, .v (.ro (cT x3)))] (apc q2 (apc q3 apn))
  apply bn h; intro x4 h4 h
  apply bi h <;> intro h5 h
  ·
   rw [← sj h]
   exact rn ([(44, .v (vb true)), (6000, .d true)] ++ kH k4) (k4.b (apc ((((hF14 x2 x3 h4).cp rfl _).trans (congrArg (fun z => some (vb z)) h5)) : CP pg 14 [(.agg ((cT x2).map .p)), (.agg ((cT x3).map .p))] [.cells 25 ((cT a1).map .p), .cells 25 ((cT a2).map .p)] = some (vb true)) (apc (L14_0_k a1 a2 (w6 (v1 + 1))) apn)))
  ·
   rw [← sj h]
   exact xy ([(44, .v (vb false)), (6000, .d true)] ++ kH k4) (k4.b (apc ((((hF14 x2 x3 h4).cp rfl _).trans (congrArg (fun z => some (vb z)) h5)) : CP pg 14 [(.agg ((cT x2).map .p)), (.agg ((cT x3).map .p))] [.cells 25 ((cT a1).map .p), .cells 25 ((cT a2).map .p)] = some (vb false)) apn))
 ·
  rw [← sj h]
  exact xb [(30, .v (i6 (a1.kids.length : Int))), (31, .d false), (6000, .d true)] (apc q0 (av h1 apn))
theorem L14_0_run (rF14 : T_F14) (hF14 : H_F14 rF14) (a1 a2 : TreeD) (s0 : Int) (e : E_L14_0) (h : runL (fun s => L14_0 rF14 a1 a2 s) s0 = some e) : L14_0_x a1 a2 e (L14_0_e a1 a2 s0) := by
  have q := @loop_sound' (Int) E_L14_0 (fun s => L14_0 rF14 a1 a2 s) (fun s => L14_0_e a1 a2 s) (L14_0_x a1 a2) (fun s r h => L14_0_ok rF14 hF14 a1 a2 s h) s0 e h
  exact q
def F14_b (rF14 : T_F14) (a1 a2 : TreeD) : Option Bool :=
  (bif (a1.prod != a2.prod) then (some false) else (bif (a1.byte != a2.byte) then (some false) else (bif ((a1.kids.length : Int) != (a2.kids.length : Int)) then (some false) else ((runL (fun s => L14_0 rF14 a1 a2 s) 0).bind fun r4 => match r4 with | .k0 => (some false) | .k1 => (some true)))))
abbrev F14_d0 (g4 : Nat → AV) (a1 a2 : TreeD) : St := ⟨fr 46 g4 [(2, .ptr 0 0), (3, .ptr 1 0)], [.cells 25 ((cT a1).map .p), .cells 25 ((cT a2).map .p)]⟩
theorem F14_bok (rF14 : T_F14) (hF14 : H_F14 rF14) (a1 a2 : TreeD) {r : Bool} (h : F14_b rF14 a1 a2 = some r) : PR1 pg 14 [(.agg ((cT a1).map .p)), (.agg ((cT a2).map .p))] (F14_v a1 a2 r) := by
 unfold F14_b at h
 have q0 := ((lgr tr_map) : lnA (.p (.lst 3 (eTrees a1.kids))) = some (i6 (a1.kids.length : Int)))
 have q1 := ((lgr tr_map) : lnA (.p (.lst 3 (eTrees a2.kids))) = some (i6 (a2.kids.length : Int)))
 apply bi h <;> intro h1 h
 ·
  rw [← sj h]
  exact fq [(10, .d true)] (av h1 apn)
 ·
  apply bi h <;> intro h2 h
  ·
   rw [← sj h]
   exact fq [(10, .d false), (16, .d true)] (av h1 (av h2 apn))
  ·
   have k2 := ka [(10, .d false), (16, .d false), (21, .v (i6 (a1.kids.length : Int))), (24, .v (i6 (a2.kids.length : Int)))] (av h1 (av h2 (apc q0 (apc q1 apn))))
   apply bi h <;> intro h3 h
   ·
    rw [← sj h]
    exact fq ([(25, .d true)] ++ kH k2) (k2.b (av h3 apn))
   ·
    apply bn h; intro r4 h4 h
    cases r4 with
    | k0 =>
     obtain ⟨g4, y4, e4⟩ := L14_0_run rF14 hF14 a1 a2 0 _ h4
     rw [← sj h]
     exact fq ([(25, .d false), (2000, .l .ret ⟨fr 46 g4 [(4, vb false)], y4⟩), (6000, .d true)] ++ kH k2) (k2.b (av h3 (apc (L14_0_k a1 a2 0) (apc (e4 : L14_0_e a1 a2 0 = some (.ret, ⟨fr 46 g4 [(4, vb false)], y4⟩)) apn))))
    | k1 =>
     obtain ⟨g4, e4⟩ := L14_0_run rF14 hF14 a1 a2 0 _ h4
     rw [← sj h]
     exact fq ([(25, .d false), (2000, .l (.brk 0) (F14_d0 g4 a1 a2)), (6000, .d true)] ++ kH k2) (k2.b (av h3 (apc (L14_0_k a1 a2 0) (apc (e4 : L14_0_e a1 a2 0 = some ((.brk 0), F14_d0 g4 a1 a2)) apn))))
def F14 : Nat → T_F14
  | 0 => fun _ _ => none
  | Nf + 1 => F14_b (F14 Nf)
theorem F14_ok (Nf : Nat) : H_F14 (F14 Nf) := by
  induction Nf with
  | zero => intro a1 a2 r h; have h : (none : Option Bool) = some r := h; cases h
  | succ Nf ih => intro a1 a2 r h; exact F14_bok (F14 Nf) ih a1 a2 h
def F15_v (a1 : Int) (x0 : Int) : AV := (i6 x0)
def F15 (a1 : Int) : Option Int :=
  (some a1)
theorem F15_ok (a1 : Int) {r : Int} (h : F15 a1 = some r) : PR1 pg 15 [i6 a1] (F15_v a1 r) := by
 unfold F15 at h
 rw [← sj h]
 exact fq [] apn
def F3_v (a1 : ByteArray) (x0 : Bool) : AV := (vb x0)
def F3 (Nf : Nat) (a1 : ByteArray) : Option Bool :=
  (bif (decide ((a1.size : Int) > 5000)) then ((F11).bind fun x2 => (some x2)) else ((F12 a1).bind fun r2 => match r2 with | .k0 x2_0 x2_1 => ((F13 Nf a1).bind fun r3 => match r3 with | .k0 x3_0 x3_1 x3_2 x3_3 => ((F14 Nf (TreeD.mk (x2_0).prod (x2_0).byte (x2_0).kids) (TreeD.mk x3_0 x3_1 x3_2)).bind fun x4 => (bif x4 then ((F15 x2_1).bind fun x6 => (bif (x6 == x3_3) then ((F11).bind fun x8 => (some x8)) else (some false))) else (some false))))))
abbrev F3_d0 (x2_0 : TreeD) (x3_0 x3_1 : Int) (x3_2 : List TreeD) : List AB := [yT0, .cells 25 [(i6 (x2_0).prod), (vi .u8 (x2_0).byte), (.p (.lst 3 (eTrees ((x2_0).kids))))], yT0, .cells 25 [i6 x3_0, vi .u8 x3_1, (.p (.lst 3 (eTrees x3_2)))]]
theorem F3_ok (Nf : Nat) (a1 : ByteArray) {r : Bool} (h : F3 Nf a1 = some r) : PR1 pg 3 [vs a1] (F3_v a1 r) := by
 unfold F3 at h
 apply bi h <;> intro h1 h
 ·
  apply bn h; intro x2 h2 h
  rw [← sj h]
  exact fq [(9, .d true), (10, .v (vb x2))] (av h1 (apc (((F11_ok  h2).cp rfl _) : CP pg 11 [] [] = some (vb x2)) apn))
 ·
  apply bn h; intro r2 h2 h
  cases r2 with
  | k0 x2_0 x2_1 =>
   have q0 := (((F12_ok a1 h2).cp rfl _) : CP pg 12 [vs a1] [] = some (.tup [(.agg [(i6 (x2_0).prod), (vi .u8 (x2_0).byte), (.p (.lst 3 (eTrees ((x2_0).kids))))]), i6 x2_1]))
   have k1 := ka [(9, .d false), (13, .v (.tup [(.agg [(i6 (x2_0).prod), (vi .u8 (x2_0).byte), (.p (.lst 3 (eTrees ((x2_0).kids))))]), i6 x2_1]))] (av h1 (apc q0 apn))
   apply bn h; intro r3 h3 h
   cases r3 with
   | k0 x3_0 x3_1 x3_2 x3_3 =>
    have q2 := (((F13_ok Nf a1 h3).cp rfl _) : CP pg 13 [vs a1] [yT0, .cells 25 [(i6 (x2_0).prod), (vi .u8 (x2_0).byte), (.p (.lst 3 (eTrees ((x2_0).kids))))]] = some (.tup [(.agg [i6 x3_0, vi .u8 x3_1, (.p (.lst 3 (eTrees x3_2)))]), i6 x3_3]))
    have k3 := k1.a [(18, .v (.tup [(.agg [i6 x3_0, vi .u8 x3_1, (.p (.lst 3 (eTrees x3_2)))]), i6 x3_3]))] (apc q2 apn)
    apply bn h; intro x4 h4 h
    apply bi h <;> intro h5 h
    ·
     have q4 := ((((F14_ok Nf (TreeD.mk (x2_0).prod (x2_0).byte (x2_0).kids) (TreeD.mk x3_0 x3_1 x3_2) h4).cp rfl _).trans (congrArg (fun z => some (vb z)) h5)) : CP pg 14 [(.agg [(i6 (x2_0).prod), (vi .u8 (x2_0).byte), (.p (.lst 3 (eTrees ((x2_0).kids))))]), (.agg [i6 x3_0, vi .u8 x3_1, (.p (.lst 3 (eTrees x3_2)))])] (F3_d0 x2_0 x3_0 x3_1 x3_2) = some (vb true))
     apply bn h; intro x6 h6 h
     have q5 := (((F15_ok x2_1 h6).cp rfl _) : CP pg 15 [i6 x2_1] (F3_d0 x2_0 x3_0 x3_1 x3_2) = some (i6 x6))
     have k6 := k3.a [(23, .v (vb true)), (26, .v (i6 x6))] (apc q4 (apc q5 apn))
     apply bi h <;> intro h7 h
     ·
      apply bn h; intro x8 h8 h
      rw [← sj h]
      exact fq ([(28, .d true), (31, .v (vb x8))] ++ kH k6) (k6.b (av h7 (apc (((F11_ok  h8).cp rfl _) : CP pg 11 [] (F3_d0 x2_0 x3_0 x3_1 x3_2) = some (vb x8)) apn)))
     ·
      rw [← sj h]
      exact fq ([(28, .d false)] ++ kH k6) (k6.b (av h7 apn))
    ·
     rw [← sj h]
     exact fq ([(23, .v (vb false))] ++ kH k3) (k3.b (apc ((((F14_ok Nf (TreeD.mk (x2_0).prod (x2_0).byte (x2_0).kids) (TreeD.mk x3_0 x3_1 x3_2) h4).cp rfl _).trans (congrArg (fun z => some (vb z)) h5)) : CP pg 14 [(.agg [(i6 (x2_0).prod), (vi .u8 (x2_0).byte), (.p (.lst 3 (eTrees ((x2_0).kids))))]), (.agg [i6 x3_0, vi .u8 x3_1, (.p (.lst 3 (eTrees x3_2)))])] (F3_d0 x2_0 x3_0 x3_1 x3_2) = some (vb false)) apn))
end
end
end Go.Proofs.Tryd
