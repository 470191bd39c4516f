/- Decompiled by a program: functions as plain data see them, part 2. -/
import Derived.Test.YthpmanlglbfcdaaDoorH41
namespace Go.Proofs.Tryd
set_option linter.unusedSimpArgs false
set_option linter.unusedVariables false
set_option maxHeartbeats 4000000
open Go Go.Vs
noncomputable section
inductive R_F27 where
  | k0 (x0 : ByteArray)
  | k1 (x0 : ByteArray)
def F27_v (a1 : Bool) (a2 a3 : Nat) (a4 : Int) (a5 : List Int) (r : R_F27) : AV := match r with | .k0 x0 => (vs x0) | .k1 x0 => (vs x0)
def F27_h (a1 : Bool) (a2 a3 : Nat) (a4 : Int) (a5 : List Int) (r : R_F27) : List AB := match r with | .k0 x0 => [.cells 63 [sp a1 0 0, .sl 1 a2 1 0 a3, i6 a4], .dead] | .k1 x0 => [.cells 63 [sp a1 0 0, .sl 1 a2 1 0 a3, i6 a4], yU a2 a5]
def F27 (a3 : Nat) (a5 : List Int) : Option R_F27 :=
  (bif (decide (0 < a3)) then (bif (usOk a3 a5.length) then (some (.k0 (bstr (a5.take a3)))) else none) else (some (.k1 ByteArray.empty)))
abbrev F27_d0 (a1 : Bool) (a2 a3 : Nat) (a4 : Int) (a5 : List Int) : List AB := [.cells 63 [sp a1 0 0, .sl 1 a2 1 0 a3, i6 a4], yU a2 a5]
theorem F27_ok (a1 : Bool) (a2 a3 : Nat) (a4 : Int) (a5 : List Int) {r : R_F27} (h : F27 a3 a5 = some r) : CS prg 27 [.ptr 0 0] [.cells 63 [sp a1 0 0, .sl 1 a2 1 0 a3, i6 a4], yU a2 a5] = some (F27_v a1 a2 a3 a4 a5 r, F27_h a1 a2 a3 a4 a5 r) := by
 unfold F27 at h
 apply bi h <;> intro h1 h
 ·
  have q0 := ((sd_t (e := eU8) (xs := a5) rfl h1) : sdA (F27_d0 a1 a2 a3 a4 a5) (.sl 1 a2 1 0 a3) = some (.rp 1 a2 1 0 0))
  apply bi h <;> intro h2 h
  ·
   rw [← sj h]
   exact fc [(7, .v (.rp 1 a2 1 0 0)), (13, .r (vs (bstr (a5.take a3))) [.cells 63 [sp a1 0 0, .sl 1 a2 1 0 a3, i6 a4], .dead])] (apc q0 (apc ((us_t (e := eU8) (xs := a5) rfl h1 h2) : uSA (F27_d0 a1 a2 a3 a4 a5) 5 (.rp 1 a2 1 0 0) (i6 ((a3 : Nat) : Int)) = some ((vs (bstr (a5.take a3))), [.cells 63 [sp a1 0 0, .sl 1 a2 1 0 a3, i6 a4], .dead])) apn))
  ·
   cases h
 ·
  rw [← sj h]
  exact fc [(7, .v .anyp), (13, .r (vs ByteArray.empty) (F27_d0 a1 a2 a3 a4 a5))] (apc ((sd_f (e := eU8) (xs := a5) rfl h1) : sdA (F27_d0 a1 a2 a3 a4 a5) (.sl 1 a2 1 0 a3) = some .anyp) (apc ((us_f h1) : uSA (F27_d0 a1 a2 a3 a4 a5) 5 .anyp (i6 ((a3 : Nat) : Int)) = some ((vs ByteArray.empty), F27_d0 a1 a2 a3 a4 a5)) apn))
inductive R_F13 where
  | k0 (x0 : ByteArray) (x1 : Int)
def F13_v (a1 : ByteArray) (a2 : List EditD) (r : R_F13) : AV := match r with | .k0 x0 x1 => (.tup [vs x0, i6 x1])
def F13 (Nf : Nat) (a1 : ByteArray) (a2 : List EditD) : Option R_F13 :=
  (bif (decide ((a1.size : Int) > 1048576)) then (some (.k0 (⟨([] : List UInt8).toArray⟩ : ByteArray) 3)) else ((F24 (a1.size : Int) a2).bind fun x2 => (bif x2 then ((F25 Nf a2).bind fun r4 => match r4 with | .k0 x4_0 x4_1 => (bif (x4_1 != 0) then (some (.k0 (⟨([] : List UInt8).toArray⟩ : ByteArray) x4_1)) else ((runL (fun s => L13_0 a1 x4_0 (x4_0.length : Int) s.1 s.2.1 s.2.2.1 s.2.2.2.1 s.2.2.2.2.1 s.2.2.2.2.2.1 s.2.2.2.2.2.2) (0, 0, false, 0, 0, 0, [])).bind fun r6 => match r6 with | .k0 x6_0 x6_1 x6_2 x6_3 x6_4 x6_5 => (bif (sl_ok x6_0 (a1.size : Int) a1.size) then ((F26_5 (a1.extract (Int.toNat x6_0) (Int.toNat (a1.size : Int))) x6_1 x6_2 x6_3 x6_4 x6_5).bind fun r8 => match r8 with | .k0 x8_0 x8_1 x8_2 x8_3 => (bif (decide ((IntKind.wrap .i64 (x6_4 + ((a1.extract (Int.toNat x6_0) (Int.toNat (a1.size : Int))).size : Int))) > 1048576)) then (some (.k0 (⟨([] : List UInt8).toArray⟩ : ByteArray) 3)) else ((F27 x8_2 x8_3).bind fun r10 => match r10 with | .k0 x10_0 => (some (.k0 x10_0 0)) | .k1 x10_0 => (some (.k0 x10_0 0))))) else none)))) else (some (.k0 (⟨([] : List UInt8).toArray⟩ : ByteArray) 4)))))
abbrev F13_d0 (g6 : Nat → AV) (a1 : ByteArray) (x6_0 : Int) (x4_0 : List EditD) (x6_1 : Bool) (x6_2 x6_3 : Nat) (x6_4 : Int) (x6_5 : List Int) : St := ⟨fr 66 g6 [(0, vs a1), (8, .ptr 0 0), (9, i6 x6_0), (30, ls 3 eEdit x4_0)], [.cells 63 [sp x6_1 0 0, .sl 1 x6_2 1 0 x6_3, i6 x6_4], yU x6_2 x6_5]⟩
abbrev F13_d1 (x8_0 : Bool) (x8_1 x8_2 : Nat) (x6_4 : Int) (a1 : ByteArray) (x6_0 : Int) (x8_3 : List Int) : List AB := [.cells 63 [sp x8_0 0 0, .sl 1 x8_1 1 0 x8_2, (i6 (w6 (x6_4 + ((a1.extract (Int.toNat x6_0) (Int.toNat (a1.size : Int))).size : Int))))], yU x8_1 x8_3]
abbrev F13_d2 (x8_0 : Bool) (x8_1 x8_2 : Nat) (x6_4 : Int) (a1 : ByteArray) (x6_0 : Int) : List AB := [.cells 63 [sp x8_0 0 0, .sl 1 x8_1 1 0 x8_2, (i6 (w6 (x6_4 + ((a1.extract (Int.toNat x6_0) (Int.toNat (a1.size : Int))).size : Int))))], .dead]
theorem F13_ok (Nf : Nat) (a1 : ByteArray) (a2 : List EditD) {r : R_F13} (h : F13 Nf a1 a2 = some r) : PR1 prg 13 [vs a1, ls 3 eEdit a2] (F13_v a1 a2 r) := by
 unfold F13 at h
 apply bi h <;> intro h1 h
 ·
  rw [← sj h]
  exact fq [(14, .d true)] (av h1 apn)
 ·
  apply bn h; intro x2 h2 h
  apply bi h <;> intro h3 h
  ·
   have q0 := ((((F24_ok (a1.size : Int) a2 h2).cp rfl _).trans (congrArg (fun z => some (vb z)) h3)) : CP prg 24 [(i6 (a1.size : Int)), ls 3 eEdit a2] [] = some (vb true))
   have k1 := ka [(14, .d false), (18, .v (vb true))] (av h1 (apc q0 apn))
   apply bn h; intro r4 h4 h
   cases r4 with
   | k0 x4_0 x4_1 =>
    have q2 := (((F25_ok Nf a2 h4).cp rfl _) : CP prg 25 [ls 3 eEdit a2] [] = some (.tup [ls 3 eEdit x4_0, i6 x4_1]))
    have k3 := k1.a [(22, .v (.tup [ls 3 eEdit x4_0, i6 x4_1]))] (apc q2 apn)
    apply bi h <;> intro h5 h
    ·
     rw [← sj h]
     exact fq ([(26, .d true)] ++ kH k3) (k3.b (av h5 apn))
    ·
     have k4 := k3.a [(26, .d false), (31, .v (i6 (x4_0.length : Int)))] (av h5 (apc (lg x4_0 eEdit 3) apn))
     apply bn h; intro r6 h6 h
     cases r6 with
     | k0 x6_0 x6_1 x6_2 x6_3 x6_4 x6_5 =>
      obtain ⟨g6, e6⟩ := L13_0_run a1 x4_0 (x4_0.length : Int) (0, 0, false, 0, 0, 0, []) _ h6
      have q5 := (e6 : L13_0_e a1 x4_0 (x4_0.length : Int) 0 0 false 0 0 0 ([]) = some ((.brk 0), F13_d0 g6 a1 x6_0 x4_0 x6_1 x6_2 x6_3 x6_4 x6_5))
      have k6 := k4.a [(2000, .l (.brk 0) (F13_d0 g6 a1 x6_0 x4_0 x6_1 x6_2 x6_3 x6_4 x6_5))] (apc (L13_0_k a1 x4_0 (x4_0.length : Int) 0 0 false 0 0 0 ([])) (apc q5 apn))
      apply bi h <;> intro h7 h
      ·
       have q7 := ((sl_str h7) : slS (vs a1) (some x6_0) (some (a1.size : Int)) = some (vs (a1.extract (Int.toNat x6_0) (Int.toNat (a1.size : Int)))))
       have k8 := k6.a [(55, .v (vs (a1.extract (Int.toNat x6_0) (Int.toNat (a1.size : Int)))))] (apc q7 apn)
       apply bn h; intro r8 h8 h
       cases r8 with
       | k0 x8_0 x8_1 x8_2 x8_3 =>
        have q9 := ((F26_5_ok (a1.extract (Int.toNat x6_0) (Int.toNat (a1.size : Int))) x6_1 x6_2 x6_3 x6_4 x6_5 h8) : CS prg 26 [.ptr 0 0, (vs (a1.extract (Int.toNat x6_0) (Int.toNat (a1.size : Int))))] [.cells 63 [sp x6_1 0 0, .sl 1 x6_2 1 0 x6_3, i6 x6_4], yU x6_2 x6_5] = some ((.tup []), F13_d1 x8_0 x8_1 x8_2 x6_4 a1 x6_0 x8_3))
        have k10 := k8.a [(56, .r (.tup []) (F13_d1 x8_0 x8_1 x8_2 x6_4 a1 x6_0 x8_3))] (apc q9 apn)
        apply bi h <;> intro h9 h
        ·
         rw [← sj h]
         exact fq ([(61, .d true), (6000, .d true)] ++ kH k10) (k10.b (av h9 apn))
        ·
         apply bn h; intro r10 h10 h
         cases r10 with
         | k0 x10_0 =>
          rw [← sj h]
          exact fq ([(61, .d false), (65, .r (vs x10_0) (F13_d2 x8_0 x8_1 x8_2 x6_4 a1 x6_0)), (6000, .d true)] ++ kH k10) (k10.b (av h9 (apc ((F27_ok x8_0 x8_1 x8_2 (w6 (x6_4 + ((a1.extract (Int.toNat x6_0) (Int.toNat (a1.size : Int))).size : Int))) x8_3 h10) : CS prg 27 [.ptr 0 0] (F13_d1 x8_0 x8_1 x8_2 x6_4 a1 x6_0 x8_3) = some ((vs x10_0), F13_d2 x8_0 x8_1 x8_2 x6_4 a1 x6_0)) apn)))
         | k1 x10_0 =>
          rw [← sj h]
          exact fq ([(61, .d false), (65, .r (vs x10_0) (F13_d1 x8_0 x8_1 x8_2 x6_4 a1 x6_0 x8_3)), (6000, .d true)] ++ kH k10) (k10.b (av h9 (apc ((F27_ok x8_0 x8_1 x8_2 (w6 (x6_4 + ((a1.extract (Int.toNat x6_0) (Int.toNat (a1.size : Int))).size : Int))) x8_3 h10) : CS prg 27 [.ptr 0 0] (F13_d1 x8_0 x8_1 x8_2 x6_4 a1 x6_0 x8_3) = some ((vs x10_0), F13_d1 x8_0 x8_1 x8_2 x6_4 a1 x6_0 x8_3)) apn)))
      ·
       cases h
  ·
   rw [← sj h]
   exact fq [(14, .d false), (18, .v (vb false))] (av h1 (apc ((((F24_ok (a1.size : Int) a2 h2).cp rfl _).trans (congrArg (fun z => some (vb z)) h3)) : CP prg 24 [(i6 (a1.size : Int)), ls 3 eEdit a2] [] = some (vb false)) apn))
inductive E_L4_1 where
  | k0 (x0 : Int)
section
variable (a1 a2 : ByteArray) (a3 a4 : Int) (a5 : ByteArray)
def L4_1 (v1 : Int) : Option (E_L4_1 ⊕ (Int)) :=
  (bif (decide (v1 < (a1.size : Int))) then (bif (decide (v1 < (a2.size : Int))) then ((getI a1.data.toList v1).bind fun x3 => ((getI a2.data.toList v1).bind fun x4 => (bif ((x3.toNat : Int) == (x4.toNat : Int)) then (some (.inr ((IntKind.wrap .i64 (v1 + 1))))) else (some (.inl (.k0 v1)))))) else (some (.inl (.k0 v1)))) else (some (.inl (.k0 v1))))
def L4_1_s (v1 : Int) : St := ⟨fr 130 ug [(0, vs a1), (1, vs a2), (5, .ptr 0 0), (9, i6 v1)], [.cells 34 [i6 a3, i6 a4, vs a5]]⟩
theorem L4_1_k (v1 : Int) : okT 1 (L4_1_s a1 a2 a3 a4 a5 v1).h = true := (okT_of rfl (ac rfl))
abbrev L4_1_e (v1 : Int) := evH prg 1 [0, 1, 5, 9] ir4_l1 (L4_1_s a1 a2 a3 a4 a5 v1)
def L4_1_x (e : E_L4_1) (r : Option (Out × St)) : Prop := match e with | .k0 x0 => ∃ g, r = some ((.brk 0), ⟨fr 130 g [(0, vs a1), (1, vs a2), (5, .ptr 0 0), (9, i6 x0)], [.cells 34 [i6 a3, i6 a4, vs a5]]⟩)
theorem L4_1_ok (v1 : Int) {r : E_L4_1 ⊕ (Int)} (h : L4_1 a1 a2 v1 = some r) : OkR (fun e => L4_1_x a1 a2 a3 a4 a5 e (L4_1_e a1 a2 a3 a4 a5 v1)) (fun s => L4_1_e a1 a2 a3 a4 a5 v1 = L4_1_e a1 a2 a3 a4 a5 s) r := by
 unfold L4_1 at h
 apply bi h <;> intro h1 h
 ·
  apply bi h <;> intro h2 h
  ·
   have k0 := ka [(60, .d true), (65, .d true)] (av h1 (av h2 apn))
   apply bn h; intro x3 h3 h
   have q1 := ((ix_str h3) : ixS (vs a1) (i6 v1) = some (vi .u8 (x3.toNat : Int)))
   apply bn h; intro x4 h4 h
   have q2 := ((ix_str h4) : ixS (vs a2) (i6 v1) = some (vi .u8 (x4.toNat : Int)))
   have k3 := k0.a [(70, .v (vi .u8 (x3.toNat : Int))), (73, .v (vi .u8 (x4.toNat : Int)))] (apc q1 (apc q2 apn))
   apply bi h <;> intro h5 h
   ·
    rw [← sj h]
    exact rn ([(74, .d true), (6000, .d true)] ++ kH k3) (k3.b (av h5 (apc (L4_1_k a1 a2 a3 a4 a5 (w6 (v1 + 1))) apn)))
   ·
    rw [← sj h]
    exact xb ([(74, .d false), (6000, .d true)] ++ kH k3) (k3.b (av h5 apn))
  ·
   rw [← sj h]
   exact xb [(60, .d true), (65, .d false), (6000, .d true)] (av h1 (av h2 apn))
 ·
  rw [← sj h]
  exact xb [(60, .d false), (6000, .d true)] (av h1 apn)
theorem L4_1_run (s0 : Int) (e : E_L4_1) (h : runL (fun s => L4_1 a1 a2 s) s0 = some e) : L4_1_x a1 a2 a3 a4 a5 e (L4_1_e a1 a2 a3 a4 a5 s0) := by
  have q := @loop_sound' (Int) E_L4_1 (fun s => L4_1 a1 a2 s) (fun s => L4_1_e a1 a2 a3 a4 a5 s) (L4_1_x a1 a2 a3 a4 a5) (fun s r h => L4_1_ok a1 a2 a3 a4 a5 s h) s0 e h
  exact q
end
inductive E_L4_0 where
  | k0 (x0 : Int)
section
variable (a1 a2 : ByteArray) (a3 a4 a5 : Int) (a6 : ByteArray)
def L4_0 (v1 : Int) : Option (E_L4_0 ⊕ (Int)) :=
  (bif (decide (v1 < (IntKind.wrap .i64 ((a1.size : Int) - a3)))) then (bif (decide (v1 < (IntKind.wrap .i64 ((a2.size : Int) - a3)))) then ((getI a1.data.toList (IntKind.wrap .i64 ((IntKind.wrap .i64 ((a1.size : Int) - 1)) - v1))).bind fun x3 => ((getI a2.data.toList (IntKind.wrap .i64 ((IntKind.wrap .i64 ((a2.size : Int) - 1)) - v1))).bind fun x4 => (bif ((x3.toNat : Int) == (x4.toNat : Int)) then (some (.inr ((IntKind.wrap .i64 (v1 + 1))))) else (some (.inl (.k0 v1)))))) else (some (.inl (.k0 v1)))) else (some (.inl (.k0 v1))))
def L4_0_s (v1 : Int) : St := ⟨fr 130 ug [(0, vs a1), (1, vs a2), (5, .ptr 0 0), (9, i6 a3), (10, i6 v1)], [.cells 34 [i6 a4, i6 a5, vs a6]]⟩
theorem L4_0_k (v1 : Int) : okT 1 (L4_0_s a1 a2 a3 a4 a5 a6 v1).h = true := (okT_of rfl (ac rfl))
abbrev L4_0_e (v1 : Int) := evH prg 1 [0, 1, 5, 9, 10] ir4_l0 (L4_0_s a1 a2 a3 a4 a5 a6 v1)
def L4_0_x (e : E_L4_0) (r : Option (Out × St)) : Prop := match e with | .k0 x0 => ∃ g, r = some ((.brk 2), ⟨fr 130 g [(0, vs a1), (1, vs a2), (5, .ptr 0 0), (9, i6 a3), (10, i6 x0)], [.cells 34 [i6 a4, i6 a5, vs a6]]⟩)
theorem L4_0_ok (v1 : Int) {r : E_L4_0 ⊕ (Int)} (h : L4_0 a1 a2 a3 v1 = some r) : OkR (fun e => L4_0_x a1 a2 a3 a4 a5 a6 e (L4_0_e a1 a2 a3 a4 a5 a6 v1)) (fun s => L4_0_e a1 a2 a3 a4 a5 a6 v1 = L4_0_e a1 a2 a3 a4 a5 a6 s) r := by
 unfold L4_0 at h
 apply bi h <;> intro h1 h
 ·
  apply bi h <;> intro h2 h
  ·
   have k0 := ka [(83, .d true), (90, .d true)] (av h1 (av h2 apn))
   apply bn h; intro x3 h3 h
   have q1 := ((ix_str h3) : ixS (vs a1) (i6 (w6 ((w6 ((a1.size : Int) - 1)) - v1))) = some (vi .u8 (x3.toNat : Int)))
   apply bn h; intro x4 h4 h
   have q2 := ((ix_str h4) : ixS (vs a2) (i6 (w6 ((w6 ((a2.size : Int) - 1)) - v1))) = some (vi .u8 (x4.toNat : Int)))
   have k3 := k0.a [(99, .v (vi .u8 (x3.toNat : Int))), (106, .v (vi .u8 (x4.toNat : Int)))] (apc q1 (apc q2 apn))
   apply bi h <;> intro h5 h
   ·
    rw [← sj h]
    exact rn ([(107, .d true), (6000, .d true)] ++ kH k3) (k3.b (av h5 (apc (L4_0_k a1 a2 a3 a4 a5 a6 (w6 (v1 + 1))) apn)))
   ·
    rw [← sj h]
    exact xb ([(107, .d false), (6000, .d true)] ++ kH k3) (k3.b (av h5 apn))
  ·
   rw [← sj h]
   exact xb [(83, .d true), (90, .d false), (6000, .d true)] (av h1 (av h2 apn))
 ·
  rw [← sj h]
  exact xb [(83, .d false), (6000, .d true)] (av h1 apn)
theorem L4_0_run (s0 : Int) (e : E_L4_0) (h : runL (fun s => L4_0 a1 a2 a3 s) s0 = some e) : L4_0_x a1 a2 a3 a4 a5 a6 e (L4_0_e a1 a2 a3 a4 a5 a6 s0) := by
  have q := @loop_sound' (Int) E_L4_0 (fun s => L4_0 a1 a2 a3 s) (fun s => L4_0_e a1 a2 a3 a4 a5 a6 s) (L4_0_x a1 a2 a3 a4 a5 a6) (fun s r h => L4_0_ok a1 a2 a3 a4 a5 a6 s h) s0 e h
  exact q
end
def F4_v (a1 a2 : ByteArray) (x0 : Bool) : AV := (vb x0)
def F4 (Nf : Nat) (a1 a2 : ByteArray) : Option Bool :=
  (bif (decide ((a1.size : Int) > 3000)) then ((F9).bind fun x2 => (some x2)) else (bif (decide ((a2.size : Int) > 3000)) then ((F9).bind fun x3 => (some x3)) else ((F12 a1 a2).bind fun r3 => match r3 with | .k0 x3_0 x3_1 x3_2 x3_3 => (bif x3_3 then (bif (a1.toList == a2.toList) then (some false) else ((F13 Nf a1 ([(⟨x3_0, x3_1, x3_2⟩ : EditD)])).bind fun r6 => match r6 with | .k0 x6_0 x6_1 => (bif (!(x6_0.toList == a2.toList)) then (some false) else (bif (x6_1 != 0) then (some false) else ((runL (fun s => L4_1 a1 a2 s) 0).bind fun r9 => match r9 with | .k0 x9_0 => ((runL (fun s => L4_0 a1 a2 x9_0 s) 0).bind fun r10 => match r10 with | .k0 x10_0 => (bif (sl_ok x9_0 (IntKind.wrap .i64 ((a2.size : Int) - x10_0)) a2.size) then (bif ((x3_0 == x9_0) && ((x3_1 == (IntKind.wrap .i64 ((a1.size : Int) - x10_0))) && ((x3_2 == (a2.extract (Int.toNat x9_0) (Int.toNat (IntKind.wrap .i64 ((a2.size : Int) - x10_0))))) && true))) then ((F9).bind fun x13 => (some x13)) else (some false)) else none))))))) else (bif (a1.toList == a2.toList) then (bif ((x3_0 == 0) && ((x3_1 == 0) && ((x3_2 == (⟨([] : List UInt8).toArray⟩ : ByteArray)) && true))) then ((F9).bind fun x7 => (some x7)) else (some false)) else ((F13 Nf a1 ([(⟨x3_0, x3_1, x3_2⟩ : EditD)])).bind fun r6 => match r6 with | .k0 x6_0 x6_1 => (some false)))))))
abbrev F4_d0 (g9 : Nat → AV) (a1 a2 : ByteArray) (x9_0 x3_0 x3_1 : Int) (x3_2 : ByteArray) : St := ⟨fr 130 g9 [(0, vs a1), (1, vs a2), (5, .ptr 0 0), (9, i6 x9_0)], [.cells 34 [i6 x3_0, i6 x3_1, vs x3_2]]⟩
abbrev F4_d1 (g10 : Nat → AV) (a1 a2 : ByteArray) (x9_0 x10_0 x3_0 x3_1 : Int) (x3_2 : ByteArray) : St := ⟨fr 130 g10 [(0, vs a1), (1, vs a2), (5, .ptr 0 0), (9, i6 x9_0), (10, i6 x10_0)], [.cells 34 [i6 x3_0, i6 x3_1, vs x3_2]]⟩
theorem F4_ok (Nf : Nat) (a1 a2 : ByteArray) {r : Bool} (h : F4 Nf a1 a2 = some r) : PR1 prg 4 [vs a1, vs a2] (F4_v a1 a2 r) := by
 unfold F4 at h
 apply bi h <;> intro h1 h
 ·
  apply bn h; intro x2 h2 h
  rw [← sj h]
  exact fq [(13, .d true), (19, .v (vb x2))] (av h1 (apc (((F9_ok  h2).cp rfl _) : CP prg 9 [] [] = some (vb x2)) apn))
 ·
  apply bi h <;> intro h2 h
  ·
   apply bn h; intro x3 h3 h
   rw [← sj h]
   exact fq [(13, .d false), (17, .d true), (19, .v (vb x3))] (av h1 (av h2 (apc (((F9_ok  h3).cp rfl _) : CP prg 9 [] [] = some (vb x3)) apn)))
  ·
   have k0 := ka [(13, .d false), (17, .d false)] (av h1 (av h2 apn))
   apply bn h; intro r3 h3 h
   cases r3 with
   | k0 x3_0 x3_1 x3_2 x3_3 =>
    have q1 := (((F12_ok a1 a2 h3).cp rfl _) : CP prg 12 [vs a1, vs a2] [] = some (.tup [(.agg [i6 x3_0, i6 x3_1, vs x3_2]), vb x3_3]))
    have k2 := k0.a [(23, .v (.tup [(.agg [i6 x3_0, i6 x3_1, vs x3_2]), vb x3_3]))] (apc q1 apn)
    apply bi h <;> intro h4 h
    ·
     apply bi h <;> intro h5 h
     ·
      rw [← sj h]
      exact fq ([(25, .d true), (28, .d true)] ++ kH k2) (k2.b (av h4 (av h5 apn)))
     ·
      have k3 := k2.a [(25, .d true), (28, .d false)] (av h4 (av h5 apn))
      apply bn h; intro r6 h6 h
      cases r6 with
      | k0 x6_0 x6_1 =>
       have q4 := (((F13_ok Nf a1 ([(⟨x3_0, x3_1, x3_2⟩ : EditD)]) h6).cp rfl _) : CP prg 13 [vs a1, (.p (.lst 3 ([(⟨x3_0, x3_1, x3_2⟩ : EditD)].map eEdit)))] [.cells 34 [i6 x3_0, i6 x3_1, vs x3_2]] = some (.tup [vs x6_0, i6 x6_1]))
       apply bi h <;> intro h7 h
       ·
        rw [← sj h]
        exact fq ([(43, .v (.tup [vs x6_0, i6 x6_1])), (51, .d true)] ++ kH k3) (k3.b (apc q4 (av h7 apn)))
       ·
        have k5 := k3.a [(43, .v (.tup [vs x6_0, i6 x6_1])), (51, .d false)] (apc q4 (av h7 apn))
        apply bi h <;> intro h8 h
        ·
         rw [← sj h]
         exact fq ([(55, .d true)] ++ kH k5) (k5.b (av h8 apn))
        ·
         apply bn h; intro r9 h9 h
         cases r9 with
         | k0 x9_0 =>
          obtain ⟨g9, e9⟩ := L4_1_run a1 a2 x3_0 x3_1 x3_2 0 _ h9
          have q6 := (e9 : L4_1_e a1 a2 x3_0 x3_1 x3_2 0 = some ((.brk 0), F4_d0 g9 a1 a2 x9_0 x3_0 x3_1 x3_2))
          have k7 := k5.a [(55, .d false), (2000, .l (.brk 0) (F4_d0 g9 a1 a2 x9_0 x3_0 x3_1 x3_2))] (av h8 (apc (L4_1_k a1 a2 x3_0 x3_1 x3_2 0) (apc q6 apn)))
          apply bn h; intro r10 h10 h
          cases r10 with
          | k0 x10_0 =>
           obtain ⟨g10, e10⟩ := L4_0_run a1 a2 x9_0 x3_0 x3_1 x3_2 0 _ h10
           have q8 := (e10 : L4_0_e a1 a2 x9_0 x3_0 x3_1 x3_2 0 = some ((.brk 2), F4_d1 g10 a1 a2 x9_0 x10_0 x3_0 x3_1 x3_2))
           have k9 := k7.a [(2002, .l (.brk 2) (F4_d1 g10 a1 a2 x9_0 x10_0 x3_0 x3_1 x3_2))] (apc (L4_0_k a1 a2 x9_0 x3_0 x3_1 x3_2 0) (apc q8 apn))
           apply bi h <;> intro h11 h
           ·
            have q10 := ((sl_str h11) : slS (vs a2) (some x9_0) (some (w6 ((a2.size : Int) - x10_0))) = some (vs (a2.extract (Int.toNat x9_0) (Int.toNat (w6 ((a2.size : Int) - x10_0))))))
            have k11 := k9.a [(124, .v (vs (a2.extract (Int.toNat x9_0) (Int.toNat (w6 ((a2.size : Int) - x10_0))))))] (apc q10 apn)
            apply bi h <;> intro h12 h
            ·
             apply bn h; intro x13 h13 h
             rw [← sj h]
             exact fq ([(126, .d true), (128, .v (vb x13)), (6000, .d true)] ++ kH k11) (k11.b (av h12 (apc (((F9_ok  h13).cp rfl _) : CP prg 9 [] [.cells 34 [i6 x3_0, i6 x3_1, vs x3_2]] = some (vb x13)) apn)))
            ·
             rw [← sj h]
             exact fq ([(126, .d false), (6000, .d true)] ++ kH k11) (k11.b (av h12 apn))
           ·
            cases h
    ·
     apply bi h <;> intro h5 h
     ·
      have k12 := k2.a [(25, .d false), (28, .d true)] (av h4 (av h5 apn))
      apply bi h <;> intro h6 h
      ·
       apply bn h; intro x7 h7 h
       rw [← sj h]
       exact fq ([(34, .d true), (37, .v (vb x7))] ++ kH k12) (k12.b (av h6 (apc (((F9_ok  h7).cp rfl _) : CP prg 9 [] [.cells 34 [i6 x3_0, i6 x3_1, vs x3_2]] = some (vb x7)) apn)))
      ·
       rw [← sj h]
       exact fq ([(34, .d false)] ++ kH k12) (k12.b (av h6 apn))
     ·
      apply bn h; intro r6 h6 h
      cases r6 with
      | k0 x6_0 x6_1 =>
       rw [← sj h]
       exact fq ([(25, .d false), (28, .d false), (43, .v (.tup [vs x6_0, i6 x6_1]))] ++ kH k2) (k2.b (av h4 (av h5 (apc (((F13_ok Nf a1 ([(⟨x3_0, x3_1, x3_2⟩ : EditD)]) h6).cp rfl _) : CP prg 13 [vs a1, (.p (.lst 3 ([(⟨x3_0, x3_1, x3_2⟩ : EditD)].map eEdit)))] [.cells 34 [i6 x3_0, i6 x3_1, vs x3_2]] = some (.tup [vs x6_0, i6 x6_1])) apn))))
end
end Go.Proofs.Tryd
