/- Decompiled by a program: functions as plain data see them, part 2. -/
import Derived.Test.YthpmanlglbfcdaaDoorH71
namespace Go.Proofs.Tryd
set_option linter.unusedSimpArgs false
set_option linter.unusedVariables false
set_option maxHeartbeats 4000000
open Go Go.Vs
noncomputable section
inductive R_F13 where
  | k0 (x0 : ByteArray) (x1 : Int)
def F13_v (a1 : ByteArray) (a2 : List EditD) (r : R_F13) : AV := match r with | .k0 x0 x1 => (.tup [vs x0, i6 x1])
def F13 (Nf : Nat) (a1 : ByteArray) (a2 : List EditD) : Option R_F13 :=
  (bif (decide ((a1.size : Int) > 1048576)) then (some (.k0 (⟨([] : List UInt8).toArray⟩ : ByteArray) 3)) else ((F24 (a1.size : Int) a2).bind fun x2 => (bif x2 then ((F25 Nf a2).bind fun r4 => match r4 with | .k0 x4_0 x4_1 => (bif (x4_1 != 0) then (some (.k0 (⟨([] : List UInt8).toArray⟩ : ByteArray) x4_1)) else ((runL (fun s => L13_0 a1 x4_0 (x4_0.length : Int) s.1 s.2.1 s.2.2.1 s.2.2.2.1 s.2.2.2.2.1 s.2.2.2.2.2.1 s.2.2.2.2.2.2) (0, 0, false, 0, 0, 0, [])).bind fun r6 => match r6 with | .k0 x6_0 x6_1 x6_2 x6_3 x6_4 x6_5 => (bif (sl_ok x6_0 (a1.size : Int) a1.size) then ((F26_5 (a1.extract (Int.toNat x6_0) (Int.toNat (a1.size : Int))) x6_1 x6_2 x6_3 x6_4 x6_5).bind fun r8 => match r8 with | .k0 x8_0 x8_1 x8_2 x8_3 => (bif (decide ((IntKind.wrap .i64 (x6_4 + ((a1.extract (Int.toNat x6_0) (Int.toNat (a1.size : Int))).size : Int))) > 1048576)) then (some (.k0 (⟨([] : List UInt8).toArray⟩ : ByteArray) 3)) else ((F27 x8_2 x8_3).bind fun r10 => match r10 with | .k0 x10_0 => (some (.k0 x10_0 0)) | .k1 x10_0 => (some (.k0 x10_0 0))))) else none)))) else (some (.k0 (⟨([] : List UInt8).toArray⟩ : ByteArray) 4)))))
abbrev F13_d0 (g6 : Nat → AV) (a1 : ByteArray) (x6_0 : Int) (x4_0 : List EditD) (x6_1 : Bool) (x6_2 x6_3 : Nat) (x6_4 : Int) (x6_5 : List Int) : St := ⟨fr 66 g6 [(0, vs a1), (8, .ptr 0 0), (9, i6 x6_0), (30, ls 3 eEdit x4_0)], [.cells 63 [sp x6_1 0 0, .sl 1 x6_2 1 0 x6_3, i6 x6_4], yU x6_2 x6_5]⟩
abbrev F13_d1 (x8_0 : Bool) (x8_1 x8_2 : Nat) (x6_4 : Int) (a1 : ByteArray) (x6_0 : Int) (x8_3 : List Int) : List AB := [.cells 63 [sp x8_0 0 0, .sl 1 x8_1 1 0 x8_2, (i6 (w6 (x6_4 + ((a1.extract (Int.toNat x6_0) (Int.toNat (a1.size : Int))).size : Int))))], yU x8_1 x8_3]
abbrev F13_d2 (x8_0 : Bool) (x8_1 x8_2 : Nat) (x6_4 : Int) (a1 : ByteArray) (x6_0 : Int) : List AB := [.cells 63 [sp x8_0 0 0, .sl 1 x8_1 1 0 x8_2, (i6 (w6 (x6_4 + ((a1.extract (Int.toNat x6_0) (Int.toNat (a1.size : Int))).size : Int))))], .dead]
theorem F13_ok (Nf : Nat) (a1 : ByteArray) (a2 : List EditD) {r : R_F13} (h : F13 Nf a1 a2 = some r) : PR1 prg 13 [vs a1, ls 3 eEdit a2] (F13_v a1 a2 r) := by
 unfold F13 at h
 apply bi h <;> intro h1 h
 ·
  rw [← sj h]
  exact fq [(14, .d true)] (av h1 apn)
 ·
  apply bn h; intro x2 h2 h
  apply bi h <;> intro h3 h
  ·
   have q0 := ((((F24_ok (a1.size : Int) a2 h2).cp rfl _).trans (congrArg (fun z => some (vb z)) h3)) : CP prg 24 [(i6 (a1.size : Int)), ls 3 eEdit a2] [] = some (vb true))
   have k1 := ka [(14, .d false), (18, .v (vb true))] (av h1 (apc q0 apn))
   apply bn h; intro r4 h4 h
   cases r4 with
   | k0 x4_0 x4_1 =>
    have q2 := (((F25_ok Nf a2 h4).cp rfl _) : CP prg 25 [ls 3 eEdit a2] [] = some (.tup [ls 3 eEdit x4_0, i6 x4_1]))
    have k3 := k1.a [(22, .v (.tup [ls 3 eEdit x4_0, i6 x4_1]))] (apc q2 apn)
    apply bi h <;> intro h5 h
    ·
     rw [← sj h]
     exact fq ([(26, .d true)] ++ kH k3) (k3.b (av h5 apn))
    ·
     have k4 := k3.a [(26, .d false), (31, .v (i6 (x4_0.length : Int)))] (av h5 (apc (lg x4_0 eEdit 3) apn))
     apply bn h; intro r6 h6 h
     cases r6 with
     | k0 x6_0 x6_1 x6_2 x6_3 x6_4 x6_5 =>
      obtain ⟨g6, e6⟩ := L13_0_run a1 x4_0 (x4_0.length : Int) (0, 0, false, 0, 0, 0, []) _ h6
      have q5 := (e6 : L13_0_e a1 x4_0 (x4_0.length : Int) 0 0 false 0 0 0 ([]) = some ((.brk 0), F13_d0 g6 a1 x6_0 x4_0 x6_1 x6_2 x6_3 x6_4 x6_5))
      have k6 := k4.a [(2000, .l (.brk 0) (F13_d0 g6 a1 x6_0 x4_0 x6_1 x6_2 x6_3 x6_4 x6_5))] (apc (L13_0_k a1 x4_0 (x4_0.length : Int) 0 0 false 0 0 0 ([])) (apc q5 apn))
      apply bi h <;> intro h7 h
      ·
       have q7 := ((sl_str h7) : slS (vs a1) (some x6_0) (some (a1.size : Int)) = some (vs (a1.extract (Int.toNat x6_0) (Int.toNat (a1.size : Int)))))
       have k8 := k6.a [(55, .v (vs (a1.extract (Int.toNat x6_0) (Int.toNat (a1.size : Int)))))] (apc q7 apn)
       apply bn h; intro r8 h8 h
       cases r8 with
       | k0 x8_0 x8_1 x8_2 x8_3 =>
        have q9 := ((F26_5_ok (a1.extract (Int.toNat x6_0) (Int.toNat (a1.size : Int))) x6_1 x6_2 x6_3 x6_4 x6_5 h8) : CS prg 26 [.ptr 0 0, (vs (a1.extract (Int.toNat x6_0) (Int.toNat (a1.size : Int))))] [.cells 63 [sp x6_1 0 0, .sl 1 x6_2 1 0 x6_3, i6 x6_4], yU x6_2 x6_5] = some ((.tup []), F13_d1 x8_0 x8_1 x8_2 x6_4 a1 x6_0 x8_3))
        have k10 := k8.a [(56, .r (.tup []) (F13_d1 x8_0 x8_1 x8_2 x6_4 a1 x6_0 x8_3))] (apc q9 apn)
        apply bi h <;> intro h9 h
        ·
         rw [← sj h]
         exact fq ([(61, .d true), (6000, .d true)] ++ kH k10) (k10.b (av h9 apn))
        ·
         apply bn h; intro r10 h10 h
         cases r10 with
         | k0 x10_0 =>
          rw [← sj h]
          exact fq ([(61, .d false), (65, .r (vs x10_0) (F13_d2 x8_0 x8_1 x8_2 x6_4 a1 x6_0)), (6000, .d true)] ++ kH k10) (k10.b (av h9 (apc ((F27_ok x8_0 x8_1 x8_2 (w6 (x6_4 + ((a1.extract (Int.toNat x6_0) (Int.toNat (a1.size : Int))).size : Int))) x8_3 h10) : CS prg 27 [.ptr 0 0] (F13_d1 x8_0 x8_1 x8_2 x6_4 a1 x6_0 x8_3) = some ((vs x10_0), F13_d2 x8_0 x8_1 x8_2 x6_4 a1 x6_0)) apn)))
         | k1 x10_0 =>
          rw [← sj h]
          exact fq ([(61, .d false), (65, .r (vs x10_0) (F13_d1 x8_0 x8_1 x8_2 x6_4 a1 x6_0 x8_3)), (6000, .d true)] ++ kH k10) (k10.b (av h9 (apc ((F27_ok x8_0 x8_1 x8_2 (w6 (x6_4 + ((a1.extract (Int.toNat x6_0) (Int.toNat (a1.size : Int))).size : Int))) x8_3 h10) : CS prg 27 [.ptr 0 0] (F13_d1 x8_0 x8_1 x8_2 x6_4 a1 x6_0 x8_3) = some ((vs x10_0), F13_d1 x8_0 x8_1 x8_2 x6_4 a1 x6_0 x8_3)) apn)))
      ·
       cases h
  ·
   rw [← sj h]
   exact fq [(14, .d false), (18, .v (vb false))] (av h1 (apc ((((F24_ok (a1.size : Int) a2 h2).cp rfl _).trans (congrArg (fun z => some (vb z)) h3)) : CP prg 24 [(i6 (a1.size : Int)), ls 3 eEdit a2] [] = some (vb false)) apn))
inductive E_L18_0 where
  | k0 (x0 x1 : Nat) (x2 : List EditD)
section
variable (a1 : ByteArray) (a2 : List EditD) (a3 : Int)
def L18_0 (v1 v2 : Nat) (v3 v4 : Int) (v5 : List EditD) : Option (E_L18_0 ⊕ (Nat × Nat × Int × Int × (List EditD))) :=
  (bif (decide (v4 < a3)) then ((getI a2 v4).bind fun x2 => (bif (sl_ok x2.frm x2.til a1.size) then (bif (decide (((v2 : Nat) : Int) > 0)) then (bif (x2.text.toList == (⟨([] : List UInt8).toArray⟩ : ByteArray).toList) then ((ixN v2 (IntKind.wrap .i64 (((v2 : Nat) : Int) - 1))).bind fun x6 => ((v5[x6]?).bind fun x7 => (bif ((x7.frm == (IntKind.wrap .i64 (x2.frm + v3))) && ((x7.til == (IntKind.wrap .i64 ((IntKind.wrap .i64 (x2.frm + v3)) + (x2.text.size : Int)))) && true)) then (bif (decide (x7.text.size + (a1.extract (Int.toNat x2.frm) (Int.toNat x2.til)).size ≤ 9223372036854775807)) then (some (.inr (v1, v2, (IntKind.wrap .i64 (v3 + (IntKind.wrap .i64 ((x2.text.size : Int) - (IntKind.wrap .i64 (x2.til - x2.frm)))))), (IntKind.wrap .i64 (v4 + 1)), (v5.set x6 (⟨x7.frm, x7.til, (x7.text ++ (a1.extract (Int.toNat x2.frm) (Int.toNat x2.til)))⟩ : EditD))))) else none) else (bif (apOk v2 1 v5.length 32) then (bif (decide (v2 + 1 ≤ v5.length)) then (some (.inr (v1, v2 + 1, (IntKind.wrap .i64 (v3 + (IntKind.wrap .i64 ((x2.text.size : Int) - (IntKind.wrap .i64 (x2.til - x2.frm)))))), (IntKind.wrap .i64 (v4 + 1)), (splice v5 v2 [(⟨(IntKind.wrap .i64 (x2.frm + v3)), (IntKind.wrap .i64 ((IntKind.wrap .i64 (x2.frm + v3)) + (x2.text.size : Int))), (a1.extract (Int.toNat x2.frm) (Int.toNat x2.til))⟩ : EditD)])))) else (some (.inr ((v1 + 1), v2 + 1, (IntKind.wrap .i64 (v3 + (IntKind.wrap .i64 ((x2.text.size : Int) - (IntKind.wrap .i64 (x2.til - x2.frm)))))), (IntKind.wrap .i64 (v4 + 1)), (v5.take v2 ++ [(⟨(IntKind.wrap .i64 (x2.frm + v3)), (IntKind.wrap .i64 ((IntKind.wrap .i64 (x2.frm + v3)) + (x2.text.size : Int))), (a1.extract (Int.toNat x2.frm) (Int.toNat x2.til))⟩ : EditD)]))))) else none)))) else (bif (apOk v2 1 v5.length 32) then (bif (decide (v2 + 1 ≤ v5.length)) then (some (.inr (v1, v2 + 1, (IntKind.wrap .i64 (v3 + (IntKind.wrap .i64 ((x2.text.size : Int) - (IntKind.wrap .i64 (x2.til - x2.frm)))))), (IntKind.wrap .i64 (v4 + 1)), (splice v5 v2 [(⟨(IntKind.wrap .i64 (x2.frm + v3)), (IntKind.wrap .i64 ((IntKind.wrap .i64 (x2.frm + v3)) + (x2.text.size : Int))), (a1.extract (Int.toNat x2.frm) (Int.toNat x2.til))⟩ : EditD)])))) else (some (.inr ((v1 + 1), v2 + 1, (IntKind.wrap .i64 (v3 + (IntKind.wrap .i64 ((x2.text.size : Int) - (IntKind.wrap .i64 (x2.til - x2.frm)))))), (IntKind.wrap .i64 (v4 + 1)), (v5.take v2 ++ [(⟨(IntKind.wrap .i64 (x2.frm + v3)), (IntKind.wrap .i64 ((IntKind.wrap .i64 (x2.frm + v3)) + (x2.text.size : Int))), (a1.extract (Int.toNat x2.frm) (Int.toNat x2.til))⟩ : EditD)]))))) else none)) else (bif (apOk v2 1 v5.length 32) then (bif (decide (v2 + 1 ≤ v5.length)) then (some (.inr (v1, v2 + 1, (IntKind.wrap .i64 (v3 + (IntKind.wrap .i64 ((x2.text.size : Int) - (IntKind.wrap .i64 (x2.til - x2.frm)))))), (IntKind.wrap .i64 (v4 + 1)), (splice v5 v2 [(⟨(IntKind.wrap .i64 (x2.frm + v3)), (IntKind.wrap .i64 ((IntKind.wrap .i64 (x2.frm + v3)) + (x2.text.size : Int))), (a1.extract (Int.toNat x2.frm) (Int.toNat x2.til))⟩ : EditD)])))) else (some (.inr ((v1 + 1), v2 + 1, (IntKind.wrap .i64 (v3 + (IntKind.wrap .i64 ((x2.text.size : Int) - (IntKind.wrap .i64 (x2.til - x2.frm)))))), (IntKind.wrap .i64 (v4 + 1)), (v5.take v2 ++ [(⟨(IntKind.wrap .i64 (x2.frm + v3)), (IntKind.wrap .i64 ((IntKind.wrap .i64 (x2.frm + v3)) + (x2.text.size : Int))), (a1.extract (Int.toNat x2.frm) (Int.toNat x2.til))⟩ : EditD)]))))) else none)) else none)) else (some (.inl (.k0 v1 v2 v5))))
def L18_0_s (v1 v2 : Nat) (v3 v4 : Int) (v5 : List EditD) : St := ⟨fr 108 ug [(0, vs a1), (10, .sl 1 v1 3 0 v2), (11, i6 v3), (31, ls 3 eEdit a2), (32, i6 a3), (33, i6 v4)], [yE0, yE v1 v5]⟩
theorem L18_0_k (v1 v2 : Nat) (v3 v4 : Int) (v5 : List EditD) : okT 2 (L18_0_s a1 a2 a3 v1 v2 v3 v4 v5).h = true := (okT_of rfl (ar (ar rfl)))
abbrev L18_0_e (v1 v2 : Nat) (v3 v4 : Int) (v5 : List EditD) := evH prg 2 [0, 10, 11, 31, 32, 33] ir18_l0 (L18_0_s a1 a2 a3 v1 v2 v3 v4 v5)
def L18_0_x (e : E_L18_0) (r : Option (Out × St)) : Prop := match e with | .k0 x0 x1 x2 => ∃ g, r = some ((.brk 0), ⟨fr 108 g [(0, vs a1), (10, .sl 1 x0 3 0 x1), (31, ls 3 eEdit a2)], [yE0, yE x0 x2]⟩)
abbrev L18_0_d0 (v1 : Nat) (v5 : List EditD) (x2 : EditD) (v3 : Int) : List AB := [yE0, yE v1 v5, .cells 34 ((eEdit x2).map .p), .cells 34 [(i6 (w6 (x2.frm + v3))), (i6 (w6 ((w6 (x2.frm + v3)) + (x2.text.size : Int)))), (vs (a1.extract (Int.toNat x2.frm) (Int.toNat x2.til)))]]
abbrev L18_0_d1 (v1 : Nat) (v5 : List EditD) (x6 : Nat) (x7 x2 : EditD) (v3 : Int) : List AB := [yE0, .row 34 3 v1 (ra eEdit (v5.set x6 (⟨x7.frm, x7.til, (x7.text ++ (a1.extract (Int.toNat x2.frm) (Int.toNat x2.til)))⟩ : EditD))), .cells 34 ((eEdit x2).map .p), .cells 34 [(i6 (w6 (x2.frm + v3))), (i6 (w6 ((w6 (x2.frm + v3)) + (x2.text.size : Int)))), (vs (a1.extract (Int.toNat x2.frm) (Int.toNat x2.til)))]]
abbrev L18_0_d2 (v1 : Nat) (v5 : List EditD) (v2 : Nat) (x2 : EditD) (v3 : Int) : List AB := [yE0, .row 34 3 v1 (ra eEdit (splice v5 v2 [(⟨(w6 (x2.frm + v3)), (w6 ((w6 (x2.frm + v3)) + (x2.text.size : Int))), (a1.extract (Int.toNat x2.frm) (Int.toNat x2.til))⟩ : EditD)])), .cells 34 ((eEdit x2).map .p), .cells 34 [(i6 (w6 (x2.frm + v3))), (i6 (w6 ((w6 (x2.frm + v3)) + (x2.text.size : Int)))), (vs (a1.extract (Int.toNat x2.frm) (Int.toNat x2.til)))], .row 34 3 0 [[(i6 (w6 (x2.frm + v3))), (i6 (w6 ((w6 (x2.frm + v3)) + (x2.text.size : Int)))), (vs (a1.extract (Int.toNat x2.frm) (Int.toNat x2.til)))]]]
abbrev L18_0_d3 (v1 : Nat) (v5 : List EditD) (x2 : EditD) (v3 : Int) : List AB := [yE0, yE v1 v5, .cells 34 ((eEdit x2).map .p), .cells 34 [(i6 (w6 (x2.frm + v3))), (i6 (w6 ((w6 (x2.frm + v3)) + (x2.text.size : Int)))), (vs (a1.extract (Int.toNat x2.frm) (Int.toNat x2.til)))], .row 34 3 0 [[(i6 (w6 (x2.frm + v3))), (i6 (w6 ((w6 (x2.frm + v3)) + (x2.text.size : Int)))), (vs (a1.extract (Int.toNat x2.frm) (Int.toNat x2.til)))]]]
abbrev L18_0_d4 (v1 : Nat) (v5 : List EditD) (v2 : Nat) (x2 : EditD) (v3 : Int) : List AB := [yE0, .row 34 3 (v1 + 1) (ra eEdit (v5.take v2 ++ [(⟨(w6 (x2.frm + v3)), (w6 ((w6 (x2.frm + v3)) + (x2.text.size : Int))), (a1.extract (Int.toNat x2.frm) (Int.toNat x2.til))⟩ : EditD)])), .cells 34 ((eEdit x2).map .p), .cells 34 [(i6 (w6 (x2.frm + v3))), (i6 (w6 ((w6 (x2.frm + v3)) + (x2.text.size : Int)))), (vs (a1.extract (Int.toNat x2.frm) (Int.toNat x2.til)))], .row 34 3 0 [[(i6 (w6 (x2.frm + v3))), (i6 (w6 ((w6 (x2.frm + v3)) + (x2.text.size : Int)))), (vs (a1.extract (Int.toNat x2.frm) (Int.toNat x2.til)))]]]
theorem L18_0_ok (v1 v2 : Nat) (v3 v4 : Int) (v5 : List EditD) {r : E_L18_0 ⊕ (Nat × Nat × Int × Int × (List EditD))} (h : L18_0 a1 a2 a3 v1 v2 v3 v4 v5 = some r) : OkR (fun e => L18_0_x a1 a2 e (L18_0_e a1 a2 a3 v1 v2 v3 v4 v5)) (fun s => L18_0_e a1 a2 a3 v1 v2 v3 v4 v5 = L18_0_e a1 a2 a3 s.1 s.2.1 s.2.2.1 s.2.2.2.1 s.2.2.2.2) r := by
 unfold L18_0 at h
 apply bi h <;> intro h1 h
 ·
  apply bn h; intro x2 h2 h
  have q0 := (L18_0_k a1 a2 a3 v1 (v2 + 1) (w6 (v3 + (w6 ((x2.text.size : Int) - (w6 (x2.til - x2.frm)))))) (w6 (v4 + 1)) (splice v5 v2 [(⟨(w6 (x2.frm + v3)), (w6 ((w6 (x2.frm + v3)) + (x2.text.size : Int))), (a1.extract (Int.toNat x2.frm) (Int.toNat x2.til))⟩ : EditD)]))
  have q1 := (L18_0_k a1 a2 a3 (v1 + 1) (v2 + 1) (w6 (v3 + (w6 ((x2.text.size : Int) - (w6 (x2.til - x2.frm)))))) (w6 (v4 + 1)) (v5.take v2 ++ [(⟨(w6 (x2.frm + v3)), (w6 ((w6 (x2.frm + v3)) + (x2.text.size : Int))), (a1.extract (Int.toNat x2.frm) (Int.toNat x2.til))⟩ : EditD)]))
  have k2 := ka [(34, .d true), (35, .v (.ro (eEdit x2)))] (av h1 (apc (ig eEdit 3 .i64 h2) apn))
  apply bi h <;> intro h3 h
  ·
   have q3 := ((sl_str h3) : slS (vs a1) (some x2.frm) (some x2.til) = some (vs (a1.extract (Int.toNat x2.frm) (Int.toNat x2.til))))
   have k4 := k2.a [(56, .v (vs (a1.extract (Int.toNat x2.frm) (Int.toNat x2.til))))] (apc q3 apn)
   apply bi h <;> intro h4 h
   ·
    apply bi h <;> intro h5 h
    ·
     have k5 := k4.a [(61, .d true), (65, .d true)] (av h4 (av h5 apn))
     apply bn h; intro x6 h6 h
     have q6 := ((idx_sl h6) : idxA 3 (.sl 1 v1 3 0 v2) (i6 (w6 (((v2 : Nat) : Int) - 1))) = some (.rp 1 v1 3 x6 0))
     apply bn h; intro x7 h7 h
     have q7 := ((ld_row rfl h7 rfl) : ldA (L18_0_d0 a1 v1 v5 x2 v3) .true 2 (.rp 1 v1 3 x6 0) = some (.agg ((List.take 2 (eEdit x7)).map .p)))
     have q8 := ((ld_row rfl h7 rfl) : ldA (L18_0_d0 a1 v1 v5 x2 v3) .false 1 (.rp 1 v1 3 x6 2) = some (vs x7.text))
     have k9 := k5.a [(71, .v (.rp 1 v1 3 x6 0)), (73, .v (.agg ((List.take 2 (eEdit x7)).map .p)))] (apc q6 (apc q7 apn))
     apply bi h <;> intro h8 h
     ·
      have k10 := k9.a [(76, .d true), (81, .v (.rp 1 v1 3 x6 0)), (83, .v (vs x7.text))] (av h8 (apc q6 (apc q8 apn)))
      apply bi h <;> intro h9 h
      ·
       rw [← sj h]
       exact rn ([(86, .v (vs (x7.text ++ (a1.extract (Int.toNat x2.frm) (Int.toNat x2.til))))), (87, .v (.rp 1 v1 3 x6 0)), (1088, .r ud (L18_0_d1 a1 v1 v5 x6 x7 x2 v3)), (6000, .d true)] ++ kH k10) (k10.b (apc ((st_add h9) : binA .add (vs x7.text) (vs (a1.extract (Int.toNat x2.frm) (Int.toNat x2.til))) = some (vs (x7.text ++ (a1.extract (Int.toNat x2.frm) (Int.toNat x2.til))))) (apc q6 (apc (⟨st_row (v' := (⟨x7.frm, x7.til, (x7.text ++ (a1.extract (Int.toNat x2.frm) (Int.toNat x2.til)))⟩ : EditD)) rfl h7 rfl rfl (Nat.le_of_ble_eq_true rfl) rfl, rfl⟩ : stA (L18_0_d0 a1 v1 v5 x2 v3) 1 (.rp 1 v1 3 x6 2) (vs (x7.text ++ (a1.extract (Int.toNat x2.frm) (Int.toNat x2.til)))) = some (L18_0_d1 a1 v1 v5 x6 x7 x2 v3) ∧ ud = ud) (apc (L18_0_k a1 a2 a3 v1 v2 (w6 (v3 + (w6 ((x2.text.size : Int) - (w6 (x2.til - x2.frm)))))) (w6 (v4 + 1)) (v5.set x6 (⟨x7.frm, x7.til, (x7.text ++ (a1.extract (Int.toNat x2.frm) (Int.toNat x2.til)))⟩ : EditD))) apn)))))
      ·
       cases h
     ·
      apply bi h <;> intro h9 h
      ·
       apply bi h <;> intro h10 h
       ·
        rw [← sj h]
        exact rn ([(76, .d false), (92, .r (.sl 1 v1 3 0 (v2 + 1)) (L18_0_d2 a1 v1 v5 v2 x2 v3)), (6000, .d true)] ++ kH k9) (k9.b (av h8 (apc ((ap_in (e := eEdit) (xs := v5) (news := [(⟨(w6 (x2.frm + v3)), (w6 ((w6 (x2.frm + v3)) + (x2.text.size : Int))), (a1.extract (Int.toNat x2.frm) (Int.toNat x2.til))⟩ : EditD)]) rfl (rows_x (e := eEdit) (xs := [(⟨(w6 (x2.frm + v3)), (w6 ((w6 (x2.frm + v3)) + (x2.text.size : Int))), (a1.extract (Int.toNat x2.frm) (Int.toNat x2.til))⟩ : EditD)]) rfl) rfl h9 h10) : appA (L18_0_d3 a1 v1 v5 x2 v3) 34 3 32 (.sl 1 v1 3 0 v2) (.sl 4 0 3 0 1) = some ((.sl 1 v1 3 0 (v2 + 1)), L18_0_d2 a1 v1 v5 v2 x2 v3)) (apc q0 apn))))
       ·
        rw [← sj h]
        exact rn ([(76, .d false), (92, .r (.sl 1 (v1 + 1) 3 0 (v2 + 1)) (L18_0_d4 a1 v1 v5 v2 x2 v3)), (6000, .d true)] ++ kH k9) (k9.b (av h8 (apc ((ap_out (e := eEdit) (xs := v5) (news := [(⟨(w6 (x2.frm + v3)), (w6 ((w6 (x2.frm + v3)) + (x2.text.size : Int))), (a1.extract (Int.toNat x2.frm) (Int.toNat x2.til))⟩ : EditD)]) rfl (rows_x (e := eEdit) (xs := [(⟨(w6 (x2.frm + v3)), (w6 ((w6 (x2.frm + v3)) + (x2.text.size : Int))), (a1.extract (Int.toNat x2.frm) (Int.toNat x2.til))⟩ : EditD)]) rfl) rfl h9 h10) : appA (L18_0_d3 a1 v1 v5 x2 v3) 34 3 32 (.sl 1 v1 3 0 v2) (.sl 4 0 3 0 1) = some ((.sl 1 (v1 + 1) 3 0 (v2 + 1)), L18_0_d4 a1 v1 v5 v2 x2 v3)) (apc q1 apn))))
      ·
       cases h
    ·
     have k11 := k4.a [(61, .d true), (65, .d false)] (av h4 (av h5 apn))
     apply bi h <;> intro h6 h
     ·
      apply bi h <;> intro h7 h
      ·
       rw [← sj h]
       exact rn ([(92, .r (.sl 1 v1 3 0 (v2 + 1)) (L18_0_d2 a1 v1 v5 v2 x2 v3)), (6000, .d true)] ++ kH k11) (k11.b (apc ((ap_in (e := eEdit) (xs := v5) (news := [(⟨(w6 (x2.frm + v3)), (w6 ((w6 (x2.frm + v3)) + (x2.text.size : Int))), (a1.extract (Int.toNat x2.frm) (Int.toNat x2.til))⟩ : EditD)]) rfl (rows_x (e := eEdit) (xs := [(⟨(w6 (x2.frm + v3)), (w6 ((w6 (x2.frm + v3)) + (x2.text.size : Int))), (a1.extract (Int.toNat x2.frm) (Int.toNat x2.til))⟩ : EditD)]) rfl) rfl h6 h7) : appA (L18_0_d3 a1 v1 v5 x2 v3) 34 3 32 (.sl 1 v1 3 0 v2) (.sl 4 0 3 0 1) = some ((.sl 1 v1 3 0 (v2 + 1)), L18_0_d2 a1 v1 v5 v2 x2 v3)) (apc q0 apn)))
      ·
       rw [← sj h]
       exact rn ([(92, .r (.sl 1 (v1 + 1) 3 0 (v2 + 1)) (L18_0_d4 a1 v1 v5 v2 x2 v3)), (6000, .d true)] ++ kH k11) (k11.b (apc ((ap_out (e := eEdit) (xs := v5) (news := [(⟨(w6 (x2.frm + v3)), (w6 ((w6 (x2.frm + v3)) + (x2.text.size : Int))), (a1.extract (Int.toNat x2.frm) (Int.toNat x2.til))⟩ : EditD)]) rfl (rows_x (e := eEdit) (xs := [(⟨(w6 (x2.frm + v3)), (w6 ((w6 (x2.frm + v3)) + (x2.text.size : Int))), (a1.extract (Int.toNat x2.frm) (Int.toNat x2.til))⟩ : EditD)]) rfl) rfl h6 h7) : appA (L18_0_d3 a1 v1 v5 x2 v3) 34 3 32 (.sl 1 v1 3 0 v2) (.sl 4 0 3 0 1) = some ((.sl 1 (v1 + 1) 3 0 (v2 + 1)), L18_0_d4 a1 v1 v5 v2 x2 v3)) (apc q1 apn)))
     ·
      cases h
   ·
    apply bi h <;> intro h5 h
    ·
     apply bi h <;> intro h6 h
     ·
      rw [← sj h]
      exact rn ([(61, .d false), (92, .r (.sl 1 v1 3 0 (v2 + 1)) (L18_0_d2 a1 v1 v5 v2 x2 v3)), (6000, .d true)] ++ kH k4) (k4.b (av h4 (apc ((ap_in (e := eEdit) (xs := v5) (news := [(⟨(w6 (x2.frm + v3)), (w6 ((w6 (x2.frm + v3)) + (x2.text.size : Int))), (a1.extract (Int.toNat x2.frm) (Int.toNat x2.til))⟩ : EditD)]) rfl (rows_x (e := eEdit) (xs := [(⟨(w6 (x2.frm + v3)), (w6 ((w6 (x2.frm + v3)) + (x2.text.size : Int))), (a1.extract (Int.toNat x2.frm) (Int.toNat x2.til))⟩ : EditD)]) rfl) rfl h5 h6) : appA (L18_0_d3 a1 v1 v5 x2 v3) 34 3 32 (.sl 1 v1 3 0 v2) (.sl 4 0 3 0 1) = some ((.sl 1 v1 3 0 (v2 + 1)), L18_0_d2 a1 v1 v5 v2 x2 v3)) (apc q0 apn))))
     ·
      rw [← sj h]
      exact rn ([(61, .d false), (92, .r (.sl 1 (v1 + 1) 3 0 (v2 + 1)) (L18_0_d4 a1 v1 v5 v2 x2 v3)), (6000, .d true)] ++ kH k4) (k4.b (av h4 (apc ((ap_out (e := eEdit) (xs := v5) (news := [(⟨(w6 (x2.frm + v3)), (w6 ((w6 (x2.frm + v3)) + (x2.text.size : Int))), (a1.extract (Int.toNat x2.frm) (Int.toNat x2.til))⟩ : EditD)]) rfl (rows_x (e := eEdit) (xs := [(⟨(w6 (x2.frm + v3)), (w6 ((w6 (x2.frm + v3)) + (x2.text.size : Int))), (a1.extract (Int.toNat x2.frm) (Int.toNat x2.til))⟩ : EditD)]) rfl) rfl h5 h6) : appA (L18_0_d3 a1 v1 v5 x2 v3) 34 3 32 (.sl 1 v1 3 0 v2) (.sl 4 0 3 0 1) = some ((.sl 1 (v1 + 1) 3 0 (v2 + 1)), L18_0_d4 a1 v1 v5 v2 x2 v3)) (apc q1 apn))))
    ·
     cases h
  ·
   cases h
 ·
  rw [← sj h]
  exact xb [(34, .d false), (6000, .d true)] (av h1 apn)
theorem L18_0_run (s0 : Nat × Nat × Int × Int × (List EditD)) (e : E_L18_0) (h : runL (fun s => L18_0 a1 a2 a3 s.1 s.2.1 s.2.2.1 s.2.2.2.1 s.2.2.2.2) s0 = some e) : L18_0_x a1 a2 e (L18_0_e a1 a2 a3 s0.1 s0.2.1 s0.2.2.1 s0.2.2.2.1 s0.2.2.2.2) := by
  have q := @loop_sound' (Nat × Nat × Int × Int × (List EditD)) E_L18_0 (fun s => L18_0 a1 a2 a3 s.1 s.2.1 s.2.2.1 s.2.2.2.1 s.2.2.2.2) (fun s => L18_0_e a1 a2 a3 s.1 s.2.1 s.2.2.1 s.2.2.2.1 s.2.2.2.2) (L18_0_x a1 a2) (fun s r h => L18_0_ok a1 a2 a3 s.1 s.2.1 s.2.2.1 s.2.2.2.1 s.2.2.2.2 h) s0 e h
  exact q
end
inductive R_F18 where
  | k0 (x0 : List EditD) (x1 : Int)
def F18_v (a1 : ByteArray) (a2 : List EditD) (r : R_F18) : AV := match r with | .k0 x0 x1 => (.tup [ls 3 eEdit x0, i6 x1])
def F18 (Nf : Nat) (a1 : ByteArray) (a2 : List EditD) : Option R_F18 :=
  ((F13 Nf a1 a2).bind fun r1 => match r1 with | .k0 x1_0 x1_1 => (bif (x1_1 != 0) then (some (.k0 ([]) x1_1)) else ((F25 Nf a2).bind fun r3 => match r3 with | .k0 x3_0 x3_1 => ((runL (fun s => L18_0 a1 x3_0 (x3_0.length : Int) s.1 s.2.1 s.2.2.1 s.2.2.2.1 s.2.2.2.2) (0, 0, 0, 0, [])).bind fun r4 => match r4 with | .k0 x4_0 x4_1 x4_2 => (bif (decide (x4_1 ≤ x4_2.length)) then (some (.k0 (x4_2.take x4_1) 0)) else none)))))
abbrev F18_d0 (g4 : Nat → AV) (a1 : ByteArray) (x4_0 x4_1 : Nat) (x3_0 x4_2 : List EditD) : St := ⟨fr 108 g4 [(0, vs a1), (10, .sl 1 x4_0 3 0 x4_1), (31, ls 3 eEdit x3_0)], [yE0, yE x4_0 x4_2]⟩
theorem F18_ok (Nf : Nat) (a1 : ByteArray) (a2 : List EditD) {r : R_F18} (h : F18 Nf a1 a2 = some r) : PR2 prg 18 [vs a1, ls 3 eEdit a2] (F18_v a1 a2 r) := by
 unfold F18 at h
 apply bn h; intro r1 h1 h
 cases r1 with
 | k0 x1_0 x1_1 =>
  have q0 := (((F13_ok Nf a1 a2 h1).cp rfl _) : CP prg 13 [vs a1, ls 3 eEdit a2] [yE0] = some (.tup [vs x1_0, i6 x1_1]))
  apply bi h <;> intro h2 h
  ·
   rw [← sj h]
   exact fpn (v := (.tup [.sl 1 0 3 0 0, i6 x1_1])) (h' := [yE0, yE0]) [(20, .v (.tup [vs x1_0, i6 x1_1])), (24, .d true)] (apc q0 (av h2 apn)) (purA_tup (purAs_cons (purA_sl (e := eEdit) (xs := []) rfl rfl) (purAs_cons rfl purAs_nil))) rfl (purA_tup (purAs_cons (purA_sl (e := eEdit) (xs := []) (getq rfl (nols_ra (fun _ => rfl))) rfl) (purAs_cons rfl purAs_nil))) (by kernel_rfl)
  ·
   have k1 := ka [(20, .v (.tup [vs x1_0, i6 x1_1])), (24, .d false)] (apc q0 (av h2 apn))
   apply bn h; intro r3 h3 h
   cases r3 with
   | k0 x3_0 x3_1 =>
    have q2 := (((F25_ok Nf a2 h3).cp rfl _) : CP prg 25 [ls 3 eEdit a2] [yE0] = some (.tup [ls 3 eEdit x3_0, i6 x3_1]))
    have k3 := k1.a [(28, .v (.tup [ls 3 eEdit x3_0, i6 x3_1])), (32, .v (i6 (x3_0.length : Int)))] (apc q2 (apc (lg x3_0 eEdit 3) apn))
    apply bn h; intro r4 h4 h
    cases r4 with
    | k0 x4_0 x4_1 x4_2 =>
     obtain ⟨g4, e4⟩ := L18_0_run a1 x3_0 (x3_0.length : Int) (0, 0, 0, 0, []) _ h4
     have q4 := (e4 : L18_0_e a1 x3_0 (x3_0.length : Int) 0 0 0 0 ([]) = some ((.brk 0), F18_d0 g4 a1 x4_0 x4_1 x3_0 x4_2))
     have k5 := k3.a [(2000, .l (.brk 0) (F18_d0 g4 a1 x4_0 x4_1 x3_0 x4_2))] (apc (L18_0_k a1 x3_0 (x3_0.length : Int) 0 0 0 0 ([])) (apc q4 apn))
     apply bi h <;> intro h5 h
     ·
      rw [← sj h]
      exact fpn (v := (.tup [.sl 1 x4_0 3 0 x4_1, i6 0])) (h' := [yE0, yE x4_0 x4_2]) ([(6000, .d true)] ++ kH k5) (k5.b apn) (purA_tup (purAs_cons (purA_sl (e := eEdit) rfl h5) (purAs_cons rfl purAs_nil))) rfl (purA_tup (purAs_cons (purA_sl (e := eEdit) (getq rfl (nols_ra (fun _ => rfl))) h5) (purAs_cons rfl purAs_nil))) (by kernel_rfl)
     ·
      cases h
inductive E_L7_4 where
  | k0
  | k1
section
variable (a1 : ByteArray) (a2 : List EditD) (a3 : Nat) (a4 : ByteArray) (a5 : Int) (a6 : List EditD) (a7 : Int) (a8 : List EditD)
abbrev L7_4_p (l : List AB) : List AB := yE 0 a8 :: .row 34 3 0 [[i6 0, i6 0, (vs (⟨([122, 122] : List UInt8).toArray⟩ : ByteArray))]] :: l
def L7_4 (v1 : Int) : Option (E_L7_4 ⊕ (Int)) :=
  (bif (decide (v1 < (a2.length : Int))) then ((ixN a3 v1).bind fun x2 => ((a8[x2]?).bind fun x3 => ((getI a2 v1).bind fun x4 => (bif (!((x3.frm == x4.frm) && ((x3.til == x4.til) && ((x3.text == x4.text) && true)))) then (some (.inl (.k0))) else (some (.inr ((IntKind.wrap .i64 (v1 + 1))))))))) else (some (.inl (.k1))))
def L7_4_s (v1 : Int) : St := ⟨fr 269 ug [(0, vs a1), (1, ls 3 eEdit a2), (5, .sl 0 0 3 0 a3), (6, vs a4), (7, i6 a5), (8, ls 3 eEdit a6), (9, i6 a7), (10, i6 v1)], (L7_4_p a8 [])⟩
theorem L7_4_k (v1 : Int) : okT 2 (L7_4_s a1 a2 a3 a4 a5 a6 a7 a8 v1).h = true := (okT_of rfl (ar (ac rfl)))
abbrev L7_4_e (v1 : Int) := evH prg 2 [0, 1, 5, 6, 7, 8, 9, 10] ir7_l4 (L7_4_s a1 a2 a3 a4 a5 a6 a7 a8 v1)
def L7_4_x (e : E_L7_4) (r : Option (Out × St)) : Prop := match e with | .k0 => ∃ g y, r = some (.ret, ⟨fr 269 g [(4, vb false)], y⟩) | .k1 => ∃ g, r = some ((.brk 0), ⟨fr 269 g [(0, vs a1), (1, ls 3 eEdit a2), (5, .sl 0 0 3 0 a3), (6, vs a4), (7, i6 a5), (8, ls 3 eEdit a6), (9, i6 a7)], (L7_4_p a8 [])⟩)
theorem L7_4_ok (v1 : Int) {r : E_L7_4 ⊕ (Int)} (h : L7_4 a2 a3 a8 v1 = some r) : OkR (fun e => L7_4_x a1 a2 a3 a4 a5 a6 a7 a8 e (L7_4_e a1 a2 a3 a4 a5 a6 a7 a8 v1)) (fun s => L7_4_e a1 a2 a3 a4 a5 a6 a7 a8 v1 = L7_4_e a1 a2 a3 a4 a5 a6 a7 a8 s) r := by
 unfold L7_4 at h
 have k0 := ka [(51, .v (i6 (a2.length : Int)))] (apc (lg a2 eEdit 3) apn)
 apply bi h <;> intro h1 h
 ·
  apply bn h; intro x2 h2 h
  have q1 := ((idx_sl h2) : idxA 3 (.sl 0 0 3 0 a3) (i6 v1) = some (.rp 0 0 3 x2 0))
  have k2 := k0.a [(52, .d true), (57, .v (.rp 0 0 3 x2 0))] (av h1 (apc q1 apn))
  apply bn h; intro x3 h3 h
  have q3 := ((ld_row rfl h3 rfl) : ldA (L7_4_p a8 []) .true 3 (.rp 0 0 3 x2 0) = some (aE x3))
  apply bn h; intro x4 h4 h
  have k4 := k2.a [(58, .v (aE x3)), (61, .v (.ro (eEdit x4)))] (apc q3 (apc (ig eEdit 3 .i64 h4) apn))
  apply bi h <;> intro h5 h
  ·
   rw [← sj h]
   exact xy ([(63, .d true), (6000, .d true)] ++ kH k4) (k4.b (av h5 apn))
  ·
   rw [← sj h]
   exact rn ([(63, .d false), (6000, .d true)] ++ kH k4) (k4.b (av h5 (apc (L7_4_k a1 a2 a3 a4 a5 a6 a7 a8 (w6 (v1 + 1))) apn)))
 ·
  rw [← sj h]
  exact xb ([(52, .d false), (6000, .d true)] ++ kH k0) (k0.b (av h1 apn))
theorem L7_4_run (s0 : Int) (e : E_L7_4) (h : runL (fun s => L7_4 a2 a3 a8 s) s0 = some e) : L7_4_x a1 a2 a3 a4 a5 a6 a7 a8 e (L7_4_e a1 a2 a3 a4 a5 a6 a7 a8 s0) := by
  have q := @loop_sound' (Int) E_L7_4 (fun s => L7_4 a2 a3 a8 s) (fun s => L7_4_e a1 a2 a3 a4 a5 a6 a7 a8 s) (L7_4_x a1 a2 a3 a4 a5 a6 a7 a8) (fun s r h => L7_4_ok a1 a2 a3 a4 a5 a6 a7 a8 s h) s0 e h
  exact q
end
inductive E_L19_0 where
  | k0
  | k1
section
variable (a1 : Int) (a2 : List EditD)
def L19_0 (v1 : Int) : Option (E_L19_0 ⊕ (Int)) :=
  (bif (decide (v1 < (a2.length : Int))) then ((getI a2 v1).bind fun x2 => (bif (decide (x2.frm < 0)) then (some (.inl (.k0))) else (bif (decide (x2.til < x2.frm)) then (some (.inl (.k0))) else (bif (decide (x2.til > a1)) then (some (.inl (.k0))) else (some (.inr ((IntKind.wrap .i64 (v1 + 1))))))))) else (some (.inl (.k1))))
def L19_0_s (v1 : Int) : St := ⟨fr 44 ug [(0, i6 a1), (1, ls 3 eEdit a2), (5, i6 v1)], []⟩
theorem L19_0_k (v1 : Int) : okT 0 (L19_0_s a1 a2 v1).h = true := (okT_of rfl rfl)
abbrev L19_0_e (v1 : Int) := evH prg 0 [0, 1, 5] ir19_l0 (L19_0_s a1 a2 v1)
def L19_0_x (e : E_L19_0) (r : Option (Out × St)) : Prop := match e with | .k0 => ∃ g y, r = some (.ret, ⟨fr 44 g [(4, vb false)], y⟩) | .k1 => ∃ g, r = some ((.brk 0), ⟨fr 44 g [], []⟩)
theorem L19_0_ok (v1 : Int) {r : E_L19_0 ⊕ (Int)} (h : L19_0 a1 a2 v1 = some r) : OkR (fun e => L19_0_x e (L19_0_e a1 a2 v1)) (fun s => L19_0_e a1 a2 v1 = L19_0_e a1 a2 s) r := by
 unfold L19_0 at h
 have k0 := ka [(8, .v (i6 (a2.length : Int)))] (apc (lg a2 eEdit 3) apn)
 apply bi h <;> intro h1 h
 ·
  apply bn h; intro x2 h2 h
  have k1 := k0.a [(9, .d true), (14, .v (.ro (eEdit x2)))] (av h1 (apc (ig eEdit 3 .i64 h2) apn))
  apply bi h <;> intro h3 h
  ·
   rw [← sj h]
   exact xy ([(18, .d true), (6000, .d true)] ++ kH k1) (k1.b (av h3 apn))
  ·
   have k2 := k1.a [(18, .d false), (22, .v (.ro (eEdit x2))), (28, .v (.ro (eEdit x2)))] (av h3 (apc (ig eEdit 3 .i64 h2) (apc (ig eEdit 3 .i64 h2) apn)))
   apply bi h <;> intro h4 h
   ·
    rw [← sj h]
    exact xy ([(32, .d true), (6000, .d true)] ++ kH k2) (k2.b (av h4 apn))
   ·
    have k3 := k2.a [(32, .d false), (37, .v (.ro (eEdit x2)))] (av h4 (apc (ig eEdit 3 .i64 h2) apn))
    apply bi h <;> intro h5 h
    ·
     rw [← sj h]
     exact xy ([(42, .d true), (6000, .d true)] ++ kH k3) (k3.b (av h5 apn))
    ·
     rw [← sj h]
     exact rn ([(42, .d false), (6000, .d true)] ++ kH k3) (k3.b (av h5 (apc (L19_0_k a1 a2 (w6 (v1 + 1))) apn)))
 ·
  rw [← sj h]
  exact xb ([(9, .d false), (6000, .d true)] ++ kH k0) (k0.b (av h1 apn))
theorem L19_0_run (s0 : Int) (e : E_L19_0) (h : runL (fun s => L19_0 a1 a2 s) s0 = some e) : L19_0_x e (L19_0_e a1 a2 s0) := by
  have q := @loop_sound' (Int) E_L19_0 (fun s => L19_0 a1 a2 s) (fun s => L19_0_e a1 a2 s) (L19_0_x) (fun s r h => L19_0_ok a1 a2 s h) s0 e h
  exact q
end
def F19_v (a1 : Int) (a2 : List EditD) (x0 : Bool) : AV := (vb x0)
def F19 (a1 : Int) (a2 : List EditD) : Option Bool :=
  ((runL (fun s => L19_0 a1 a2 s) 0).bind fun r1 => match r1 with | .k0 => (some false) | .k1 => (some true))
theorem F19_ok (a1 : Int) (a2 : List EditD) {r : Bool} (h : F19 a1 a2 = some r) : PR1 prg 19 [i6 a1, ls 3 eEdit a2] (F19_v a1 a2 r) := by
 unfold F19 at h
 apply bn h; intro r1 h1 h
 cases r1 with
 | k0 =>
  obtain ⟨g1, y1, e1⟩ := L19_0_run a1 a2 0 _ h1
  rw [← sj h]
  exact fq [(2000, .l .ret ⟨fr 44 g1 [(4, vb false)], y1⟩), (6000, .d true)] (apc (L19_0_k a1 a2 0) (apc (e1 : L19_0_e a1 a2 0 = some (.ret, ⟨fr 44 g1 [(4, vb false)], y1⟩)) apn))
 | k1 =>
  obtain ⟨g1, e1⟩ := L19_0_run a1 a2 0 _ h1
  rw [← sj h]
  exact fq [(2000, .l (.brk 0) ⟨fr 44 g1 [], []⟩), (6000, .d true)] (apc (L19_0_k a1 a2 0) (apc (e1 : L19_0_e a1 a2 0 = some ((.brk 0), ⟨fr 44 g1 [], []⟩)) apn))
def F33_v (a1 a2 : EditD) (x0 : Bool) : AV := (vb x0)
def F33 (a1 a2 : EditD) : Option Bool :=
  (bif (a1.frm == a1.til) then (bif (a2.frm == a2.til) then (some (a1.frm == a2.frm)) else (bif (decide (a2.frm < a1.frm)) then (some (decide (a1.frm < a2.til))) else (some false))) else (bif (a2.frm == a2.til) then (bif (decide (a1.frm < a2.frm)) then (some (decide (a2.frm < a1.til))) else (some false)) else (bif (decide (a1.frm < a2.til)) then (some (decide (a2.frm < a1.til))) else (some false))))
theorem F33_ok (a1 a2 : EditD) {r : Bool} (h : F33 a1 a2 = some r) : PR1 prg 33 [(.agg ((List.take 2 (eEdit a1)).map .p)), (.agg ((List.take 2 (eEdit a2)).map .p))] (F33_v a1 a2 r) := by
 unfold F33 at h
 apply bi h <;> intro h1 h
 ·
  apply bi h <;> intro h2 h
  ·
   rw [← sj h]
   exact fq [(9, .d true), (15, .d true)] (av h1 (av h2 apn))
  ·
   have k0 := ka [(9, .d true), (15, .d false), (26, .d true)] (av h1 (av h2 (av h1 apn)))
   apply bi h <;> intro h3 h
   ·
    rw [← sj h]
    exact fq ([(31, .d true)] ++ kH k0) (k0.b (av h3 apn))
   ·
    rw [← sj h]
    exact fq ([(31, .d false)] ++ kH k0) (k0.b (av h3 apn))
 ·
  have k1 := ka [(9, .d false), (26, .d false)] (av h1 (av h1 apn))
  apply bi h <;> intro h2 h
  ·
   apply bi h <;> intro h3 h
   ·
    rw [← sj h]
    exact fq ([(43, .d true), (48, .d true)] ++ kH k1) (k1.b (av h2 (av h3 apn)))
   ·
    rw [← sj h]
    exact fq ([(43, .d true), (48, .d false)] ++ kH k1) (k1.b (av h2 (av h3 apn)))
  ·
   apply bi h <;> intro h3 h
   ·
    rw [← sj h]
    exact fq ([(43, .d false), (60, .d true)] ++ kH k1) (k1.b (av h2 (av h3 apn)))
   ·
    rw [← sj h]
    exact fq ([(43, .d false), (60, .d false)] ++ kH k1) (k1.b (av h2 (av h3 apn)))
inductive E_L20_0_2 where
  | k0
  | k1
section
variable (a1 : List EditD) (a2 : Int)
def L20_0_2 (v1 : Int) : Option (E_L20_0_2 ⊕ (Int)) :=
  (bif (decide (v1 < a2)) then ((getI a1 a2).bind fun x2 => ((getI a1 v1).bind fun x3 => ((F33 x2 x3).bind fun x4 => (bif x4 then (some (.inl (.k0))) else (some (.inr ((IntKind.wrap .i64 (v1 + 1))))))))) else (some (.inl (.k1))))
def L20_0_2_s (v1 : Int) : St := ⟨fr 27 ug [(0, ls 3 eEdit a1), (3, i6 a2), (4, i6 v1)], []⟩
theorem L20_0_2_k (v1 : Int) : okT 0 (L20_0_2_s a1 a2 v1).h = true := (okT_of rfl rfl)
abbrev L20_0_2_e (v1 : Int) := evH prg 0 [0, 3, 4] ir20_l0 (L20_0_2_s a1 a2 v1)
def L20_0_2_x (e : E_L20_0_2) (r : Option (Out × St)) : Prop := match e with | .k0 => ∃ g y, r = some (.ret, ⟨fr 27 g [(2, vb true)], y⟩) | .k1 => ∃ g, r = some ((.brk 2), ⟨fr 27 g [(0, ls 3 eEdit a1), (3, i6 a2)], []⟩)
theorem L20_0_2_ok (v1 : Int) {r : E_L20_0_2 ⊕ (Int)} (h : L20_0_2 a1 a2 v1 = some r) : OkR (fun e => L20_0_2_x a1 a2 e (L20_0_2_e a1 a2 v1)) (fun s => L20_0_2_e a1 a2 v1 = L20_0_2_e a1 a2 s) r := by
 unfold L20_0_2 at h
 apply bi h <;> intro h1 h
 ·
  apply bn h; intro x2 h2 h
  have k0 := ka [(13, .d true), (18, .v (.ro (eEdit x2)))] (av h1 (apc (ig eEdit 3 .i64 h2) apn))
  apply bn h; intro x3 h3 h
  apply bn h; intro x4 h4 h
  apply bi h <;> intro h5 h
  ·
   rw [← sj h]
   exact xy ([(23, .v (.ro (eEdit x3))), (26, .v (vb true)), (6000, .d true)] ++ kH k0) (k0.b (apc (ig eEdit 3 .i64 h3) (apc ((((F33_ok x2 x3 h4).cp rfl _).trans (congrArg (fun z => some (vb z)) h5)) : CP prg 33 [(.agg ((List.take 2 (eEdit x2)).map .p)), (.agg ((List.take 2 (eEdit x3)).map .p))] [] = some (vb true)) apn)))
  ·
   rw [← sj h]
   exact rn ([(23, .v (.ro (eEdit x3))), (26, .v (vb false)), (6000, .d true)] ++ kH k0) (k0.b (apc (ig eEdit 3 .i64 h3) (apc ((((F33_ok x2 x3 h4).cp rfl _).trans (congrArg (fun z => some (vb z)) h5)) : CP prg 33 [(.agg ((List.take 2 (eEdit x2)).map .p)), (.agg ((List.take 2 (eEdit x3)).map .p))] [] = some (vb false)) (apc (L20_0_2_k a1 a2 (w6 (v1 + 1))) apn))))
 ·
  rw [← sj h]
  exact xb [(13, .d false), (6000, .d true)] (av h1 apn)
theorem L20_0_2_run (s0 : Int) (e : E_L20_0_2) (h : runL (fun s => L20_0_2 a1 a2 s) s0 = some e) : L20_0_2_x a1 a2 e (L20_0_2_e a1 a2 s0) := by
  have q := @loop_sound' (Int) E_L20_0_2 (fun s => L20_0_2 a1 a2 s) (fun s => L20_0_2_e a1 a2 s) (L20_0_2_x a1 a2) (fun s r h => L20_0_2_ok a1 a2 s h) s0 e h
  exact q
end
inductive E_L20_1 where
  | k0
  | k1
section
variable (a1 : List EditD)
def L20_1 (v1 : Int) : Option (E_L20_1 ⊕ (Int)) :=
  (bif (decide (v1 < (a1.length : Int))) then ((runL (fun s => L20_0_2 a1 v1 s) 0).bind fun r2 => match r2 with | .k0 => (some (.inl (.k0))) | .k1 => (some (.inr ((IntKind.wrap .i64 (v1 + 1)))))) else (some (.inl (.k1))))
def L20_1_s (v1 : Int) : St := ⟨fr 27 ug [(0, ls 3 eEdit a1), (3, i6 v1)], []⟩
theorem L20_1_k (v1 : Int) : okT 0 (L20_1_s a1 v1).h = true := (okT_of rfl rfl)
abbrev L20_1_e (v1 : Int) := evH prg 0 [0, 3] ir20_l1 (L20_1_s a1 v1)
def L20_1_x (e : E_L20_1) (r : Option (Out × St)) : Prop := match e with | .k0 => ∃ g y, r = some (.ret, ⟨fr 27 g [(2, vb true)], y⟩) | .k1 => ∃ g, r = some ((.brk 0), ⟨fr 27 g [], []⟩)
theorem L20_1_ok (v1 : Int) {r : E_L20_1 ⊕ (Int)} (h : L20_1 a1 v1 = some r) : OkR (fun e => L20_1_x e (L20_1_e a1 v1)) (fun s => L20_1_e a1 v1 = L20_1_e a1 s) r := by
 unfold L20_1 at h
 have k0 := ka [(7, .v (i6 (a1.length : Int)))] (apc (lg a1 eEdit 3) apn)
 apply bi h <;> intro h1 h
 ·
  apply bn h; intro r2 h2 h
  cases r2 with
  | k0 =>
   obtain ⟨g2, y2, e2⟩ := L20_0_2_run a1 v1 0 _ h2
   rw [← sj h]
   exact xy ([(8, .d true), (2002, .l .ret ⟨fr 27 g2 [(2, vb true)], y2⟩), (6000, .d true)] ++ kH k0) (k0.b (av h1 (apc (L20_0_2_k a1 v1 0) (apc (e2 : L20_0_2_e a1 v1 0 = some (.ret, ⟨fr 27 g2 [(2, vb true)], y2⟩)) apn))))
  | k1 =>
   obtain ⟨g2, e2⟩ := L20_0_2_run a1 v1 0 _ h2
   rw [← sj h]
   exact rn ([(8, .d true), (2002, .l (.brk 2) ⟨fr 27 g2 [(0, ls 3 eEdit a1), (3, i6 v1)], []⟩), (6000, .d true)] ++ kH k0) (k0.b (av h1 (apc (L20_0_2_k a1 v1 0) (apc (e2 : L20_0_2_e a1 v1 0 = some ((.brk 2), ⟨fr 27 g2 [(0, ls 3 eEdit a1), (3, i6 v1)], []⟩)) (apc (L20_1_k a1 (w6 (v1 + 1))) apn)))))
 ·
  rw [← sj h]
  exact xb ([(8, .d false), (6000, .d true)] ++ kH k0) (k0.b (av h1 apn))
theorem L20_1_run (s0 : Int) (e : E_L20_1) (h : runL (fun s => L20_1 a1 s) s0 = some e) : L20_1_x e (L20_1_e a1 s0) := by
  have q := @loop_sound' (Int) E_L20_1 (fun s => L20_1 a1 s) (fun s => L20_1_e a1 s) (L20_1_x) (fun s r h => L20_1_ok a1 s h) s0 e h
  exact q
end
def F20_v (a1 : List EditD) (x0 : Bool) : AV := (vb x0)
def F20 (a1 : List EditD) : Option Bool :=
  ((runL (fun s => L20_1 a1 s) 0).bind fun r1 => match r1 with | .k0 => (some true) | .k1 => (some false))
theorem F20_ok (a1 : List EditD) {r : Bool} (h : F20 a1 = some r) : PR1 prg 20 [ls 3 eEdit a1] (F20_v a1 r) := by
 unfold F20 at h
 apply bn h; intro r1 h1 h
 cases r1 with
 | k0 =>
  obtain ⟨g1, y1, e1⟩ := L20_1_run a1 0 _ h1
  rw [← sj h]
  exact fq [(2000, .l .ret ⟨fr 27 g1 [(2, vb true)], y1⟩), (6000, .d true)] (apc (L20_1_k a1 0) (apc (e1 : L20_1_e a1 0 = some (.ret, ⟨fr 27 g1 [(2, vb true)], y1⟩)) apn))
 | k1 =>
  obtain ⟨g1, e1⟩ := L20_1_run a1 0 _ h1
  rw [← sj h]
  exact fq [(2000, .l (.brk 0) ⟨fr 27 g1 [], []⟩), (6000, .d true)] (apc (L20_1_k a1 0) (apc (e1 : L20_1_e a1 0 = some ((.brk 0), ⟨fr 27 g1 [], []⟩)) apn))
inductive E_L7_2_2 where
  | k0 (x0 : ByteArray) (x1 : Bool) (x2 : ByteArray)
section
variable (a1 : ByteArray) (a2 : List EditD) (a3 : ByteArray) (a4 : Int) (a5 : List EditD) (a6 a8 : Int) (a9 : List EditD)
abbrev L7_2_2_p (l : List AB) : List AB := yE 0 a9 :: .row 34 3 0 [[i6 0, i6 0, (vs (⟨([122, 122] : List UInt8).toArray⟩ : ByteArray))]] :: l
def L7_2_2 (v1 : ByteArray) (v2 : Bool) (v3 : ByteArray) (v4 : Int) : Option (E_L7_2_2 ⊕ (ByteArray × Bool × ByteArray × Int)) :=
  (bif (decide (v4 < (a2.length : Int))) then ((getI a2 v4).bind fun x2 => (bif (x2.frm == a8) then (bif (x2.til == a8) then (bif (decide (v1.size + x2.text.size ≤ 9223372036854775807)) then (bif (decide (x2.til > a8)) then (bif (decide (v3.size + x2.text.size ≤ 9223372036854775807)) then (bif v2 then (some (.inr ((v1 ++ x2.text), true, (v3 ++ x2.text), (IntKind.wrap .i64 (v4 + 1))))) else (bif (decide (x2.frm ≤ a8)) then (bif (decide (a8 < x2.til)) then (some (.inr ((v1 ++ x2.text), true, (v3 ++ x2.text), (IntKind.wrap .i64 (v4 + 1))))) else (some (.inr ((v1 ++ x2.text), false, (v3 ++ x2.text), (IntKind.wrap .i64 (v4 + 1)))))) else (some (.inr ((v1 ++ x2.text), false, (v3 ++ x2.text), (IntKind.wrap .i64 (v4 + 1))))))) else none) else (bif v2 then (some (.inr ((v1 ++ x2.text), true, v3, (IntKind.wrap .i64 (v4 + 1))))) else (bif (decide (x2.frm ≤ a8)) then (bif (decide (a8 < x2.til)) then (some (.inr ((v1 ++ x2.text), true, v3, (IntKind.wrap .i64 (v4 + 1))))) else (some (.inr ((v1 ++ x2.text), false, v3, (IntKind.wrap .i64 (v4 + 1)))))) else (some (.inr ((v1 ++ x2.text), false, v3, (IntKind.wrap .i64 (v4 + 1)))))))) else none) else (bif (decide (x2.til > a8)) then (bif (decide (v3.size + x2.text.size ≤ 9223372036854775807)) then (bif v2 then (some (.inr (v1, true, (v3 ++ x2.text), (IntKind.wrap .i64 (v4 + 1))))) else (bif (decide (x2.frm ≤ a8)) then (bif (decide (a8 < x2.til)) then (some (.inr (v1, true, (v3 ++ x2.text), (IntKind.wrap .i64 (v4 + 1))))) else (some (.inr (v1, false, (v3 ++ x2.text), (IntKind.wrap .i64 (v4 + 1)))))) else (some (.inr (v1, false, (v3 ++ x2.text), (IntKind.wrap .i64 (v4 + 1))))))) else none) else (bif v2 then (some (.inr (v1, true, v3, (IntKind.wrap .i64 (v4 + 1))))) else (bif (decide (x2.frm ≤ a8)) then (bif (decide (a8 < x2.til)) then (some (.inr (v1, true, v3, (IntKind.wrap .i64 (v4 + 1))))) else (some (.inr (v1, false, v3, (IntKind.wrap .i64 (v4 + 1)))))) else (some (.inr (v1, false, v3, (IntKind.wrap .i64 (v4 + 1))))))))) else (bif v2 then (some (.inr (v1, true, v3, (IntKind.wrap .i64 (v4 + 1))))) else (bif (decide (x2.frm ≤ a8)) then (bif (decide (a8 < x2.til)) then (some (.inr (v1, true, v3, (IntKind.wrap .i64 (v4 + 1))))) else (some (.inr (v1, false, v3, (IntKind.wrap .i64 (v4 + 1)))))) else (some (.inr (v1, false, v3, (IntKind.wrap .i64 (v4 + 1))))))))) else (some (.inl (.k0 v1 v2 v3))))
def L7_2_2_s (v1 : ByteArray) (v2 : Bool) (v3 : ByteArray) (v4 : Int) : St := ⟨fr 269 ug [(0, vs a1), (1, ls 3 eEdit a2), (6, vs a3), (7, i6 a4), (8, ls 3 eEdit a5), (9, i6 a6), (12, vs v1), (13, i6 a8), (14, vb v2), (15, vs v3), (16, i6 v4)], (L7_2_2_p a9 [])⟩
theorem L7_2_2_k (v1 : ByteArray) (v2 : Bool) (v3 : ByteArray) (v4 : Int) : okT 2 (L7_2_2_s a1 a2 a3 a4 a5 a6 a8 a9 v1 v2 v3 v4).h = true := (okT_of rfl (ar (ac rfl)))
abbrev L7_2_2_e (v1 : ByteArray) (v2 : Bool) (v3 : ByteArray) (v4 : Int) := evH prg 2 [0, 1, 6, 7, 8, 9, 12, 13, 14, 15, 16] ir7_l2 (L7_2_2_s a1 a2 a3 a4 a5 a6 a8 a9 v1 v2 v3 v4)
def L7_2_2_x (e : E_L7_2_2) (r : Option (Out × St)) : Prop := match e with | .k0 x0 x1 x2 => ∃ g, r = some ((.brk 4), ⟨fr 269 g [(0, vs a1), (1, ls 3 eEdit a2), (6, vs a3), (7, i6 a4), (8, ls 3 eEdit a5), (9, i6 a6), (12, vs x0), (13, i6 a8), (14, vb x1), (15, vs x2)], (L7_2_2_p a9 [])⟩)
theorem L7_2_2_ok (v1 : ByteArray) (v2 : Bool) (v3 : ByteArray) (v4 : Int) {r : E_L7_2_2 ⊕ (ByteArray × Bool × ByteArray × Int)} (h : L7_2_2 a2 a8 v1 v2 v3 v4 = some r) : OkR (fun e => L7_2_2_x a1 a2 a3 a4 a5 a6 a8 a9 e (L7_2_2_e a1 a2 a3 a4 a5 a6 a8 a9 v1 v2 v3 v4)) (fun s => L7_2_2_e a1 a2 a3 a4 a5 a6 a8 a9 v1 v2 v3 v4 = L7_2_2_e a1 a2 a3 a4 a5 a6 a8 a9 s.1 s.2.1 s.2.2.1 s.2.2.2) r := by
 unfold L7_2_2 at h
 have q0 := (L7_2_2_k a1 a2 a3 a4 a5 a6 a8 a9 v1 true v3 (w6 (v4 + 1)))
 have q1 := (L7_2_2_k a1 a2 a3 a4 a5 a6 a8 a9 v1 false v3 (w6 (v4 + 1)))
 have k2 := ka [(112, .v (i6 (a2.length : Int)))] (apc (lg a2 eEdit 3) apn)
 apply bi h <;> intro h1 h
 ·
  apply bn h; intro x2 h2 h
  have q3 := (L7_2_2_k a1 a2 a3 a4 a5 a6 a8 a9 (v1 ++ x2.text) true (v3 ++ x2.text) (w6 (v4 + 1)))
  have q4 := (L7_2_2_k a1 a2 a3 a4 a5 a6 a8 a9 (v1 ++ x2.text) false (v3 ++ x2.text) (w6 (v4 + 1)))
  have q5 := (L7_2_2_k a1 a2 a3 a4 a5 a6 a8 a9 (v1 ++ x2.text) true v3 (w6 (v4 + 1)))
  have q6 := (L7_2_2_k a1 a2 a3 a4 a5 a6 a8 a9 (v1 ++ x2.text) false v3 (w6 (v4 + 1)))
  have q7 := (L7_2_2_k a1 a2 a3 a4 a5 a6 a8 a9 v1 true (v3 ++ x2.text) (w6 (v4 + 1)))
  have q8 := (L7_2_2_k a1 a2 a3 a4 a5 a6 a8 a9 v1 false (v3 ++ x2.text) (w6 (v4 + 1)))
  have k9 := k2.a [(113, .d true), (118, .v (.ro (eEdit x2)))] (av h1 (apc (ig eEdit 3 .i64 h2) apn))
  apply bi h <;> intro h3 h
  ·
   apply bi h <;> intro h4 h
   ·
    have k10 := k9.a [(124, .d true), (129, .d true), (134, .v (.ro (eEdit x2)))] (av h3 (av h4 (apc (ig eEdit 3 .i64 h2) apn)))
    apply bi h <;> intro h5 h
    ·
     have q11 := ((st_add h5) : binA .add (vs v1) (vs x2.text) = some (vs (v1 ++ x2.text)))
     have k12 := k10.a [(137, .v (vs (v1 ++ x2.text))), (141, .d true)] (apc q11 (av h3 apn))
     apply bi h <;> intro h6 h
     ·
      have k13 := k12.a [(146, .d true), (151, .v (.ro (eEdit x2)))] (av h6 (apc (ig eEdit 3 .i64 h2) apn))
      apply bi h <;> intro h7 h
      ·
       have q14 := ((st_add h7) : binA .add (vs v3) (vs x2.text) = some (vs (v3 ++ x2.text)))
       apply bi h <;> intro h8 h
       ·
        rw [← sj h]
        exact rn ([(154, .v (vs (v3 ++ x2.text))), (155, .d true), (6000, .d true)] ++ kH k13) (k13.b (apc q14 (av h8 (apc q3 apn))))
       ·
        have k15 := k13.a [(154, .v (vs (v3 ++ x2.text))), (155, .d false)] (apc q14 (av h8 apn))
        apply bi h <;> intro h9 h
        ·
         apply bi h <;> intro h10 h
         ·
          rw [← sj h]
          exact rn ([(160, .d true), (165, .d true), (6000, .d true)] ++ kH k15) (k15.b (av h9 (av h10 (apc q3 apn))))
         ·
          rw [← sj h]
          exact rn ([(160, .d true), (165, .d false), (6000, .d true)] ++ kH k15) (k15.b (av h9 (av h10 (apc q4 apn))))
        ·
         rw [← sj h]
         exact rn ([(160, .d false), (6000, .d true)] ++ kH k15) (k15.b (av h9 (apc q4 apn)))
      ·
       cases h
     ·
      apply bi h <;> intro h7 h
      ·
       rw [← sj h]
       exact rn ([(146, .d false), (155, .d true), (6000, .d true)] ++ kH k12) (k12.b (av h6 (av h7 (apc q5 apn))))
      ·
       have k16 := k12.a [(146, .d false), (155, .d false)] (av h6 (av h7 apn))
       apply bi h <;> intro h8 h
       ·
        apply bi h <;> intro h9 h
        ·
         rw [← sj h]
         exact rn ([(160, .d true), (165, .d true), (6000, .d true)] ++ kH k16) (k16.b (av h8 (av h9 (apc q5 apn))))
        ·
         rw [← sj h]
         exact rn ([(160, .d true), (165, .d false), (6000, .d true)] ++ kH k16) (k16.b (av h8 (av h9 (apc q6 apn))))
       ·
        rw [← sj h]
        exact rn ([(160, .d false), (6000, .d true)] ++ kH k16) (k16.b (av h8 (apc q6 apn)))
    ·
     cases h
   ·
    have k17 := k9.a [(124, .d true), (129, .d false), (141, .d true)] (av h3 (av h4 (av h3 apn)))
    apply bi h <;> intro h5 h
    ·
     have k18 := k17.a [(146, .d true), (151, .v (.ro (eEdit x2)))] (av h5 (apc (ig eEdit 3 .i64 h2) apn))
     apply bi h <;> intro h6 h
     ·
      have q19 := ((st_add h6) : binA .add (vs v3) (vs x2.text) = some (vs (v3 ++ x2.text)))
      apply bi h <;> intro h7 h
      ·
       rw [← sj h]
       exact rn ([(154, .v (vs (v3 ++ x2.text))), (155, .d true), (6000, .d true)] ++ kH k18) (k18.b (apc q19 (av h7 (apc q7 apn))))
      ·
       have k20 := k18.a [(154, .v (vs (v3 ++ x2.text))), (155, .d false)] (apc q19 (av h7 apn))
       apply bi h <;> intro h8 h
       ·
        apply bi h <;> intro h9 h
        ·
         rw [← sj h]
         exact rn ([(160, .d true), (165, .d true), (6000, .d true)] ++ kH k20) (k20.b (av h8 (av h9 (apc q7 apn))))
        ·
         rw [← sj h]
         exact rn ([(160, .d true), (165, .d false), (6000, .d true)] ++ kH k20) (k20.b (av h8 (av h9 (apc q8 apn))))
       ·
        rw [← sj h]
        exact rn ([(160, .d false), (6000, .d true)] ++ kH k20) (k20.b (av h8 (apc q8 apn)))
     ·
      cases h
    ·
     apply bi h <;> intro h6 h
     ·
      rw [← sj h]
      exact rn ([(146, .d false), (155, .d true), (6000, .d true)] ++ kH k17) (k17.b (av h5 (av h6 (apc q0 apn))))
     ·
      have k21 := k17.a [(146, .d false), (155, .d false)] (av h5 (av h6 apn))
      apply bi h <;> intro h7 h
      ·
       apply bi h <;> intro h8 h
       ·
        rw [← sj h]
        exact rn ([(160, .d true), (165, .d true), (6000, .d true)] ++ kH k21) (k21.b (av h7 (av h8 (apc q0 apn))))
       ·
        rw [← sj h]
        exact rn ([(160, .d true), (165, .d false), (6000, .d true)] ++ kH k21) (k21.b (av h7 (av h8 (apc q1 apn))))
      ·
       rw [← sj h]
       exact rn ([(160, .d false), (6000, .d true)] ++ kH k21) (k21.b (av h7 (apc q1 apn)))
  ·
   have k22 := k9.a [(124, .d false), (141, .d false)] (av h3 (av h3 apn))
   apply bi h <;> intro h4 h
   ·
    rw [← sj h]
    exact rn ([(155, .d true), (6000, .d true)] ++ kH k22) (k22.b (av h4 (apc q0 apn)))
   ·
    apply bi h <;> intro h5 h
    ·
     have k23 := k22.a [(155, .d false), (160, .d true)] (av h4 (av h5 apn))
     apply bi h <;> intro h6 h
     ·
      rw [← sj h]
      exact rn ([(165, .d true), (6000, .d true)] ++ kH k23) (k23.b (av h6 (apc q0 apn)))
     ·
      rw [← sj h]
      exact rn ([(165, .d false), (6000, .d true)] ++ kH k23) (k23.b (av h6 (apc q1 apn)))
    ·
     rw [← sj h]
     exact rn ([(155, .d false), (160, .d false), (6000, .d true)] ++ kH k22) (k22.b (av h4 (av h5 (apc q1 apn))))
 ·
  rw [← sj h]
  exact xb ([(113, .d false), (6000, .d true)] ++ kH k2) (k2.b (av h1 apn))
theorem L7_2_2_run (s0 : ByteArray × Bool × ByteArray × Int) (e : E_L7_2_2) (h : runL (fun s => L7_2_2 a2 a8 s.1 s.2.1 s.2.2.1 s.2.2.2) s0 = some e) : L7_2_2_x a1 a2 a3 a4 a5 a6 a8 a9 e (L7_2_2_e a1 a2 a3 a4 a5 a6 a8 a9 s0.1 s0.2.1 s0.2.2.1 s0.2.2.2) := by
  have q := @loop_sound' (ByteArray × Bool × ByteArray × Int) E_L7_2_2 (fun s => L7_2_2 a2 a8 s.1 s.2.1 s.2.2.1 s.2.2.2) (fun s => L7_2_2_e a1 a2 a3 a4 a5 a6 a8 a9 s.1 s.2.1 s.2.2.1 s.2.2.2) (L7_2_2_x a1 a2 a3 a4 a5 a6 a8 a9) (fun s r h => L7_2_2_ok a1 a2 a3 a4 a5 a6 a8 a9 s.1 s.2.1 s.2.2.1 s.2.2.2 h) s0 e h
  exact q
end
inductive E_L7_3 where
  | k0 (x0 : ByteArray)
section
variable (a1 : ByteArray) (a2 : List EditD) (a3 : ByteArray) (a4 : Int) (a5 : List EditD) (a6 : Int) (a7 : List EditD)
abbrev L7_3_p (l : List AB) : List AB := yE 0 a7 :: .row 34 3 0 [[i6 0, i6 0, (vs (⟨([122, 122] : List UInt8).toArray⟩ : ByteArray))]] :: l
def L7_3 (v1 : ByteArray) (v2 : Int) : Option (E_L7_3 ⊕ (ByteArray × Int)) :=
  (bif (decide (v2 ≤ (a1.size : Int))) then ((runL (fun s => L7_2_2 a2 v2 s.1 s.2.1 s.2.2.1 s.2.2.2) (v1, false, (⟨([] : List UInt8).toArray⟩ : ByteArray), 0)).bind fun r2 => match r2 with | .k0 x2_0 x2_1 x2_2 => (bif (decide (x2_0.size + x2_2.size ≤ 9223372036854775807)) then (bif (decide (v2 < (a1.size : Int))) then (bif x2_1 then (some (.inr ((x2_0 ++ x2_2), (IntKind.wrap .i64 (v2 + 1))))) else (bif (sl_ok v2 (IntKind.wrap .i64 (v2 + 1)) a1.size) then (bif (decide ((x2_0 ++ x2_2).size + (a1.extract (Int.toNat v2) (Int.toNat (IntKind.wrap .i64 (v2 + 1)))).size ≤ 9223372036854775807)) then (some (.inr (((x2_0 ++ x2_2) ++ (a1.extract (Int.toNat v2) (Int.toNat (IntKind.wrap .i64 (v2 + 1))))), (IntKind.wrap .i64 (v2 + 1))))) else none) else none)) else (some (.inr ((x2_0 ++ x2_2), (IntKind.wrap .i64 (v2 + 1)))))) else none)) else (some (.inl (.k0 v1))))
def L7_3_s (v1 : ByteArray) (v2 : Int) : St := ⟨fr 269 ug [(0, vs a1), (1, ls 3 eEdit a2), (6, vs a3), (7, i6 a4), (8, ls 3 eEdit a5), (9, i6 a6), (12, vs v1), (13, i6 v2)], (L7_3_p a7 [])⟩
theorem L7_3_k (v1 : ByteArray) (v2 : Int) : okT 2 (L7_3_s a1 a2 a3 a4 a5 a6 a7 v1 v2).h = true := (okT_of rfl (ar (ac rfl)))
abbrev L7_3_e (v1 : ByteArray) (v2 : Int) := evH prg 2 [0, 1, 6, 7, 8, 9, 12, 13] ir7_l3 (L7_3_s a1 a2 a3 a4 a5 a6 a7 v1 v2)
def L7_3_x (e : E_L7_3) (r : Option (Out × St)) : Prop := match e with | .k0 x0 => ∃ g, r = some ((.brk 2), ⟨fr 269 g [(0, vs a1), (1, ls 3 eEdit a2), (6, vs a3), (7, i6 a4), (8, ls 3 eEdit a5), (9, i6 a6), (12, vs x0)], (L7_3_p a7 [])⟩)
abbrev L7_3_d0 (g2 : Nat → AV) (x2_0 : ByteArray) (v2 : Int) (x2_1 : Bool) (x2_2 : ByteArray) : St := ⟨fr 269 g2 [(0, vs a1), (1, ls 3 eEdit a2), (6, vs a3), (7, i6 a4), (8, ls 3 eEdit a5), (9, i6 a6), (12, vs x2_0), (13, i6 v2), (14, vb x2_1), (15, vs x2_2)], (L7_3_p a7 [])⟩
theorem L7_3_ok (v1 : ByteArray) (v2 : Int) {r : E_L7_3 ⊕ (ByteArray × Int)} (h : L7_3 a1 a2 v1 v2 = some r) : OkR (fun e => L7_3_x a1 a2 a3 a4 a5 a6 a7 e (L7_3_e a1 a2 a3 a4 a5 a6 a7 v1 v2)) (fun s => L7_3_e a1 a2 a3 a4 a5 a6 a7 v1 v2 = L7_3_e a1 a2 a3 a4 a5 a6 a7 s.1 s.2) r := by
 unfold L7_3 at h
 have q0 := (L7_2_2_k a1 a2 a3 a4 a5 a6 v2 a7 v1 false (⟨([] : List UInt8).toArray⟩ : ByteArray) 0)
 apply bi h <;> intro h1 h
 ·
  apply bn h; intro r2 h2 h
  cases r2 with
  | k0 x2_0 x2_1 x2_2 =>
   obtain ⟨g2, e2⟩ := L7_2_2_run a1 a2 a3 a4 a5 a6 v2 a7 (v1, false, (⟨([] : List UInt8).toArray⟩ : ByteArray), 0) _ h2
   have q1 := (e2 : L7_2_2_e a1 a2 a3 a4 a5 a6 v2 a7 v1 false (⟨([] : List UInt8).toArray⟩ : ByteArray) 0 = some ((.brk 4), L7_3_d0 a1 a2 a3 a4 a5 a6 a7 g2 x2_0 v2 x2_1 x2_2))
   have q2 := (L7_3_k a1 a2 a3 a4 a5 a6 a7 (x2_0 ++ x2_2) (w6 (v2 + 1)))
   have k3 := ka [(107, .d true), (2004, .l (.brk 4) (L7_3_d0 a1 a2 a3 a4 a5 a6 a7 g2 x2_0 v2 x2_1 x2_2))] (av h1 (apc q0 (apc q1 apn)))
   apply bi h <;> intro h3 h
   ·
    have q4 := ((st_add h3) : binA .add (vs x2_0) (vs x2_2) = some (vs (x2_0 ++ x2_2)))
    apply bi h <;> intro h4 h
    ·
     have k5 := k3.a [(170, .v (vs (x2_0 ++ x2_2))), (174, .d true)] (apc q4 (av h4 apn))
     apply bi h <;> intro h5 h
     ·
      rw [← sj h]
      exact rn ([(176, .d true), (6000, .d true)] ++ kH k5) (k5.b (av h5 (apc q2 apn)))
     ·
      apply bi h <;> intro h6 h
      ·
       have q6 := ((sl_str h6) : slS (vs a1) (some v2) (some (w6 (v2 + 1))) = some (vs (a1.extract (Int.toNat v2) (Int.toNat (w6 (v2 + 1))))))
       have k7 := k5.a [(176, .d false), (184, .v (vs (a1.extract (Int.toNat v2) (Int.toNat (w6 (v2 + 1))))))] (av h5 (apc q6 apn))
       apply bi h <;> intro h7 h
       ·
        rw [← sj h]
        exact rn ([(185, .v (vs ((x2_0 ++ x2_2) ++ (a1.extract (Int.toNat v2) (Int.toNat (w6 (v2 + 1))))))), (6000, .d true)] ++ kH k7) (k7.b (apc ((st_add h7) : binA .add (vs (x2_0 ++ x2_2)) (vs (a1.extract (Int.toNat v2) (Int.toNat (w6 (v2 + 1))))) = some (vs ((x2_0 ++ x2_2) ++ (a1.extract (Int.toNat v2) (Int.toNat (w6 (v2 + 1))))))) (apc (L7_3_k a1 a2 a3 a4 a5 a6 a7 ((x2_0 ++ x2_2) ++ (a1.extract (Int.toNat v2) (Int.toNat (w6 (v2 + 1))))) (w6 (v2 + 1))) apn)))
       ·
        cases h
      ·
       cases h
    ·
     rw [← sj h]
     exact rn ([(170, .v (vs (x2_0 ++ x2_2))), (174, .d false), (6000, .d true)] ++ kH k3) (k3.b (apc q4 (av h4 (apc q2 apn))))
   ·
    cases h
 ·
  rw [← sj h]
  exact xb [(107, .d false), (6000, .d true)] (av h1 apn)
theorem L7_3_run (s0 : ByteArray × Int) (e : E_L7_3) (h : runL (fun s => L7_3 a1 a2 s.1 s.2) s0 = some e) : L7_3_x a1 a2 a3 a4 a5 a6 a7 e (L7_3_e a1 a2 a3 a4 a5 a6 a7 s0.1 s0.2) := by
  have q := @loop_sound' (ByteArray × Int) E_L7_3 (fun s => L7_3 a1 a2 s.1 s.2) (fun s => L7_3_e a1 a2 a3 a4 a5 a6 a7 s.1 s.2) (L7_3_x a1 a2 a3 a4 a5 a6 a7) (fun s r h => L7_3_ok a1 a2 a3 a4 a5 a6 a7 s.1 s.2 h) s0 e h
  exact q
end
inductive E_L7_1 where
  | k0 (x0 x1 : Nat) (x2 : List EditD)
section
variable (a1 : ByteArray) (a2 : List EditD) (a3 : ByteArray) (a4 : Int) (a5 : List EditD) (a6 : Int) (a7 : ByteArray) (a9 : List EditD)
abbrev L7_1_p (l : List AB) : List AB := yE 0 a9 :: .row 34 3 0 [[i6 0, i6 0, (vs (⟨([122, 122] : List UInt8).toArray⟩ : ByteArray))]] :: l
def L7_1 (v1 v2 : Nat) (v3 : Int) (v4 : List EditD) : Option (E_L7_1 ⊕ (Nat × Nat × Int × (List EditD))) :=
  (bif (decide (v3 ≥ 0)) then ((getI a2 v3).bind fun x2 => (bif (apOk v2 1 v4.length 32) then (bif (decide (v2 + 1 ≤ v4.length)) then (some (.inr (v1, v2 + 1, (IntKind.wrap .i64 (v3 - 1)), (splice v4 v2 [(⟨x2.frm, x2.til, x2.text⟩ : EditD)])))) else (some (.inr ((v1 + 1), v2 + 1, (IntKind.wrap .i64 (v3 - 1)), (v4.take v2 ++ [(⟨x2.frm, x2.til, x2.text⟩ : EditD)]))))) else none)) else (some (.inl (.k0 v1 v2 v4))))
def L7_1_s (v1 v2 : Nat) (v3 : Int) (v4 : List EditD) : St := ⟨fr 269 ug [(0, vs a1), (1, ls 3 eEdit a2), (6, vs a3), (7, i6 a4), (8, ls 3 eEdit a5), (9, i6 a6), (12, vs a7), (18, .sl 2 v1 3 0 v2), (19, i6 v3)], (L7_1_p a9 [yE v1 v4])⟩
theorem L7_1_k (v1 v2 : Nat) (v3 : Int) (v4 : List EditD) : okT 3 (L7_1_s a1 a2 a3 a4 a5 a6 a7 a9 v1 v2 v3 v4).h = true := (okT_of rfl (ar (ac (ar rfl))))
abbrev L7_1_e (v1 v2 : Nat) (v3 : Int) (v4 : List EditD) := evH prg 3 [0, 1, 6, 7, 8, 9, 12, 18, 19] ir7_l1 (L7_1_s a1 a2 a3 a4 a5 a6 a7 a9 v1 v2 v3 v4)
def L7_1_x (e : E_L7_1) (r : Option (Out × St)) : Prop := match e with | .k0 x0 x1 x2 => ∃ g, r = some ((.brk 6), ⟨fr 269 g [(0, vs a1), (1, ls 3 eEdit a2), (6, vs a3), (7, i6 a4), (8, ls 3 eEdit a5), (9, i6 a6), (12, vs a7), (18, .sl 2 x0 3 0 x1)], (L7_1_p a9 [yE x0 x2])⟩)
abbrev L7_1_d0 (v1 : Nat) (v4 : List EditD) (v2 : Nat) (x2 : EditD) : List AB := (L7_1_p a9 [yE v1 (splice v4 v2 [(⟨x2.frm, x2.til, x2.text⟩ : EditD)]), .row 34 3 0 [[i6 x2.frm, i6 x2.til, vs x2.text]]])
abbrev L7_1_d1 (v1 : Nat) (v4 : List EditD) (x2 : EditD) : List AB := (L7_1_p a9 [yE v1 v4, .row 34 3 0 [[i6 x2.frm, i6 x2.til, vs x2.text]]])
abbrev L7_1_d2 (v1 : Nat) (v4 : List EditD) (v2 : Nat) (x2 : EditD) : List AB := (L7_1_p a9 [yE (v1 + 1) (v4.take v2 ++ [(⟨x2.frm, x2.til, x2.text⟩ : EditD)]), .row 34 3 0 [[i6 x2.frm, i6 x2.til, vs x2.text]]])
theorem L7_1_ok (v1 v2 : Nat) (v3 : Int) (v4 : List EditD) {r : E_L7_1 ⊕ (Nat × Nat × Int × (List EditD))} (h : L7_1 a2 v1 v2 v3 v4 = some r) : OkR (fun e => L7_1_x a1 a2 a3 a4 a5 a6 a7 a9 e (L7_1_e a1 a2 a3 a4 a5 a6 a7 a9 v1 v2 v3 v4)) (fun s => L7_1_e a1 a2 a3 a4 a5 a6 a7 a9 v1 v2 v3 v4 = L7_1_e a1 a2 a3 a4 a5 a6 a7 a9 s.1 s.2.1 s.2.2.1 s.2.2.2) r := by
 unfold L7_1 at h
 apply bi h <;> intro h1 h
 ·
  apply bn h; intro x2 h2 h
  have k0 := ka [(190, .d true), (196, .v (.ro (eEdit x2)))] (av h1 (apc (ig eEdit 3 .i64 h2) apn))
  apply bi h <;> intro h3 h
  ·
   apply bi h <;> intro h4 h
   ·
    rw [← sj h]
    exact rn ([(199, .r (.sl 2 v1 3 0 (v2 + 1)) (L7_1_d0 a9 v1 v4 v2 x2)), (6000, .d true)] ++ kH k0) (k0.b (apc ((ap_in (e := eEdit) (xs := v4) (news := [(⟨x2.frm, x2.til, x2.text⟩ : EditD)]) rfl (rows_x (e := eEdit) (xs := [(⟨x2.frm, x2.til, x2.text⟩ : EditD)]) rfl) rfl h3 h4) : appA (L7_1_d1 a9 v1 v4 x2) 34 3 32 (.sl 2 v1 3 0 v2) (.sl 3 0 3 0 1) = some ((.sl 2 v1 3 0 (v2 + 1)), L7_1_d0 a9 v1 v4 v2 x2)) (apc (L7_1_k a1 a2 a3 a4 a5 a6 a7 a9 v1 (v2 + 1) (w6 (v3 - 1)) (splice v4 v2 [(⟨x2.frm, x2.til, x2.text⟩ : EditD)])) apn)))
   ·
    rw [← sj h]
    exact rn ([(199, .r (.sl 2 (v1 + 1) 3 0 (v2 + 1)) (L7_1_d2 a9 v1 v4 v2 x2)), (6000, .d true)] ++ kH k0) (k0.b (apc ((ap_out (e := eEdit) (xs := v4) (news := [(⟨x2.frm, x2.til, x2.text⟩ : EditD)]) rfl (rows_x (e := eEdit) (xs := [(⟨x2.frm, x2.til, x2.text⟩ : EditD)]) rfl) rfl h3 h4) : appA (L7_1_d1 a9 v1 v4 x2) 34 3 32 (.sl 2 v1 3 0 v2) (.sl 3 0 3 0 1) = some ((.sl 2 (v1 + 1) 3 0 (v2 + 1)), L7_1_d2 a9 v1 v4 v2 x2)) (apc (L7_1_k a1 a2 a3 a4 a5 a6 a7 a9 (v1 + 1) (v2 + 1) (w6 (v3 - 1)) (v4.take v2 ++ [(⟨x2.frm, x2.til, x2.text⟩ : EditD)])) apn)))
  ·
   cases h
 ·
  rw [← sj h]
  exact xb [(190, .d false), (6000, .d true)] (av h1 apn)
theorem L7_1_run (s0 : Nat × Nat × Int × (List EditD)) (e : E_L7_1) (h : runL (fun s => L7_1 a2 s.1 s.2.1 s.2.2.1 s.2.2.2) s0 = some e) : L7_1_x a1 a2 a3 a4 a5 a6 a7 a9 e (L7_1_e a1 a2 a3 a4 a5 a6 a7 a9 s0.1 s0.2.1 s0.2.2.1 s0.2.2.2) := by
  have q := @loop_sound' (Nat × Nat × Int × (List EditD)) E_L7_1 (fun s => L7_1 a2 s.1 s.2.1 s.2.2.1 s.2.2.2) (fun s => L7_1_e a1 a2 a3 a4 a5 a6 a7 a9 s.1 s.2.1 s.2.2.1 s.2.2.2) (L7_1_x a1 a2 a3 a4 a5 a6 a7 a9) (fun s r h => L7_1_ok a1 a2 a3 a4 a5 a6 a7 a9 s.1 s.2.1 s.2.2.1 s.2.2.2 h) s0 e h
  exact q
end
inductive E_L7_0 where
  | k0
  | k1
section
variable (a1 a2 : ByteArray) (a3 a4 : List EditD) (a5 : Nat) (a6 : List EditD)
abbrev L7_0_p (l : List AB) : List AB := yE 0 a4 :: .row 34 3 0 [[i6 0, i6 0, (vs (⟨([122, 122] : List UInt8).toArray⟩ : ByteArray))]] :: yE a5 a6 :: l
def L7_0 (v1 : Int) : Option (E_L7_0 ⊕ (Int)) :=
  (bif (decide (v1 < (a3.length : Int))) then ((getI a3 v1).bind fun x2 => ((getI a3 (IntKind.wrap .i64 (v1 - 1))).bind fun x3 => (bif (decide (x2.frm < x3.frm)) then (some (.inl (.k0))) else (some (.inr ((IntKind.wrap .i64 (v1 + 1)))))))) else (some (.inl (.k1))))
def L7_0_s (v1 : Int) : St := ⟨fr 269 ug [(0, vs a1), (6, vs a2), (8, ls 3 eEdit a3), (22, i6 v1)], (L7_0_p a4 a5 a6 [])⟩
theorem L7_0_k (v1 : Int) : okT 3 (L7_0_s a1 a2 a3 a4 a5 a6 v1).h = true := (okT_of rfl (ar (ac (ar rfl))))
abbrev L7_0_e (v1 : Int) := evH prg 3 [0, 6, 8, 22] ir7_l0 (L7_0_s a1 a2 a3 a4 a5 a6 v1)
def L7_0_x (e : E_L7_0) (r : Option (Out × St)) : Prop := match e with | .k0 => ∃ g y, r = some (.ret, ⟨fr 269 g [(4, vb false)], y⟩) | .k1 => ∃ g, r = some ((.brk 8), ⟨fr 269 g [(0, vs a1), (6, vs a2), (8, ls 3 eEdit a3)], (L7_0_p a4 a5 a6 [])⟩)
theorem L7_0_ok (v1 : Int) {r : E_L7_0 ⊕ (Int)} (h : L7_0 a3 v1 = some r) : OkR (fun e => L7_0_x a1 a2 a3 a4 a5 a6 e (L7_0_e a1 a2 a3 a4 a5 a6 v1)) (fun s => L7_0_e a1 a2 a3 a4 a5 a6 v1 = L7_0_e a1 a2 a3 a4 a5 a6 s) r := by
 unfold L7_0 at h
 have k0 := ka [(235, .v (i6 (a3.length : Int)))] (apc (lg a3 eEdit 3) apn)
 apply bi h <;> intro h1 h
 ·
  apply bn h; intro x2 h2 h
  have k1 := k0.a [(236, .d true), (241, .v (.ro (eEdit x2)))] (av h1 (apc (ig eEdit 3 .i64 h2) apn))
  apply bn h; intro x3 h3 h
  apply bi h <;> intro h4 h
  ·
   rw [← sj h]
   exact xy ([(248, .v (.ro (eEdit x3))), (252, .d true), (6000, .d true)] ++ kH k1) (k1.b (apc (ig eEdit 3 .i64 h3) (av h4 apn)))
  ·
   rw [← sj h]
   exact rn ([(248, .v (.ro (eEdit x3))), (252, .d false), (6000, .d true)] ++ kH k1) (k1.b (apc (ig eEdit 3 .i64 h3) (av h4 (apc (L7_0_k a1 a2 a3 a4 a5 a6 (w6 (v1 + 1))) apn))))
 ·
  rw [← sj h]
  exact xb ([(236, .d false), (6000, .d true)] ++ kH k0) (k0.b (av h1 apn))
theorem L7_0_run (s0 : Int) (e : E_L7_0) (h : runL (fun s => L7_0 a3 s) s0 = some e) : L7_0_x a1 a2 a3 a4 a5 a6 e (L7_0_e a1 a2 a3 a4 a5 a6 s0) := by
  have q := @loop_sound' (Int) E_L7_0 (fun s => L7_0 a3 s) (fun s => L7_0_e a1 a2 a3 a4 a5 a6 s) (L7_0_x a1 a2 a3 a4 a5 a6) (fun s r h => L7_0_ok a1 a2 a3 a4 a5 a6 s h) s0 e h
  exact q
end
inductive E_L7_4_2 where
  | k0
  | k1
section
variable (a1 : ByteArray) (a2 : List EditD) (a3 : Nat) (a4 : ByteArray) (a5 : Int) (a6 : List EditD) (a7 : Int) (a8 : List EditD)
abbrev L7_4_2_p (l : List AB) : List AB := yE 1 a8 :: .row 34 3 0 [[i6 0, i6 0, (vs (⟨([122, 122] : List UInt8).toArray⟩ : ByteArray))]] :: l
def L7_4_2 (v1 : Int) : Option (E_L7_4_2 ⊕ (Int)) :=
  (bif (decide (v1 < (a2.length : Int))) then ((ixN a3 v1).bind fun x2 => ((a8[x2]?).bind fun x3 => ((getI a2 v1).bind fun x4 => (bif (!((x3.frm == x4.frm) && ((x3.til == x4.til) && ((x3.text == x4.text) && true)))) then (some (.inl (.k0))) else (some (.inr ((IntKind.wrap .i64 (v1 + 1))))))))) else (some (.inl (.k1))))
def L7_4_2_s (v1 : Int) : St := ⟨fr 269 ug [(0, vs a1), (1, ls 3 eEdit a2), (5, .sl 0 1 3 0 a3), (6, vs a4), (7, i6 a5), (8, ls 3 eEdit a6), (9, i6 a7), (10, i6 v1)], (L7_4_2_p a8 [])⟩
theorem L7_4_2_k (v1 : Int) : okT 2 (L7_4_2_s a1 a2 a3 a4 a5 a6 a7 a8 v1).h = true := (okT_of rfl (ar (ac rfl)))
abbrev L7_4_2_e (v1 : Int) := evH prg 2 [0, 1, 5, 6, 7, 8, 9, 10] ir7_l4 (L7_4_2_s a1 a2 a3 a4 a5 a6 a7 a8 v1)
def L7_4_2_x (e : E_L7_4_2) (r : Option (Out × St)) : Prop := match e with | .k0 => ∃ g y, r = some (.ret, ⟨fr 269 g [(4, vb false)], y⟩) | .k1 => ∃ g, r = some ((.brk 0), ⟨fr 269 g [(0, vs a1), (1, ls 3 eEdit a2), (5, .sl 0 1 3 0 a3), (6, vs a4), (7, i6 a5), (8, ls 3 eEdit a6), (9, i6 a7)], (L7_4_2_p a8 [])⟩)
theorem L7_4_2_ok (v1 : Int) {r : E_L7_4_2 ⊕ (Int)} (h : L7_4_2 a2 a3 a8 v1 = some r) : OkR (fun e => L7_4_2_x a1 a2 a3 a4 a5 a6 a7 a8 e (L7_4_2_e a1 a2 a3 a4 a5 a6 a7 a8 v1)) (fun s => L7_4_2_e a1 a2 a3 a4 a5 a6 a7 a8 v1 = L7_4_2_e a1 a2 a3 a4 a5 a6 a7 a8 s) r := by
 unfold L7_4_2 at h
 have k0 := ka [(51, .v (i6 (a2.length : Int)))] (apc (lg a2 eEdit 3) apn)
 apply bi h <;> intro h1 h
 ·
  apply bn h; intro x2 h2 h
  have q1 := ((idx_sl h2) : idxA 3 (.sl 0 1 3 0 a3) (i6 v1) = some (.rp 0 1 3 x2 0))
  have k2 := k0.a [(52, .d true), (57, .v (.rp 0 1 3 x2 0))] (av h1 (apc q1 apn))
  apply bn h; intro x3 h3 h
  have q3 := ((ld_row rfl h3 rfl) : ldA (L7_4_2_p a8 []) .true 3 (.rp 0 1 3 x2 0) = some (aE x3))
  apply bn h; intro x4 h4 h
  have k4 := k2.a [(58, .v (aE x3)), (61, .v (.ro (eEdit x4)))] (apc q3 (apc (ig eEdit 3 .i64 h4) apn))
  apply bi h <;> intro h5 h
  ·
   rw [← sj h]
   exact xy ([(63, .d true), (6000, .d true)] ++ kH k4) (k4.b (av h5 apn))
  ·
   rw [← sj h]
   exact rn ([(63, .d false), (6000, .d true)] ++ kH k4) (k4.b (av h5 (apc (L7_4_2_k a1 a2 a3 a4 a5 a6 a7 a8 (w6 (v1 + 1))) apn)))
 ·
  rw [← sj h]
  exact xb ([(52, .d false), (6000, .d true)] ++ kH k0) (k0.b (av h1 apn))
theorem L7_4_2_run (s0 : Int) (e : E_L7_4_2) (h : runL (fun s => L7_4_2 a2 a3 a8 s) s0 = some e) : L7_4_2_x a1 a2 a3 a4 a5 a6 a7 a8 e (L7_4_2_e a1 a2 a3 a4 a5 a6 a7 a8 s0) := by
  have q := @loop_sound' (Int) E_L7_4_2 (fun s => L7_4_2 a2 a3 a8 s) (fun s => L7_4_2_e a1 a2 a3 a4 a5 a6 a7 a8 s) (L7_4_2_x a1 a2 a3 a4 a5 a6 a7 a8) (fun s r h => L7_4_2_ok a1 a2 a3 a4 a5 a6 a7 a8 s h) s0 e h
  exact q
end
inductive E_L7_2_4 where
  | k0 (x0 : ByteArray) (x1 : Bool) (x2 : ByteArray)
section
variable (a1 : ByteArray) (a2 : List EditD) (a3 : ByteArray) (a4 : Int) (a5 : List EditD) (a6 a8 : Int) (a9 : List EditD)
abbrev L7_2_4_p (l : List AB) : List AB := yE 1 a9 :: .row 34 3 0 [[i6 0, i6 0, (vs (⟨([122, 122] : List UInt8).toArray⟩ : ByteArray))]] :: l
def L7_2_4 (v1 : ByteArray) (v2 : Bool) (v3 : ByteArray) (v4 : Int) : Option (E_L7_2_4 ⊕ (ByteArray × Bool × ByteArray × Int)) :=
  (bif (decide (v4 < (a2.length : Int))) then ((getI a2 v4).bind fun x2 => (bif (x2.frm == a8) then (bif (x2.til == a8) then (bif (decide (v1.size + x2.text.size ≤ 9223372036854775807)) then (bif (decide (x2.til > a8)) then (bif (decide (v3.size + x2.text.size ≤ 9223372036854775807)) then (bif v2 then (some (.inr ((v1 ++ x2.text), true, (v3 ++ x2.text), (IntKind.wrap .i64 (v4 + 1))))) else (bif (decide (x2.frm ≤ a8)) then (bif (decide (a8 < x2.til)) then (some (.inr ((v1 ++ x2.text), true, (v3 ++ x2.text), (IntKind.wrap .i64 (v4 + 1))))) else (some (.inr ((v1 ++ x2.text), false, (v3 ++ x2.text), (IntKind.wrap .i64 (v4 + 1)))))) else (some (.inr ((v1 ++ x2.text), false, (v3 ++ x2.text), (IntKind.wrap .i64 (v4 + 1))))))) else none) else (bif v2 then (some (.inr ((v1 ++ x2.text), true, v3, (IntKind.wrap .i64 (v4 + 1))))) else (bif (decide (x2.frm ≤ a8)) then (bif (decide (a8 < x2.til)) then (some (.inr ((v1 ++ x2.text), true, v3, (IntKind.wrap .i64 (v4 + 1))))) else (some (.inr ((v1 ++ x2.text), false, v3, (IntKind.wrap .i64 (v4 + 1)))))) else (some (.inr ((v1 ++ x2.text), false, v3, (IntKind.wrap .i64 (v4 + 1)))))))) else none) else (bif (decide (x2.til > a8)) then (bif (decide (v3.size + x2.text.size ≤ 9223372036854775807)) then (bif v2 then (some (.inr (v1, true, (v3 ++ x2.text), (IntKind.wrap .i64 (v4 + 1))))) else (bif (decide (x2.frm ≤ a8)) then (bif (decide (a8 < x2.til)) then (some (.inr (v1, true, (v3 ++ x2.text), (IntKind.wrap .i64 (v4 + 1))))) else (some (.inr (v1, false, (v3 ++ x2.text), (IntKind.wrap .i64 (v4 + 1)))))) else (some (.inr (v1, false, (v3 ++ x2.text), (IntKind.wrap .i64 (v4 + 1))))))) else none) else (bif v2 then (some (.inr (v1, true, v3, (IntKind.wrap .i64 (v4 + 1))))) else (bif (decide (x2.frm ≤ a8)) then (bif (decide (a8 < x2.til)) then (some (.inr (v1, true, v3, (IntKind.wrap .i64 (v4 + 1))))) else (some (.inr (v1, false, v3, (IntKind.wrap .i64 (v4 + 1)))))) else (some (.inr (v1, false, v3, (IntKind.wrap .i64 (v4 + 1))))))))) else (bif v2 then (some (.inr (v1, true, v3, (IntKind.wrap .i64 (v4 + 1))))) else (bif (decide (x2.frm ≤ a8)) then (bif (decide (a8 < x2.til)) then (some (.inr (v1, true, v3, (IntKind.wrap .i64 (v4 + 1))))) else (some (.inr (v1, false, v3, (IntKind.wrap .i64 (v4 + 1)))))) else (some (.inr (v1, false, v3, (IntKind.wrap .i64 (v4 + 1))))))))) else (some (.inl (.k0 v1 v2 v3))))
def L7_2_4_s (v1 : ByteArray) (v2 : Bool) (v3 : ByteArray) (v4 : Int) : St := ⟨fr 269 ug [(0, vs a1), (1, ls 3 eEdit a2), (6, vs a3), (7, i6 a4), (8, ls 3 eEdit a5), (9, i6 a6), (12, vs v1), (13, i6 a8), (14, vb v2), (15, vs v3), (16, i6 v4)], (L7_2_4_p a9 [])⟩
theorem L7_2_4_k (v1 : ByteArray) (v2 : Bool) (v3 : ByteArray) (v4 : Int) : okT 2 (L7_2_4_s a1 a2 a3 a4 a5 a6 a8 a9 v1 v2 v3 v4).h = true := (okT_of rfl (ar (ac rfl)))
abbrev L7_2_4_e (v1 : ByteArray) (v2 : Bool) (v3 : ByteArray) (v4 : Int) := evH prg 2 [0, 1, 6, 7, 8, 9, 12, 13, 14, 15, 16] ir7_l2 (L7_2_4_s a1 a2 a3 a4 a5 a6 a8 a9 v1 v2 v3 v4)
def L7_2_4_x (e : E_L7_2_4) (r : Option (Out × St)) : Prop := match e with | .k0 x0 x1 x2 => ∃ g, r = some ((.brk 4), ⟨fr 269 g [(0, vs a1), (1, ls 3 eEdit a2), (6, vs a3), (7, i6 a4), (8, ls 3 eEdit a5), (9, i6 a6), (12, vs x0), (13, i6 a8), (14, vb x1), (15, vs x2)], (L7_2_4_p a9 [])⟩)
theorem L7_2_4_ok (v1 : ByteArray) (v2 : Bool) (v3 : ByteArray) (v4 : Int) {r : E_L7_2_4 ⊕ (ByteArray × Bool × ByteArray × Int)} (h : L7_2_4 a2 a8 v1 v2 v3 v4 = some r) : OkR (fun e => L7_2_4_x a1 a2 a3 a4 a5 a6 a8 a9 e (L7_2_4_e a1 a2 a3 a4 a5 a6 a8 a9 v1 v2 v3 v4)) (fun s => L7_2_4_e a1 a2 a3 a4 a5 a6 a8 a9 v1 v2 v3 v4 = L7_2_4_e a1 a2 a3 a4 a5 a6 a8 a9 s.1 s.2.1 s.2.2.1 s.2.2.2) r := by
 unfold L7_2_4 at h
 have q0 := (L7_2_4_k a1 a2 a3 a4 a5 a6 a8 a9 v1 true v3 (w6 (v4 + 1)))
 have q1 := (L7_2_4_k a1 a2 a3 a4 a5 a6 a8 a9 v1 false v3 (w6 (v4 + 1)))
 have k2 := ka [(112, .v (i6 (a2.length : Int)))] (apc (lg a2 eEdit 3) apn)
 apply bi h <;> intro h1 h
 ·
  apply bn h; intro x2 h2 h
  have q3 := (L7_2_4_k a1 a2 a3 a4 a5 a6 a8 a9 (v1 ++ x2.text) true (v3 ++ x2.text) (w6 (v4 + 1)))
  have q4 := (L7_2_4_k a1 a2 a3 a4 a5 a6 a8 a9 (v1 ++ x2.text) false (v3 ++ x2.text) (w6 (v4 + 1)))
  have q5 := (L7_2_4_k a1 a2 a3 a4 a5 a6 a8 a9 (v1 ++ x2.text) true v3 (w6 (v4 + 1)))
  have q6 := (L7_2_4_k a1 a2 a3 a4 a5 a6 a8 a9 (v1 ++ x2.text) false v3 (w6 (v4 + 1)))
  have q7 := (L7_2_4_k a1 a2 a3 a4 a5 a6 a8 a9 v1 true (v3 ++ x2.text) (w6 (v4 + 1)))
  have q8 := (L7_2_4_k a1 a2 a3 a4 a5 a6 a8 a9 v1 false (v3 ++ x2.text) (w6 (v4 + 1)))
  have k9 := k2.a [(113, .d true), (118, .v (.ro (eEdit x2)))] (av h1 (apc (ig eEdit 3 .i64 h2) apn))
  apply bi h <;> intro h3 h
  ·
   apply bi h <;> intro h4 h
   ·
    have k10 := k9.a [(124, .d true), (129, .d true), (134, .v (.ro (eEdit x2)))] (av h3 (av h4 (apc (ig eEdit 3 .i64 h2) apn)))
    apply bi h <;> intro h5 h
    ·
     have q11 := ((st_add h5) : binA .add (vs v1) (vs x2.text) = some (vs (v1 ++ x2.text)))
     have k12 := k10.a [(137, .v (vs (v1 ++ x2.text))), (141, .d true)] (apc q11 (av h3 apn))
     apply bi h <;> intro h6 h
     ·
      have k13 := k12.a [(146, .d true), (151, .v (.ro (eEdit x2)))] (av h6 (apc (ig eEdit 3 .i64 h2) apn))
      apply bi h <;> intro h7 h
      ·
       have q14 := ((st_add h7) : binA .add (vs v3) (vs x2.text) = some (vs (v3 ++ x2.text)))
       apply bi h <;> intro h8 h
       ·
        rw [← sj h]
        exact rn ([(154, .v (vs (v3 ++ x2.text))), (155, .d true), (6000, .d true)] ++ kH k13) (k13.b (apc q14 (av h8 (apc q3 apn))))
       ·
        have k15 := k13.a [(154, .v (vs (v3 ++ x2.text))), (155, .d false)] (apc q14 (av h8 apn))
        apply bi h <;> intro h9 h
        ·
         apply bi h <;> intro h10 h
         ·
          rw [← sj h]
          exact rn ([(160, .d true), (165, .d true), (6000, .d true)] ++ kH k15) (k15.b (av h9 (av h10 (apc q3 apn))))
         ·
          rw [← sj h]
          exact rn ([(160, .d true), (165, .d false), (6000, .d true)] ++ kH k15) (k15.b (av h9 (av h10 (apc q4 apn))))
        ·
         rw [← sj h]
         exact rn ([(160, .d false), (6000, .d true)] ++ kH k15) (k15.b (av h9 (apc q4 apn)))
      ·
       cases h
     ·
      apply bi h <;> intro h7 h
      ·
       rw [← sj h]
       exact rn ([(146, .d false), (155, .d true), (6000, .d true)] ++ kH k12) (k12.b (av h6 (av h7 (apc q5 apn))))
      ·
       have k16 := k12.a [(146, .d false), (155, .d false)] (av h6 (av h7 apn))
       apply bi h <;> intro h8 h
       ·
        apply bi h <;> intro h9 h
        ·
         rw [← sj h]
         exact rn ([(160, .d true), (165, .d true), (6000, .d true)] ++ kH k16) (k16.b (av h8 (av h9 (apc q5 apn))))
        ·
         rw [← sj h]
         exact rn ([(160, .d true), (165, .d false), (6000, .d true)] ++ kH k16) (k16.b (av h8 (av h9 (apc q6 apn))))
       ·
        rw [← sj h]
        exact rn ([(160, .d false), (6000, .d true)] ++ kH k16) (k16.b (av h8 (apc q6 apn)))
    ·
     cases h
   ·
    have k17 := k9.a [(124, .d true), (129, .d false), (141, .d true)] (av h3 (av h4 (av h3 apn)))
    apply bi h <;> intro h5 h
    ·
     have k18 := k17.a [(146, .d true), (151, .v (.ro (eEdit x2)))] (av h5 (apc (ig eEdit 3 .i64 h2) apn))
     apply bi h <;> intro h6 h
     ·
      have q19 := ((st_add h6) : binA .add (vs v3) (vs x2.text) = some (vs (v3 ++ x2.text)))
      apply bi h <;> intro h7 h
      ·
       rw [← sj h]
       exact rn ([(154, .v (vs (v3 ++ x2.text))), (155, .d true), (6000, .d true)] ++ kH k18) (k18.b (apc q19 (av h7 (apc q7 apn))))
      ·
       have k20 := k18.a [(154, .v (vs (v3 ++ x2.text))), (155, .d false)] (apc q19 (av h7 apn))
       apply bi h <;> intro h8 h
       ·
        apply bi h <;> intro h9 h
        ·
         rw [← sj h]
         exact rn ([(160, .d true), (165, .d true), (6000, .d true)] ++ kH k20) (k20.b (av h8 (av h9 (apc q7 apn))))
        ·
         rw [← sj h]
         exact rn ([(160, .d true), (165, .d false), (6000, .d true)] ++ kH k20) (k20.b (av h8 (av h9 (apc q8 apn))))
       ·
        rw [← sj h]
        exact rn ([(160, .d false), (6000, .d true)] ++ kH k20) (k20.b (av h8 (apc q8 apn)))
     ·
      cases h
    ·
     apply bi h <;> intro h6 h
     ·
      rw [← sj h]
      exact rn ([(146, .d false), (155, .d true), (6000, .d true)] ++ kH k17) (k17.b (av h5 (av h6 (apc q0 apn))))
     ·
      have k21 := k17.a [(146, .d false), (155, .d false)] (av h5 (av h6 apn))
      apply bi h <;> intro h7 h
      ·
       apply bi h <;> intro h8 h
       ·
        rw [← sj h]
        exact rn ([(160, .d true), (165, .d true), (6000, .d true)] ++ kH k21) (k21.b (av h7 (av h8 (apc q0 apn))))
       ·
        rw [← sj h]
        exact rn ([(160, .d true), (165, .d false), (6000, .d true)] ++ kH k21) (k21.b (av h7 (av h8 (apc q1 apn))))
      ·
       rw [← sj h]
       exact rn ([(160, .d false), (6000, .d true)] ++ kH k21) (k21.b (av h7 (apc q1 apn)))
  ·
   have k22 := k9.a [(124, .d false), (141, .d false)] (av h3 (av h3 apn))
   apply bi h <;> intro h4 h
   ·
    rw [← sj h]
    exact rn ([(155, .d true), (6000, .d true)] ++ kH k22) (k22.b (av h4 (apc q0 apn)))
   ·
    apply bi h <;> intro h5 h
    ·
     have k23 := k22.a [(155, .d false), (160, .d true)] (av h4 (av h5 apn))
     apply bi h <;> intro h6 h
     ·
      rw [← sj h]
      exact rn ([(165, .d true), (6000, .d true)] ++ kH k23) (k23.b (av h6 (apc q0 apn)))
     ·
      rw [← sj h]
      exact rn ([(165, .d false), (6000, .d true)] ++ kH k23) (k23.b (av h6 (apc q1 apn)))
    ·
     rw [← sj h]
     exact rn ([(155, .d false), (160, .d false), (6000, .d true)] ++ kH k22) (k22.b (av h4 (av h5 (apc q1 apn))))
 ·
  rw [← sj h]
  exact xb ([(113, .d false), (6000, .d true)] ++ kH k2) (k2.b (av h1 apn))
theorem L7_2_4_run (s0 : ByteArray × Bool × ByteArray × Int) (e : E_L7_2_4) (h : runL (fun s => L7_2_4 a2 a8 s.1 s.2.1 s.2.2.1 s.2.2.2) s0 = some e) : L7_2_4_x a1 a2 a3 a4 a5 a6 a8 a9 e (L7_2_4_e a1 a2 a3 a4 a5 a6 a8 a9 s0.1 s0.2.1 s0.2.2.1 s0.2.2.2) := by
  have q := @loop_sound' (ByteArray × Bool × ByteArray × Int) E_L7_2_4 (fun s => L7_2_4 a2 a8 s.1 s.2.1 s.2.2.1 s.2.2.2) (fun s => L7_2_4_e a1 a2 a3 a4 a5 a6 a8 a9 s.1 s.2.1 s.2.2.1 s.2.2.2) (L7_2_4_x a1 a2 a3 a4 a5 a6 a8 a9) (fun s r h => L7_2_4_ok a1 a2 a3 a4 a5 a6 a8 a9 s.1 s.2.1 s.2.2.1 s.2.2.2 h) s0 e h
  exact q
end
inductive E_L7_3_2 where
  | k0 (x0 : ByteArray)
section
variable (a1 : ByteArray) (a2 : List EditD) (a3 : ByteArray) (a4 : Int) (a5 : List EditD) (a6 : Int) (a7 : List EditD)
abbrev L7_3_2_p (l : List AB) : List AB := yE 1 a7 :: .row 34 3 0 [[i6 0, i6 0, (vs (⟨([122, 122] : List UInt8).toArray⟩ : ByteArray))]] :: l
def L7_3_2 (v1 : ByteArray) (v2 : Int) : Option (E_L7_3_2 ⊕ (ByteArray × Int)) :=
  (bif (decide (v2 ≤ (a1.size : Int))) then ((runL (fun s => L7_2_4 a2 v2 s.1 s.2.1 s.2.2.1 s.2.2.2) (v1, false, (⟨([] : List UInt8).toArray⟩ : ByteArray), 0)).bind fun r2 => match r2 with | .k0 x2_0 x2_1 x2_2 => (bif (decide (x2_0.size + x2_2.size ≤ 9223372036854775807)) then (bif (decide (v2 < (a1.size : Int))) then (bif x2_1 then (some (.inr ((x2_0 ++ x2_2), (IntKind.wrap .i64 (v2 + 1))))) else (bif (sl_ok v2 (IntKind.wrap .i64 (v2 + 1)) a1.size) then (bif (decide ((x2_0 ++ x2_2).size + (a1.extract (Int.toNat v2) (Int.toNat (IntKind.wrap .i64 (v2 + 1)))).size ≤ 9223372036854775807)) then (some (.inr (((x2_0 ++ x2_2) ++ (a1.extract (Int.toNat v2) (Int.toNat (IntKind.wrap .i64 (v2 + 1))))), (IntKind.wrap .i64 (v2 + 1))))) else none) else none)) else (some (.inr ((x2_0 ++ x2_2), (IntKind.wrap .i64 (v2 + 1)))))) else none)) else (some (.inl (.k0 v1))))
def L7_3_2_s (v1 : ByteArray) (v2 : Int) : St := ⟨fr 269 ug [(0, vs a1), (1, ls 3 eEdit a2), (6, vs a3), (7, i6 a4), (8, ls 3 eEdit a5), (9, i6 a6), (12, vs v1), (13, i6 v2)], (L7_3_2_p a7 [])⟩
theorem L7_3_2_k (v1 : ByteArray) (v2 : Int) : okT 2 (L7_3_2_s a1 a2 a3 a4 a5 a6 a7 v1 v2).h = true := (okT_of rfl (ar (ac rfl)))
abbrev L7_3_2_e (v1 : ByteArray) (v2 : Int) := evH prg 2 [0, 1, 6, 7, 8, 9, 12, 13] ir7_l3 (L7_3_2_s a1 a2 a3 a4 a5 a6 a7 v1 v2)
def L7_3_2_x (e : E_L7_3_2) (r : Option (Out × St)) : Prop := match e with | .k0 x0 => ∃ g, r = some ((.brk 2), ⟨fr 269 g [(0, vs a1), (1, ls 3 eEdit a2), (6, vs a3), (7, i6 a4), (8, ls 3 eEdit a5), (9, i6 a6), (12, vs x0)], (L7_3_2_p a7 [])⟩)
abbrev L7_3_2_d0 (g2 : Nat → AV) (x2_0 : ByteArray) (v2 : Int) (x2_1 : Bool) (x2_2 : ByteArray) : St := ⟨fr 269 g2 [(0, vs a1), (1, ls 3 eEdit a2), (6, vs a3), (7, i6 a4), (8, ls 3 eEdit a5), (9, i6 a6), (12, vs x2_0), (13, i6 v2), (14, vb x2_1), (15, vs x2_2)], (L7_3_2_p a7 [])⟩
theorem L7_3_2_ok (v1 : ByteArray) (v2 : Int) {r : E_L7_3_2 ⊕ (ByteArray × Int)} (h : L7_3_2 a1 a2 v1 v2 = some r) : OkR (fun e => L7_3_2_x a1 a2 a3 a4 a5 a6 a7 e (L7_3_2_e a1 a2 a3 a4 a5 a6 a7 v1 v2)) (fun s => L7_3_2_e a1 a2 a3 a4 a5 a6 a7 v1 v2 = L7_3_2_e a1 a2 a3 a4 a5 a6 a7 s.1 s.2) r := by
 unfold L7_3_2 at h
 have q0 := (L7_2_4_k a1 a2 a3 a4 a5 a6 v2 a7 v1 false (⟨([] : List UInt8).toArray⟩ : ByteArray) 0)
 apply bi h <;> intro h1 h
 ·
  apply bn h; intro r2 h2 h
  cases r2 with
  | k0 x2_0 x2_1 x2_2 =>
   obtain ⟨g2, e2⟩ := L7_2_4_run a1 a2 a3 a4 a5 a6 v2 a7 (v1, false, (⟨([] : List UInt8).toArray⟩ : ByteArray), 0) _ h2
   have q1 := (e2 : L7_2_4_e a1 a2 a3 a4 a5 a6 v2 a7 v1 false (⟨([] : List UInt8).toArray⟩ : ByteArray) 0 = some ((.brk 4), L7_3_2_d0 a1 a2 a3 a4 a5 a6 a7 g2 x2_0 v2 x2_1 x2_2))
   have q2 := (L7_3_2_k a1 a2 a3 a4 a5 a6 a7 (x2_0 ++ x2_2) (w6 (v2 + 1)))
   have k3 := ka [(107, .d true), (2004, .l (.brk 4) (L7_3_2_d0 a1 a2 a3 a4 a5 a6 a7 g2 x2_0 v2 x2_1 x2_2))] (av h1 (apc q0 (apc q1 apn)))
   apply bi h <;> intro h3 h
   ·
    have q4 := ((st_add h3) : binA .add (vs x2_0) (vs x2_2) = some (vs (x2_0 ++ x2_2)))
    apply bi h <;> intro h4 h
    ·
     have k5 := k3.a [(170, .v (vs (x2_0 ++ x2_2))), (174, .d true)] (apc q4 (av h4 apn))
     apply bi h <;> intro h5 h
     ·
      rw [← sj h]
      exact rn ([(176, .d true), (6000, .d true)] ++ kH k5) (k5.b (av h5 (apc q2 apn)))
     ·
      apply bi h <;> intro h6 h
      ·
       have q6 := ((sl_str h6) : slS (vs a1) (some v2) (some (w6 (v2 + 1))) = some (vs (a1.extract (Int.toNat v2) (Int.toNat (w6 (v2 + 1))))))
       have k7 := k5.a [(176, .d false), (184, .v (vs (a1.extract (Int.toNat v2) (Int.toNat (w6 (v2 + 1))))))] (av h5 (apc q6 apn))
       apply bi h <;> intro h7 h
       ·
        rw [← sj h]
        exact rn ([(185, .v (vs ((x2_0 ++ x2_2) ++ (a1.extract (Int.toNat v2) (Int.toNat (w6 (v2 + 1))))))), (6000, .d true)] ++ kH k7) (k7.b (apc ((st_add h7) : binA .add (vs (x2_0 ++ x2_2)) (vs (a1.extract (Int.toNat v2) (Int.toNat (w6 (v2 + 1))))) = some (vs ((x2_0 ++ x2_2) ++ (a1.extract (Int.toNat v2) (Int.toNat (w6 (v2 + 1))))))) (apc (L7_3_2_k a1 a2 a3 a4 a5 a6 a7 ((x2_0 ++ x2_2) ++ (a1.extract (Int.toNat v2) (Int.toNat (w6 (v2 + 1))))) (w6 (v2 + 1))) apn)))
       ·
        cases h
      ·
       cases h
    ·
     rw [← sj h]
     exact rn ([(170, .v (vs (x2_0 ++ x2_2))), (174, .d false), (6000, .d true)] ++ kH k3) (k3.b (apc q4 (av h4 (apc q2 apn))))
   ·
    cases h
 ·
  rw [← sj h]
  exact xb [(107, .d false), (6000, .d true)] (av h1 apn)
theorem L7_3_2_run (s0 : ByteArray × Int) (e : E_L7_3_2) (h : runL (fun s => L7_3_2 a1 a2 s.1 s.2) s0 = some e) : L7_3_2_x a1 a2 a3 a4 a5 a6 a7 e (L7_3_2_e a1 a2 a3 a4 a5 a6 a7 s0.1 s0.2) := by
  have q := @loop_sound' (ByteArray × Int) E_L7_3_2 (fun s => L7_3_2 a1 a2 s.1 s.2) (fun s => L7_3_2_e a1 a2 a3 a4 a5 a6 a7 s.1 s.2) (L7_3_2_x a1 a2 a3 a4 a5 a6 a7) (fun s r h => L7_3_2_ok a1 a2 a3 a4 a5 a6 a7 s.1 s.2 h) s0 e h
  exact q
end
inductive E_L7_1_2 where
  | k0 (x0 x1 : Nat) (x2 : List EditD)
section
variable (a1 : ByteArray) (a2 : List EditD) (a3 : ByteArray) (a4 : Int) (a5 : List EditD) (a6 : Int) (a7 : ByteArray) (a9 : List EditD)
abbrev L7_1_2_p (l : List AB) : List AB := yE 1 a9 :: .row 34 3 0 [[i6 0, i6 0, (vs (⟨([122, 122] : List UInt8).toArray⟩ : ByteArray))]] :: l
def L7_1_2 (v1 v2 : Nat) (v3 : Int) (v4 : List EditD) : Option (E_L7_1_2 ⊕ (Nat × Nat × Int × (List EditD))) :=
  (bif (decide (v3 ≥ 0)) then ((getI a2 v3).bind fun x2 => (bif (apOk v2 1 v4.length 32) then (bif (decide (v2 + 1 ≤ v4.length)) then (some (.inr (v1, v2 + 1, (IntKind.wrap .i64 (v3 - 1)), (splice v4 v2 [(⟨x2.frm, x2.til, x2.text⟩ : EditD)])))) else (some (.inr ((v1 + 1), v2 + 1, (IntKind.wrap .i64 (v3 - 1)), (v4.take v2 ++ [(⟨x2.frm, x2.til, x2.text⟩ : EditD)]))))) else none)) else (some (.inl (.k0 v1 v2 v4))))
def L7_1_2_s (v1 v2 : Nat) (v3 : Int) (v4 : List EditD) : St := ⟨fr 269 ug [(0, vs a1), (1, ls 3 eEdit a2), (6, vs a3), (7, i6 a4), (8, ls 3 eEdit a5), (9, i6 a6), (12, vs a7), (18, .sl 2 v1 3 0 v2), (19, i6 v3)], (L7_1_2_p a9 [yE v1 v4])⟩
theorem L7_1_2_k (v1 v2 : Nat) (v3 : Int) (v4 : List EditD) : okT 3 (L7_1_2_s a1 a2 a3 a4 a5 a6 a7 a9 v1 v2 v3 v4).h = true := (okT_of rfl (ar (ac (ar rfl))))
abbrev L7_1_2_e (v1 v2 : Nat) (v3 : Int) (v4 : List EditD) := evH prg 3 [0, 1, 6, 7, 8, 9, 12, 18, 19] ir7_l1 (L7_1_2_s a1 a2 a3 a4 a5 a6 a7 a9 v1 v2 v3 v4)
def L7_1_2_x (e : E_L7_1_2) (r : Option (Out × St)) : Prop := match e with | .k0 x0 x1 x2 => ∃ g, r = some ((.brk 6), ⟨fr 269 g [(0, vs a1), (1, ls 3 eEdit a2), (6, vs a3), (7, i6 a4), (8, ls 3 eEdit a5), (9, i6 a6), (12, vs a7), (18, .sl 2 x0 3 0 x1)], (L7_1_2_p a9 [yE x0 x2])⟩)
abbrev L7_1_2_d0 (v1 : Nat) (v4 : List EditD) (v2 : Nat) (x2 : EditD) : List AB := (L7_1_2_p a9 [yE v1 (splice v4 v2 [(⟨x2.frm, x2.til, x2.text⟩ : EditD)]), .row 34 3 0 [[i6 x2.frm, i6 x2.til, vs x2.text]]])
abbrev L7_1_2_d1 (v1 : Nat) (v4 : List EditD) (x2 : EditD) : List AB := (L7_1_2_p a9 [yE v1 v4, .row 34 3 0 [[i6 x2.frm, i6 x2.til, vs x2.text]]])
abbrev L7_1_2_d2 (v1 : Nat) (v4 : List EditD) (v2 : Nat) (x2 : EditD) : List AB := (L7_1_2_p a9 [yE (v1 + 1) (v4.take v2 ++ [(⟨x2.frm, x2.til, x2.text⟩ : EditD)]), .row 34 3 0 [[i6 x2.frm, i6 x2.til, vs x2.text]]])
theorem L7_1_2_ok (v1 v2 : Nat) (v3 : Int) (v4 : List EditD) {r : E_L7_1_2 ⊕ (Nat × Nat × Int × (List EditD))} (h : L7_1_2 a2 v1 v2 v3 v4 = some r) : OkR (fun e => L7_1_2_x a1 a2 a3 a4 a5 a6 a7 a9 e (L7_1_2_e a1 a2 a3 a4 a5 a6 a7 a9 v1 v2 v3 v4)) (fun s => L7_1_2_e a1 a2 a3 a4 a5 a6 a7 a9 v1 v2 v3 v4 = L7_1_2_e a1 a2 a3 a4 a5 a6 a7 a9 s.1 s.2.1 s.2.2.1 s.2.2.2) r := by
 unfold L7_1_2 at h
 apply bi h <;> intro h1 h
 ·
  apply bn h; intro x2 h2 h
  have k0 := ka [(190, .d true), (196, .v (.ro (eEdit x2)))] (av h1 (apc (ig eEdit 3 .i64 h2) apn))
  apply bi h <;> intro h3 h
  ·
   apply bi h <;> intro h4 h
   ·
    rw [← sj h]
    exact rn ([(199, .r (.sl 2 v1 3 0 (v2 + 1)) (L7_1_2_d0 a9 v1 v4 v2 x2)), (6000, .d true)] ++ kH k0) (k0.b (apc ((ap_in (e := eEdit) (xs := v4) (news := [(⟨x2.frm, x2.til, x2.text⟩ : EditD)]) rfl (rows_x (e := eEdit) (xs := [(⟨x2.frm, x2.til, x2.text⟩ : EditD)]) rfl) rfl h3 h4) : appA (L7_1_2_d1 a9 v1 v4 x2) 34 3 32 (.sl 2 v1 3 0 v2) (.sl 3 0 3 0 1) = some ((.sl 2 v1 3 0 (v2 + 1)), L7_1_2_d0 a9 v1 v4 v2 x2)) (apc (L7_1_2_k a1 a2 a3 a4 a5 a6 a7 a9 v1 (v2 + 1) (w6 (v3 - 1)) (splice v4 v2 [(⟨x2.frm, x2.til, x2.text⟩ : EditD)])) apn)))
   ·
    rw [← sj h]
    exact rn ([(199, .r (.sl 2 (v1 + 1) 3 0 (v2 + 1)) (L7_1_2_d2 a9 v1 v4 v2 x2)), (6000, .d true)] ++ kH k0) (k0.b (apc ((ap_out (e := eEdit) (xs := v4) (news := [(⟨x2.frm, x2.til, x2.text⟩ : EditD)]) rfl (rows_x (e := eEdit) (xs := [(⟨x2.frm, x2.til, x2.text⟩ : EditD)]) rfl) rfl h3 h4) : appA (L7_1_2_d1 a9 v1 v4 x2) 34 3 32 (.sl 2 v1 3 0 v2) (.sl 3 0 3 0 1) = some ((.sl 2 (v1 + 1) 3 0 (v2 + 1)), L7_1_2_d2 a9 v1 v4 v2 x2)) (apc (L7_1_2_k a1 a2 a3 a4 a5 a6 a7 a9 (v1 + 1) (v2 + 1) (w6 (v3 - 1)) (v4.take v2 ++ [(⟨x2.frm, x2.til, x2.text⟩ : EditD)])) apn)))
  ·
   cases h
 ·
  rw [← sj h]
  exact xb [(190, .d false), (6000, .d true)] (av h1 apn)
theorem L7_1_2_run (s0 : Nat × Nat × Int × (List EditD)) (e : E_L7_1_2) (h : runL (fun s => L7_1_2 a2 s.1 s.2.1 s.2.2.1 s.2.2.2) s0 = some e) : L7_1_2_x a1 a2 a3 a4 a5 a6 a7 a9 e (L7_1_2_e a1 a2 a3 a4 a5 a6 a7 a9 s0.1 s0.2.1 s0.2.2.1 s0.2.2.2) := by
  have q := @loop_sound' (Nat × Nat × Int × (List EditD)) E_L7_1_2 (fun s => L7_1_2 a2 s.1 s.2.1 s.2.2.1 s.2.2.2) (fun s => L7_1_2_e a1 a2 a3 a4 a5 a6 a7 a9 s.1 s.2.1 s.2.2.1 s.2.2.2) (L7_1_2_x a1 a2 a3 a4 a5 a6 a7 a9) (fun s r h => L7_1_2_ok a1 a2 a3 a4 a5 a6 a7 a9 s.1 s.2.1 s.2.2.1 s.2.2.2 h) s0 e h
  exact q
end
inductive E_L7_0_2 where
  | k0
  | k1
section
variable (a1 a2 : ByteArray) (a3 a4 : List EditD) (a5 : Nat) (a6 : List EditD)
abbrev L7_0_2_p (l : List AB) : List AB := yE 1 a4 :: .row 34 3 0 [[i6 0, i6 0, (vs (⟨([122, 122] : List UInt8).toArray⟩ : ByteArray))]] :: yE a5 a6 :: l
def L7_0_2 (v1 : Int) : Option (E_L7_0_2 ⊕ (Int)) :=
  (bif (decide (v1 < (a3.length : Int))) then ((getI a3 v1).bind fun x2 => ((getI a3 (IntKind.wrap .i64 (v1 - 1))).bind fun x3 => (bif (decide (x2.frm < x3.frm)) then (some (.inl (.k0))) else (some (.inr ((IntKind.wrap .i64 (v1 + 1)))))))) else (some (.inl (.k1))))
def L7_0_2_s (v1 : Int) : St := ⟨fr 269 ug [(0, vs a1), (6, vs a2), (8, ls 3 eEdit a3), (22, i6 v1)], (L7_0_2_p a4 a5 a6 [])⟩
theorem L7_0_2_k (v1 : Int) : okT 3 (L7_0_2_s a1 a2 a3 a4 a5 a6 v1).h = true := (okT_of rfl (ar (ac (ar rfl))))
abbrev L7_0_2_e (v1 : Int) := evH prg 3 [0, 6, 8, 22] ir7_l0 (L7_0_2_s a1 a2 a3 a4 a5 a6 v1)
def L7_0_2_x (e : E_L7_0_2) (r : Option (Out × St)) : Prop := match e with | .k0 => ∃ g y, r = some (.ret, ⟨fr 269 g [(4, vb false)], y⟩) | .k1 => ∃ g, r = some ((.brk 8), ⟨fr 269 g [(0, vs a1), (6, vs a2), (8, ls 3 eEdit a3)], (L7_0_2_p a4 a5 a6 [])⟩)
theorem L7_0_2_ok (v1 : Int) {r : E_L7_0_2 ⊕ (Int)} (h : L7_0_2 a3 v1 = some r) : OkR (fun e => L7_0_2_x a1 a2 a3 a4 a5 a6 e (L7_0_2_e a1 a2 a3 a4 a5 a6 v1)) (fun s => L7_0_2_e a1 a2 a3 a4 a5 a6 v1 = L7_0_2_e a1 a2 a3 a4 a5 a6 s) r := by
 unfold L7_0_2 at h
 have k0 := ka [(235, .v (i6 (a3.length : Int)))] (apc (lg a3 eEdit 3) apn)
 apply bi h <;> intro h1 h
 ·
  apply bn h; intro x2 h2 h
  have k1 := k0.a [(236, .d true), (241, .v (.ro (eEdit x2)))] (av h1 (apc (ig eEdit 3 .i64 h2) apn))
  apply bn h; intro x3 h3 h
  apply bi h <;> intro h4 h
  ·
   rw [← sj h]
   exact xy ([(248, .v (.ro (eEdit x3))), (252, .d true), (6000, .d true)] ++ kH k1) (k1.b (apc (ig eEdit 3 .i64 h3) (av h4 apn)))
  ·
   rw [← sj h]
   exact rn ([(248, .v (.ro (eEdit x3))), (252, .d false), (6000, .d true)] ++ kH k1) (k1.b (apc (ig eEdit 3 .i64 h3) (av h4 (apc (L7_0_2_k a1 a2 a3 a4 a5 a6 (w6 (v1 + 1))) apn))))
 ·
  rw [← sj h]
  exact xb ([(236, .d false), (6000, .d true)] ++ kH k0) (k0.b (av h1 apn))
theorem L7_0_2_run (s0 : Int) (e : E_L7_0_2) (h : runL (fun s => L7_0_2 a3 s) s0 = some e) : L7_0_2_x a1 a2 a3 a4 a5 a6 e (L7_0_2_e a1 a2 a3 a4 a5 a6 s0) := by
  have q := @loop_sound' (Int) E_L7_0_2 (fun s => L7_0_2 a3 s) (fun s => L7_0_2_e a1 a2 a3 a4 a5 a6 s) (L7_0_2_x a1 a2 a3 a4 a5 a6) (fun s r h => L7_0_2_ok a1 a2 a3 a4 a5 a6 s h) s0 e h
  exact q
end
def F7_v (a1 : ByteArray) (a2 : List EditD) (x0 : Bool) : AV := (vb x0)
def F7 (Nf : Nat) (a1 : ByteArray) (a2 : List EditD) : Option Bool :=
  ((F14 a1 a2).bind fun x1 => (bif x1 then ((F9).bind fun x3 => (some x3)) else (bif (nilOk a2.length 32) then (bif (apOk a2.length 1 a2.length 32) then (bif (decide (a2.length + 1 ≤ a2.length)) then (bif (slOk (a2.length : Int) (a2.length + 1) (splice a2 a2.length [(⟨0, 0, (⟨([122, 122] : List UInt8).toArray⟩ : ByteArray)⟩ : EditD)]).length) then (bif (decide ((Int.toNat (a2.length : Int)) ≤ (splice a2 a2.length [(⟨0, 0, (⟨([122, 122] : List UInt8).toArray⟩ : ByteArray)⟩ : EditD)]).length)) then ((F13 Nf a1 ((splice a2 a2.length [(⟨0, 0, (⟨([122, 122] : List UInt8).toArray⟩ : ByteArray)⟩ : EditD)]).take (Int.toNat (a2.length : Int)))).bind fun r8 => match r8 with | .k0 x8_0 x8_1 => ((F18 Nf a1 ((splice a2 a2.length [(⟨0, 0, (⟨([122, 122] : List UInt8).toArray⟩ : ByteArray)⟩ : EditD)]).take (Int.toNat (a2.length : Int)))).bind fun r9 => match r9 with | .k0 x9_0 x9_1 => ((runL (fun s => L7_4 a2 (Int.toNat (a2.length : Int)) (splice a2 a2.length [(⟨0, 0, (⟨([122, 122] : List UInt8).toArray⟩ : ByteArray)⟩ : EditD)]) s) 0).bind fun r10 => match r10 with | .k0 => (some false) | .k1 => (bif (slOk (IntKind.wrap .i64 ((((Int.toNat (a2.length : Int)) : Nat) : Int) + 1)) (Int.toNat (a2.length : Int)) (splice a2 a2.length [(⟨0, 0, (⟨([122, 122] : List UInt8).toArray⟩ : ByteArray)⟩ : EditD)]).length) then ((ixN (Int.toNat (IntKind.wrap .i64 ((((Int.toNat (a2.length : Int)) : Nat) : Int) + 1))) (((Int.toNat (a2.length : Int)) : Nat) : Int)).bind fun x12 => (((splice a2 a2.length [(⟨0, 0, (⟨([122, 122] : List UInt8).toArray⟩ : ByteArray)⟩ : EditD)])[x12]?).bind fun x13 => (bif (!(x13.text.toList == (⟨([122, 122] : List UInt8).toArray⟩ : ByteArray).toList)) then (some false) else ((F19 (a1.size : Int) a2).bind fun x15 => (bif x15 then ((F20 a2).bind fun x17 => (bif x17 then (bif (x8_0.toList == (⟨([] : List UInt8).toArray⟩ : ByteArray).toList) then (bif (x8_1 == 110) then (bif ((x9_0.length : Int) == 0) then (bif (x9_1 == 110) then ((F9).bind fun x23 => (some x23)) else (some false)) else (some false)) else (some false)) else (some false)) else ((runL (fun s => L7_3 a1 a2 s.1 s.2) ((⟨([] : List UInt8).toArray⟩ : ByteArray), 0)).bind fun r19 => match r19 with | .k0 x19_0 => ((runL (fun s => L7_1 a2 s.1 s.2.1 s.2.2.1 s.2.2.2) (0, 0, (IntKind.wrap .i64 ((a2.length : Int) - 1)), [])).bind fun r20 => match r20 with | .k0 x20_0 x20_1 x20_2 => (bif (decide (x20_1 ≤ x20_2.length)) then ((F13 Nf a1 (x20_2.take x20_1)).bind fun r22 => match r22 with | .k0 x22_0 x22_1 => (bif (!(x8_0.toList == x19_0.toList)) then (some false) else (bif (x8_1 != 0) then (some false) else (bif (!(x22_0.toList == x19_0.toList)) then (some false) else (bif (x22_1 != 0) then (some false) else (bif (x9_1 != 0) then (some false) else (bif (decide ((x9_0.length : Int) > (a2.length : Int))) then (some false) else ((runL (fun s => L7_0 x9_0 s) 1).bind fun r29 => match r29 with | .k0 => (some false) | .k1 => ((F13 Nf x8_0 x9_0).bind fun r30 => match r30 with | .k0 x30_0 x30_1 => (bif (x30_0.toList == a1.toList) then (bif (x30_1 == 0) then ((F9).bind fun x33 => (some x33)) else (some false)) else (some false))))))))))) else none))))) else (bif (x8_0.toList == (⟨([] : List UInt8).toArray⟩ : ByteArray).toList) then (bif (x8_1 == 4) then (bif ((x9_0.length : Int) == 0) then (bif (x9_1 == 4) then ((F9).bind fun x21 => (some x21)) else (some false)) else (some false)) else (some false)) else (some false))))))) else none)))) else none) else none) else (bif (slOk (a2.length : Int) (a2.length + 1) (a2.take a2.length ++ [(⟨0, 0, (⟨([122, 122] : List UInt8).toArray⟩ : ByteArray)⟩ : EditD)]).length) then (bif (decide ((Int.toNat (a2.length : Int)) ≤ (a2.take a2.length ++ [(⟨0, 0, (⟨([122, 122] : List UInt8).toArray⟩ : ByteArray)⟩ : EditD)]).length)) then ((F13 Nf a1 ((a2.take a2.length ++ [(⟨0, 0, (⟨([122, 122] : List UInt8).toArray⟩ : ByteArray)⟩ : EditD)]).take (Int.toNat (a2.length : Int)))).bind fun r8 => match r8 with | .k0 x8_0 x8_1 => ((F18 Nf a1 ((a2.take a2.length ++ [(⟨0, 0, (⟨([122, 122] : List UInt8).toArray⟩ : ByteArray)⟩ : EditD)]).take (Int.toNat (a2.length : Int)))).bind fun r9 => match r9 with | .k0 x9_0 x9_1 => ((runL (fun s => L7_4_2 a2 (Int.toNat (a2.length : Int)) (a2.take a2.length ++ [(⟨0, 0, (⟨([122, 122] : List UInt8).toArray⟩ : ByteArray)⟩ : EditD)]) s) 0).bind fun r10 => match r10 with | .k0 => (some false) | .k1 => (bif (slOk (IntKind.wrap .i64 ((((Int.toNat (a2.length : Int)) : Nat) : Int) + 1)) (Int.toNat (a2.length : Int)) (a2.take a2.length ++ [(⟨0, 0, (⟨([122, 122] : List UInt8).toArray⟩ : ByteArray)⟩ : EditD)]).length) then ((ixN (Int.toNat (IntKind.wrap .i64 ((((Int.toNat (a2.length : Int)) : Nat) : Int) + 1))) (((Int.toNat (a2.length : Int)) : Nat) : Int)).bind fun x12 => (((a2.take a2.length ++ [(⟨0, 0, (⟨([122, 122] : List UInt8).toArray⟩ : ByteArray)⟩ : EditD)])[x12]?).bind fun x13 => (bif (!(x13.text.toList == (⟨([122, 122] : List UInt8).toArray⟩ : ByteArray).toList)) then (some false) else ((F19 (a1.size : Int) a2).bind fun x15 => (bif x15 then ((F20 a2).bind fun x17 => (bif x17 then (bif (x8_0.toList == (⟨([] : List UInt8).toArray⟩ : ByteArray).toList) then (bif (x8_1 == 110) then (bif ((x9_0.length : Int) == 0) then (bif (x9_1 == 110) then ((F9).bind fun x23 => (some x23)) else (some false)) else (some false)) else (some false)) else (some false)) else ((runL (fun s => L7_3_2 a1 a2 s.1 s.2) ((⟨([] : List UInt8).toArray⟩ : ByteArray), 0)).bind fun r19 => match r19 with | .k0 x19_0 => ((runL (fun s => L7_1_2 a2 s.1 s.2.1 s.2.2.1 s.2.2.2) (0, 0, (IntKind.wrap .i64 ((a2.length : Int) - 1)), [])).bind fun r20 => match r20 with | .k0 x20_0 x20_1 x20_2 => (bif (decide (x20_1 ≤ x20_2.length)) then ((F13 Nf a1 (x20_2.take x20_1)).bind fun r22 => match r22 with | .k0 x22_0 x22_1 => (bif (!(x8_0.toList == x19_0.toList)) then (some false) else (bif (x8_1 != 0) then (some false) else (bif (!(x22_0.toList == x19_0.toList)) then (some false) else (bif (x22_1 != 0) then (some false) else (bif (x9_1 != 0) then (some false) else (bif (decide ((x9_0.length : Int) > (a2.length : Int))) then (some false) else ((runL (fun s => L7_0_2 x9_0 s) 1).bind fun r29 => match r29 with | .k0 => (some false) | .k1 => ((F13 Nf x8_0 x9_0).bind fun r30 => match r30 with | .k0 x30_0 x30_1 => (bif (x30_0.toList == a1.toList) then (bif (x30_1 == 0) then ((F9).bind fun x33 => (some x33)) else (some false)) else (some false))))))))))) else none))))) else (bif (x8_0.toList == (⟨([] : List UInt8).toArray⟩ : ByteArray).toList) then (bif (x8_1 == 4) then (bif ((x9_0.length : Int) == 0) then (bif (x9_1 == 4) then ((F9).bind fun x21 => (some x21)) else (some false)) else (some false)) else (some false)) else (some false))))))) else none)))) else none) else none)) else none) else none)))
abbrev F7_d0 (a2 : List EditD) : List AB := [yE 0 a2, .row 34 3 0 [[i6 0, i6 0, (vs (⟨([122, 122] : List UInt8).toArray⟩ : ByteArray))]]]
abbrev F7_d1 (a2 : List EditD) : List AB := [yE 0 (splice a2 a2.length [(⟨0, 0, (⟨([122, 122] : List UInt8).toArray⟩ : ByteArray)⟩ : EditD)]), .row 34 3 0 [[i6 0, i6 0, (vs (⟨([122, 122] : List UInt8).toArray⟩ : ByteArray))]]]
abbrev F7_d2 (g10 : Nat → AV) (a1 : ByteArray) (a2 : List EditD) (x8_0 : ByteArray) (x8_1 : Int) (x9_0 : List EditD) (x9_1 : Int) : St := ⟨fr 269 g10 [(0, vs a1), (1, ls 3 eEdit a2), (5, (.sl 0 0 3 0 (Int.toNat (a2.length : Int)))), (6, vs x8_0), (7, i6 x8_1), (8, ls 3 eEdit x9_0), (9, i6 x9_1)], [yE 0 (splice a2 a2.length [(⟨0, 0, (⟨([122, 122] : List UInt8).toArray⟩ : ByteArray)⟩ : EditD)]), .row 34 3 0 [[i6 0, i6 0, (vs (⟨([122, 122] : List UInt8).toArray⟩ : ByteArray))]]]⟩
abbrev F7_d3 (g19 : Nat → AV) (a1 : ByteArray) (a2 : List EditD) (x8_0 : ByteArray) (x8_1 : Int) (x9_0 : List EditD) (x9_1 : Int) (x19_0 : ByteArray) : St := ⟨fr 269 g19 [(0, vs a1), (1, ls 3 eEdit a2), (6, vs x8_0), (7, i6 x8_1), (8, ls 3 eEdit x9_0), (9, i6 x9_1), (12, vs x19_0)], [yE 0 (splice a2 a2.length [(⟨0, 0, (⟨([122, 122] : List UInt8).toArray⟩ : ByteArray)⟩ : EditD)]), .row 34 3 0 [[i6 0, i6 0, (vs (⟨([122, 122] : List UInt8).toArray⟩ : ByteArray))]]]⟩
abbrev F7_d4 (g20 : Nat → AV) (a1 : ByteArray) (a2 : List EditD) (x8_0 : ByteArray) (x8_1 : Int) (x9_0 : List EditD) (x9_1 : Int) (x19_0 : ByteArray) (x20_0 x20_1 : Nat) (x20_2 : List EditD) : St := ⟨fr 269 g20 [(0, vs a1), (1, ls 3 eEdit a2), (6, vs x8_0), (7, i6 x8_1), (8, ls 3 eEdit x9_0), (9, i6 x9_1), (12, vs x19_0), (18, .sl 2 x20_0 3 0 x20_1)], [yE 0 (splice a2 a2.length [(⟨0, 0, (⟨([122, 122] : List UInt8).toArray⟩ : ByteArray)⟩ : EditD)]), .row 34 3 0 [[i6 0, i6 0, (vs (⟨([122, 122] : List UInt8).toArray⟩ : ByteArray))]], yE x20_0 x20_2]⟩
abbrev F7_d5 (a2 : List EditD) (x20_0 : Nat) (x20_2 : List EditD) : List AB := [yE 0 (splice a2 a2.length [(⟨0, 0, (⟨([122, 122] : List UInt8).toArray⟩ : ByteArray)⟩ : EditD)]), .row 34 3 0 [[i6 0, i6 0, (vs (⟨([122, 122] : List UInt8).toArray⟩ : ByteArray))]], yE x20_0 x20_2]
abbrev F7_d6 (g29 : Nat → AV) (a1 x8_0 : ByteArray) (x9_0 a2 : List EditD) (x20_0 : Nat) (x20_2 : List EditD) : St := ⟨fr 269 g29 [(0, vs a1), (6, vs x8_0), (8, ls 3 eEdit x9_0)], [yE 0 (splice a2 a2.length [(⟨0, 0, (⟨([122, 122] : List UInt8).toArray⟩ : ByteArray)⟩ : EditD)]), .row 34 3 0 [[i6 0, i6 0, (vs (⟨([122, 122] : List UInt8).toArray⟩ : ByteArray))]], yE x20_0 x20_2]⟩
abbrev F7_d7 (a2 : List EditD) : List AB := [yE 1 (a2.take a2.length ++ [(⟨0, 0, (⟨([122, 122] : List UInt8).toArray⟩ : ByteArray)⟩ : EditD)]), .row 34 3 0 [[i6 0, i6 0, (vs (⟨([122, 122] : List UInt8).toArray⟩ : ByteArray))]]]
abbrev F7_d8 (g10 : Nat → AV) (a1 : ByteArray) (a2 : List EditD) (x8_0 : ByteArray) (x8_1 : Int) (x9_0 : List EditD) (x9_1 : Int) : St := ⟨fr 269 g10 [(0, vs a1), (1, ls 3 eEdit a2), (5, (.sl 0 1 3 0 (Int.toNat (a2.length : Int)))), (6, vs x8_0), (7, i6 x8_1), (8, ls 3 eEdit x9_0), (9, i6 x9_1)], [yE 1 (a2.take a2.length ++ [(⟨0, 0, (⟨([122, 122] : List UInt8).toArray⟩ : ByteArray)⟩ : EditD)]), .row 34 3 0 [[i6 0, i6 0, (vs (⟨([122, 122] : List UInt8).toArray⟩ : ByteArray))]]]⟩
abbrev F7_d9 (g19 : Nat → AV) (a1 : ByteArray) (a2 : List EditD) (x8_0 : ByteArray) (x8_1 : Int) (x9_0 : List EditD) (x9_1 : Int) (x19_0 : ByteArray) : St := ⟨fr 269 g19 [(0, vs a1), (1, ls 3 eEdit a2), (6, vs x8_0), (7, i6 x8_1), (8, ls 3 eEdit x9_0), (9, i6 x9_1), (12, vs x19_0)], [yE 1 (a2.take a2.length ++ [(⟨0, 0, (⟨([122, 122] : List UInt8).toArray⟩ : ByteArray)⟩ : EditD)]), .row 34 3 0 [[i6 0, i6 0, (vs (⟨([122, 122] : List UInt8).toArray⟩ : ByteArray))]]]⟩
abbrev F7_d10 (g20 : Nat → AV) (a1 : ByteArray) (a2 : List EditD) (x8_0 : ByteArray) (x8_1 : Int) (x9_0 : List EditD) (x9_1 : Int) (x19_0 : ByteArray) (x20_0 x20_1 : Nat) (x20_2 : List EditD) : St := ⟨fr 269 g20 [(0, vs a1), (1, ls 3 eEdit a2), (6, vs x8_0), (7, i6 x8_1), (8, ls 3 eEdit x9_0), (9, i6 x9_1), (12, vs x19_0), (18, .sl 2 x20_0 3 0 x20_1)], [yE 1 (a2.take a2.length ++ [(⟨0, 0, (⟨([122, 122] : List UInt8).toArray⟩ : ByteArray)⟩ : EditD)]), .row 34 3 0 [[i6 0, i6 0, (vs (⟨([122, 122] : List UInt8).toArray⟩ : ByteArray))]], yE x20_0 x20_2]⟩
abbrev F7_d11 (a2 : List EditD) (x20_0 : Nat) (x20_2 : List EditD) : List AB := [yE 1 (a2.take a2.length ++ [(⟨0, 0, (⟨([122, 122] : List UInt8).toArray⟩ : ByteArray)⟩ : EditD)]), .row 34 3 0 [[i6 0, i6 0, (vs (⟨([122, 122] : List UInt8).toArray⟩ : ByteArray))]], yE x20_0 x20_2]
abbrev F7_d12 (g29 : Nat → AV) (a1 x8_0 : ByteArray) (x9_0 a2 : List EditD) (x20_0 : Nat) (x20_2 : List EditD) : St := ⟨fr 269 g29 [(0, vs a1), (6, vs x8_0), (8, ls 3 eEdit x9_0)], [yE 1 (a2.take a2.length ++ [(⟨0, 0, (⟨([122, 122] : List UInt8).toArray⟩ : ByteArray)⟩ : EditD)]), .row 34 3 0 [[i6 0, i6 0, (vs (⟨([122, 122] : List UInt8).toArray⟩ : ByteArray))]], yE x20_0 x20_2]⟩
theorem F7_ok (Nf : Nat) (a1 : ByteArray) (a2 : List EditD) {r : Bool} (h : F7 Nf a1 a2 = some r) : PR1 prg 7 [vs a1, ls 3 eEdit a2] (F7_v a1 a2 r) := by
 unfold F7 at h
 apply bn h; intro x1 h1 h
 apply bi h <;> intro h2 h
 ·
  apply bn h; intro x3 h3 h
  rw [← sj h]
  exact fq [(27, .v (vb true)), (28, .v (vb x3))] (apc ((((F14_ok a1 a2 h1).cp rfl _).trans (congrArg (fun z => some (vb z)) h2)) : CP prg 14 [vs a1, ls 3 eEdit a2] [] = some (vb true)) (apc (((F9_ok  h3).cp rfl _) : CP prg 9 [] [] = some (vb x3)) apn))
 ·
  have q0 := ((((F14_ok a1 a2 h1).cp rfl _).trans (congrArg (fun z => some (vb z)) h2)) : CP prg 14 [vs a1, ls 3 eEdit a2] [] = some (vb false))
  apply bi h <;> intro h3 h
  ·
   have q1 := ((ap_nil (h := []) (e := eEdit) (news := a2) rows_l rfl h3) : appA [] 34 3 32 n0 (ls 3 eEdit a2) = some ((.sl 0 0 3 0 a2.length), [yE 0 a2]))
   have k2 := ka [(27, .v (vb false)), (30, .r (.sl 0 0 3 0 a2.length) [yE 0 a2])] (apc q0 (apc q1 apn))
   apply bi h <;> intro h4 h
   ·
    apply bi h <;> intro h5 h
    ·
     have q3 := ((ap_in (e := eEdit) (xs := a2) (news := [(⟨0, 0, (⟨([122, 122] : List UInt8).toArray⟩ : ByteArray)⟩ : EditD)]) rfl (rows_x (e := eEdit) (xs := [(⟨0, 0, (⟨([122, 122] : List UInt8).toArray⟩ : ByteArray)⟩ : EditD)]) rfl) rfl h4 h5) : appA (F7_d0 a2) 34 3 32 (.sl 0 0 3 0 a2.length) (.sl 1 0 3 0 1) = some ((.sl 0 0 3 0 (a2.length + 1)), F7_d1 a2))
     have k4 := k2.a [(33, .r (.sl 0 0 3 0 (a2.length + 1)) (F7_d1 a2)), (35, .v (i6 (a2.length : Int)))] (apc q3 (apc (lg a2 eEdit 3) apn))
     apply bi h <;> intro h6 h
     ·
      have q5 := ((sl_own (e := eEdit) (xs := (splice a2 a2.length [(⟨0, 0, (⟨([122, 122] : List UInt8).toArray⟩ : ByteArray)⟩ : EditD)])) rfl h6) : slA (F7_d1 a2) 3 (.sl 0 0 3 0 (a2.length + 1)) (some 0) (some (a2.length : Int)) = some (.sl 0 0 3 0 (Int.toNat (a2.length : Int))))
      have k6 := k4.a [(36, .v (.sl 0 0 3 0 (Int.toNat (a2.length : Int))))] (apc q5 apn)
      apply bi h <;> intro h7 h
      ·
       apply bn h; intro r8 h8 h
       cases r8 with
       | k0 x8_0 x8_1 =>
        have q7 := (((F13_ok Nf a1 ((splice a2 a2.length [(⟨0, 0, (⟨([122, 122] : List UInt8).toArray⟩ : ByteArray)⟩ : EditD)]).take (Int.toNat (a2.length : Int))) h8).own rfl (purAs_cons rfl (purAs_cons (purA_sl (e := eEdit) rfl h7) purAs_nil)) rfl) : CP prg 13 [vs a1, (.sl 0 0 3 0 (Int.toNat (a2.length : Int)))] (F7_d1 a2) = some (.tup [vs x8_0, i6 x8_1]))
        apply bn h; intro r9 h9 h
        cases r9 with
        | k0 x9_0 x9_1 =>
         have q8 := (((F18_ok Nf a1 ((splice a2 a2.length [(⟨0, 0, (⟨([122, 122] : List UInt8).toArray⟩ : ByteArray)⟩ : EditD)]).take (Int.toNat (a2.length : Int))) h9).own rfl (purAs_cons rfl (purAs_cons (purA_sl (e := eEdit) rfl h7) purAs_nil))) : CP prg 18 [vs a1, (.sl 0 0 3 0 (Int.toNat (a2.length : Int)))] (F7_d1 a2) = some (.tup [ls 3 eEdit x9_0, i6 x9_1]))
         have q9 := (L7_4_k a1 a2 (Int.toNat (a2.length : Int)) x8_0 x8_1 x9_0 x9_1 (splice a2 a2.length [(⟨0, 0, (⟨([122, 122] : List UInt8).toArray⟩ : ByteArray)⟩ : EditD)]) 0)
         have q10 := (L7_3_k a1 a2 x8_0 x8_1 x9_0 x9_1 (splice a2 a2.length [(⟨0, 0, (⟨([122, 122] : List UInt8).toArray⟩ : ByteArray)⟩ : EditD)]) (⟨([] : List UInt8).toArray⟩ : ByteArray) 0)
         have k11 := k6.a [(40, .v (.tup [vs x8_0, i6 x8_1])), (46, .v (.tup [ls 3 eEdit x9_0, i6 x9_1]))] (apc q7 (apc q8 apn))
         apply bn h; intro r10 h10 h
         cases r10 with
         | k0 =>
          obtain ⟨g10, y10, e10⟩ := L7_4_run a1 a2 (Int.toNat (a2.length : Int)) x8_0 x8_1 x9_0 x9_1 (splice a2 a2.length [(⟨0, 0, (⟨([122, 122] : List UInt8).toArray⟩ : ByteArray)⟩ : EditD)]) 0 _ h10
          rw [← sj h]
          exact fq ([(2000, .l .ret ⟨fr 269 g10 [(4, vb false)], y10⟩), (6000, .d true)] ++ kH k11) (k11.b (apc q9 (apc (e10 : L7_4_e a1 a2 (Int.toNat (a2.length : Int)) x8_0 x8_1 x9_0 x9_1 (splice a2 a2.length [(⟨0, 0, (⟨([122, 122] : List UInt8).toArray⟩ : ByteArray)⟩ : EditD)]) 0 = some (.ret, ⟨fr 269 g10 [(4, vb false)], y10⟩)) apn)))
         | k1 =>
          obtain ⟨g10, e10⟩ := L7_4_run a1 a2 (Int.toNat (a2.length : Int)) x8_0 x8_1 x9_0 x9_1 (splice a2 a2.length [(⟨0, 0, (⟨([122, 122] : List UInt8).toArray⟩ : ByteArray)⟩ : EditD)]) 0 _ h10
          have q12 := (e10 : L7_4_e a1 a2 (Int.toNat (a2.length : Int)) x8_0 x8_1 x9_0 x9_1 (splice a2 a2.length [(⟨0, 0, (⟨([122, 122] : List UInt8).toArray⟩ : ByteArray)⟩ : EditD)]) 0 = some ((.brk 0), F7_d2 g10 a1 a2 x8_0 x8_1 x9_0 x9_1))
          have k13 := k11.a [(2000, .l (.brk 0) (F7_d2 g10 a1 a2 x8_0 x8_1 x9_0 x9_1))] (apc q9 (apc q12 apn))
          apply bi h <;> intro h11 h
          ·
           have q14 := ((sl_own (e := eEdit) (xs := (splice a2 a2.length [(⟨0, 0, (⟨([122, 122] : List UInt8).toArray⟩ : ByteArray)⟩ : EditD)])) rfl h11) : slA (F7_d1 a2) 3 (.sl 0 0 3 0 (Int.toNat (a2.length : Int))) (some 0) (some (w6 ((((Int.toNat (a2.length : Int)) : Nat) : Int) + 1))) = some (.sl 0 0 3 0 (Int.toNat (w6 ((((Int.toNat (a2.length : Int)) : Nat) : Int) + 1)))))
           have k15 := k13.a [(68, .v (.sl 0 0 3 0 (Int.toNat (w6 ((((Int.toNat (a2.length : Int)) : Nat) : Int) + 1)))))] (apc q14 apn)
           apply bn h; intro x12 h12 h
           have q16 := ((idx_sl h12) : idxA 3 (.sl 0 0 3 0 (Int.toNat (w6 ((((Int.toNat (a2.length : Int)) : Nat) : Int) + 1)))) (i6 (((Int.toNat (a2.length : Int)) : Nat) : Int)) = some (.rp 0 0 3 x12 0))
           apply bn h; intro x13 h13 h
           have q17 := ((ld_row rfl h13 rfl) : ldA (F7_d1 a2) .false 1 (.rp 0 0 3 x12 2) = some (vs x13.text))
           have k18 := k15.a [(71, .v (.rp 0 0 3 x12 0)), (73, .v (vs x13.text))] (apc q16 (apc q17 apn))
           apply bi h <;> intro h14 h
           ·
            rw [← sj h]
            exact fq ([(74, .d true), (6000, .d true)] ++ kH k18) (k18.b (av h14 apn))
           ·
            apply bn h; intro x15 h15 h
            apply bi h <;> intro h16 h
            ·
             have q19 := ((((F19_ok (a1.size : Int) a2 h15).cp rfl _).trans (congrArg (fun z => some (vb z)) h16)) : CP prg 19 [(i6 (a1.size : Int)), ls 3 eEdit a2] (F7_d1 a2) = some (vb true))
             have k20 := k18.a [(74, .d false), (78, .v (vb true))] (av h14 (apc q19 apn))
             apply bn h; intro x17 h17 h
             apply bi h <;> intro h18 h
             ·
              have q21 := ((((F20_ok a2 h17).cp rfl _).trans (congrArg (fun z => some (vb z)) h18)) : CP prg 20 [ls 3 eEdit a2] (F7_d1 a2) = some (vb true))
              apply bi h <;> intro h19 h
              ·
               have k22 := k20.a [(81, .v (vb true)), (85, .d true)] (apc q21 (av h19 apn))
               apply bi h <;> intro h20 h
               ·
                have k23 := k22.a [(89, .d true), (93, .v (i6 (x9_0.length : Int)))] (av h20 (apc (lg x9_0 eEdit 3) apn))
                apply bi h <;> intro h21 h
                ·
                 apply bi h <;> intro h22 h
                 ·
                  apply bn h; intro x23 h23 h
                  rw [← sj h]
                  exact fq ([(94, .d true), (99, .d true), (102, .v (vb x23)), (6000, .d true)] ++ kH k23) (k23.b (av h21 (av h22 (apc (((F9_ok  h23).cp rfl _) : CP prg 9 [] (F7_d1 a2) = some (vb x23)) apn))))
                 ·
                  rw [← sj h]
                  exact fq ([(94, .d true), (99, .d false), (6000, .d true)] ++ kH k23) (k23.b (av h21 (av h22 apn)))
                ·
                 rw [← sj h]
                 exact fq ([(94, .d false), (6000, .d true)] ++ kH k23) (k23.b (av h21 apn))
               ·
                rw [← sj h]
                exact fq ([(89, .d false), (6000, .d true)] ++ kH k22) (k22.b (av h20 apn))
              ·
               rw [← sj h]
               exact fq ([(81, .v (vb true)), (85, .d false), (6000, .d true)] ++ kH k20) (k20.b (apc q21 (av h19 apn)))
             ·
              have q24 := ((((F20_ok a2 h17).cp rfl _).trans (congrArg (fun z => some (vb z)) h18)) : CP prg 20 [ls 3 eEdit a2] (F7_d1 a2) = some (vb false))
              apply bn h; intro r19 h19 h
              cases r19 with
              | k0 x19_0 =>
               obtain ⟨g19, e19⟩ := L7_3_run a1 a2 x8_0 x8_1 x9_0 x9_1 (splice a2 a2.length [(⟨0, 0, (⟨([122, 122] : List UInt8).toArray⟩ : ByteArray)⟩ : EditD)]) ((⟨([] : List UInt8).toArray⟩ : ByteArray), 0) _ h19
               have q25 := (e19 : L7_3_e a1 a2 x8_0 x8_1 x9_0 x9_1 (splice a2 a2.length [(⟨0, 0, (⟨([122, 122] : List UInt8).toArray⟩ : ByteArray)⟩ : EditD)]) (⟨([] : List UInt8).toArray⟩ : ByteArray) 0 = some ((.brk 2), F7_d3 g19 a1 a2 x8_0 x8_1 x9_0 x9_1 x19_0))
               have q26 := (L7_1_k a1 a2 x8_0 x8_1 x9_0 x9_1 x19_0 (splice a2 a2.length [(⟨0, 0, (⟨([122, 122] : List UInt8).toArray⟩ : ByteArray)⟩ : EditD)]) 0 0 (w6 ((a2.length : Int) - 1)) ([]))
               have k27 := k20.a [(81, .v (vb false)), (2002, .l (.brk 2) (F7_d3 g19 a1 a2 x8_0 x8_1 x9_0 x9_1 x19_0)), (187, .v (i6 (a2.length : Int)))] (apc q24 (apc q10 (apc q25 (apc (lg a2 eEdit 3) apn))))
               apply bn h; intro r20 h20 h
               cases r20 with
               | k0 x20_0 x20_1 x20_2 =>
                obtain ⟨g20, e20⟩ := L7_1_run a1 a2 x8_0 x8_1 x9_0 x9_1 x19_0 (splice a2 a2.length [(⟨0, 0, (⟨([122, 122] : List UInt8).toArray⟩ : ByteArray)⟩ : EditD)]) (0, 0, (w6 ((a2.length : Int) - 1)), []) _ h20
                have q28 := (e20 : L7_1_e a1 a2 x8_0 x8_1 x9_0 x9_1 x19_0 (splice a2 a2.length [(⟨0, 0, (⟨([122, 122] : List UInt8).toArray⟩ : ByteArray)⟩ : EditD)]) 0 0 (w6 ((a2.length : Int) - 1)) ([]) = some ((.brk 6), F7_d4 g20 a1 a2 x8_0 x8_1 x9_0 x9_1 x19_0 x20_0 x20_1 x20_2))
                have q29 := (L7_0_k a1 x8_0 x9_0 (splice a2 a2.length [(⟨0, 0, (⟨([122, 122] : List UInt8).toArray⟩ : ByteArray)⟩ : EditD)]) x20_0 x20_2 1)
                have k30 := k27.a [(2006, .l (.brk 6) (F7_d4 g20 a1 a2 x8_0 x8_1 x9_0 x9_1 x19_0 x20_0 x20_1 x20_2))] (apc q26 (apc q28 apn))
                apply bi h <;> intro h21 h
                ·
                 apply bn h; intro r22 h22 h
                 cases r22 with
                 | k0 x22_0 x22_1 =>
                  have q31 := (((F13_ok Nf a1 (x20_2.take x20_1) h22).own rfl (purAs_cons rfl (purAs_cons (purA_sl (e := eEdit) rfl h21) purAs_nil)) rfl) : CP prg 13 [vs a1, .sl 2 x20_0 3 0 x20_1] (F7_d5 a2 x20_0 x20_2) = some (.tup [vs x22_0, i6 x22_1]))
                  have k32 := k30.a [(203, .v (.tup [vs x22_0, i6 x22_1]))] (apc q31 apn)
                  apply bi h <;> intro h23 h
                  ·
                   rw [← sj h]
                   exact fq ([(208, .d true), (6000, .d true)] ++ kH k32) (k32.b (av h23 apn))
                  ·
                   apply bi h <;> intro h24 h
                   ·
                    rw [← sj h]
                    exact fq ([(208, .d false), (211, .d true), (6000, .d true)] ++ kH k32) (k32.b (av h23 (av h24 apn)))
                   ·
                    have k33 := k32.a [(208, .d false), (211, .d false)] (av h23 (av h24 apn))
                    apply bi h <;> intro h25 h
                    ·
                     rw [← sj h]
                     exact fq ([(216, .d true), (6000, .d true)] ++ kH k33) (k33.b (av h25 apn))
                    ·
                     apply bi h <;> intro h26 h
                     ·
                      rw [← sj h]
                      exact fq ([(216, .d false), (220, .d true), (6000, .d true)] ++ kH k33) (k33.b (av h25 (av h26 apn)))
                     ·
                      have k34 := k33.a [(216, .d false), (220, .d false)] (av h25 (av h26 apn))
                      apply bi h <;> intro h27 h
                      ·
                       rw [← sj h]
                       exact fq ([(224, .d true), (6000, .d true)] ++ kH k34) (k34.b (av h27 apn))
                      ·
                       have k35 := k34.a [(224, .d false), (228, .v (i6 (x9_0.length : Int))), (230, .v (i6 (a2.length : Int)))] (av h27 (apc (lg x9_0 eEdit 3) (apc (lg a2 eEdit 3) apn)))
                       apply bi h <;> intro h28 h
                       ·
                        rw [← sj h]
                        exact fq ([(231, .d true), (6000, .d true)] ++ kH k35) (k35.b (av h28 apn))
                       ·
                        apply bn h; intro r29 h29 h
                        cases r29 with
                        | k0 =>
                         obtain ⟨g29, y29, e29⟩ := L7_0_run a1 x8_0 x9_0 (splice a2 a2.length [(⟨0, 0, (⟨([122, 122] : List UInt8).toArray⟩ : ByteArray)⟩ : EditD)]) x20_0 x20_2 1 _ h29
                         rw [← sj h]
                         exact fq ([(231, .d false), (2008, .l .ret ⟨fr 269 g29 [(4, vb false)], y29⟩), (6000, .d true)] ++ kH k35) (k35.b (av h28 (apc q29 (apc (e29 : L7_0_e a1 x8_0 x9_0 (splice a2 a2.length [(⟨0, 0, (⟨([122, 122] : List UInt8).toArray⟩ : ByteArray)⟩ : EditD)]) x20_0 x20_2 1 = some (.ret, ⟨fr 269 g29 [(4, vb false)], y29⟩)) apn))))
                        | k1 =>
                         obtain ⟨g29, e29⟩ := L7_0_run a1 x8_0 x9_0 (splice a2 a2.length [(⟨0, 0, (⟨([122, 122] : List UInt8).toArray⟩ : ByteArray)⟩ : EditD)]) x20_0 x20_2 1 _ h29
                         have q36 := (e29 : L7_0_e a1 x8_0 x9_0 (splice a2 a2.length [(⟨0, 0, (⟨([122, 122] : List UInt8).toArray⟩ : ByteArray)⟩ : EditD)]) x20_0 x20_2 1 = some ((.brk 8), F7_d6 g29 a1 x8_0 x9_0 a2 x20_0 x20_2))
                         have k37 := k35.a [(231, .d false), (2008, .l (.brk 8) (F7_d6 g29 a1 x8_0 x9_0 a2 x20_0 x20_2))] (av h28 (apc q29 (apc q36 apn)))
                         apply bn h; intro r30 h30 h
                         cases r30 with
                         | k0 x30_0 x30_1 =>
                          have q38 := (((F13_ok Nf x8_0 x9_0 h30).cp rfl _) : CP prg 13 [vs x8_0, ls 3 eEdit x9_0] (F7_d5 a2 x20_0 x20_2) = some (.tup [vs x30_0, i6 x30_1]))
                          have k39 := k37.a [(256, .v (.tup [vs x30_0, i6 x30_1]))] (apc q38 apn)
                          apply bi h <;> intro h31 h
                          ·
                           apply bi h <;> intro h32 h
                           ·
                            apply bn h; intro x33 h33 h
                            rw [← sj h]
                            exact fq ([(261, .d true), (264, .d true), (267, .v (vb x33)), (6000, .d true)] ++ kH k39) (k39.b (av h31 (av h32 (apc (((F9_ok  h33).cp rfl _) : CP prg 9 [] (F7_d5 a2 x20_0 x20_2) = some (vb x33)) apn))))
                           ·
                            rw [← sj h]
                            exact fq ([(261, .d true), (264, .d false), (6000, .d true)] ++ kH k39) (k39.b (av h31 (av h32 apn)))
                          ·
                           rw [← sj h]
                           exact fq ([(261, .d false), (6000, .d true)] ++ kH k39) (k39.b (av h31 apn))
                ·
                 cases h
            ·
             have q40 := ((((F19_ok (a1.size : Int) a2 h15).cp rfl _).trans (congrArg (fun z => some (vb z)) h16)) : CP prg 19 [(i6 (a1.size : Int)), ls 3 eEdit a2] (F7_d1 a2) = some (vb false))
             have k41 := k18.a [(74, .d false), (78, .v (vb false))] (av h14 (apc q40 apn))
             apply bi h <;> intro h17 h
             ·
              apply bi h <;> intro h18 h
              ·
               have k42 := k41.a [(85, .d true), (89, .d true), (93, .v (i6 (x9_0.length : Int)))] (av h17 (av h18 (apc (lg x9_0 eEdit 3) apn)))
               apply bi h <;> intro h19 h
               ·
                apply bi h <;> intro h20 h
                ·
                 apply bn h; intro x21 h21 h
                 rw [← sj h]
                 exact fq ([(94, .d true), (99, .d true), (102, .v (vb x21)), (6000, .d true)] ++ kH k42) (k42.b (av h19 (av h20 (apc (((F9_ok  h21).cp rfl _) : CP prg 9 [] (F7_d1 a2) = some (vb x21)) apn))))
                ·
                 rw [← sj h]
                 exact fq ([(94, .d true), (99, .d false), (6000, .d true)] ++ kH k42) (k42.b (av h19 (av h20 apn)))
               ·
                rw [← sj h]
                exact fq ([(94, .d false), (6000, .d true)] ++ kH k42) (k42.b (av h19 apn))
              ·
               rw [← sj h]
               exact fq ([(85, .d true), (89, .d false), (6000, .d true)] ++ kH k41) (k41.b (av h17 (av h18 apn)))
             ·
              rw [← sj h]
              exact fq ([(85, .d false), (6000, .d true)] ++ kH k41) (k41.b (av h17 apn))
          ·
           cases h
      ·
       cases h
     ·
      cases h
    ·
     have q43 := ((ap_out (e := eEdit) (xs := a2) (news := [(⟨0, 0, (⟨([122, 122] : List UInt8).toArray⟩ : ByteArray)⟩ : EditD)]) rfl (rows_x (e := eEdit) (xs := [(⟨0, 0, (⟨([122, 122] : List UInt8).toArray⟩ : ByteArray)⟩ : EditD)]) rfl) rfl h4 h5) : appA (F7_d0 a2) 34 3 32 (.sl 0 0 3 0 a2.length) (.sl 1 0 3 0 1) = some ((.sl 0 1 3 0 (a2.length + 1)), F7_d7 a2))
     have k44 := k2.a [(33, .r (.sl 0 1 3 0 (a2.length + 1)) (F7_d7 a2)), (35, .v (i6 (a2.length : Int)))] (apc q43 (apc (lg a2 eEdit 3) apn))
     apply bi h <;> intro h6 h
     ·
      have q45 := ((sl_own (e := eEdit) (xs := (a2.take a2.length ++ [(⟨0, 0, (⟨([122, 122] : List UInt8).toArray⟩ : ByteArray)⟩ : EditD)])) rfl h6) : slA (F7_d7 a2) 3 (.sl 0 1 3 0 (a2.length + 1)) (some 0) (some (a2.length : Int)) = some (.sl 0 1 3 0 (Int.toNat (a2.length : Int))))
      have k46 := k44.a [(36, .v (.sl 0 1 3 0 (Int.toNat (a2.length : Int))))] (apc q45 apn)
      apply bi h <;> intro h7 h
      ·
       apply bn h; intro r8 h8 h
       cases r8 with
       | k0 x8_0 x8_1 =>
        have q47 := (((F13_ok Nf a1 ((a2.take a2.length ++ [(⟨0, 0, (⟨([122, 122] : List UInt8).toArray⟩ : ByteArray)⟩ : EditD)]).take (Int.toNat (a2.length : Int))) h8).own rfl (purAs_cons rfl (purAs_cons (purA_sl (e := eEdit) rfl h7) purAs_nil)) rfl) : CP prg 13 [vs a1, (.sl 0 1 3 0 (Int.toNat (a2.length : Int)))] (F7_d7 a2) = some (.tup [vs x8_0, i6 x8_1]))
        apply bn h; intro r9 h9 h
        cases r9 with
        | k0 x9_0 x9_1 =>
         have q48 := (((F18_ok Nf a1 ((a2.take a2.length ++ [(⟨0, 0, (⟨([122, 122] : List UInt8).toArray⟩ : ByteArray)⟩ : EditD)]).take (Int.toNat (a2.length : Int))) h9).own rfl (purAs_cons rfl (purAs_cons (purA_sl (e := eEdit) rfl h7) purAs_nil))) : CP prg 18 [vs a1, (.sl 0 1 3 0 (Int.toNat (a2.length : Int)))] (F7_d7 a2) = some (.tup [ls 3 eEdit x9_0, i6 x9_1]))
         have q49 := (L7_4_2_k a1 a2 (Int.toNat (a2.length : Int)) x8_0 x8_1 x9_0 x9_1 (a2.take a2.length ++ [(⟨0, 0, (⟨([122, 122] : List UInt8).toArray⟩ : ByteArray)⟩ : EditD)]) 0)
         have q50 := (L7_3_2_k a1 a2 x8_0 x8_1 x9_0 x9_1 (a2.take a2.length ++ [(⟨0, 0, (⟨([122, 122] : List UInt8).toArray⟩ : ByteArray)⟩ : EditD)]) (⟨([] : List UInt8).toArray⟩ : ByteArray) 0)
         have k51 := k46.a [(40, .v (.tup [vs x8_0, i6 x8_1])), (46, .v (.tup [ls 3 eEdit x9_0, i6 x9_1]))] (apc q47 (apc q48 apn))
         apply bn h; intro r10 h10 h
         cases r10 with
         | k0 =>
          obtain ⟨g10, y10, e10⟩ := L7_4_2_run a1 a2 (Int.toNat (a2.length : Int)) x8_0 x8_1 x9_0 x9_1 (a2.take a2.length ++ [(⟨0, 0, (⟨([122, 122] : List UInt8).toArray⟩ : ByteArray)⟩ : EditD)]) 0 _ h10
          rw [← sj h]
          exact fq ([(2000, .l .ret ⟨fr 269 g10 [(4, vb false)], y10⟩), (6000, .d true)] ++ kH k51) (k51.b (apc q49 (apc (e10 : L7_4_2_e a1 a2 (Int.toNat (a2.length : Int)) x8_0 x8_1 x9_0 x9_1 (a2.take a2.length ++ [(⟨0, 0, (⟨([122, 122] : List UInt8).toArray⟩ : ByteArray)⟩ : EditD)]) 0 = some (.ret, ⟨fr 269 g10 [(4, vb false)], y10⟩)) apn)))
         | k1 =>
          obtain ⟨g10, e10⟩ := L7_4_2_run a1 a2 (Int.toNat (a2.length : Int)) x8_0 x8_1 x9_0 x9_1 (a2.take a2.length ++ [(⟨0, 0, (⟨([122, 122] : List UInt8).toArray⟩ : ByteArray)⟩ : EditD)]) 0 _ h10
          have q52 := (e10 : L7_4_2_e a1 a2 (Int.toNat (a2.length : Int)) x8_0 x8_1 x9_0 x9_1 (a2.take a2.length ++ [(⟨0, 0, (⟨([122, 122] : List UInt8).toArray⟩ : ByteArray)⟩ : EditD)]) 0 = some ((.brk 0), F7_d8 g10 a1 a2 x8_0 x8_1 x9_0 x9_1))
          have k53 := k51.a [(2000, .l (.brk 0) (F7_d8 g10 a1 a2 x8_0 x8_1 x9_0 x9_1))] (apc q49 (apc q52 apn))
          apply bi h <;> intro h11 h
          ·
           have q54 := ((sl_own (e := eEdit) (xs := (a2.take a2.length ++ [(⟨0, 0, (⟨([122, 122] : List UInt8).toArray⟩ : ByteArray)⟩ : EditD)])) rfl h11) : slA (F7_d7 a2) 3 (.sl 0 1 3 0 (Int.toNat (a2.length : Int))) (some 0) (some (w6 ((((Int.toNat (a2.length : Int)) : Nat) : Int) + 1))) = some (.sl 0 1 3 0 (Int.toNat (w6 ((((Int.toNat (a2.length : Int)) : Nat) : Int) + 1)))))
           have k55 := k53.a [(68, .v (.sl 0 1 3 0 (Int.toNat (w6 ((((Int.toNat (a2.length : Int)) : Nat) : Int) + 1)))))] (apc q54 apn)
           apply bn h; intro x12 h12 h
           have q56 := ((idx_sl h12) : idxA 3 (.sl 0 1 3 0 (Int.toNat (w6 ((((Int.toNat (a2.length : Int)) : Nat) : Int) + 1)))) (i6 (((Int.toNat (a2.length : Int)) : Nat) : Int)) = some (.rp 0 1 3 x12 0))
           apply bn h; intro x13 h13 h
           have q57 := ((ld_row rfl h13 rfl) : ldA (F7_d7 a2) .false 1 (.rp 0 1 3 x12 2) = some (vs x13.text))
           have k58 := k55.a [(71, .v (.rp 0 1 3 x12 0)), (73, .v (vs x13.text))] (apc q56 (apc q57 apn))
           apply bi h <;> intro h14 h
           ·
            rw [← sj h]
            exact fq ([(74, .d true), (6000, .d true)] ++ kH k58) (k58.b (av h14 apn))
           ·
            apply bn h; intro x15 h15 h
            apply bi h <;> intro h16 h
            ·
             have q59 := ((((F19_ok (a1.size : Int) a2 h15).cp rfl _).trans (congrArg (fun z => some (vb z)) h16)) : CP prg 19 [(i6 (a1.size : Int)), ls 3 eEdit a2] (F7_d7 a2) = some (vb true))
             have k60 := k58.a [(74, .d false), (78, .v (vb true))] (av h14 (apc q59 apn))
             apply bn h; intro x17 h17 h
             apply bi h <;> intro h18 h
             ·
              have q61 := ((((F20_ok a2 h17).cp rfl _).trans (congrArg (fun z => some (vb z)) h18)) : CP prg 20 [ls 3 eEdit a2] (F7_d7 a2) = some (vb true))
              apply bi h <;> intro h19 h
              ·
               have k62 := k60.a [(81, .v (vb true)), (85, .d true)] (apc q61 (av h19 apn))
               apply bi h <;> intro h20 h
               ·
                have k63 := k62.a [(89, .d true), (93, .v (i6 (x9_0.length : Int)))] (av h20 (apc (lg x9_0 eEdit 3) apn))
                apply bi h <;> intro h21 h
                ·
                 apply bi h <;> intro h22 h
                 ·
                  apply bn h; intro x23 h23 h
                  rw [← sj h]
                  exact fq ([(94, .d true), (99, .d true), (102, .v (vb x23)), (6000, .d true)] ++ kH k63) (k63.b (av h21 (av h22 (apc (((F9_ok  h23).cp rfl _) : CP prg 9 [] (F7_d7 a2) = some (vb x23)) apn))))
                 ·
                  rw [← sj h]
                  exact fq ([(94, .d true), (99, .d false), (6000, .d true)] ++ kH k63) (k63.b (av h21 (av h22 apn)))
                ·
                 rw [← sj h]
                 exact fq ([(94, .d false), (6000, .d true)] ++ kH k63) (k63.b (av h21 apn))
               ·
                rw [← sj h]
                exact fq ([(89, .d false), (6000, .d true)] ++ kH k62) (k62.b (av h20 apn))
              ·
               rw [← sj h]
               exact fq ([(81, .v (vb true)), (85, .d false), (6000, .d true)] ++ kH k60) (k60.b (apc q61 (av h19 apn)))
             ·
              have q64 := ((((F20_ok a2 h17).cp rfl _).trans (congrArg (fun z => some (vb z)) h18)) : CP prg 20 [ls 3 eEdit a2] (F7_d7 a2) = some (vb false))
              apply bn h; intro r19 h19 h
              cases r19 with
              | k0 x19_0 =>
               obtain ⟨g19, e19⟩ := L7_3_2_run a1 a2 x8_0 x8_1 x9_0 x9_1 (a2.take a2.length ++ [(⟨0, 0, (⟨([122, 122] : List UInt8).toArray⟩ : ByteArray)⟩ : EditD)]) ((⟨([] : List UInt8).toArray⟩ : ByteArray), 0) _ h19
               have q65 := (e19 : L7_3_2_e a1 a2 x8_0 x8_1 x9_0 x9_1 (a2.take a2.length ++ [(⟨0, 0, (⟨([122, 122] : List UInt8).toArray⟩ : ByteArray)⟩ : EditD)]) (⟨([] : List UInt8).toArray⟩ : ByteArray) 0 = some ((.brk 2), F7_d9 g19 a1 a2 x8_0 x8_1 x9_0 x9_1 x19_0))
               have q66 := (L7_1_2_k a1 a2 x8_0 x8_1 x9_0 x9_1 x19_0 (a2.take a2.length ++ [(⟨0, 0, (⟨([122, 122] : List UInt8).toArray⟩ : ByteArray)⟩ : EditD)]) 0 0 (w6 ((a2.length : Int) - 1)) ([]))
               have k67 := k60.a [(81, .v (vb false)), (2002, .l (.brk 2) (F7_d9 g19 a1 a2 x8_0 x8_1 x9_0 x9_1 x19_0)), (187, .v (i6 (a2.length : Int)))] (apc q64 (apc q50 (apc q65 (apc (lg a2 eEdit 3) apn))))
               apply bn h; intro r20 h20 h
               cases r20 with
               | k0 x20_0 x20_1 x20_2 =>
                obtain ⟨g20, e20⟩ := L7_1_2_run a1 a2 x8_0 x8_1 x9_0 x9_1 x19_0 (a2.take a2.length ++ [(⟨0, 0, (⟨([122, 122] : List UInt8).toArray⟩ : ByteArray)⟩ : EditD)]) (0, 0, (w6 ((a2.length : Int) - 1)), []) _ h20
                have q68 := (e20 : L7_1_2_e a1 a2 x8_0 x8_1 x9_0 x9_1 x19_0 (a2.take a2.length ++ [(⟨0, 0, (⟨([122, 122] : List UInt8).toArray⟩ : ByteArray)⟩ : EditD)]) 0 0 (w6 ((a2.length : Int) - 1)) ([]) = some ((.brk 6), F7_d10 g20 a1 a2 x8_0 x8_1 x9_0 x9_1 x19_0 x20_0 x20_1 x20_2))
                have q69 := (L7_0_2_k a1 x8_0 x9_0 (a2.take a2.length ++ [(⟨0, 0, (⟨([122, 122] : List UInt8).toArray⟩ : ByteArray)⟩ : EditD)]) x20_0 x20_2 1)
                have k70 := k67.a [(2006, .l (.brk 6) (F7_d10 g20 a1 a2 x8_0 x8_1 x9_0 x9_1 x19_0 x20_0 x20_1 x20_2))] (apc q66 (apc q68 apn))
                apply bi h <;> intro h21 h
                ·
                 apply bn h; intro r22 h22 h
                 cases r22 with
                 | k0 x22_0 x22_1 =>
                  have q71 := (((F13_ok Nf a1 (x20_2.take x20_1) h22).own rfl (purAs_cons rfl (purAs_cons (purA_sl (e := eEdit) rfl h21) purAs_nil)) rfl) : CP prg 13 [vs a1, .sl 2 x20_0 3 0 x20_1] (F7_d11 a2 x20_0 x20_2) = some (.tup [vs x22_0, i6 x22_1]))
                  have k72 := k70.a [(203, .v (.tup [vs x22_0, i6 x22_1]))] (apc q71 apn)
                  apply bi h <;> intro h23 h
                  ·
                   rw [← sj h]
                   exact fq ([(208, .d true), (6000, .d true)] ++ kH k72) (k72.b (av h23 apn))
                  ·
                   apply bi h <;> intro h24 h
                   ·
                    rw [← sj h]
                    exact fq ([(208, .d false), (211, .d true), (6000, .d true)] ++ kH k72) (k72.b (av h23 (av h24 apn)))
                   ·
                    have k73 := k72.a [(208, .d false), (211, .d false)] (av h23 (av h24 apn))
                    apply bi h <;> intro h25 h
                    ·
                     rw [← sj h]
                     exact fq ([(216, .d true), (6000, .d true)] ++ kH k73) (k73.b (av h25 apn))
                    ·
                     apply bi h <;> intro h26 h
                     ·
                      rw [← sj h]
                      exact fq ([(216, .d false), (220, .d true), (6000, .d true)] ++ kH k73) (k73.b (av h25 (av h26 apn)))
                     ·
                      have k74 := k73.a [(216, .d false), (220, .d false)] (av h25 (av h26 apn))
                      apply bi h <;> intro h27 h
                      ·
                       rw [← sj h]
                       exact fq ([(224, .d true), (6000, .d true)] ++ kH k74) (k74.b (av h27 apn))
                      ·
                       have k75 := k74.a [(224, .d false), (228, .v (i6 (x9_0.length : Int))), (230, .v (i6 (a2.length : Int)))] (av h27 (apc (lg x9_0 eEdit 3) (apc (lg a2 eEdit 3) apn)))
                       apply bi h <;> intro h28 h
                       ·
                        rw [← sj h]
                        exact fq ([(231, .d true), (6000, .d true)] ++ kH k75) (k75.b (av h28 apn))
                       ·
                        apply bn h; intro r29 h29 h
                        cases r29 with
                        | k0 =>
                         obtain ⟨g29, y29, e29⟩ := L7_0_2_run a1 x8_0 x9_0 (a2.take a2.length ++ [(⟨0, 0, (⟨([122, 122] : List UInt8).toArray⟩ : ByteArray)⟩ : EditD)]) x20_0 x20_2 1 _ h29
                         rw [← sj h]
                         exact fq ([(231, .d false), (2008, .l .ret ⟨fr 269 g29 [(4, vb false)], y29⟩), (6000, .d true)] ++ kH k75) (k75.b (av h28 (apc q69 (apc (e29 : L7_0_2_e a1 x8_0 x9_0 (a2.take a2.length ++ [(⟨0, 0, (⟨([122, 122] : List UInt8).toArray⟩ : ByteArray)⟩ : EditD)]) x20_0 x20_2 1 = some (.ret, ⟨fr 269 g29 [(4, vb false)], y29⟩)) apn))))
                        | k1 =>
                         obtain ⟨g29, e29⟩ := L7_0_2_run a1 x8_0 x9_0 (a2.take a2.length ++ [(⟨0, 0, (⟨([122, 122] : List UInt8).toArray⟩ : ByteArray)⟩ : EditD)]) x20_0 x20_2 1 _ h29
                         have q76 := (e29 : L7_0_2_e a1 x8_0 x9_0 (a2.take a2.length ++ [(⟨0, 0, (⟨([122, 122] : List UInt8).toArray⟩ : ByteArray)⟩ : EditD)]) x20_0 x20_2 1 = some ((.brk 8), F7_d12 g29 a1 x8_0 x9_0 a2 x20_0 x20_2))
                         have k77 := k75.a [(231, .d false), (2008, .l (.brk 8) (F7_d12 g29 a1 x8_0 x9_0 a2 x20_0 x20_2))] (av h28 (apc q69 (apc q76 apn)))
                         apply bn h; intro r30 h30 h
                         cases r30 with
                         | k0 x30_0 x30_1 =>
                          have q78 := (((F13_ok Nf x8_0 x9_0 h30).cp rfl _) : CP prg 13 [vs x8_0, ls 3 eEdit x9_0] (F7_d11 a2 x20_0 x20_2) = some (.tup [vs x30_0, i6 x30_1]))
                          have k79 := k77.a [(256, .v (.tup [vs x30_0, i6 x30_1]))] (apc q78 apn)
                          apply bi h <;> intro h31 h
                          ·
                           apply bi h <;> intro h32 h
                           ·
                            apply bn h; intro x33 h33 h
                            rw [← sj h]
                            exact fq ([(261, .d true), (264, .d true), (267, .v (vb x33)), (6000, .d true)] ++ kH k79) (k79.b (av h31 (av h32 (apc (((F9_ok  h33).cp rfl _) : CP prg 9 [] (F7_d11 a2 x20_0 x20_2) = some (vb x33)) apn))))
                           ·
                            rw [← sj h]
                            exact fq ([(261, .d true), (264, .d false), (6000, .d true)] ++ kH k79) (k79.b (av h31 (av h32 apn)))
                          ·
                           rw [← sj h]
                           exact fq ([(261, .d false), (6000, .d true)] ++ kH k79) (k79.b (av h31 apn))
                ·
                 cases h
            ·
             have q80 := ((((F19_ok (a1.size : Int) a2 h15).cp rfl _).trans (congrArg (fun z => some (vb z)) h16)) : CP prg 19 [(i6 (a1.size : Int)), ls 3 eEdit a2] (F7_d7 a2) = some (vb false))
             have k81 := k58.a [(74, .d false), (78, .v (vb false))] (av h14 (apc q80 apn))
             apply bi h <;> intro h17 h
             ·
              apply bi h <;> intro h18 h
              ·
               have k82 := k81.a [(85, .d true), (89, .d true), (93, .v (i6 (x9_0.length : Int)))] (av h17 (av h18 (apc (lg x9_0 eEdit 3) apn)))
               apply bi h <;> intro h19 h
               ·
                apply bi h <;> intro h20 h
                ·
                 apply bn h; intro x21 h21 h
                 rw [← sj h]
                 exact fq ([(94, .d true), (99, .d true), (102, .v (vb x21)), (6000, .d true)] ++ kH k82) (k82.b (av h19 (av h20 (apc (((F9_ok  h21).cp rfl _) : CP prg 9 [] (F7_d7 a2) = some (vb x21)) apn))))
                ·
                 rw [← sj h]
                 exact fq ([(94, .d true), (99, .d false), (6000, .d true)] ++ kH k82) (k82.b (av h19 (av h20 apn)))
               ·
                rw [← sj h]
                exact fq ([(94, .d false), (6000, .d true)] ++ kH k82) (k82.b (av h19 apn))
              ·
               rw [← sj h]
               exact fq ([(85, .d true), (89, .d false), (6000, .d true)] ++ kH k81) (k81.b (av h17 (av h18 apn)))
             ·
              rw [← sj h]
              exact fq ([(85, .d false), (6000, .d true)] ++ kH k81) (k81.b (av h17 apn))
          ·
           cases h
      ·
       cases h
     ·
      cases h
   ·
    cases h
  ·
   cases h
end
end Go.Proofs.Tryd
