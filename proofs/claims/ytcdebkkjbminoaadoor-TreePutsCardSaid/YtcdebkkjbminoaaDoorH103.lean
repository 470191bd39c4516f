/- Decompiled by a program: functions as plain data see them, part 1. -/
import Derived.Test.YtcdebkkjbminoaaDoorW102
namespace Go.Proofs.Tryd
set_option linter.unusedSimpArgs false
set_option linter.unusedVariables false
set_option linter.unusedSectionVars false
set_option maxHeartbeats 4000000
open Go Go.Vs
noncomputable section
section
variable [ErC]
def F28_2_v (a1 : TreeD) (a2 : Int) (x0 : Int) : AV := (i6 x0)
abbrev T_F28_2 := TreeD → Int → Option Int
abbrev H_F28_2 (f : T_F28_2) : Prop := ∀ (a1 : TreeD) (a2 : Int) {r : Int}, f a1 a2 = some r → PR1 pg 28 [(.agg ((cT a1).map .p)), i6 a2] (F28_2_v a1 a2 r)
inductive E_L28_0_2 where
  | k0 (x0 : Int)
def L28_0_2 (rF28_2 : T_F28_2) (a1 : Int) (a2 : TreeD) (v1 v2 : Int) : Option (E_L28_0_2 ⊕ (Int × Int)) :=
  (bif (decide (v2 < (a2.kids.length : Int))) then (bif (decide (v1 ≤ a1)) then ((getI a2.kids v2).bind fun x3 => ((rF28_2 x3 (IntKind.wrap .i64 (a1 - v1))).bind fun x4 => (some (.inr ((IntKind.wrap .i64 (v1 + x4)), (IntKind.wrap .i64 (v2 + 1))))))) else (some (.inl (.k0 v1)))) else (some (.inl (.k0 v1))))
def L28_0_2_s (a1 : Int) (a2 : TreeD) (v1 v2 : Int) : St := ⟨fr 31 ug [(1, i6 a1), (2, .ptr 0 0), (5, i6 v1), (6, i6 v2)], [.cells 25 ((cT a2).map .p)]⟩
theorem L28_0_2_k (a1 : Int) (a2 : TreeD) (v1 v2 : Int) : okT 1 (L28_0_2_s a1 a2 v1 v2).h = true := (okT_of rfl (ac rfl))
abbrev L28_0_2_e (a1 : Int) (a2 : TreeD) (v1 v2 : Int) := evH pg 1 [1, 2, 5, 6] ir28_l0 (L28_0_2_s a1 a2 v1 v2)
def L28_0_2_x (a1 : Int) (a2 : TreeD) (e : E_L28_0_2) (r : Option (Out × St)) : Prop := match e with | .k0 x0 => ∃ g, r = some ((.brk 0), ⟨fr 31 g [(5, i6 x0)], [.cells 25 ((cT a2).map .p)]⟩)
theorem L28_0_2_ok (rF28_2 : T_F28_2) (hF28_2 : H_F28_2 rF28_2) (a1 : Int) (a2 : TreeD) (v1 v2 : Int) {r : E_L28_0_2 ⊕ (Int × Int)} (h : L28_0_2 rF28_2 a1 a2 v1 v2 = some r) : OkR (fun e => L28_0_2_x a1 a2 e (L28_0_2_e a1 a2 v1 v2)) (fun s => L28_0_2_e a1 a2 v1 v2 = L28_0_2_e a1 a2 s.1 s.2) r := by
 unfold L28_0_2 at h
 have q0 := ((lgr tr_map) : lnA (.p (.lst 3 (eTrees a2.kids))) = some (i6 (a2.kids.length : Int)))
 apply bi h <;> intro h1 h
 ·
  have k1 := ka [(10, .v (i6 (a2.kids.length : Int))), (11, .d true)] (apc q0 (av h1 apn))
  apply bi h <;> intro h2 h
  ·
   apply bn h; intro x3 h3 h
   apply bn h; intro x4 h4 h
   rw [← sj h]
   exact rn ([(15, .d true), (23, .v (.ro (cT x3))), (28, .v (i6 x4)), (6000, .d true)] ++ kH k1) (k1.b (av h2 (apc ((igr tr_map h3) : idxA 3 (.p (.lst 3 (eTrees a2.kids))) (i6 v2) = some (.ro (cT x3))) (apc (((hF28_2 x3 (w6 (a1 - v1)) h4).cp rfl _) : CP pg 28 [(.agg ((cT x3).map .p)), (i6 (w6 (a1 - v1)))] [.cells 25 ((cT a2).map .p)] = some (i6 x4)) (apc (L28_0_2_k a1 a2 (w6 (v1 + x4)) (w6 (v2 + 1))) apn)))))
  ·
   rw [← sj h]
   exact xb ([(15, .d false), (6000, .d true)] ++ kH k1) (k1.b (av h2 apn))
 ·
  rw [← sj h]
  exact xb [(10, .v (i6 (a2.kids.length : Int))), (11, .d false), (6000, .d true)] (apc q0 (av h1 apn))
theorem L28_0_2_run (rF28_2 : T_F28_2) (hF28_2 : H_F28_2 rF28_2) (a1 : Int) (a2 : TreeD) (s0 : Int × Int) (e : E_L28_0_2) (h : runL (fun s => L28_0_2 rF28_2 a1 a2 s.1 s.2) s0 = some e) : L28_0_2_x a1 a2 e (L28_0_2_e a1 a2 s0.1 s0.2) := by
  have q := @loop_sound' (Int × Int) E_L28_0_2 (fun s => L28_0_2 rF28_2 a1 a2 s.1 s.2) (fun s => L28_0_2_e a1 a2 s.1 s.2) (L28_0_2_x a1 a2) (fun s r h => L28_0_2_ok rF28_2 hF28_2 a1 a2 s.1 s.2 h) s0 e h
  exact q
def F28_2_b (rF28_2 : T_F28_2) (a1 : TreeD) (a2 : Int) : Option Int :=
  ((runL (fun s => L28_0_2 rF28_2 a2 a1 s.1 s.2) (1, 0)).bind fun r1 => match r1 with | .k0 x1_0 => (some x1_0))
theorem F28_2_bok (rF28_2 : T_F28_2) (hF28_2 : H_F28_2 rF28_2) (a1 : TreeD) (a2 : Int) {r : Int} (h : F28_2_b rF28_2 a1 a2 = some r) : PR1 pg 28 [(.agg ((cT a1).map .p)), i6 a2] (F28_2_v a1 a2 r) := by
 unfold F28_2_b at h
 apply bn h; intro r1 h1 h
 cases r1 with
 | k0 x1_0 =>
  obtain ⟨g1, e1⟩ := L28_0_2_run rF28_2 hF28_2 a2 a1 (1, 0) _ h1
  rw [← sj h]
  exact fq [(2000, .l (.brk 0) ⟨fr 31 g1 [(5, i6 x1_0)], [.cells 25 ((cT a1).map .p)]⟩), (6000, .d true)] (apc (L28_0_2_k a2 a1 1 0) (apc (e1 : L28_0_2_e a2 a1 1 0 = some ((.brk 0), ⟨fr 31 g1 [(5, i6 x1_0)], [.cells 25 ((cT a1).map .p)]⟩)) apn))
def F28_2 : Nat → T_F28_2
  | 0 => fun _ _ => none
  | Nf + 1 => F28_2_b (F28_2 Nf)
theorem F28_2_ok (Nf : Nat) : H_F28_2 (F28_2 Nf) := by
  induction Nf with
  | zero => intro a1 a2 r h; have h : (none : Option Int) = some r := h; cases h
  | succ Nf ih => intro a1 a2 r h; exact F28_2_bok (F28_2 Nf) ih a1 a2 h
inductive E_L16_0 where
  | k0
  | k1
def L16_0 (Nf : Nat) (a1 : List TreeD) (v1 : Int) : Option (E_L16_0 ⊕ (Int)) :=
  (bif (decide (v1 < (a1.length : Int))) then ((getI a1 v1).bind fun x2 => ((F28_2 Nf x2 2000).bind fun x3 => (bif (decide (x3 > 2000)) then (some (.inl (.k0))) else (some (.inr ((IntKind.wrap .i64 (v1 + 1)))))))) else (some (.inl (.k1))))
def L16_0_s (a1 : List TreeD) (v1 : Int) : St := ⟨fr 16 ug [(0, (.p (.lst 3 (eTrees a1)))), (3, i6 v1)], []⟩
theorem L16_0_k (a1 : List TreeD) (v1 : Int) : okT 0 (L16_0_s a1 v1).h = true := (okT_of rfl rfl)
abbrev L16_0_e (a1 : List TreeD) (v1 : Int) := evH pg 0 [0, 3] ir16_l0 (L16_0_s a1 v1)
def L16_0_x (a1 : List TreeD) (e : E_L16_0) (r : Option (Out × St)) : Prop := match e with | .k0 => ∃ g y, r = some (.ret, ⟨fr 16 g [(2, vb false)], y⟩) | .k1 => ∃ g, r = some ((.brk 0), ⟨fr 16 g [], []⟩)
theorem L16_0_ok (Nf : Nat) (a1 : List TreeD) (v1 : Int) {r : E_L16_0 ⊕ (Int)} (h : L16_0 Nf a1 v1 = some r) : OkR (fun e => L16_0_x a1 e (L16_0_e a1 v1)) (fun s => L16_0_e a1 v1 = L16_0_e a1 s) r := by
 unfold L16_0 at h
 have q0 := ((lgr tr_map) : lnA (.p (.lst 3 (eTrees a1))) = some (i6 (a1.length : Int)))
 apply bi h <;> intro h1 h
 ·
  have k1 := ka [(6, .v (i6 (a1.length : Int))), (7, .d true)] (apc q0 (av h1 apn))
  apply bn h; intro x2 h2 h
  have q2 := ((igr tr_map h2) : idxA 3 (.p (.lst 3 (eTrees a1))) (i6 v1) = some (.ro (cT x2)))
  apply bn h; intro x3 h3 h
  have q3 := (((F28_2_ok Nf x2 2000 h3).cp rfl _) : CP pg 28 [(.agg ((cT x2).map .p)), i6 2000] [] = some (i6 x3))
  have k4 := k1.a [(12, .v (.ro (cT x2))), (14, .v (i6 x3))] (apc q2 (apc q3 apn))
  apply bi h <;> intro h4 h
  ·
   rw [← sj h]
   exact xy ([(15, .d true), (6000, .d true)] ++ kH k4) (k4.b (av h4 apn))
  ·
   rw [← sj h]
   exact rn ([(15, .d false), (6000, .d true)] ++ kH k4) (k4.b (av h4 (apc (L16_0_k a1 (w6 (v1 + 1))) apn)))
 ·
  rw [← sj h]
  exact xb [(6, .v (i6 (a1.length : Int))), (7, .d false), (6000, .d true)] (apc q0 (av h1 apn))
theorem L16_0_run (Nf : Nat) (a1 : List TreeD) (s0 : Int) (e : E_L16_0) (h : runL (fun s => L16_0 Nf a1 s) s0 = some e) : L16_0_x a1 e (L16_0_e a1 s0) := by
  have q := @loop_sound' (Int) E_L16_0 (fun s => L16_0 Nf a1 s) (fun s => L16_0_e a1 s) (L16_0_x a1) (fun s r h => L16_0_ok Nf a1 s h) s0 e h
  exact q
def F16_v (a1 : List TreeD) (x0 : Bool) : AV := (vb x0)
def F16 (Nf : Nat) (a1 : List TreeD) : Option Bool :=
  ((runL (fun s => L16_0 Nf a1 s) 0).bind fun r1 => match r1 with | .k0 => (some false) | .k1 => (some true))
theorem F16_ok (Nf : Nat) (a1 : List TreeD) {r : Bool} (h : F16 Nf a1 = some r) : PR1 pg 16 [(.p (.lst 3 (eTrees a1)))] (F16_v a1 r) := by
 unfold F16 at h
 apply bn h; intro r1 h1 h
 cases r1 with
 | k0 =>
  obtain ⟨g1, y1, e1⟩ := L16_0_run Nf a1 0 _ h1
  rw [← sj h]
  exact fq [(2000, .l .ret ⟨fr 16 g1 [(2, vb false)], y1⟩), (6000, .d true)] (apc (L16_0_k a1 0) (apc (e1 : L16_0_e a1 0 = some (.ret, ⟨fr 16 g1 [(2, vb false)], y1⟩)) apn))
 | k1 =>
  obtain ⟨g1, e1⟩ := L16_0_run Nf a1 0 _ h1
  rw [← sj h]
  exact fq [(2000, .l (.brk 0) ⟨fr 16 g1 [], []⟩), (6000, .d true)] (apc (L16_0_k a1 0) (apc (e1 : L16_0_e a1 0 = some ((.brk 0), ⟨fr 16 g1 [], []⟩)) apn))
inductive R_F48_3 where
  | k0 (x0 : Nat) (x1 : List Int) (x2 : Bool) (x3 : Nat)
abbrev T_F48_3 := TreeD → TreeD → Nat → (List Int) → Bool → Nat → Option R_F48_3
def F82_5 (a4 : Bool) : Option Bool :=
  (bif a4 then (some a4) else (some true))
inductive R_F68_3 where
  | k0 (x0 : Nat) (x1 : List Int) (x2 : Bool)
def F68_3 (a2 : Nat) (a3 : List Int) (a4 : Bool) (a5 : Nat) (a7 a8 : Int) : Option R_F68_3 :=
  ((F82_5 a4).bind fun x1 => (bif (apOk a5 3 a3.length 1) then (bif (decide (a5 + 3 ≤ a3.length)) then (some (.k0 a2 (splice a3 a5 [120, a7, a8]) x1)) else (some (.k0 (a2 + 1) (a3.take a5 ++ [120, a7, a8]) x1))) else none))
def F82_6 (a4 : Bool) : Option Bool :=
  (bif a4 then (some a4) else (some true))
inductive R_F69_3 where
  | k0 (x0 : Int) (x1 : Nat) (x2 : List Int) (x3 : Bool)
def F69_3 (a1 : ByteArray) (a3 : Nat) (a4 : List Int) (a5 : Bool) (a6 : Nat) : Option R_F69_3 :=
  ((F82_6 a5).bind fun x1 => (bif (apOk a6 (sbytes a1).length a4.length 1) then (bif (decide (a6 + (sbytes a1).length ≤ a4.length)) then (some (.k0 (a1.size : Int) a3 (splice a4 a6 (sbytes a1)) x1)) else (some (.k0 (a1.size : Int) (a3 + 1) (a4.take a6 ++ (sbytes a1)) x1))) else none))
def F82_7 (a4 : Bool) : Option Bool :=
  (bif a4 then (some a4) else (some true))
inductive R_F70_2 where
  | k0 (x0 : Nat) (x1 : List Int) (x2 : Bool)
def F70_2 (a2 : Nat) (a3 : List Int) (a4 : Bool) (a5 : Nat) : Option R_F70_2 :=
  ((F82_7 a4).bind fun x1 => (bif (apOk a5 1 a3.length 1) then (bif (decide (a5 + 1 ≤ a3.length)) then (some (.k0 a2 (splice a3 a5 [32]) x1)) else (some (.k0 (a2 + 1) (a3.take a5 ++ [32]) x1))) else none))
inductive E_L48_0_3 where
  | k0 (x0 : Nat) (x1 : List Int) (x2 : Bool) (x3 : Nat)
def L48_0_3 (rF48_3 : T_F48_3) (a1 : TreeD) (a2 : Int) (a3 : TreeD) (v1 : Int) (v2 : Nat) (v3 : List Int) (v4 : Bool) (v5 : Nat) : Option (E_L48_0_3 ⊕ (Int × Nat × (List Int) × Bool × Nat)) :=
  (bif (decide (v1 < a2)) then ((getI a1.kids v1).bind fun x2 => (bif (decide (v1 > 0)) then ((F70_2 v2 v3 v4 v5).bind fun r4 => match r4 with | .k0 x4_0 x4_1 x4_2 => ((rF48_3 x2 a3 x4_0 x4_1 x4_2 (v5 + 1)).bind fun r5 => match r5 with | .k0 x5_0 x5_1 x5_2 x5_3 => (some (.inr ((IntKind.wrap .i64 (v1 + 1)), x5_0, x5_1, x5_2, x5_3))))) else ((rF48_3 x2 a3 v2 v3 v4 v5).bind fun r4 => match r4 with | .k0 x4_0 x4_1 x4_2 x4_3 => (some (.inr ((IntKind.wrap .i64 (v1 + 1)), x4_0, x4_1, x4_2, x4_3)))))) else (some (.inl (.k0 v2 v3 v4 v5))))
inductive R_F70 where
  | k0 (x0 : Nat) (x1 : List Int) (x2 : Bool)
def F70 (a2 : Nat) (a3 : List Int) (a4 : Bool) (a5 : Nat) : Option R_F70 :=
  ((F82_6 a4).bind fun x1 => (bif (apOk a5 1 a3.length 1) then (bif (decide (a5 + 1 ≤ a3.length)) then (some (.k0 a2 (splice a3 a5 [41]) x1)) else (some (.k0 (a2 + 1) (a3.take a5 ++ [41]) x1))) else none))
def F48_3_b (rF48_3 : T_F48_3) (a1 a2 : TreeD) (a3 : Nat) (a4 : List Int) (a5 : Bool) (a6 : Nat) : Option R_F48_3 :=
  (bif (decide (a1.prod < 0)) then ((getI (⟨([48, 49, 50, 51, 52, 53, 54, 55, 56, 57, 97, 98, 99, 100, 101, 102] : List UInt8).toArray⟩ : ByteArray).data.toList (Int.fdiv a1.byte (2 ^ (min (Int.toNat 4) (IntKind.bits .u8))))).bind fun x2 => ((getI (⟨([48, 49, 50, 51, 52, 53, 54, 55, 56, 57, 97, 98, 99, 100, 101, 102] : List UInt8).toArray⟩ : ByteArray).data.toList (IntKind.wrap .u8 ((BitVec.ofInt (IntKind.bits .u8) a1.byte &&& BitVec.ofInt (IntKind.bits .u8) 15).toNat : Int))).bind fun x3 => ((F68_3 a3 a4 a5 a6 (x2.toNat : Int) (x3.toNat : Int)).bind fun r4 => match r4 with | .k0 x4_0 x4_1 x4_2 => (some (.k0 x4_0 x4_1 x4_2 (a6 + 3)))))) else ((I42 a1.prod).bind fun x2 => (bif (decide (x2.size + (⟨([40] : List UInt8).toArray⟩ : ByteArray).size ≤ 9223372036854775807)) then ((F69_3 (x2 ++ (⟨([40] : List UInt8).toArray⟩ : ByteArray)) a3 a4 a5 a6).bind fun r4 => match r4 with | .k0 x4_0 x4_1 x4_2 x4_3 => ((runL (fun s => L48_0_3 rF48_3 a1 (a1.kids.length : Int) a2 s.1 s.2.1 s.2.2.1 s.2.2.2.1 s.2.2.2.2) (0, x4_1, x4_2, x4_3, (a6 + (sbytes (x2 ++ (⟨([40] : List UInt8).toArray⟩ : ByteArray))).length))).bind fun r5 => match r5 with | .k0 x5_0 x5_1 x5_2 x5_3 => ((F70 x5_0 x5_1 x5_2 x5_3).bind fun r6 => match r6 with | .k0 x6_0 x6_1 x6_2 => (some (.k0 x6_0 x6_1 x6_2 (x5_3 + 1)))))) else none)))
def F48_3 : Nat → T_F48_3
  | 0 => fun _ _ _ _ _ _ => none
  | Nf + 1 => F48_3_b (F48_3 Nf)
def F49 (a5 : Nat) : Option Int :=
  (some ((a5 : Nat) : Int))
inductive R_F50 where
  | k0 (x0 : ByteArray)
  | k1 (x0 : ByteArray)
def F50 (a3 : List Int) (a5 : Nat) : Option R_F50 :=
  (bif (decide (0 < a5)) then (bif (usOk a5 a3.length) then (some (.k0 (bstr (a3.take a5)))) else none) else (some (.k1 ByteArray.empty)))
inductive R_F20 where
  | k0 (x0 : ByteArray) (x1 : Int)
def F20 (Nf : Nat) (a1 : TreeD) : Option R_F20 :=
  ((F23 a1).bind fun x1 => (bif (x1 != 0) then (some (.k0 (⟨([] : List UInt8).toArray⟩ : ByteArray) x1)) else ((F48_3 Nf a1 a1 0 ([]) false 0).bind fun r3 => match r3 with | .k0 x3_0 x3_1 x3_2 x3_3 => ((F49 x3_3).bind fun x4 => (bif (decide (x4 > 1048576)) then (some (.k0 (⟨([] : List UInt8).toArray⟩ : ByteArray) 3)) else ((F50 x3_1 x3_3).bind fun r6 => match r6 with | .k0 x6_0 => (some (.k0 x6_0 0)) | .k1 x6_0 => (some (.k0 x6_0 0))))))))
def F15_v (a1 : Int) (x0 : Int) : AV := (i6 x0)
def F15 (a1 : Int) : Option Int :=
  (some a1)
theorem F15_ok (a1 : Int) {r : Int} (h : F15 a1 = some r) : PR1 pg 15 [i6 a1] (F15_v a1 r) := by
 unfold F15 at h
 rw [← sj h]
 exact fq [] apn
def F24_v (a1 a2 : TreeD) (x0 : Bool) : AV := (vb x0)
abbrev T_F24 := TreeD → TreeD → Option Bool
abbrev H_F24 (f : T_F24) : Prop := ∀ (a1 a2 : TreeD) {r : Bool}, f a1 a2 = some r → PR1 pg 24 [(.agg ((cT a1).map .p)), (.agg ((cT a2).map .p))] (F24_v a1 a2 r)
inductive E_L55_0 where
  | k0
  | k1
def L55_0 (rF24 : T_F24) (a1 a2 : TreeD) (a3 : Int) (v1 : Int) : Option (E_L55_0 ⊕ (Int)) :=
  (bif (decide (v1 < a3)) then ((getI a2.kids v1).bind fun x2 => ((getI a1.kids v1).bind fun x3 => ((rF24 x2 x3).bind fun x4 => (bif x4 then (some (.inr ((IntKind.wrap .i64 (v1 + 1))))) else (some (.inl (.k0))))))) else (some (.inl (.k1))))
def L55_0_s (a1 a2 : TreeD) (a3 : Int) (v1 : Int) : St := ⟨fr 32 ug [(1, (.p (.lst 3 (eTrees a1.kids)))), (2, (.fn 24 [])), (15, (.p (.lst 3 (eTrees a2.kids)))), (16, i6 a3), (17, i6 v1)], []⟩
theorem L55_0_k (a1 a2 : TreeD) (a3 : Int) (v1 : Int) : okT 0 (L55_0_s a1 a2 a3 v1).h = true := (okT_of rfl rfl)
abbrev L55_0_e (a1 a2 : TreeD) (a3 : Int) (v1 : Int) := evH pg 0 [1, 2, 15, 16, 17] ir55_l0 (L55_0_s a1 a2 a3 v1)
def L55_0_x (a1 a2 : TreeD) (a3 : Int) (e : E_L55_0) (r : Option (Out × St)) : Prop := match e with | .k0 => ∃ g y, r = some (.ret, ⟨fr 32 g [(6, vb false)], y⟩) | .k1 => ∃ g, r = some ((.brk 0), ⟨fr 32 g [(1, (.p (.lst 3 (eTrees a1.kids)))), (15, (.p (.lst 3 (eTrees a2.kids))))], []⟩)
abbrev L55_0_d0 (x2 x3 : TreeD) : List AB := [yT0, .cells 25 ((cT x2).map .p), yT0, .cells 25 ((cT x3).map .p)]
theorem L55_0_ok (rF24 : T_F24) (hF24 : H_F24 rF24) (a1 a2 : TreeD) (a3 : Int) (v1 : Int) {r : E_L55_0 ⊕ (Int)} (h : L55_0 rF24 a1 a2 a3 v1 = some r) : OkR (fun e => L55_0_x a1 a2 a3 e (L55_0_e a1 a2 a3 v1)) (fun s => L55_0_e a1 a2 a3 v1 = L55_0_e a1 a2 a3 s) r := by
 unfold L55_0 at h
 apply bi h <;> intro h1 h
 ·
  apply bn h; intro x2 h2 h
  have q0 := ((igr tr_map h2) : idxA 3 (.p (.lst 3 (eTrees a2.kids))) (i6 v1) = some (.ro (cT x2)))
  have k1 := ka [(18, .d true), (20, .v (.ro (cT x2)))] (av h1 (apc q0 apn))
  apply bn h; intro x3 h3 h
  have q2 := ((igr tr_map h3) : idxA 3 (.p (.lst 3 (eTrees a1.kids))) (i6 v1) = some (.ro (cT x3)))
  apply bn h; intro x4 h4 h
  apply bi h <;> intro h5 h
  ·
   rw [← sj h]
   exact rn ([(24, .v (.ro (cT x3))), (29, .v (vb true)), (6000, .d true)] ++ kH k1) (k1.b (apc q2 (apc ((((hF24 x2 x3 h4).cp rfl _).trans (congrArg (fun z => some (vb z)) h5)) : CP pg 24 [(.agg ((cT x2).map .p)), (.agg ((cT x3).map .p))] (L55_0_d0 x2 x3) = some (vb true)) (apc (L55_0_k a1 a2 a3 (w6 (v1 + 1))) apn))))
  ·
   rw [← sj h]
   exact xy ([(24, .v (.ro (cT x3))), (29, .v (vb false)), (6000, .d true)] ++ kH k1) (k1.b (apc q2 (apc ((((hF24 x2 x3 h4).cp rfl _).trans (congrArg (fun z => some (vb z)) h5)) : CP pg 24 [(.agg ((cT x2).map .p)), (.agg ((cT x3).map .p))] (L55_0_d0 x2 x3) = some (vb false)) apn)))
 ·
  rw [← sj h]
  exact xb [(18, .d false), (6000, .d true)] (av h1 apn)
theorem L55_0_run (rF24 : T_F24) (hF24 : H_F24 rF24) (a1 a2 : TreeD) (a3 : Int) (s0 : Int) (e : E_L55_0) (h : runL (fun s => L55_0 rF24 a1 a2 a3 s) s0 = some e) : L55_0_x a1 a2 a3 e (L55_0_e a1 a2 a3 s0) := by
  have q := @loop_sound' (Int) E_L55_0 (fun s => L55_0 rF24 a1 a2 a3 s) (fun s => L55_0_e a1 a2 a3 s) (L55_0_x a1 a2 a3) (fun s r h => L55_0_ok rF24 hF24 a1 a2 a3 s h) s0 e h
  exact q
def F55_v (a1 a2 : TreeD) (x0 : Bool) : AV := (vb x0)
def F55 (rF24 : T_F24) (a1 a2 : TreeD) : Option Bool :=
  (bif ((a1.kids.length : Int) != (a2.kids.length : Int)) then (some false) else ((runL (fun s => L55_0 rF24 a2 a1 (a1.kids.length : Int) s) 0).bind fun r2 => match r2 with | .k0 => (some false) | .k1 => (some true)))
abbrev F55_d0 (g2 : Nat → AV) (a2 a1 : TreeD) : St := ⟨fr 32 g2 [(1, (.p (.lst 3 (eTrees a2.kids)))), (15, (.p (.lst 3 (eTrees a1.kids))))], []⟩
theorem F55_ok (rF24 : T_F24) (hF24 : H_F24 rF24) (a1 a2 : TreeD) {r : Bool} (h : F55 rF24 a1 a2 = some r) : PR1 pg 55 [(.p (.lst 3 (eTrees a1.kids))), (.p (.lst 3 (eTrees a2.kids))), (.fn 24 [])] (F55_v a1 a2 r) := by
 unfold F55 at h
 have q0 := ((lgr tr_map) : lnA (.p (.lst 3 (eTrees a1.kids))) = some (i6 (a1.kids.length : Int)))
 have q1 := ((lgr tr_map) : lnA (.p (.lst 3 (eTrees a2.kids))) = some (i6 (a2.kids.length : Int)))
 have k2 := ka [(11, .v (i6 (a1.kids.length : Int))), (13, .v (i6 (a2.kids.length : Int)))] (apc q0 (apc q1 apn))
 apply bi h <;> intro h1 h
 ·
  rw [← sj h]
  exact fq ([(14, .d true)] ++ kH k2) (k2.b (av h1 apn))
 ·
  have k3 := k2.a [(14, .d false), (16, .v (i6 (a1.kids.length : Int)))] (av h1 (apc q0 apn))
  apply bn h; intro r2 h2 h
  cases r2 with
  | k0 =>
   obtain ⟨g2, y2, e2⟩ := L55_0_run rF24 hF24 a2 a1 (a1.kids.length : Int) 0 _ h2
   rw [← sj h]
   exact fq ([(2000, .l .ret ⟨fr 32 g2 [(6, vb false)], y2⟩), (6000, .d true)] ++ kH k3) (k3.b (apc (L55_0_k a2 a1 (a1.kids.length : Int) 0) (apc (e2 : L55_0_e a2 a1 (a1.kids.length : Int) 0 = some (.ret, ⟨fr 32 g2 [(6, vb false)], y2⟩)) apn)))
  | k1 =>
   obtain ⟨g2, e2⟩ := L55_0_run rF24 hF24 a2 a1 (a1.kids.length : Int) 0 _ h2
   rw [← sj h]
   exact fq ([(2000, .l (.brk 0) (F55_d0 g2 a2 a1)), (6000, .d true)] ++ kH k3) (k3.b (apc (L55_0_k a2 a1 (a1.kids.length : Int) 0) (apc (e2 : L55_0_e a2 a1 (a1.kids.length : Int) 0 = some ((.brk 0), F55_d0 g2 a2 a1)) apn)))
def F24_b (rF24 : T_F24) (a1 a2 : TreeD) : Option Bool :=
  (bif (a1.prod == a2.prod) then (bif (a1.byte == a2.byte) then ((F55 rF24 a1 a2).bind fun x3 => (some x3)) else (some false)) else (some false))
theorem F24_bok (rF24 : T_F24) (hF24 : H_F24 rF24) (a1 a2 : TreeD) {r : Bool} (h : F24_b rF24 a1 a2 = some r) : PR1 pg 24 [(.agg ((cT a1).map .p)), (.agg ((cT a2).map .p))] (F24_v a1 a2 r) := by
 unfold F24_b at h
 apply bi h <;> intro h1 h
 ·
  apply bi h <;> intro h2 h
  ·
   apply bn h; intro x3 h3 h
   rw [← sj h]
   exact fq [(9, .d true), (15, .d true), (22, .v (vb x3))] (av h1 (av h2 (apc (((F55_ok rF24 hF24 a1 a2 h3).cp rfl _) : CP pg 55 [(.p (.lst 3 (eTrees a1.kids))), (.p (.lst 3 (eTrees a2.kids))), (.fn 24 [])] [.cells 25 ((cT a1).map .p), .cells 25 ((cT a2).map .p)] = some (vb x3)) apn)))
  ·
   rw [← sj h]
   exact fq [(9, .d true), (15, .d false)] (av h1 (av h2 apn))
 ·
  rw [← sj h]
  exact fq [(9, .d false)] (av h1 apn)
def F24 : Nat → T_F24
  | 0 => fun _ _ => none
  | Nf + 1 => F24_b (F24 Nf)
theorem F24_ok (Nf : Nat) : H_F24 (F24 Nf) := by
  induction Nf with
  | zero => intro a1 a2 r h; have h : (none : Option Bool) = some r := h; cases h
  | succ Nf ih => intro a1 a2 r h; exact F24_bok (F24 Nf) ih a1 a2 h
section
variable (a1 : ByteArray) (a2 a3 : TreeD)
end
inductive E_L6_0 where
  | k0
  | k1 (x0 : Int)
def L6_0 (Nf : Nat) (a1 : ByteArray) (a3 : TreeD) (v1 v2 : Int) : Option (E_L6_0 ⊕ (Int × Int)) :=
  (bif (decide (v2 < (a3.kids.length : Int))) then ((getI a3.kids v2).bind fun x2 => ((F20 Nf x2).bind fun r3 => match r3 with | .k0 x3_0 x3_1 => ((F15 x3_1).bind fun x4 => (bif (x4 != 0) then (some (.inl (.k0))) else (bif (decide ((IntKind.wrap .i64 ((a1.size : Int) - v1)) ≤ (x3_0.size : Int))) then (some (.inl (.k0))) else (bif (sl_ok v1 (IntKind.wrap .i64 (v1 + (x3_0.size : Int))) a1.size) then (bif (!((a1.extract (Int.toNat v1) (Int.toNat (IntKind.wrap .i64 (v1 + (x3_0.size : Int))))).toList == x3_0.toList)) then (some (.inl (.k0))) else (some (.inr ((IntKind.wrap .i64 ((IntKind.wrap .i64 (v1 + (x3_0.size : Int))) + 1)), (IntKind.wrap .i64 (v2 + 1)))))) else none)))))) else (some (.inl (.k1 v1))))
end
end
end Go.Proofs.Tryd
