/- Decompiled by a program: functions as plain data see them, part 1. -/
import Derived.Test.YtefbhnhekkncpaaDoorW3
namespace Go.Proofs.Tryd
set_option linter.unusedSimpArgs false
set_option linter.unusedVariables false
set_option maxHeartbeats 4000000
open Go Go.Vs
noncomputable section
def Ar (c : Int) (x0 : Bool) : AV := (vb x0)
def F19 (c : Int) : Option Bool :=
  (bif (c == 32) then (some true) else (some (c == 10)))
theorem Ea (c : Int) {r : Bool} (h : F19 c = some r) : PR1 prg 23 [vi .u8 c] (Ar c r) := by
 unfold F19 at h
 apply bi h <;> intro h1 h
 ·
  rw [← sj h]
  exact fq [(4, .d true)] (av h1 apn)
 ·
  rw [← sj h]
  exact fq [(4, .d false)] (av h1 apn)
inductive E_L10_0 where
  | k0 (x0 x1 : Nat) (x2 : Iqq)
section
variable (c : ByteArray)
def RO (w F : Nat) (x : Int) (R : Iqq) : Option (E_L10_0 ⊕ (Nat × Nat × Int × Iqq)) :=
  (bif (decide (x < (c.size : Int))) then ((getI c.data.toList x).bind fun x2 => ((F19 (x2.toNat : Int)).bind fun x3 => (bif x3 then (some (.inr (w, F, (IntKind.wrap .i64 (x + 1)), R))) else (bif (apOk F 1 R.length 1) then (bif (decide (F + 1 ≤ R.length)) then (some (.inr (w, F + 1, (IntKind.wrap .i64 (x + 1)), (splice R F [(x2.toNat : Int)])))) else (some (.inr ((w + 1), F + 1, (IntKind.wrap .i64 (x + 1)), (R.take F ++ [(x2.toNat : Int)]))))) else none)))) else (some (.inl (.k0 w F R))))
def Hj (w F : Nat) (x : Int) (R : Iqq) : St := ⟨fr 24 ug [(0, vs c), (3, .sl 0 w 1 0 F), (4, i6 x)], [yU w R]⟩
theorem PH (w F : Nat) (x : Int) (R : Iqq) : okT 1 (Hj c w F x R).h = true := (ZE rfl (ar rfl))
abbrev UC (w F : Nat) (x : Int) (R : Iqq) := evH prg 1 [0, 3, 4] F3 (Hj c w F x R)
def MH (e : E_L10_0) (r : Option (Out × St)) : Prop := match e with | .k0 x0 x1 x2 => ∃ g, r = some ((.brk 0), ⟨fr 24 g [(3, .sl 0 x0 1 0 x1)], [yU x0 x2]⟩)
abbrev L4 (w : Nat) (R : Iqq) (F : Nat) (x2 : UInt8) : List AB := [yU w (splice R F [(x2.toNat : Int)]), .row 5 1 0 [[(vi .u8 (x2.toNat : Int))]]]
abbrev L5 (w : Nat) (R : Iqq) (F : Nat) (x2 : UInt8) : List AB := [yU (w + 1) (R.take F ++ [(x2.toNat : Int)]), .row 5 1 0 [[(vi .u8 (x2.toNat : Int))]]]
theorem G1 (w F : Nat) (x : Int) (R : Iqq) {r : E_L10_0 ⊕ (Nat × Nat × Int × Iqq)} (h : RO c w F x R = some r) : OkR (fun e => MH e (UC c w F x R)) (fun s => UC c w F x R = UC c s.1 s.2.1 s.2.2.1 s.2.2.2) r := by
 unfold RO at h
 apply bi h <;> intro h1 h
 ·
  apply bn h; intro x2 h2 h
  have q0 := ((OG h2) : ixS (vs c) (i6 x) = some (vi .u8 (x2.toNat : Int)))
  have k1 := ka [(8, .d true), (13, .v (vi .u8 (x2.toNat : Int)))] (av h1 (apc q0 apn))
  apply bn h; intro x3 h3 h
  apply bi h <;> intro h4 h
  ·
   rw [← sj h]
   exact rn ([(14, .v (vb true)), (6000, .d true)] ++ kH k1) (k1.b (apc ((((Ea (x2.toNat : Int) h3).cp rfl _).trans (congrArg (fun z => some (vb z)) h4)) : CP prg 23 [(vi .u8 (x2.toNat : Int))] [yU w R] = some (vb true)) (apc (PH c w F (w6 (x + 1)) R) apn)))
  ·
   have q2 := ((((Ea (x2.toNat : Int) h3).cp rfl _).trans (congrArg (fun z => some (vb z)) h4)) : CP prg 23 [(vi .u8 (x2.toNat : Int))] [yU w R] = some (vb false))
   have k3 := k1.a [(14, .v (vb false)), (19, .v (vi .u8 (x2.toNat : Int)))] (apc q2 (apc q0 apn))
   apply bi h <;> intro h5 h
   ·
    apply bi h <;> intro h6 h
    ·
     rw [← sj h]
     exact rn ([(21, .r (.sl 0 w 1 0 (F + 1)) (L4 w R F x2)), (6000, .d true)] ++ kH k3) (k3.b (apc ((X0 (e := eU8) (xs := R) (news := [(x2.toNat : Int)]) rfl (ZA (e := eU8) (xs := [(x2.toNat : Int)]) rfl) rfl h5 h6) : appA [yU w R, .row 5 1 0 [[(vi .u8 (x2.toNat : Int))]]] 5 1 1 (.sl 0 w 1 0 F) (.sl 1 0 1 0 1) = some ((.sl 0 w 1 0 (F + 1)), L4 w R F x2)) (apc (PH c w (F + 1) (w6 (x + 1)) (splice R F [(x2.toNat : Int)])) apn)))
    ·
     rw [← sj h]
     exact rn ([(21, .r (.sl 0 (w + 1) 1 0 (F + 1)) (L5 w R F x2)), (6000, .d true)] ++ kH k3) (k3.b (apc ((Yk (e := eU8) (xs := R) (news := [(x2.toNat : Int)]) rfl (ZA (e := eU8) (xs := [(x2.toNat : Int)]) rfl) rfl h5 h6) : appA [yU w R, .row 5 1 0 [[(vi .u8 (x2.toNat : Int))]]] 5 1 1 (.sl 0 w 1 0 F) (.sl 1 0 1 0 1) = some ((.sl 0 (w + 1) 1 0 (F + 1)), L5 w R F x2)) (apc (PH c (w + 1) (F + 1) (w6 (x + 1)) (R.take F ++ [(x2.toNat : Int)])) apn)))
   ·
    cases h
 ·
  rw [← sj h]
  exact xb [(8, .d false), (6000, .d true)] (av h1 apn)
theorem Hk (s0 : Nat × Nat × Int × Iqq) (e : E_L10_0) (h : runL (fun s => RO c s.1 s.2.1 s.2.2.1 s.2.2.2) s0 = some e) : MH e (UC c s0.1 s0.2.1 s0.2.2.1 s0.2.2.2) := by
  have q := @Zg (Nat × Nat × Int × Iqq) E_L10_0 (fun s => RO c s.1 s.2.1 s.2.2.1 s.2.2.2) (fun s => UC c s.1 s.2.1 s.2.2.1 s.2.2.2) (MH) (fun s r h => G1 c s.1 s.2.1 s.2.2.1 s.2.2.2 h) s0 e h
  exact q
end
def As (c : ByteArray) (x0 : ByteArray) : AV := (vs x0)
def F10 (c : ByteArray) : Option ByteArray :=
  ((runL (fun s => RO c s.1 s.2.1 s.2.2.1 s.2.2.2) (0, 0, 0, [])).bind fun r1 => match r1 with | .k0 ak aj an => (bif (decide (aj ≤ an.length)) then (some (bstr (an.take aj))) else none))
theorem Bs (c : ByteArray) {r : ByteArray} (h : F10 c = some r) : PR1 prg 7 [vs c] (As c r) := by
 unfold F10 at h
 apply bn h; intro r1 h1 h
 cases r1 with
 | k0 ak aj an =>
  obtain ⟨g1, e1⟩ := Hk c (0, 0, 0, []) _ h1
  have q0 := (e1 : UC c 0 0 0 ([]) = some ((.brk 0), ⟨fr 24 g1 [(3, .sl 0 ak 1 0 aj)], [yU ak an]⟩))
  have k1 := ka [(2000, .l (.brk 0) ⟨fr 24 g1 [(3, .sl 0 ak 1 0 aj)], [yU ak an]⟩)] (apc (PH c 0 0 0 ([])) (apc q0 apn))
  apply bi h <;> intro h2 h
  ·
   rw [← sj h]
   exact fq ([(23, .v (vs (bstr (an.take aj)))), (6000, .d true)] ++ kH k1) (k1.b (apc ((Bk (xs := an) rfl h2) : cvB [yU ak an] (.sl 0 ak 1 0 aj) = some (vs (bstr (an.take aj)))) apn))
  ·
   cases h
inductive E_L103_0 where
  | k0 (x0 : Bool)
  | k1 (x0 x1 : Nat) (x2 x3 : ByteArray) (x4 : Bqq)
section
variable (c : List ByteArray) (j : Int)
def Z3 (w F : Nat) (x R : ByteArray) (Q : Int) (v6 : Bqq) : Option (E_L103_0 ⊕ (Nat × Nat × ByteArray × ByteArray × Int × Bqq)) :=
  (bif (decide (Q < (c.length : Int))) then ((getI c Q).bind fun x2 => (bif (decide ((x2.size : Int) > 100)) then ((F6).bind fun x4 => (some (.inl (.k0 x4)))) else (bif (decide ((x2.size : Int) < 1)) then ((F6).bind fun x5 => (some (.inl (.k0 x5)))) else ((F10 x2).bind fun x5 => (bif (!(x5.toList == x2.toList)) then ((F6).bind fun x7 => (some (.inl (.k0 x7)))) else (bif (decide (Q > 0)) then (bif (apOk F 1 v6.length 56) then (bif (decide (F + 1 ≤ v6.length)) then (bif (decide (x.size + (⟨([10] : List UInt8).toArray⟩ : ByteArray).size ≤ 9223372036854775807)) then (bif (decide (R.size + (⟨([32] : List UInt8).toArray⟩ : ByteArray).size ≤ 9223372036854775807)) then (bif (apOk (F + 1) 1 (splice v6 F [(BoxD.mk 1 Eqq 1 [])]).length 56) then (bif (decide ((F + 1) + 1 ≤ (splice v6 F [(BoxD.mk 1 Eqq 1 [])]).length)) then (bif (decide ((x ++ (⟨([10] : List UInt8).toArray⟩ : ByteArray)).size + x2.size ≤ 9223372036854775807)) then (bif (decide ((R ++ (⟨([32] : List UInt8).toArray⟩ : ByteArray)).size + x2.size ≤ 9223372036854775807)) then (some (.inr (w, ((F + 1) + 1), ((x ++ (⟨([10] : List UInt8).toArray⟩ : ByteArray)) ++ x2), ((R ++ (⟨([32] : List UInt8).toArray⟩ : ByteArray)) ++ x2), (IntKind.wrap .i64 (Q + 1)), (splice (splice v6 F [(BoxD.mk 1 Eqq 1 [])]) (F + 1) [(BoxD.mk 0 x2 0 [])])))) else none) else none) else (bif (decide ((x ++ (⟨([10] : List UInt8).toArray⟩ : ByteArray)).size + x2.size ≤ 9223372036854775807)) then (bif (decide ((R ++ (⟨([32] : List UInt8).toArray⟩ : ByteArray)).size + x2.size ≤ 9223372036854775807)) then (some (.inr ((w + 1), ((F + 1) + 1), ((x ++ (⟨([10] : List UInt8).toArray⟩ : ByteArray)) ++ x2), ((R ++ (⟨([32] : List UInt8).toArray⟩ : ByteArray)) ++ x2), (IntKind.wrap .i64 (Q + 1)), ((splice v6 F [(BoxD.mk 1 Eqq 1 [])]).take (F + 1) ++ [(BoxD.mk 0 x2 0 [])])))) else none) else none)) else none) else none) else none) else (bif (decide (x.size + (⟨([10] : List UInt8).toArray⟩ : ByteArray).size ≤ 9223372036854775807)) then (bif (decide (R.size + (⟨([32] : List UInt8).toArray⟩ : ByteArray).size ≤ 9223372036854775807)) then (bif (apOk (F + 1) 1 (v6.take F ++ [(BoxD.mk 1 Eqq 1 [])]).length 56) then (bif (decide ((F + 1) + 1 ≤ (v6.take F ++ [(BoxD.mk 1 Eqq 1 [])]).length)) then (bif (decide ((x ++ (⟨([10] : List UInt8).toArray⟩ : ByteArray)).size + x2.size ≤ 9223372036854775807)) then (bif (decide ((R ++ (⟨([32] : List UInt8).toArray⟩ : ByteArray)).size + x2.size ≤ 9223372036854775807)) then (some (.inr ((w + 1), ((F + 1) + 1), ((x ++ (⟨([10] : List UInt8).toArray⟩ : ByteArray)) ++ x2), ((R ++ (⟨([32] : List UInt8).toArray⟩ : ByteArray)) ++ x2), (IntKind.wrap .i64 (Q + 1)), (splice (v6.take F ++ [(BoxD.mk 1 Eqq 1 [])]) (F + 1) [(BoxD.mk 0 x2 0 [])])))) else none) else none) else (bif (decide ((x ++ (⟨([10] : List UInt8).toArray⟩ : ByteArray)).size + x2.size ≤ 9223372036854775807)) then (bif (decide ((R ++ (⟨([32] : List UInt8).toArray⟩ : ByteArray)).size + x2.size ≤ 9223372036854775807)) then (some (.inr (((w + 1) + 1), ((F + 1) + 1), ((x ++ (⟨([10] : List UInt8).toArray⟩ : ByteArray)) ++ x2), ((R ++ (⟨([32] : List UInt8).toArray⟩ : ByteArray)) ++ x2), (IntKind.wrap .i64 (Q + 1)), ((v6.take F ++ [(BoxD.mk 1 Eqq 1 [])]).take (F + 1) ++ [(BoxD.mk 0 x2 0 [])])))) else none) else none)) else none) else none) else none)) else none) else (bif (apOk F 1 v6.length 56) then (bif (decide (F + 1 ≤ v6.length)) then (bif (decide (x.size + x2.size ≤ 9223372036854775807)) then (bif (decide (R.size + x2.size ≤ 9223372036854775807)) then (some (.inr (w, F + 1, (x ++ x2), (R ++ x2), (IntKind.wrap .i64 (Q + 1)), (splice v6 F [(BoxD.mk 0 x2 0 [])])))) else none) else none) else (bif (decide (x.size + x2.size ≤ 9223372036854775807)) then (bif (decide (R.size + x2.size ≤ 9223372036854775807)) then (some (.inr ((w + 1), F + 1, (x ++ x2), (R ++ x2), (IntKind.wrap .i64 (Q + 1)), (v6.take F ++ [(BoxD.mk 0 x2 0 [])])))) else none) else none)) else none))))))) else (some (.inl (.k1 w F x R v6))))
def L6 (w F : Nat) (x R : ByteArray) (Q : Int) (v6 : Bqq) : St := ⟨fr 134 ug [(0, ls 1 eStr c), (1, i6 j), (5, .sl 0 w 4 0 F), (6, vs x), (7, vs R), (8, i6 Q)], [.row 28 4 w (ra cBx v6)]⟩
theorem Wg (w F : Nat) (x R : ByteArray) (Q : Int) (v6 : Bqq) : okT 1 (L6 c j w F x R Q v6).h = true := (ZE rfl (ar rfl))
abbrev Wh (w F : Nat) (x R : ByteArray) (Q : Int) (v6 : Bqq) := evH prg 1 [0, 1, 5, 6, 7, 8] F2 (L6 c j w F x R Q v6)
def PI (e : E_L103_0) (r : Option (Out × St)) : Prop := match e with | .k0 x0 => ∃ g y, r = some (.ret, ⟨fr 134 g [(4, vb x0)], y⟩) | .k1 x0 x1 x2 x3 x4 => ∃ g, r = some ((.brk 0), ⟨fr 134 g [(0, ls 1 eStr c), (1, i6 j), (5, .sl 0 x0 4 0 x1), (6, vs x2), (7, vs x3)], [.row 28 4 x0 (ra cBx x4)]⟩)
abbrev OO (w : Nat) (v6 : Bqq) : List AB := [.row 28 4 w (ra cBx v6), .row 28 4 0 [[i6 1, (vs Eqq), i6 1, (.p (.lst 4 (Zb ([]))))]]]
abbrev OP (w : Nat) (v6 : Bqq) (F : Nat) : List AB := [.row 28 4 w (ra cBx (splice v6 F [(BoxD.mk 1 Eqq 1 [])])), .row 28 4 0 [[i6 1, (vs Eqq), i6 1, (.p (.lst 4 (Zb ([]))))]]]
abbrev OQ (w : Nat) (v6 : Bqq) (F : Nat) (x2 : ByteArray) : List AB := [.row 28 4 w (ra cBx (splice v6 F [(BoxD.mk 1 Eqq 1 [])])), .row 28 4 0 [[i6 1, (vs Eqq), i6 1, (.p (.lst 4 (Zb ([]))))]], .row 28 4 0 [[i6 0, vs x2, i6 0, (.p (.lst 4 (Zb ([]))))]]]
abbrev OR (w : Nat) (v6 : Bqq) (F : Nat) (x2 : ByteArray) : List AB := [.row 28 4 w (ra cBx (splice (splice v6 F [(BoxD.mk 1 Eqq 1 [])]) (F + 1) [(BoxD.mk 0 x2 0 [])])), .row 28 4 0 [[i6 1, (vs Eqq), i6 1, (.p (.lst 4 (Zb ([]))))]], .row 28 4 0 [[i6 0, vs x2, i6 0, (.p (.lst 4 (Zb ([]))))]]]
abbrev OS (w : Nat) (v6 : Bqq) (F : Nat) (x2 : ByteArray) : List AB := [.row 28 4 (w + 1) (ra cBx ((splice v6 F [(BoxD.mk 1 Eqq 1 [])]).take (F + 1) ++ [(BoxD.mk 0 x2 0 [])])), .row 28 4 0 [[i6 1, (vs Eqq), i6 1, (.p (.lst 4 (Zb ([]))))]], .row 28 4 0 [[i6 0, vs x2, i6 0, (.p (.lst 4 (Zb ([]))))]]]
abbrev OT (w : Nat) (v6 : Bqq) (F : Nat) : List AB := [.row 28 4 (w + 1) (ra cBx (v6.take F ++ [(BoxD.mk 1 Eqq 1 [])])), .row 28 4 0 [[i6 1, (vs Eqq), i6 1, (.p (.lst 4 (Zb ([]))))]]]
abbrev OU (w : Nat) (v6 : Bqq) (F : Nat) (x2 : ByteArray) : List AB := [.row 28 4 (w + 1) (ra cBx (v6.take F ++ [(BoxD.mk 1 Eqq 1 [])])), .row 28 4 0 [[i6 1, (vs Eqq), i6 1, (.p (.lst 4 (Zb ([]))))]], .row 28 4 0 [[i6 0, vs x2, i6 0, (.p (.lst 4 (Zb ([]))))]]]
abbrev OV (w : Nat) (v6 : Bqq) (F : Nat) (x2 : ByteArray) : List AB := [.row 28 4 (w + 1) (ra cBx (splice (v6.take F ++ [(BoxD.mk 1 Eqq 1 [])]) (F + 1) [(BoxD.mk 0 x2 0 [])])), .row 28 4 0 [[i6 1, (vs Eqq), i6 1, (.p (.lst 4 (Zb ([]))))]], .row 28 4 0 [[i6 0, vs x2, i6 0, (.p (.lst 4 (Zb ([]))))]]]
abbrev OW (w : Nat) (v6 : Bqq) (F : Nat) (x2 : ByteArray) : List AB := [.row 28 4 ((w + 1) + 1) (ra cBx ((v6.take F ++ [(BoxD.mk 1 Eqq 1 [])]).take (F + 1) ++ [(BoxD.mk 0 x2 0 [])])), .row 28 4 0 [[i6 1, (vs Eqq), i6 1, (.p (.lst 4 (Zb ([]))))]], .row 28 4 0 [[i6 0, vs x2, i6 0, (.p (.lst 4 (Zb ([]))))]]]
abbrev OX (w : Nat) (v6 : Bqq) (x2 : ByteArray) : List AB := [.row 28 4 w (ra cBx v6), .row 28 4 0 [[i6 0, vs x2, i6 0, (.p (.lst 4 (Zb ([]))))]]]
abbrev Qi (w : Nat) (v6 : Bqq) (F : Nat) (x2 : ByteArray) : List AB := [.row 28 4 w (ra cBx (splice v6 F [(BoxD.mk 0 x2 0 [])])), .row 28 4 0 [[i6 0, vs x2, i6 0, (.p (.lst 4 (Zb ([]))))]]]
abbrev Qj (w : Nat) (v6 : Bqq) (F : Nat) (x2 : ByteArray) : List AB := [.row 28 4 (w + 1) (ra cBx (v6.take F ++ [(BoxD.mk 0 x2 0 [])])), .row 28 4 0 [[i6 0, vs x2, i6 0, (.p (.lst 4 (Zb ([]))))]]]
theorem Hl (w F : Nat) (x R : ByteArray) (Q : Int) (v6 : Bqq) {r : E_L103_0 ⊕ (Nat × Nat × ByteArray × ByteArray × Int × Bqq)} (h : Z3 c w F x R Q v6 = some r) : OkR (fun e => PI c j e (Wh c j w F x R Q v6)) (fun s => Wh c j w F x R Q v6 = Wh c j s.1 s.2.1 s.2.2.1 s.2.2.2.1 s.2.2.2.2.1 s.2.2.2.2.2) r := by
 unfold Z3 at h
 have k0 := ka [(29, .v (i6 (c.length : Int)))] (apc (lg c eStr 1) apn)
 apply bi h <;> intro h1 h
 ·
  apply bn h; intro x2 h2 h
  have k1 := k0.a [(30, .d true), (35, .v (.ro [.val (.string x2)]))] (av h1 (apc (ig eStr 1 .i64 h2) apn))
  apply bi h <;> intro h3 h
  ·
   apply bn h; intro x4 h4 h
   rw [← sj h]
   exact xy ([(38, .d true), (59, .v (vb x4)), (6000, .d true)] ++ kH k1) (k1.b (av h3 (apc (((ON  h4).cp rfl _) : CP prg 6 [] [.row 28 4 w (ra cBx v6)] = some (vb x4)) apn)))
  ·
   have k2 := k1.a [(38, .d false), (42, .v (.ro [.val (.string x2)]))] (av h3 (apc (ig eStr 1 .i64 h2) apn))
   apply bi h <;> intro h4 h
   ·
    apply bn h; intro x5 h5 h
    rw [← sj h]
    exact xy ([(45, .d true), (59, .v (vb x5)), (6000, .d true)] ++ kH k2) (k2.b (av h4 (apc (((ON  h5).cp rfl _) : CP prg 6 [] [.row 28 4 w (ra cBx v6)] = some (vb x5)) apn)))
   ·
    have k3 := k2.a [(45, .d false), (50, .v (.ro [.val (.string x2)]))] (av h4 (apc (ig eStr 1 .i64 h2) apn))
    apply bn h; intro x5 h5 h
    have q4 := (((Bs x2 h5).cp rfl _) : CP prg 7 [vs x2] [.row 28 4 w (ra cBx v6)] = some (vs x5))
    have k5 := k3.a [(52, .v (vs x5)), (55, .v (.ro [.val (.string x2)]))] (apc q4 (apc (ig eStr 1 .i64 h2) apn))
    apply bi h <;> intro h6 h
    ·
     apply bn h; intro x7 h7 h
     rw [← sj h]
     exact xy ([(57, .d true), (59, .v (vb x7)), (6000, .d true)] ++ kH k5) (k5.b (av h6 (apc (((ON  h7).cp rfl _) : CP prg 6 [] [.row 28 4 w (ra cBx v6)] = some (vb x7)) apn)))
    ·
     apply bi h <;> intro h7 h
     ·
      have k6 := k5.a [(57, .d false), (61, .d true)] (av h6 (av h7 apn))
      apply bi h <;> intro h8 h
      ·
       apply bi h <;> intro h9 h
       ·
        have q7 := ((X0 (e := cBx) (xs := v6) (news := [(BoxD.mk 1 Eqq 1 [])]) rfl (ZA (e := cBx) (xs := [(BoxD.mk 1 Eqq 1 [])]) rfl) rfl h8 h9) : appA (OO w v6) 28 4 56 (.sl 0 w 4 0 F) (.sl 1 0 4 0 1) = some ((.sl 0 w 4 0 (F + 1)), OP w v6 F))
        have k8 := k6.a [(65, .r (.sl 0 w 4 0 (F + 1)) (OP w v6 F))] (apc q7 apn)
        apply bi h <;> intro bq h
        ·
         have q9 := ((YO bq) : binA .add (vs x) (vs (⟨([10] : List UInt8).toArray⟩ : ByteArray)) = some (vs (x ++ (⟨([10] : List UInt8).toArray⟩ : ByteArray))))
         have k10 := k8.a [(67, .v (vs (x ++ (⟨([10] : List UInt8).toArray⟩ : ByteArray))))] (apc q9 apn)
         apply bi h <;> intro bt h
         ·
          have cn := ((YO bt) : binA .add (vs R) (vs (⟨([32] : List UInt8).toArray⟩ : ByteArray)) = some (vs (R ++ (⟨([32] : List UInt8).toArray⟩ : ByteArray))))
          have k12 := k10.a [(69, .v (vs (R ++ (⟨([32] : List UInt8).toArray⟩ : ByteArray)))), (73, .v (.ro [.val (.string x2)]))] (apc cn (apc (ig eStr 1 .i64 h2) apn))
          apply bi h <;> intro bv h
          ·
           apply bi h <;> intro bD h
           ·
            have cs := ((X0 (e := cBx) (xs := (splice v6 F [(BoxD.mk 1 Eqq 1 [])])) (news := [(BoxD.mk 0 x2 0 [])]) rfl (ZA (e := cBx) (xs := [(BoxD.mk 0 x2 0 [])]) rfl) rfl bv bD) : appA (OQ w v6 F x2) 28 4 56 (.sl 0 w 4 0 (F + 1)) (.sl 2 0 4 0 1) = some ((.sl 0 w 4 0 ((F + 1) + 1)), OR w v6 F x2))
            have k14 := k12.a [(77, .r (.sl 0 w 4 0 ((F + 1) + 1)) (OR w v6 F x2)), (81, .v (.ro [.val (.string x2)]))] (apc cs (apc (ig eStr 1 .i64 h2) apn))
            apply bi h <;> intro bC h
            ·
             have cu := ((YO bC) : binA .add (vs (x ++ (⟨([10] : List UInt8).toArray⟩ : ByteArray))) (vs x2) = some (vs ((x ++ (⟨([10] : List UInt8).toArray⟩ : ByteArray)) ++ x2)))
             have k16 := k14.a [(83, .v (vs ((x ++ (⟨([10] : List UInt8).toArray⟩ : ByteArray)) ++ x2))), (87, .v (.ro [.val (.string x2)]))] (apc cu (apc (ig eStr 1 .i64 h2) apn))
             apply bi h <;> intro bw h
             ·
              rw [← sj h]
              exact rn ([(89, .v (vs ((R ++ (⟨([32] : List UInt8).toArray⟩ : ByteArray)) ++ x2))), (6000, .d true)] ++ kH k16) (k16.b (apc ((YO bw) : binA .add (vs (R ++ (⟨([32] : List UInt8).toArray⟩ : ByteArray))) (vs x2) = some (vs ((R ++ (⟨([32] : List UInt8).toArray⟩ : ByteArray)) ++ x2))) (apc (Wg c j w ((F + 1) + 1) ((x ++ (⟨([10] : List UInt8).toArray⟩ : ByteArray)) ++ x2) ((R ++ (⟨([32] : List UInt8).toArray⟩ : ByteArray)) ++ x2) (w6 (Q + 1)) (splice (splice v6 F [(BoxD.mk 1 Eqq 1 [])]) (F + 1) [(BoxD.mk 0 x2 0 [])])) apn)))
             ·
              cases h
            ·
             cases h
           ·
            have ct := ((Yk (e := cBx) (xs := (splice v6 F [(BoxD.mk 1 Eqq 1 [])])) (news := [(BoxD.mk 0 x2 0 [])]) rfl (ZA (e := cBx) (xs := [(BoxD.mk 0 x2 0 [])]) rfl) rfl bv bD) : appA (OQ w v6 F x2) 28 4 56 (.sl 0 w 4 0 (F + 1)) (.sl 2 0 4 0 1) = some ((.sl 0 (w + 1) 4 0 ((F + 1) + 1)), OS w v6 F x2))
            have k18 := k12.a [(77, .r (.sl 0 (w + 1) 4 0 ((F + 1) + 1)) (OS w v6 F x2)), (81, .v (.ro [.val (.string x2)]))] (apc ct (apc (ig eStr 1 .i64 h2) apn))
            apply bi h <;> intro bC h
            ·
             have cB := ((YO bC) : binA .add (vs (x ++ (⟨([10] : List UInt8).toArray⟩ : ByteArray))) (vs x2) = some (vs ((x ++ (⟨([10] : List UInt8).toArray⟩ : ByteArray)) ++ x2)))
             have k20 := k18.a [(83, .v (vs ((x ++ (⟨([10] : List UInt8).toArray⟩ : ByteArray)) ++ x2))), (87, .v (.ro [.val (.string x2)]))] (apc cB (apc (ig eStr 1 .i64 h2) apn))
             apply bi h <;> intro bw h
             ·
              rw [← sj h]
              exact rn ([(89, .v (vs ((R ++ (⟨([32] : List UInt8).toArray⟩ : ByteArray)) ++ x2))), (6000, .d true)] ++ kH k20) (k20.b (apc ((YO bw) : binA .add (vs (R ++ (⟨([32] : List UInt8).toArray⟩ : ByteArray))) (vs x2) = some (vs ((R ++ (⟨([32] : List UInt8).toArray⟩ : ByteArray)) ++ x2))) (apc (Wg c j (w + 1) ((F + 1) + 1) ((x ++ (⟨([10] : List UInt8).toArray⟩ : ByteArray)) ++ x2) ((R ++ (⟨([32] : List UInt8).toArray⟩ : ByteArray)) ++ x2) (w6 (Q + 1)) ((splice v6 F [(BoxD.mk 1 Eqq 1 [])]).take (F + 1) ++ [(BoxD.mk 0 x2 0 [])])) apn)))
             ·
              cases h
            ·
             cases h
          ·
           cases h
         ·
          cases h
        ·
         cases h
       ·
        have cC := ((Yk (e := cBx) (xs := v6) (news := [(BoxD.mk 1 Eqq 1 [])]) rfl (ZA (e := cBx) (xs := [(BoxD.mk 1 Eqq 1 [])]) rfl) rfl h8 h9) : appA (OO w v6) 28 4 56 (.sl 0 w 4 0 F) (.sl 1 0 4 0 1) = some ((.sl 0 (w + 1) 4 0 (F + 1)), OT w v6 F))
        have k22 := k6.a [(65, .r (.sl 0 (w + 1) 4 0 (F + 1)) (OT w v6 F))] (apc cC apn)
        apply bi h <;> intro bq h
        ·
         have cD := ((YO bq) : binA .add (vs x) (vs (⟨([10] : List UInt8).toArray⟩ : ByteArray)) = some (vs (x ++ (⟨([10] : List UInt8).toArray⟩ : ByteArray))))
         have k24 := k22.a [(67, .v (vs (x ++ (⟨([10] : List UInt8).toArray⟩ : ByteArray))))] (apc cD apn)
         apply bi h <;> intro bt h
         ·
          have cE := ((YO bt) : binA .add (vs R) (vs (⟨([32] : List UInt8).toArray⟩ : ByteArray)) = some (vs (R ++ (⟨([32] : List UInt8).toArray⟩ : ByteArray))))
          have k26 := k24.a [(69, .v (vs (R ++ (⟨([32] : List UInt8).toArray⟩ : ByteArray)))), (73, .v (.ro [.val (.string x2)]))] (apc cE (apc (ig eStr 1 .i64 h2) apn))
          apply bi h <;> intro bv h
          ·
           apply bi h <;> intro bD h
           ·
            have cF := ((X0 (e := cBx) (xs := (v6.take F ++ [(BoxD.mk 1 Eqq 1 [])])) (news := [(BoxD.mk 0 x2 0 [])]) rfl (ZA (e := cBx) (xs := [(BoxD.mk 0 x2 0 [])]) rfl) rfl bv bD) : appA (OU w v6 F x2) 28 4 56 (.sl 0 (w + 1) 4 0 (F + 1)) (.sl 2 0 4 0 1) = some ((.sl 0 (w + 1) 4 0 ((F + 1) + 1)), OV w v6 F x2))
            have k28 := k26.a [(77, .r (.sl 0 (w + 1) 4 0 ((F + 1) + 1)) (OV w v6 F x2)), (81, .v (.ro [.val (.string x2)]))] (apc cF (apc (ig eStr 1 .i64 h2) apn))
            apply bi h <;> intro bC h
            ·
             have cG := ((YO bC) : binA .add (vs (x ++ (⟨([10] : List UInt8).toArray⟩ : ByteArray))) (vs x2) = some (vs ((x ++ (⟨([10] : List UInt8).toArray⟩ : ByteArray)) ++ x2)))
             have k30 := k28.a [(83, .v (vs ((x ++ (⟨([10] : List UInt8).toArray⟩ : ByteArray)) ++ x2))), (87, .v (.ro [.val (.string x2)]))] (apc cG (apc (ig eStr 1 .i64 h2) apn))
             apply bi h <;> intro bw h
             ·
              rw [← sj h]
              exact rn ([(89, .v (vs ((R ++ (⟨([32] : List UInt8).toArray⟩ : ByteArray)) ++ x2))), (6000, .d true)] ++ kH k30) (k30.b (apc ((YO bw) : binA .add (vs (R ++ (⟨([32] : List UInt8).toArray⟩ : ByteArray))) (vs x2) = some (vs ((R ++ (⟨([32] : List UInt8).toArray⟩ : ByteArray)) ++ x2))) (apc (Wg c j (w + 1) ((F + 1) + 1) ((x ++ (⟨([10] : List UInt8).toArray⟩ : ByteArray)) ++ x2) ((R ++ (⟨([32] : List UInt8).toArray⟩ : ByteArray)) ++ x2) (w6 (Q + 1)) (splice (v6.take F ++ [(BoxD.mk 1 Eqq 1 [])]) (F + 1) [(BoxD.mk 0 x2 0 [])])) apn)))
             ·
              cases h
            ·
             cases h
           ·
            have cH := ((Yk (e := cBx) (xs := (v6.take F ++ [(BoxD.mk 1 Eqq 1 [])])) (news := [(BoxD.mk 0 x2 0 [])]) rfl (ZA (e := cBx) (xs := [(BoxD.mk 0 x2 0 [])]) rfl) rfl bv bD) : appA (OU w v6 F x2) 28 4 56 (.sl 0 (w + 1) 4 0 (F + 1)) (.sl 2 0 4 0 1) = some ((.sl 0 ((w + 1) + 1) 4 0 ((F + 1) + 1)), OW w v6 F x2))
            have k32 := k26.a [(77, .r (.sl 0 ((w + 1) + 1) 4 0 ((F + 1) + 1)) (OW w v6 F x2)), (81, .v (.ro [.val (.string x2)]))] (apc cH (apc (ig eStr 1 .i64 h2) apn))
            apply bi h <;> intro bC h
            ·
             have cI := ((YO bC) : binA .add (vs (x ++ (⟨([10] : List UInt8).toArray⟩ : ByteArray))) (vs x2) = some (vs ((x ++ (⟨([10] : List UInt8).toArray⟩ : ByteArray)) ++ x2)))
             have k34 := k32.a [(83, .v (vs ((x ++ (⟨([10] : List UInt8).toArray⟩ : ByteArray)) ++ x2))), (87, .v (.ro [.val (.string x2)]))] (apc cI (apc (ig eStr 1 .i64 h2) apn))
             apply bi h <;> intro bw h
             ·
              rw [← sj h]
              exact rn ([(89, .v (vs ((R ++ (⟨([32] : List UInt8).toArray⟩ : ByteArray)) ++ x2))), (6000, .d true)] ++ kH k34) (k34.b (apc ((YO bw) : binA .add (vs (R ++ (⟨([32] : List UInt8).toArray⟩ : ByteArray))) (vs x2) = some (vs ((R ++ (⟨([32] : List UInt8).toArray⟩ : ByteArray)) ++ x2))) (apc (Wg c j ((w + 1) + 1) ((F + 1) + 1) ((x ++ (⟨([10] : List UInt8).toArray⟩ : ByteArray)) ++ x2) ((R ++ (⟨([32] : List UInt8).toArray⟩ : ByteArray)) ++ x2) (w6 (Q + 1)) ((v6.take F ++ [(BoxD.mk 1 Eqq 1 [])]).take (F + 1) ++ [(BoxD.mk 0 x2 0 [])])) apn)))
             ·
              cases h
            ·
             cases h
          ·
           cases h
         ·
          cases h
        ·
         cases h
      ·
       cases h
     ·
      have k35 := k5.a [(57, .d false), (61, .d false), (73, .v (.ro [.val (.string x2)]))] (av h6 (av h7 (apc (ig eStr 1 .i64 h2) apn)))
      apply bi h <;> intro h8 h
      ·
       apply bi h <;> intro h9 h
       ·
        have cJ := ((X0 (e := cBx) (xs := v6) (news := [(BoxD.mk 0 x2 0 [])]) rfl (ZA (e := cBx) (xs := [(BoxD.mk 0 x2 0 [])]) rfl) rfl h8 h9) : appA (OX w v6 x2) 28 4 56 (.sl 0 w 4 0 F) (.sl 1 0 4 0 1) = some ((.sl 0 w 4 0 (F + 1)), Qi w v6 F x2))
        have k37 := k35.a [(77, .r (.sl 0 w 4 0 (F + 1)) (Qi w v6 F x2)), (81, .v (.ro [.val (.string x2)]))] (apc cJ (apc (ig eStr 1 .i64 h2) apn))
        apply bi h <;> intro bq h
        ·
         have cK := ((YO bq) : binA .add (vs x) (vs x2) = some (vs (x ++ x2)))
         have k39 := k37.a [(83, .v (vs (x ++ x2))), (87, .v (.ro [.val (.string x2)]))] (apc cK (apc (ig eStr 1 .i64 h2) apn))
         apply bi h <;> intro bt h
         ·
          rw [← sj h]
          exact rn ([(89, .v (vs (R ++ x2))), (6000, .d true)] ++ kH k39) (k39.b (apc ((YO bt) : binA .add (vs R) (vs x2) = some (vs (R ++ x2))) (apc (Wg c j w (F + 1) (x ++ x2) (R ++ x2) (w6 (Q + 1)) (splice v6 F [(BoxD.mk 0 x2 0 [])])) apn)))
         ·
          cases h
        ·
         cases h
       ·
        have cL := ((Yk (e := cBx) (xs := v6) (news := [(BoxD.mk 0 x2 0 [])]) rfl (ZA (e := cBx) (xs := [(BoxD.mk 0 x2 0 [])]) rfl) rfl h8 h9) : appA (OX w v6 x2) 28 4 56 (.sl 0 w 4 0 F) (.sl 1 0 4 0 1) = some ((.sl 0 (w + 1) 4 0 (F + 1)), Qj w v6 F x2))
        have k41 := k35.a [(77, .r (.sl 0 (w + 1) 4 0 (F + 1)) (Qj w v6 F x2)), (81, .v (.ro [.val (.string x2)]))] (apc cL (apc (ig eStr 1 .i64 h2) apn))
        apply bi h <;> intro bq h
        ·
         have cM := ((YO bq) : binA .add (vs x) (vs x2) = some (vs (x ++ x2)))
         have k43 := k41.a [(83, .v (vs (x ++ x2))), (87, .v (.ro [.val (.string x2)]))] (apc cM (apc (ig eStr 1 .i64 h2) apn))
         apply bi h <;> intro bt h
         ·
          rw [← sj h]
          exact rn ([(89, .v (vs (R ++ x2))), (6000, .d true)] ++ kH k43) (k43.b (apc ((YO bt) : binA .add (vs R) (vs x2) = some (vs (R ++ x2))) (apc (Wg c j (w + 1) (F + 1) (x ++ x2) (R ++ x2) (w6 (Q + 1)) (v6.take F ++ [(BoxD.mk 0 x2 0 [])])) apn)))
         ·
          cases h
        ·
         cases h
      ·
       cases h
 ·
  rw [← sj h]
  exact xb ([(30, .d false), (6000, .d true)] ++ kH k0) (k0.b (av h1 apn))
theorem Qk (s0 : Nat × Nat × ByteArray × ByteArray × Int × Bqq) (e : E_L103_0) (h : runL (fun s => Z3 c s.1 s.2.1 s.2.2.1 s.2.2.2.1 s.2.2.2.2.1 s.2.2.2.2.2) s0 = some e) : PI c j e (Wh c j s0.1 s0.2.1 s0.2.2.1 s0.2.2.2.1 s0.2.2.2.2.1 s0.2.2.2.2.2) := by
  have q := @Zg (Nat × Nat × ByteArray × ByteArray × Int × Bqq) E_L103_0 (fun s => Z3 c s.1 s.2.1 s.2.2.1 s.2.2.2.1 s.2.2.2.2.1 s.2.2.2.2.2) (fun s => Wh c j s.1 s.2.1 s.2.2.1 s.2.2.2.1 s.2.2.2.2.1 s.2.2.2.2.2) (PI c j) (fun s r h => Hl c j s.1 s.2.1 s.2.2.1 s.2.2.2.1 s.2.2.2.2.1 s.2.2.2.2.2 h) s0 e h
  exact q
end
def Bt (c : BoxD) (x0 : Bool) : AV := (vb x0)
abbrev Wi := BoxD → Option Bool
abbrev Tm (f : Wi) : Prop := ∀ (c : BoxD) {r : Bool}, f c = some r → PR1 prg 39 [(.agg ((cBx c).map .p))] (Bt c r)
inductive E_L25_0 where
  | k0
  | k1
def UD (rF25 : Wi) (c : BoxD) (j : Int) (w : Int) : Option (E_L25_0 ⊕ (Int)) :=
  (bif (decide (w < j)) then ((getI c.kids w).bind fun x2 => ((rF25 x2).bind fun x3 => (bif x3 then (some (.inr ((IntKind.wrap .i64 (w + 1))))) else (some (.inl (.k0)))))) else (some (.inl (.k1))))
def Hm (c : BoxD) (j : Int) (w : Int) : St := ⟨fr 76 ug [(66, (.p (.lst 4 (Zb c.kids)))), (67, i6 j), (68, i6 w)], [.cells 28 ((cBx c).map .p), .row 28 4 0 (ra cBx []), .cells 28 [i6 c.kind, vs c.text, i6 0, n0]]⟩
theorem MI (c : BoxD) (j : Int) (w : Int) : okT 3 (Hm c j w).h = true := (ZE rfl (ac (ar (ac rfl))))
abbrev VB (c : BoxD) (j : Int) (w : Int) := evH prg 3 [66, 67, 68] UB (Hm c j w)
def MJ (c : BoxD) (j : Int) (e : E_L25_0) (r : Option (Out × St)) : Prop := match e with | .k0 => ∃ g y, r = some (.ret, ⟨fr 76 g [(2, vb false)], y⟩) | .k1 => ∃ g, r = some ((.brk 7), ⟨fr 76 g [(66, (.p (.lst 4 (Zb c.kids))))], [.cells 28 ((cBx c).map .p), .row 28 4 0 (ra cBx []), .cells 28 [i6 c.kind, vs c.text, i6 0, n0]]⟩)
abbrev L7 (c x2 : BoxD) : List AB := [.cells 28 ((cBx c).map .p), .row 28 4 0 (ra cBx []), .cells 28 [i6 c.kind, vs c.text, i6 0, n0], .row 28 4 0 (ra cBx []), .cells 28 ((cBx x2).map .p)]
theorem G2 (rF25 : Wi) (hF25 : Tm rF25) (c : BoxD) (j : Int) (w : Int) {r : E_L25_0 ⊕ (Int)} (h : UD rF25 c j w = some r) : OkR (fun e => MJ c j e (VB c j w)) (fun s => VB c j w = VB c j s) r := by
 unfold UD at h
 apply bi h <;> intro h1 h
 ·
  apply bn h; intro x2 h2 h
  have q0 := ((igr ZF h2) : idxA 4 (.p (.lst 4 (Zb c.kids))) (i6 w) = some (.ro (cBx x2)))
  have k1 := ka [(69, .d true), (70, .v (.ro (cBx x2)))] (av h1 (apc q0 apn))
  apply bn h; intro x3 h3 h
  apply bi h <;> intro h4 h
  ·
   rw [← sj h]
   exact rn ([(73, .v (vb true)), (6000, .d true)] ++ kH k1) (k1.b (apc ((((hF25 x2 h3).cp rfl _).trans (congrArg (fun z => some (vb z)) h4)) : CP prg 39 [(.agg ((cBx x2).map .p))] (L7 c x2) = some (vb true)) (apc (MI c j (w6 (w + 1))) apn)))
  ·
   rw [← sj h]
   exact xy ([(73, .v (vb false)), (6000, .d true)] ++ kH k1) (k1.b (apc ((((hF25 x2 h3).cp rfl _).trans (congrArg (fun z => some (vb z)) h4)) : CP prg 39 [(.agg ((cBx x2).map .p))] (L7 c x2) = some (vb false)) apn))
 ·
  rw [← sj h]
  exact xb [(69, .d false), (6000, .d true)] (av h1 apn)
theorem OY (rF25 : Wi) (hF25 : Tm rF25) (c : BoxD) (j : Int) (s0 : Int) (e : E_L25_0) (h : runL (fun s => UD rF25 c j s) s0 = some e) : MJ c j e (VB c j s0) := by
  have q := @Zg (Int) E_L25_0 (fun s => UD rF25 c j s) (fun s => VB c j s) (MJ c j) (fun s r h => G2 rF25 hF25 c j s h) s0 e h
  exact q
inductive E_L25_0_2 where
  | k0
  | k1
def YG (rF25 : Wi) (c : BoxD) (j : Int) (w : Int) : Option (E_L25_0_2 ⊕ (Int)) :=
  (bif (decide (w < j)) then ((getI c.kids w).bind fun x2 => ((rF25 x2).bind fun x3 => (bif x3 then (some (.inr ((IntKind.wrap .i64 (w + 1))))) else (some (.inl (.k0)))))) else (some (.inl (.k1))))
def OZ (c : BoxD) (j : Int) (w : Int) : St := ⟨fr 76 ug [(66, (.p (.lst 4 (Zb c.kids)))), (67, i6 j), (68, i6 w)], [.cells 28 ((cBx c).map .p), .row 28 4 0 (ra cBx []), .cells 28 [i6 c.kind, (vs Eqq), i6 c.n, (.p (.lst 4 (Zb c.kids)))]]⟩
theorem SB (c : BoxD) (j : Int) (w : Int) : okT 3 (OZ c j w).h = true := (ZE rfl (ac (ar (ac rfl))))
abbrev Xm (c : BoxD) (j : Int) (w : Int) := evH prg 3 [66, 67, 68] UB (OZ c j w)
def SC (c : BoxD) (j : Int) (e : E_L25_0_2) (r : Option (Out × St)) : Prop := match e with | .k0 => ∃ g y, r = some (.ret, ⟨fr 76 g [(2, vb false)], y⟩) | .k1 => ∃ g, r = some ((.brk 7), ⟨fr 76 g [(66, (.p (.lst 4 (Zb c.kids))))], [.cells 28 ((cBx c).map .p), .row 28 4 0 (ra cBx []), .cells 28 [i6 c.kind, (vs Eqq), i6 c.n, (.p (.lst 4 (Zb c.kids)))]]⟩)
abbrev Ql (c x2 : BoxD) : List AB := [.cells 28 ((cBx c).map .p), .row 28 4 0 (ra cBx []), .cells 28 [i6 c.kind, (vs Eqq), i6 c.n, (.p (.lst 4 (Zb c.kids)))], .row 28 4 0 (ra cBx []), .cells 28 ((cBx x2).map .p)]
theorem JB (rF25 : Wi) (hF25 : Tm rF25) (c : BoxD) (j : Int) (w : Int) {r : E_L25_0_2 ⊕ (Int)} (h : YG rF25 c j w = some r) : OkR (fun e => SC c j e (Xm c j w)) (fun s => Xm c j w = Xm c j s) r := by
 unfold YG at h
 apply bi h <;> intro h1 h
 ·
  apply bn h; intro x2 h2 h
  have q0 := ((igr ZF h2) : idxA 4 (.p (.lst 4 (Zb c.kids))) (i6 w) = some (.ro (cBx x2)))
  have k1 := ka [(69, .d true), (70, .v (.ro (cBx x2)))] (av h1 (apc q0 apn))
  apply bn h; intro x3 h3 h
  apply bi h <;> intro h4 h
  ·
   rw [← sj h]
   exact rn ([(73, .v (vb true)), (6000, .d true)] ++ kH k1) (k1.b (apc ((((hF25 x2 h3).cp rfl _).trans (congrArg (fun z => some (vb z)) h4)) : CP prg 39 [(.agg ((cBx x2).map .p))] (Ql c x2) = some (vb true)) (apc (SB c j (w6 (w + 1))) apn)))
  ·
   rw [← sj h]
   exact xy ([(73, .v (vb false)), (6000, .d true)] ++ kH k1) (k1.b (apc ((((hF25 x2 h3).cp rfl _).trans (congrArg (fun z => some (vb z)) h4)) : CP prg 39 [(.agg ((cBx x2).map .p))] (Ql c x2) = some (vb false)) apn))
 ·
  rw [← sj h]
  exact xb [(69, .d false), (6000, .d true)] (av h1 apn)
theorem SD (rF25 : Wi) (hF25 : Tm rF25) (c : BoxD) (j : Int) (s0 : Int) (e : E_L25_0_2) (h : runL (fun s => YG rF25 c j s) s0 = some e) : SC c j e (Xm c j s0) := by
  have q := @Zg (Int) E_L25_0_2 (fun s => YG rF25 c j s) (fun s => Xm c j s) (SC c j) (fun s r h => JB rF25 hF25 c j s h) s0 e h
  exact q
inductive E_L25_0_3 where
  | k0
  | k1
def YH (rF25 : Wi) (c : BoxD) (j : Int) (w : Int) : Option (E_L25_0_3 ⊕ (Int)) :=
  (bif (decide (w < j)) then ((getI c.kids w).bind fun x2 => ((rF25 x2).bind fun x3 => (bif x3 then (some (.inr ((IntKind.wrap .i64 (w + 1))))) else (some (.inl (.k0)))))) else (some (.inl (.k1))))
def O0 (c : BoxD) (j : Int) (w : Int) : St := ⟨fr 76 ug [(66, (.p (.lst 4 (Zb c.kids)))), (67, i6 j), (68, i6 w)], [.cells 28 ((cBx c).map .p), .row 28 4 0 (ra cBx []), .cells 28 [i6 c.kind, (vs Eqq), i6 c.n, n0]]⟩
theorem SE (c : BoxD) (j : Int) (w : Int) : okT 3 (O0 c j w).h = true := (ZE rfl (ac (ar (ac rfl))))
abbrev Xn (c : BoxD) (j : Int) (w : Int) := evH prg 3 [66, 67, 68] UB (O0 c j w)
def SF (c : BoxD) (j : Int) (e : E_L25_0_3) (r : Option (Out × St)) : Prop := match e with | .k0 => ∃ g y, r = some (.ret, ⟨fr 76 g [(2, vb false)], y⟩) | .k1 => ∃ g, r = some ((.brk 7), ⟨fr 76 g [(66, (.p (.lst 4 (Zb c.kids))))], [.cells 28 ((cBx c).map .p), .row 28 4 0 (ra cBx []), .cells 28 [i6 c.kind, (vs Eqq), i6 c.n, n0]]⟩)
abbrev Qm (c x2 : BoxD) : List AB := [.cells 28 ((cBx c).map .p), .row 28 4 0 (ra cBx []), .cells 28 [i6 c.kind, (vs Eqq), i6 c.n, n0], .row 28 4 0 (ra cBx []), .cells 28 ((cBx x2).map .p)]
theorem JC (rF25 : Wi) (hF25 : Tm rF25) (c : BoxD) (j : Int) (w : Int) {r : E_L25_0_3 ⊕ (Int)} (h : YH rF25 c j w = some r) : OkR (fun e => SF c j e (Xn c j w)) (fun s => Xn c j w = Xn c j s) r := by
 unfold YH at h
 apply bi h <;> intro h1 h
 ·
  apply bn h; intro x2 h2 h
  have q0 := ((igr ZF h2) : idxA 4 (.p (.lst 4 (Zb c.kids))) (i6 w) = some (.ro (cBx x2)))
  have k1 := ka [(69, .d true), (70, .v (.ro (cBx x2)))] (av h1 (apc q0 apn))
  apply bn h; intro x3 h3 h
  apply bi h <;> intro h4 h
  ·
   rw [← sj h]
   exact rn ([(73, .v (vb true)), (6000, .d true)] ++ kH k1) (k1.b (apc ((((hF25 x2 h3).cp rfl _).trans (congrArg (fun z => some (vb z)) h4)) : CP prg 39 [(.agg ((cBx x2).map .p))] (Qm c x2) = some (vb true)) (apc (SE c j (w6 (w + 1))) apn)))
  ·
   rw [← sj h]
   exact xy ([(73, .v (vb false)), (6000, .d true)] ++ kH k1) (k1.b (apc ((((hF25 x2 h3).cp rfl _).trans (congrArg (fun z => some (vb z)) h4)) : CP prg 39 [(.agg ((cBx x2).map .p))] (Qm c x2) = some (vb false)) apn))
 ·
  rw [← sj h]
  exact xb [(69, .d false), (6000, .d true)] (av h1 apn)
theorem SG (rF25 : Wi) (hF25 : Tm rF25) (c : BoxD) (j : Int) (s0 : Int) (e : E_L25_0_3) (h : runL (fun s => YH rF25 c j s) s0 = some e) : SF c j e (Xn c j s0) := by
  have q := @Zg (Int) E_L25_0_3 (fun s => YH rF25 c j s) (fun s => Xn c j s) (SF c j) (fun s r h => JC rF25 hF25 c j s h) s0 e h
  exact q
inductive E_L25_0_4 where
  | k0
  | k1
def Ys (rF25 : Wi) (c : BoxD) (j : Int) (w : Int) : Option (E_L25_0_4 ⊕ (Int)) :=
  (bif (decide (w < j)) then ((getI c.kids w).bind fun x2 => ((rF25 x2).bind fun x3 => (bif x3 then (some (.inr ((IntKind.wrap .i64 (w + 1))))) else (some (.inl (.k0)))))) else (some (.inl (.k1))))
def O1 (c : BoxD) (j : Int) (w : Int) : St := ⟨fr 76 ug [(66, (.p (.lst 4 (Zb c.kids)))), (67, i6 j), (68, i6 w)], [.cells 28 ((cBx c).map .p), .row 28 4 0 (ra cBx []), .cells 28 [i6 c.kind, (vs Eqq), i6 0, (.p (.lst 4 (Zb c.kids)))]]⟩
theorem WE (c : BoxD) (j : Int) (w : Int) : okT 3 (O1 c j w).h = true := (ZE rfl (ac (ar (ac rfl))))
abbrev Yt (c : BoxD) (j : Int) (w : Int) := evH prg 3 [66, 67, 68] UB (O1 c j w)
def SH (c : BoxD) (j : Int) (e : E_L25_0_4) (r : Option (Out × St)) : Prop := match e with | .k0 => ∃ g y, r = some (.ret, ⟨fr 76 g [(2, vb false)], y⟩) | .k1 => ∃ g, r = some ((.brk 7), ⟨fr 76 g [(66, (.p (.lst 4 (Zb c.kids))))], [.cells 28 ((cBx c).map .p), .row 28 4 0 (ra cBx []), .cells 28 [i6 c.kind, (vs Eqq), i6 0, (.p (.lst 4 (Zb c.kids)))]]⟩)
abbrev Qn (c x2 : BoxD) : List AB := [.cells 28 ((cBx c).map .p), .row 28 4 0 (ra cBx []), .cells 28 [i6 c.kind, (vs Eqq), i6 0, (.p (.lst 4 (Zb c.kids)))], .row 28 4 0 (ra cBx []), .cells 28 ((cBx x2).map .p)]
theorem JD (rF25 : Wi) (hF25 : Tm rF25) (c : BoxD) (j : Int) (w : Int) {r : E_L25_0_4 ⊕ (Int)} (h : Ys rF25 c j w = some r) : OkR (fun e => SH c j e (Yt c j w)) (fun s => Yt c j w = Yt c j s) r := by
 unfold Ys at h
 apply bi h <;> intro h1 h
 ·
  apply bn h; intro x2 h2 h
  have q0 := ((igr ZF h2) : idxA 4 (.p (.lst 4 (Zb c.kids))) (i6 w) = some (.ro (cBx x2)))
  have k1 := ka [(69, .d true), (70, .v (.ro (cBx x2)))] (av h1 (apc q0 apn))
  apply bn h; intro x3 h3 h
  apply bi h <;> intro h4 h
  ·
   rw [← sj h]
   exact rn ([(73, .v (vb true)), (6000, .d true)] ++ kH k1) (k1.b (apc ((((hF25 x2 h3).cp rfl _).trans (congrArg (fun z => some (vb z)) h4)) : CP prg 39 [(.agg ((cBx x2).map .p))] (Qn c x2) = some (vb true)) (apc (WE c j (w6 (w + 1))) apn)))
  ·
   rw [← sj h]
   exact xy ([(73, .v (vb false)), (6000, .d true)] ++ kH k1) (k1.b (apc ((((hF25 x2 h3).cp rfl _).trans (congrArg (fun z => some (vb z)) h4)) : CP prg 39 [(.agg ((cBx x2).map .p))] (Qn c x2) = some (vb false)) apn))
 ·
  rw [← sj h]
  exact xb [(69, .d false), (6000, .d true)] (av h1 apn)
theorem Wj (rF25 : Wi) (hF25 : Tm rF25) (c : BoxD) (j : Int) (s0 : Int) (e : E_L25_0_4) (h : runL (fun s => Ys rF25 c j s) s0 = some e) : SH c j e (Yt c j s0) := by
  have q := @Zg (Int) E_L25_0_4 (fun s => Ys rF25 c j s) (fun s => Yt c j s) (SH c j) (fun s r h => JD rF25 hF25 c j s h) s0 e h
  exact q
inductive E_L25_0_5 where
  | k0
  | k1
def YI (rF25 : Wi) (c : BoxD) (j : Int) (w : Int) : Option (E_L25_0_5 ⊕ (Int)) :=
  (bif (decide (w < j)) then ((getI c.kids w).bind fun x2 => ((rF25 x2).bind fun x3 => (bif x3 then (some (.inr ((IntKind.wrap .i64 (w + 1))))) else (some (.inl (.k0)))))) else (some (.inl (.k1))))
def O2 (c : BoxD) (j : Int) (w : Int) : St := ⟨fr 76 ug [(66, (.p (.lst 4 (Zb c.kids)))), (67, i6 j), (68, i6 w)], [.cells 28 ((cBx c).map .p), .row 28 4 0 (ra cBx []), .cells 28 [i6 c.kind, (vs Eqq), i6 0, n0]]⟩
theorem SI (c : BoxD) (j : Int) (w : Int) : okT 3 (O2 c j w).h = true := (ZE rfl (ac (ar (ac rfl))))
abbrev Xo (c : BoxD) (j : Int) (w : Int) := evH prg 3 [66, 67, 68] UB (O2 c j w)
def SJ (c : BoxD) (j : Int) (e : E_L25_0_5) (r : Option (Out × St)) : Prop := match e with | .k0 => ∃ g y, r = some (.ret, ⟨fr 76 g [(2, vb false)], y⟩) | .k1 => ∃ g, r = some ((.brk 7), ⟨fr 76 g [(66, (.p (.lst 4 (Zb c.kids))))], [.cells 28 ((cBx c).map .p), .row 28 4 0 (ra cBx []), .cells 28 [i6 c.kind, (vs Eqq), i6 0, n0]]⟩)
abbrev Qo (c x2 : BoxD) : List AB := [.cells 28 ((cBx c).map .p), .row 28 4 0 (ra cBx []), .cells 28 [i6 c.kind, (vs Eqq), i6 0, n0], .row 28 4 0 (ra cBx []), .cells 28 ((cBx x2).map .p)]
theorem JE (rF25 : Wi) (hF25 : Tm rF25) (c : BoxD) (j : Int) (w : Int) {r : E_L25_0_5 ⊕ (Int)} (h : YI rF25 c j w = some r) : OkR (fun e => SJ c j e (Xo c j w)) (fun s => Xo c j w = Xo c j s) r := by
 unfold YI at h
 apply bi h <;> intro h1 h
 ·
  apply bn h; intro x2 h2 h
  have q0 := ((igr ZF h2) : idxA 4 (.p (.lst 4 (Zb c.kids))) (i6 w) = some (.ro (cBx x2)))
  have k1 := ka [(69, .d true), (70, .v (.ro (cBx x2)))] (av h1 (apc q0 apn))
  apply bn h; intro x3 h3 h
  apply bi h <;> intro h4 h
  ·
   rw [← sj h]
   exact rn ([(73, .v (vb true)), (6000, .d true)] ++ kH k1) (k1.b (apc ((((hF25 x2 h3).cp rfl _).trans (congrArg (fun z => some (vb z)) h4)) : CP prg 39 [(.agg ((cBx x2).map .p))] (Qo c x2) = some (vb true)) (apc (SI c j (w6 (w + 1))) apn)))
  ·
   rw [← sj h]
   exact xy ([(73, .v (vb false)), (6000, .d true)] ++ kH k1) (k1.b (apc ((((hF25 x2 h3).cp rfl _).trans (congrArg (fun z => some (vb z)) h4)) : CP prg 39 [(.agg ((cBx x2).map .p))] (Qo c x2) = some (vb false)) apn))
 ·
  rw [← sj h]
  exact xb [(69, .d false), (6000, .d true)] (av h1 apn)
theorem SK (rF25 : Wi) (hF25 : Tm rF25) (c : BoxD) (j : Int) (s0 : Int) (e : E_L25_0_5) (h : runL (fun s => YI rF25 c j s) s0 = some e) : SJ c j e (Xo c j s0) := by
  have q := @Zg (Int) E_L25_0_5 (fun s => YI rF25 c j s) (fun s => Xo c j s) (SJ c j) (fun s r h => JE rF25 hF25 c j s h) s0 e h
  exact q
def MK (rF25 : Wi) (c : BoxD) : Option Bool :=
  (bif (c.kind == 0) then (bif (!(c.text.toList == c.text.toList)) then (some false) else (bif (c.n != 0) then (some false) else (bif ((c.kids.length : Int) != 0) then (some false) else (bif (decide (c.n < 0)) then (some false) else (bif (decide (c.n > 100)) then (some false) else ((runL (fun s => UD rF25 c (c.kids.length : Int) s) 0).bind fun r7 => match r7 with | .k0 => (some false) | .k1 => (some true))))))) else (bif (c.kind == 5) then (bif (!(c.text.toList == Eqq.toList)) then (some false) else (bif (c.n != c.n) then (some false) else (bif ((c.kids.length : Int) != (c.kids.length : Int)) then (some false) else (bif (decide (c.n < 0)) then (some false) else (bif (decide (c.n > 100)) then (some false) else ((runL (fun s => YG rF25 c (c.kids.length : Int) s) 0).bind fun r8 => match r8 with | .k0 => (some false) | .k1 => (some true))))))) else (bif (c.kind == 1) then (bif (!(c.text.toList == Eqq.toList)) then (some false) else (bif (c.n != c.n) then (some false) else (bif ((c.kids.length : Int) != 0) then (some false) else (bif (decide (c.n < 0)) then (some false) else (bif (decide (c.n > 100)) then (some false) else ((runL (fun s => YH rF25 c (c.kids.length : Int) s) 0).bind fun r9 => match r9 with | .k0 => (some false) | .k1 => (some true))))))) else (bif (c.kind == 3) then (bif (!(c.text.toList == Eqq.toList)) then (some false) else (bif (c.n != 0) then (some false) else (bif ((c.kids.length : Int) != (c.kids.length : Int)) then (some false) else (bif (decide (c.n < 0)) then (some false) else (bif (decide (c.n > 100)) then (some false) else ((runL (fun s => Ys rF25 c (c.kids.length : Int) s) 0).bind fun b5 => match b5 with | .k0 => (some false) | .k1 => (some true))))))) else (bif (c.kind == 4) then (bif (!(c.text.toList == Eqq.toList)) then (some false) else (bif (c.n != 0) then (some false) else (bif ((c.kids.length : Int) != (c.kids.length : Int)) then (some false) else (bif (decide (c.n < 0)) then (some false) else (bif (decide (c.n > 100)) then (some false) else ((runL (fun s => Ys rF25 c (c.kids.length : Int) s) 0).bind fun b6 => match b6 with | .k0 => (some false) | .k1 => (some true))))))) else (bif (c.kind == 2) then (bif (!(c.text.toList == Eqq.toList)) then (some false) else (bif (c.n != 0) then (some false) else (bif ((c.kids.length : Int) != 0) then (some false) else (bif (decide (c.n < 0)) then (some false) else (bif (decide (c.n > 100)) then (some false) else ((runL (fun s => YI rF25 c (c.kids.length : Int) s) 0).bind fun bG => match bG with | .k0 => (some false) | .k1 => (some true))))))) else (some false)))))))
abbrev Eb (g7 : Nat → AV) (c : BoxD) : St := ⟨fr 76 g7 [(66, (.p (.lst 4 (Zb c.kids))))], [.cells 28 ((cBx c).map .p), .row 28 4 0 (ra cBx []), .cells 28 [i6 c.kind, vs c.text, i6 0, n0]]⟩
abbrev Ec (g8 : Nat → AV) (c : BoxD) : St := ⟨fr 76 g8 [(66, (.p (.lst 4 (Zb c.kids))))], [.cells 28 ((cBx c).map .p), .row 28 4 0 (ra cBx []), .cells 28 [i6 c.kind, (vs Eqq), i6 c.n, (.p (.lst 4 (Zb c.kids)))]]⟩
abbrev Ed (g9 : Nat → AV) (c : BoxD) : St := ⟨fr 76 g9 [(66, (.p (.lst 4 (Zb c.kids))))], [.cells 28 ((cBx c).map .p), .row 28 4 0 (ra cBx []), .cells 28 [i6 c.kind, (vs Eqq), i6 c.n, n0]]⟩
abbrev Ee (ci : Nat → AV) (c : BoxD) : St := ⟨fr 76 ci [(66, (.p (.lst 4 (Zb c.kids))))], [.cells 28 ((cBx c).map .p), .row 28 4 0 (ra cBx []), .cells 28 [i6 c.kind, (vs Eqq), i6 0, (.p (.lst 4 (Zb c.kids)))]]⟩
abbrev Ef (cj : Nat → AV) (c : BoxD) : St := ⟨fr 76 cj [(66, (.p (.lst 4 (Zb c.kids))))], [.cells 28 ((cBx c).map .p), .row 28 4 0 (ra cBx []), .cells 28 [i6 c.kind, (vs Eqq), i6 0, (.p (.lst 4 (Zb c.kids)))]]⟩
abbrev Eg (ck : Nat → AV) (c : BoxD) : St := ⟨fr 76 ck [(66, (.p (.lst 4 (Zb c.kids))))], [.cells 28 ((cBx c).map .p), .row 28 4 0 (ra cBx []), .cells 28 [i6 c.kind, (vs Eqq), i6 0, n0]]⟩
theorem Ce (rF25 : Wi) (hF25 : Tm rF25) (c : BoxD) {r : Bool} (h : MK rF25 c = some r) : PR1 prg 39 [(.agg ((cBx c).map .p))] (Bt c r) := by
 unfold MK at h
 have q0 := ((lgr ZF) : lnA (.p (.lst 4 (Zb c.kids))) = some (i6 (c.kids.length : Int)))
 apply bi h <;> intro h1 h
 ·
  apply bi h <;> intro h2 h
  ·
   rw [← sj h]
   exact fq [(12, .d true), (38, .d true)] (av h1 (av h2 apn))
  ·
   have k1 := ka [(12, .d true), (38, .d false)] (av h1 (av h2 apn))
   apply bi h <;> intro h3 h
   ·
    rw [← sj h]
    exact fq ([(44, .d true)] ++ kH k1) (k1.b (av h3 apn))
   ·
    have k2 := k1.a [(44, .d false), (49, .v (i6 (c.kids.length : Int)))] (av h3 (apc q0 apn))
    apply bi h <;> intro h4 h
    ·
     rw [← sj h]
     exact fq ([(53, .d true)] ++ kH k2) (k2.b (av h4 apn))
    ·
     apply bi h <;> intro h5 h
     ·
      rw [← sj h]
      exact fq ([(53, .d false), (58, .d true)] ++ kH k2) (k2.b (av h4 (av h5 apn)))
     ·
      have k3 := k2.a [(53, .d false), (58, .d false)] (av h4 (av h5 apn))
      apply bi h <;> intro h6 h
      ·
       rw [← sj h]
       exact fq ([(63, .d true)] ++ kH k3) (k3.b (av h6 apn))
      ·
       have k4 := k3.a [(63, .d false), (67, .v (i6 (c.kids.length : Int)))] (av h6 (apc q0 apn))
       apply bn h; intro r7 h7 h
       cases r7 with
       | k0 =>
        obtain ⟨g7, y7, e7⟩ := OY rF25 hF25 c (c.kids.length : Int) 0 _ h7
        rw [← sj h]
        exact fq ([(2007, .l .ret ⟨fr 76 g7 [(2, vb false)], y7⟩), (6000, .d true)] ++ kH k4) (k4.b (apc (MI c (c.kids.length : Int) 0) (apc (e7 : VB c (c.kids.length : Int) 0 = some (.ret, ⟨fr 76 g7 [(2, vb false)], y7⟩)) apn)))
       | k1 =>
        obtain ⟨g7, e7⟩ := OY rF25 hF25 c (c.kids.length : Int) 0 _ h7
        rw [← sj h]
        exact fq ([(2007, .l (.brk 7) (Eb g7 c)), (6000, .d true)] ++ kH k4) (k4.b (apc (MI c (c.kids.length : Int) 0) (apc (e7 : VB c (c.kids.length : Int) 0 = some ((.brk 7), Eb g7 c)) apn)))
 ·
  apply bi h <;> intro h2 h
  ·
   have k5 := ka [(12, .d false), (14, .d true)] (av h1 (av h2 apn))
   apply bi h <;> intro h3 h
   ·
    rw [← sj h]
    exact fq ([(38, .d true)] ++ kH k5) (k5.b (av h3 apn))
   ·
    apply bi h <;> intro h4 h
    ·
     rw [← sj h]
     exact fq ([(38, .d false), (44, .d true)] ++ kH k5) (k5.b (av h3 (av h4 apn)))
    ·
     have k6 := k5.a [(38, .d false), (44, .d false), (49, .v (i6 (c.kids.length : Int))), (52, .v (i6 (c.kids.length : Int)))] (av h3 (av h4 (apc q0 (apc q0 apn))))
     apply bi h <;> intro h5 h
     ·
      rw [← sj h]
      exact fq ([(53, .d true)] ++ kH k6) (k6.b (av h5 apn))
     ·
      apply bi h <;> intro h6 h
      ·
       rw [← sj h]
       exact fq ([(53, .d false), (58, .d true)] ++ kH k6) (k6.b (av h5 (av h6 apn)))
      ·
       have k7 := k6.a [(53, .d false), (58, .d false)] (av h5 (av h6 apn))
       apply bi h <;> intro h7 h
       ·
        rw [← sj h]
        exact fq ([(63, .d true)] ++ kH k7) (k7.b (av h7 apn))
       ·
        have k8 := k7.a [(63, .d false), (67, .v (i6 (c.kids.length : Int)))] (av h7 (apc q0 apn))
        apply bn h; intro r8 h8 h
        cases r8 with
        | k0 =>
         obtain ⟨g8, y8, e8⟩ := SD rF25 hF25 c (c.kids.length : Int) 0 _ h8
         rw [← sj h]
         exact fq ([(2007, .l .ret ⟨fr 76 g8 [(2, vb false)], y8⟩), (6000, .d true)] ++ kH k8) (k8.b (apc (SB c (c.kids.length : Int) 0) (apc (e8 : Xm c (c.kids.length : Int) 0 = some (.ret, ⟨fr 76 g8 [(2, vb false)], y8⟩)) apn)))
        | k1 =>
         obtain ⟨g8, e8⟩ := SD rF25 hF25 c (c.kids.length : Int) 0 _ h8
         rw [← sj h]
         exact fq ([(2007, .l (.brk 7) (Ec g8 c)), (6000, .d true)] ++ kH k8) (k8.b (apc (SB c (c.kids.length : Int) 0) (apc (e8 : Xm c (c.kids.length : Int) 0 = some ((.brk 7), Ec g8 c)) apn)))
  ·
   have k9 := ka [(12, .d false), (14, .d false)] (av h1 (av h2 apn))
   apply bi h <;> intro h3 h
   ·
    apply bi h <;> intro h4 h
    ·
     rw [← sj h]
     exact fq ([(16, .d true), (38, .d true)] ++ kH k9) (k9.b (av h3 (av h4 apn)))
    ·
     have k10 := k9.a [(16, .d true), (38, .d false)] (av h3 (av h4 apn))
     apply bi h <;> intro h5 h
     ·
      rw [← sj h]
      exact fq ([(44, .d true)] ++ kH k10) (k10.b (av h5 apn))
     ·
      have k11 := k10.a [(44, .d false), (49, .v (i6 (c.kids.length : Int)))] (av h5 (apc q0 apn))
      apply bi h <;> intro h6 h
      ·
       rw [← sj h]
       exact fq ([(53, .d true)] ++ kH k11) (k11.b (av h6 apn))
      ·
       apply bi h <;> intro h7 h
       ·
        rw [← sj h]
        exact fq ([(53, .d false), (58, .d true)] ++ kH k11) (k11.b (av h6 (av h7 apn)))
       ·
        have k12 := k11.a [(53, .d false), (58, .d false)] (av h6 (av h7 apn))
        apply bi h <;> intro h8 h
        ·
         rw [← sj h]
         exact fq ([(63, .d true)] ++ kH k12) (k12.b (av h8 apn))
        ·
         have k13 := k12.a [(63, .d false), (67, .v (i6 (c.kids.length : Int)))] (av h8 (apc q0 apn))
         apply bn h; intro r9 h9 h
         cases r9 with
         | k0 =>
          obtain ⟨g9, y9, e9⟩ := SG rF25 hF25 c (c.kids.length : Int) 0 _ h9
          rw [← sj h]
          exact fq ([(2007, .l .ret ⟨fr 76 g9 [(2, vb false)], y9⟩), (6000, .d true)] ++ kH k13) (k13.b (apc (SE c (c.kids.length : Int) 0) (apc (e9 : Xn c (c.kids.length : Int) 0 = some (.ret, ⟨fr 76 g9 [(2, vb false)], y9⟩)) apn)))
         | k1 =>
          obtain ⟨g9, e9⟩ := SG rF25 hF25 c (c.kids.length : Int) 0 _ h9
          rw [← sj h]
          exact fq ([(2007, .l (.brk 7) (Ed g9 c)), (6000, .d true)] ++ kH k13) (k13.b (apc (SE c (c.kids.length : Int) 0) (apc (e9 : Xn c (c.kids.length : Int) 0 = some ((.brk 7), Ed g9 c)) apn)))
   ·
    apply bi h <;> intro h4 h
    ·
     have k14 := k9.a [(16, .d false), (18, .d true)] (av h3 (av h4 apn))
     apply bi h <;> intro h5 h
     ·
      rw [← sj h]
      exact fq ([(38, .d true)] ++ kH k14) (k14.b (av h5 apn))
     ·
      apply bi h <;> intro h6 h
      ·
       rw [← sj h]
       exact fq ([(38, .d false), (44, .d true)] ++ kH k14) (k14.b (av h5 (av h6 apn)))
      ·
       have k15 := k14.a [(38, .d false), (44, .d false), (49, .v (i6 (c.kids.length : Int))), (52, .v (i6 (c.kids.length : Int)))] (av h5 (av h6 (apc q0 (apc q0 apn))))
       apply bi h <;> intro h7 h
       ·
        rw [← sj h]
        exact fq ([(53, .d true)] ++ kH k15) (k15.b (av h7 apn))
       ·
        apply bi h <;> intro h8 h
        ·
         rw [← sj h]
         exact fq ([(53, .d false), (58, .d true)] ++ kH k15) (k15.b (av h7 (av h8 apn)))
        ·
         have k16 := k15.a [(53, .d false), (58, .d false)] (av h7 (av h8 apn))
         apply bi h <;> intro h9 h
         ·
          rw [← sj h]
          exact fq ([(63, .d true)] ++ kH k16) (k16.b (av h9 apn))
         ·
          have k17 := k16.a [(63, .d false), (67, .v (i6 (c.kids.length : Int)))] (av h9 (apc q0 apn))
          apply bn h; intro b5 bq h
          cases b5 with
          | k0 =>
           obtain ⟨ci, y10, cv⟩ := Wj rF25 hF25 c (c.kids.length : Int) 0 _ bq
           rw [← sj h]
           exact fq ([(2007, .l .ret ⟨fr 76 ci [(2, vb false)], y10⟩), (6000, .d true)] ++ kH k17) (k17.b (apc (WE c (c.kids.length : Int) 0) (apc (cv : Yt c (c.kids.length : Int) 0 = some (.ret, ⟨fr 76 ci [(2, vb false)], y10⟩)) apn)))
          | k1 =>
           obtain ⟨ci, cv⟩ := Wj rF25 hF25 c (c.kids.length : Int) 0 _ bq
           rw [← sj h]
           exact fq ([(2007, .l (.brk 7) (Ee ci c)), (6000, .d true)] ++ kH k17) (k17.b (apc (WE c (c.kids.length : Int) 0) (apc (cv : Yt c (c.kids.length : Int) 0 = some ((.brk 7), Ee ci c)) apn)))
    ·
     have k18 := k9.a [(16, .d false), (18, .d false)] (av h3 (av h4 apn))
     apply bi h <;> intro h5 h
     ·
      apply bi h <;> intro h6 h
      ·
       rw [← sj h]
       exact fq ([(19, .d true), (38, .d true)] ++ kH k18) (k18.b (av h5 (av h6 apn)))
      ·
       have k19 := k18.a [(19, .d true), (38, .d false)] (av h5 (av h6 apn))
       apply bi h <;> intro h7 h
       ·
        rw [← sj h]
        exact fq ([(44, .d true)] ++ kH k19) (k19.b (av h7 apn))
       ·
        have k20 := k19.a [(44, .d false), (49, .v (i6 (c.kids.length : Int))), (52, .v (i6 (c.kids.length : Int)))] (av h7 (apc q0 (apc q0 apn)))
        apply bi h <;> intro h8 h
        ·
         rw [← sj h]
         exact fq ([(53, .d true)] ++ kH k20) (k20.b (av h8 apn))
        ·
         apply bi h <;> intro h9 h
         ·
          rw [← sj h]
          exact fq ([(53, .d false), (58, .d true)] ++ kH k20) (k20.b (av h8 (av h9 apn)))
         ·
          have k21 := k20.a [(53, .d false), (58, .d false)] (av h8 (av h9 apn))
          apply bi h <;> intro bq h
          ·
           rw [← sj h]
           exact fq ([(63, .d true)] ++ kH k21) (k21.b (av bq apn))
          ·
           have k22 := k21.a [(63, .d false), (67, .v (i6 (c.kids.length : Int)))] (av bq (apc q0 apn))
           apply bn h; intro b6 bt h
           cases b6 with
           | k0 =>
            obtain ⟨cj, y11, cw⟩ := Wj rF25 hF25 c (c.kids.length : Int) 0 _ bt
            rw [← sj h]
            exact fq ([(2007, .l .ret ⟨fr 76 cj [(2, vb false)], y11⟩), (6000, .d true)] ++ kH k22) (k22.b (apc (WE c (c.kids.length : Int) 0) (apc (cw : Yt c (c.kids.length : Int) 0 = some (.ret, ⟨fr 76 cj [(2, vb false)], y11⟩)) apn)))
           | k1 =>
            obtain ⟨cj, cw⟩ := Wj rF25 hF25 c (c.kids.length : Int) 0 _ bt
            rw [← sj h]
            exact fq ([(2007, .l (.brk 7) (Ef cj c)), (6000, .d true)] ++ kH k22) (k22.b (apc (WE c (c.kids.length : Int) 0) (apc (cw : Yt c (c.kids.length : Int) 0 = some ((.brk 7), Ef cj c)) apn)))
     ·
      apply bi h <;> intro h6 h
      ·
       have k23 := k18.a [(19, .d false), (21, .d true)] (av h5 (av h6 apn))
       apply bi h <;> intro h7 h
       ·
        rw [← sj h]
        exact fq ([(38, .d true)] ++ kH k23) (k23.b (av h7 apn))
       ·
        apply bi h <;> intro h8 h
        ·
         rw [← sj h]
         exact fq ([(38, .d false), (44, .d true)] ++ kH k23) (k23.b (av h7 (av h8 apn)))
        ·
         have k24 := k23.a [(38, .d false), (44, .d false), (49, .v (i6 (c.kids.length : Int)))] (av h7 (av h8 (apc q0 apn)))
         apply bi h <;> intro h9 h
         ·
          rw [← sj h]
          exact fq ([(53, .d true)] ++ kH k24) (k24.b (av h9 apn))
         ·
          apply bi h <;> intro bq h
          ·
           rw [← sj h]
           exact fq ([(53, .d false), (58, .d true)] ++ kH k24) (k24.b (av h9 (av bq apn)))
          ·
           have k25 := k24.a [(53, .d false), (58, .d false)] (av h9 (av bq apn))
           apply bi h <;> intro bt h
           ·
            rw [← sj h]
            exact fq ([(63, .d true)] ++ kH k25) (k25.b (av bt apn))
           ·
            have k26 := k25.a [(63, .d false), (67, .v (i6 (c.kids.length : Int)))] (av bt (apc q0 apn))
            apply bn h; intro bG bv h
            cases bG with
            | k0 =>
             obtain ⟨ck, y12, cx⟩ := SK rF25 hF25 c (c.kids.length : Int) 0 _ bv
             rw [← sj h]
             exact fq ([(2007, .l .ret ⟨fr 76 ck [(2, vb false)], y12⟩), (6000, .d true)] ++ kH k26) (k26.b (apc (SI c (c.kids.length : Int) 0) (apc (cx : Xo c (c.kids.length : Int) 0 = some (.ret, ⟨fr 76 ck [(2, vb false)], y12⟩)) apn)))
            | k1 =>
             obtain ⟨ck, cx⟩ := SK rF25 hF25 c (c.kids.length : Int) 0 _ bv
             rw [← sj h]
             exact fq ([(2007, .l (.brk 7) (Eg ck c)), (6000, .d true)] ++ kH k26) (k26.b (apc (SI c (c.kids.length : Int) 0) (apc (cx : Xo c (c.kids.length : Int) 0 = some ((.brk 7), Eg ck c)) apn)))
      ·
       rw [← sj h]
       exact fq ([(19, .d false), (21, .d false)] ++ kH k18) (k18.b (av h5 (av h6 apn)))
def F25 : Nat → Wi
  | 0 => fun _ => none
  | Nf + 1 => MK (F25 Nf)
theorem Eh (Nf : Nat) : Tm (F25 Nf) := by
  induction Nf with
  | zero => intro c r h; have h : (none : Option Bool) = some r := h; cases h
  | succ Nf ih => intro c r h; exact Ce (F25 Nf) ih c h
inductive R_F21 where
  | k0 (x0 x1 : Int)
def Bu (c : BoxD) (r : R_F21) : AV := match r with | .k0 x0 x1 => (.tup [i6 x0, i6 x1])
abbrev ML := BoxD → Option R_F21
abbrev G3 (f : ML) : Prop := ∀ (c : BoxD) {r : R_F21}, f c = some r → PR1 prg 32 [(.agg ((cBx c).map .p))] (Bu c r)
inductive E_L21_0 where
  | k0 (x0 x1 : Int)
def PJ (rF21 : ML) (c : BoxD) (j : Int) (w F x : Int) : Option (E_L21_0 ⊕ (Int × Int × Int)) :=
  (bif (decide (x < j)) then ((getI c.kids x).bind fun x2 => ((rF21 x2).bind fun r3 => match r3 with | .k0 aG aD => (some (.inr ((IntKind.wrap .i64 (w + aG)), (if F < aD then aD else F), (IntKind.wrap .i64 (x + 1))))))) else (some (.inl (.k0 w F))))
def Hn (c : BoxD) (j : Int) (w F x : Int) : St := ⟨fr 32 ug [(4, i6 w), (5, i6 F), (11, (.p (.lst 4 (Zb c.kids)))), (12, i6 j), (13, i6 x)], [.cells 28 ((cBx c).map .p)]⟩
theorem Hp (c : BoxD) (j : Int) (w F x : Int) : okT 1 (Hn c j w F x).h = true := (ZE rfl (ac rfl))
abbrev UE (c : BoxD) (j : Int) (w F x : Int) := evH prg 1 [4, 5, 11, 12, 13] Hc (Hn c j w F x)
def MM (c : BoxD) (j : Int) (e : E_L21_0) (r : Option (Out × St)) : Prop := match e with | .k0 x0 x1 => ∃ g, r = some ((.brk 0), ⟨fr 32 g [(4, i6 x0), (5, i6 x1), (11, (.p (.lst 4 (Zb c.kids))))], [.cells 28 ((cBx c).map .p)]⟩)
theorem G4 (rF21 : ML) (hF21 : G3 rF21) (c : BoxD) (j : Int) (w F x : Int) {r : E_L21_0 ⊕ (Int × Int × Int)} (h : PJ rF21 c j w F x = some r) : OkR (fun e => MM c j e (UE c j w F x)) (fun s => UE c j w F x = UE c j s.1 s.2.1 s.2.2) r := by
 unfold PJ at h
 apply bi h <;> intro h1 h
 ·
  apply bn h; intro x2 h2 h
  apply bn h; intro r3 h3 h
  cases r3 with
  | k0 aG aD =>
   rw [← sj h]
   exact rn [(14, .d true), (15, .v (.ro (cBx x2))), (19, .v (.tup [i6 aG, i6 aD])), (6000, .d true)] (av h1 (apc ((igr ZF h2) : idxA 4 (.p (.lst 4 (Zb c.kids))) (i6 x) = some (.ro (cBx x2))) (apc (((hF21 x2 h3).cp rfl _) : CP prg 32 [(.agg ((cBx x2).map .p))] [.cells 28 ((cBx c).map .p), .row 28 4 0 (ra cBx []), .cells 28 ((cBx x2).map .p)] = some (.tup [i6 aG, i6 aD])) (apc (Hp c j (w6 (w + aG)) (if F < aD then aD else F) (w6 (x + 1))) apn))))
 ·
  rw [← sj h]
  exact xb [(14, .d false), (6000, .d true)] (av h1 apn)
theorem Hq (rF21 : ML) (hF21 : G3 rF21) (c : BoxD) (j : Int) (s0 : Int × Int × Int) (e : E_L21_0) (h : runL (fun s => PJ rF21 c j s.1 s.2.1 s.2.2) s0 = some e) : MM c j e (UE c j s0.1 s0.2.1 s0.2.2) := by
  have q := @Zg (Int × Int × Int) E_L21_0 (fun s => PJ rF21 c j s.1 s.2.1 s.2.2) (fun s => UE c j s.1 s.2.1 s.2.2) (MM c j) (fun s r h => G4 rF21 hF21 c j s.1 s.2.1 s.2.2 h) s0 e h
  exact q
def Hr (rF21 : ML) (c : BoxD) : Option R_F21 :=
  ((runL (fun s => PJ rF21 c (c.kids.length : Int) s.1 s.2.1 s.2.2) (1, 0, 0)).bind fun r1 => match r1 with | .k0 ak aj => (some (.k0 ak (IntKind.wrap .i64 (aj + 1)))))
abbrev Ei (g1 : Nat → AV) (ak aj : Int) (c : BoxD) : St := ⟨fr 32 g1 [(4, i6 ak), (5, i6 aj), (11, (.p (.lst 4 (Zb c.kids))))], [.cells 28 ((cBx c).map .p)]⟩
theorem Cf (rF21 : ML) (hF21 : G3 rF21) (c : BoxD) {r : R_F21} (h : Hr rF21 c = some r) : PR1 prg 32 [(.agg ((cBx c).map .p))] (Bu c r) := by
 unfold Hr at h
 apply bn h; intro r1 h1 h
 cases r1 with
 | k0 ak aj =>
  obtain ⟨g1, e1⟩ := Hq rF21 hF21 c (c.kids.length : Int) (1, 0, 0) _ h1
  rw [← sj h]
  exact fq [(12, .v (i6 (c.kids.length : Int))), (2000, .l (.brk 0) (Ei g1 ak aj c)), (6000, .d true)] (apc ((lgr ZF) : lnA (.p (.lst 4 (Zb c.kids))) = some (i6 (c.kids.length : Int))) (apc (Hp c (c.kids.length : Int) 1 0 0) (apc (e1 : UE c (c.kids.length : Int) 1 0 0 = some ((.brk 0), Ei g1 ak aj c)) apn)))
def F21 : Nat → ML
  | 0 => fun _ => none
  | Nf + 1 => Hr (F21 Nf)
theorem Bv (Nf : Nat) : G3 (F21 Nf) := by
  induction Nf with
  | zero => intro c r h; have h : (none : Option R_F21) = some r := h; cases h
  | succ Nf ih => intro c r h; exact Cf (F21 Nf) ih c h
def Au (c : BoxD) (x0 : Int) : AV := (i6 x0)
def F16 (Nf : Nat) (c : BoxD) : Option Int :=
  ((F25 Nf c).bind fun x1 => (bif x1 then ((F21 Nf c).bind fun r3 => match r3 with | .k0 aG aD => (bif (decide (aG > 65536)) then (some 3) else (bif (decide (aD > 16384)) then (some 3) else (some 0)))) else (some 260)))
theorem Bw (Nf : Nat) (c : BoxD) {r : Int} (h : F16 Nf c = some r) : PR1 prg 24 [(.agg ((cBx c).map .p))] (Au c r) := by
 unfold F16 at h
 apply bn h; intro x1 h1 h
 apply bi h <;> intro h2 h
 ·
  have q0 := ((((Eh Nf c h1).cp rfl _).trans (congrArg (fun z => some (vb z)) h2)) : CP prg 39 [(.agg ((cBx c).map .p))] [.cells 28 ((cBx c).map .p)] = some (vb true))
  apply bn h; intro r3 h3 h
  cases r3 with
  | k0 aG aD =>
   have q1 := (((Bv Nf c h3).cp rfl _) : CP prg 32 [(.agg ((cBx c).map .p))] [.cells 28 ((cBx c).map .p)] = some (.tup [i6 aG, i6 aD]))
   have k2 := ka [(6, .v (vb true)), (10, .v (.tup [i6 aG, i6 aD]))] (apc q0 (apc q1 apn))
   apply bi h <;> intro h4 h
   ·
    rw [← sj h]
    exact fq ([(14, .d true)] ++ kH k2) (k2.b (av h4 apn))
   ·
    apply bi h <;> intro h5 h
    ·
     rw [← sj h]
     exact fq ([(14, .d false), (17, .d true)] ++ kH k2) (k2.b (av h4 (av h5 apn)))
    ·
     rw [← sj h]
     exact fq ([(14, .d false), (17, .d false)] ++ kH k2) (k2.b (av h4 (av h5 apn)))
 ·
  rw [← sj h]
  exact fq [(6, .v (vb false))] (apc ((((Eh Nf c h1).cp rfl _).trans (congrArg (fun z => some (vb z)) h2)) : CP prg 39 [(.agg ((cBx c).map .p))] [.cells 28 ((cBx c).map .p)] = some (vb false)) apn)
inductive R_F28_2 where
  | k0 (x0 : Bool) (x1 : Nat) (x2 : Oqq) (x3 : Nat)
def Hs (c j : BoxD) (i : Nat) (o : Oqq) (u : Nat) (A : Oqq) (k : Nat) (r : R_F28_2) : AV := match r with | .k0 x0 x1 x2 x3 => (vb x0)
def Ht (c j : BoxD) (i : Nat) (o : Oqq) (u : Nat) (A : Oqq) (k : Nat) (r : R_F28_2) : List AB := match r with | .k0 x0 x1 x2 x3 => [.cells 28 ((cBx j).map .p), yB i o, yB x1 x2, .cells 58 [.sl 2 x1 1 0 x3], .cells 35 [(.fn 43 [.ptr 3 0, .ptr 4 0])]]
abbrev XM := BoxD → BoxD → Nat → Oqq → Nat → Oqq → Nat → Option R_F28_2
abbrev UF (f : XM) : Prop := ∀ (c j : BoxD) (i : Nat) (o : Oqq) (u : Nat) (A : Oqq) (k : Nat) {r : R_F28_2}, f c j i o u A k = some r → ∀ hx : List AB, CS prg 43 [(.agg ((cBx c).map .p)), .ptr 3 0, .ptr 4 0] ([.cells 28 ((cBx j).map .p), yB i o, yB u A, .cells 58 [.sl 2 u 1 0 k], .cells 35 [(.fn 43 [.ptr 3 0, .ptr 4 0])]] ++ hx) = some (Hs c j i o u A k r, Ht c j i o u A k r ++ hx)
inductive E_L28_0_2 where
  | k0 (x0 : Nat) (x1 : Oqq) (x2 : Nat)
def Wl (rF28_2 : XM) (j : BoxD) (i : Int) (o : BoxD) (u : Nat) (A : Oqq) (w : Int) (F : Nat) (x : Oqq) (R : Nat) : Option (E_L28_0_2 ⊕ (Int × Nat × Oqq × Nat)) :=
  (bif (decide (w < i)) then ((getI j.kids w).bind fun x2 => ((rF28_2 x2 o u A F x R).bind fun r3 => match r3 with | .k0 aG aD aE a0 => (bif aG then (some (.inr ((IntKind.wrap .i64 (w + 1)), aD, aE, a0))) else (some (.inr ((IntKind.wrap .i64 (w + 1)), aD, aE, a0)))))) else (some (.inl (.k0 F x R))))
def O3 (c : Int) (j : BoxD) (i : Int) (o : BoxD) (u : Nat) (A : Oqq) (w : Int) (F : Nat) (x : Oqq) (R : Nat) : St := ⟨fr 39 ug [(1, .ptr 3 0), (2, .ptr 4 0), (5, i6 c), (6, vb true), (24, (.p (.lst 4 (Zb j.kids)))), (25, i6 i), (26, i6 w)], [.cells 28 ((cBx o).map .p), yB u A, yB F x, .cells 58 [.sl 2 F 1 0 R], .cells 35 [(.fn 43 [.ptr 3 0, .ptr 4 0])], .cells 28 ((cBx j).map .p), .row 4 1 0 [[vb true]]]⟩
theorem SL (c : Int) (j : BoxD) (i : Int) (o : BoxD) (u : Nat) (A : Oqq) (w : Int) (F : Nat) (x : Oqq) (R : Nat) : okT 7 (O3 c j i o u A w F x R).h = true := (ZE rfl (ac (ar (ar (ac (ac (ac (ac rfl))))))))
abbrev Xp (c : Int) (j : BoxD) (i : Int) (o : BoxD) (u : Nat) (A : Oqq) (w : Int) (F : Nat) (x : Oqq) (R : Nat) := evH prg 7 [1, 2, 5, 6, 24, 25, 26] MF (O3 c j i o u A w F x R)
def SM (c : Int) (j : BoxD) (i : Int) (o : BoxD) (u : Nat) (A : Oqq) (e : E_L28_0_2) (r : Option (Out × St)) : Prop := match e with | .k0 x0 x1 x2 => ∃ g, r = some ((.brk 0), ⟨fr 39 g [(1, .ptr 3 0), (5, i6 c), (6, vb true), (24, (.p (.lst 4 (Zb j.kids))))], [.cells 28 ((cBx o).map .p), yB u A, yB x0 x1, .cells 58 [.sl 2 x0 1 0 x2], .cells 35 [(.fn 43 [.ptr 3 0, .ptr 4 0])], .cells 28 ((cBx j).map .p), .row 4 1 0 [[vb true]]]⟩)
abbrev YW (o : BoxD) (u : Nat) (A : Oqq) (aD : Nat) (aE : Oqq) (a0 : Nat) (j x2 : BoxD) : List AB := [.cells 28 ((cBx o).map .p), yB u A, yB aD aE, .cells 58 [.sl 2 aD 1 0 a0], .cells 35 [(.fn 43 [.ptr 3 0, .ptr 4 0])], .cells 28 ((cBx j).map .p), .row 4 1 0 [[vb true]], .row 28 4 0 (ra cBx []), .cells 28 ((cBx x2).map .p)]
abbrev Qp (j x2 : BoxD) : List AB := [.cells 28 ((cBx j).map .p), .row 4 1 0 [[vb true]], .row 28 4 0 (ra cBx []), .cells 28 ((cBx x2).map .p)]
abbrev Qq (o : BoxD) (u : Nat) (A : Oqq) (F : Nat) (x : Oqq) (R : Nat) (j x2 : BoxD) : List AB := [.cells 28 ((cBx o).map .p), yB u A, yB F x, .cells 58 [.sl 2 F 1 0 R], .cells 35 [(.fn 43 [.ptr 3 0, .ptr 4 0])], .cells 28 ((cBx j).map .p), .row 4 1 0 [[vb true]], .row 28 4 0 (ra cBx []), .cells 28 ((cBx x2).map .p)]
theorem JF (rF28_2 : XM) (hF28_2 : UF rF28_2) (c : Int) (j : BoxD) (i : Int) (o : BoxD) (u : Nat) (A : Oqq) (w : Int) (F : Nat) (x : Oqq) (R : Nat) {r : E_L28_0_2 ⊕ (Int × Nat × Oqq × Nat)} (h : Wl rF28_2 j i o u A w F x R = some r) : OkR (fun e => SM c j i o u A e (Xp c j i o u A w F x R)) (fun s => Xp c j i o u A w F x R = Xp c j i o u A s.1 s.2.1 s.2.2.1 s.2.2.2) r := by
 unfold Wl at h
 apply bi h <;> intro h1 h
 ·
  apply bn h; intro x2 h2 h
  have q0 := ((igr ZF h2) : idxA 4 (.p (.lst 4 (Zb j.kids))) (i6 w) = some (.ro (cBx x2)))
  have k1 := ka [(27, .d true), (28, .v (.ro (cBx x2)))] (av h1 (apc q0 apn))
  apply bn h; intro r3 h3 h
  cases r3 with
  | k0 aG aD aE a0 =>
   have q2 := (SL c j i o u A (w6 (w + 1)) aD aE a0)
   apply bi h <;> intro h4 h
   ·
    rw [← sj h]
    exact rn ([(32, .r (vb true) (YW o u A aD aE a0 j x2)), (6000, .d true)] ++ kH k1) (k1.b (apc (((hF28_2 x2 o u A F x R h3 (Qp j x2)).trans (congrArg (fun z => some (vb z, ((YW o u A aD aE a0 j x2) : List AB))) h4)) : CS prg 43 [(.agg ((cBx x2).map .p)), .ptr 3 0, .ptr 4 0] (Qq o u A F x R j x2) = some (vb true, YW o u A aD aE a0 j x2)) (apc q2 apn)))
   ·
    rw [← sj h]
    exact rn ([(32, .r (vb false) (YW o u A aD aE a0 j x2)), (6000, .d true)] ++ kH k1) (k1.b (apc (((hF28_2 x2 o u A F x R h3 (Qp j x2)).trans (congrArg (fun z => some (vb z, ((YW o u A aD aE a0 j x2) : List AB))) h4)) : CS prg 43 [(.agg ((cBx x2).map .p)), .ptr 3 0, .ptr 4 0] (Qq o u A F x R j x2) = some (vb false, YW o u A aD aE a0 j x2)) (apc q2 apn)))
 ·
  rw [← sj h]
  exact xb [(27, .d false), (6000, .d true)] (av h1 apn)
theorem SN (rF28_2 : XM) (hF28_2 : UF rF28_2) (c : Int) (j : BoxD) (i : Int) (o : BoxD) (u : Nat) (A : Oqq) (s0 : Int × Nat × Oqq × Nat) (e : E_L28_0_2) (h : runL (fun s => Wl rF28_2 j i o u A s.1 s.2.1 s.2.2.1 s.2.2.2) s0 = some e) : SM c j i o u A e (Xp c j i o u A s0.1 s0.2.1 s0.2.2.1 s0.2.2.2) := by
  have q := @Zg (Int × Nat × Oqq × Nat) E_L28_0_2 (fun s => Wl rF28_2 j i o u A s.1 s.2.1 s.2.2.1 s.2.2.2) (fun s => Xp c j i o u A s.1 s.2.1 s.2.2.1 s.2.2.2) (SM c j i o u A) (fun s r h => JF rF28_2 hF28_2 c j i o u A s.1 s.2.1 s.2.2.1 s.2.2.2 h) s0 e h
  exact q
def Av (c : BoxD) (j : Int) (x0 : Int) : AV := (i6 x0)
def F56 (c : BoxD) (j : Int) : Option Int :=
  (some (firstIdx c.text (Int.toNat j).toUInt8))
theorem Bx (c : BoxD) (j : Int) {r : Int} (h : F56 c j = some r) : PR1 prg 78 [vs c.text, vi .u8 j] (Av c j r) := by
 unfold F56 at h
 rw [← sj h]
 exact fq [] apn
def Aw (c : BoxD) (x0 : Int) : AV := (i6 x0)
def F48 (c : BoxD) : Option Int :=
  (bif ((⟨([10] : List UInt8).toArray⟩ : ByteArray).toList == c.text.toList) then (some 0) else ((getI (⟨([10] : List UInt8).toArray⟩ : ByteArray).data.toList 0).bind fun x2 => ((F56 c (x2.toNat : Int)).bind fun x3 => (some x3))))
theorem By (c : BoxD) {r : Int} (h : F48 c = some r) : PR1 prg 70 [vs c.text, (vs (⟨([10] : List UInt8).toArray⟩ : ByteArray))] (Aw c r) := by
 unfold F48 at h
 apply bi h <;> intro h1 h
 ·
  rw [← sj h]
  exact fq [(22, .d true)] (av h1 apn)
 ·
  apply bn h; intro x2 h2 h
  apply bn h; intro x3 h3 h
  rw [← sj h]
  exact fq [(22, .d false), (29, .v (vi .u8 (x2.toNat : Int))), (30, .v (i6 x3))] (av h1 (apc ((OG h2) : ixS (vs (⟨([10] : List UInt8).toArray⟩ : ByteArray)) (i6 0) = some (vi .u8 (x2.toNat : Int))) (apc (((Bx c (x2.toNat : Int) h3).cp rfl _) : CP prg 78 [vs c.text, (vi .u8 (x2.toNat : Int))] [] = some (i6 x3)) apn)))
def Ax (c : BoxD) (x0 : Int) : AV := (i6 x0)
def F39 (c : BoxD) : Option Int :=
  ((F48 c).bind fun x1 => (some x1))
theorem Bz (c : BoxD) {r : Int} (h : F39 c = some r) : PR1 prg 59 [vs c.text, (vs (⟨([10] : List UInt8).toArray⟩ : ByteArray))] (Ax c r) := by
 unfold F39 at h
 apply bn h; intro x1 h1 h
 rw [← sj h]
 exact fq [(7, .v (i6 x1))] (apc (((By c h1).cp rfl _) : CP prg 70 [vs c.text, (vs (⟨([10] : List UInt8).toArray⟩ : ByteArray))] [] = some (i6 x1)) apn)
def Ay (c : BoxD) (x0 : Bool) : AV := (vb x0)
def F29 (c : BoxD) : Option Bool :=
  ((F39 c).bind fun x1 => (some (decide (x1 ≥ 0))))
theorem BA (c : BoxD) {r : Bool} (h : F29 c = some r) : PR1 prg 44 [vs c.text, (vs (⟨([10] : List UInt8).toArray⟩ : ByteArray))] (Ay c r) := by
 unfold F29 at h
 apply bn h; intro x1 h1 h
 rw [← sj h]
 exact fq [(7, .v (i6 x1))] (apc (((Bz c h1).cp rfl _) : CP prg 59 [vs c.text, (vs (⟨([10] : List UInt8).toArray⟩ : ByteArray))] [] = some (i6 x1)) apn)
inductive E_L28_0_3 where
  | k0 (x0 : Bool) (x1 : Nat) (x2 : Oqq) (x3 : Nat)
def Wm (rF28_2 : XM) (i : BoxD) (o : Int) (u : BoxD) (A : Nat) (k : Oqq) (w : Bool) (F : Int) (x : Nat) (R : Oqq) (Q : Nat) : Option (E_L28_0_3 ⊕ (Bool × Int × Nat × Oqq × Nat)) :=
  (bif (decide (F < o)) then ((getI i.kids F).bind fun x2 => ((rF28_2 x2 u A k x R Q).bind fun r3 => match r3 with | .k0 aG aD aE a0 => (bif aG then (some (.inr (true, (IntKind.wrap .i64 (F + 1)), aD, aE, a0))) else (some (.inr (w, (IntKind.wrap .i64 (F + 1)), aD, aE, a0)))))) else (some (.inl (.k0 w x R Q))))
def O4 (c : Int) (j : Bool) (i : BoxD) (o : Int) (u : BoxD) (A : Nat) (k : Oqq) (w : Bool) (F : Int) (x : Nat) (R : Oqq) (Q : Nat) : St := ⟨fr 39 ug [(1, .ptr 3 0), (2, .ptr 4 0), (5, i6 c), (6, vb w), (24, (.p (.lst 4 (Zb i.kids)))), (25, i6 o), (26, i6 F)], [.cells 28 ((cBx u).map .p), yB A k, yB x R, .cells 58 [.sl 2 x 1 0 Q], .cells 35 [(.fn 43 [.ptr 3 0, .ptr 4 0])], .cells 28 ((cBx i).map .p), .row 4 1 0 [[vb j]]]⟩
theorem Um (c : Int) (j : Bool) (i : BoxD) (o : Int) (u : BoxD) (A : Nat) (k : Oqq) (w : Bool) (F : Int) (x : Nat) (R : Oqq) (Q : Nat) : okT 7 (O4 c j i o u A k w F x R Q).h = true := (ZE rfl (ac (ar (ar (ac (ac (ac (ac rfl))))))))
abbrev Xq (c : Int) (j : Bool) (i : BoxD) (o : Int) (u : BoxD) (A : Nat) (k : Oqq) (w : Bool) (F : Int) (x : Nat) (R : Oqq) (Q : Nat) := evH prg 7 [1, 2, 5, 6, 24, 25, 26] MF (O4 c j i o u A k w F x R Q)
def SO (c : Int) (j : Bool) (i : BoxD) (o : Int) (u : BoxD) (A : Nat) (k : Oqq) (e : E_L28_0_3) (r : Option (Out × St)) : Prop := match e with | .k0 x0 x1 x2 x3 => ∃ g, r = some ((.brk 0), ⟨fr 39 g [(1, .ptr 3 0), (5, i6 c), (6, vb x0), (24, (.p (.lst 4 (Zb i.kids))))], [.cells 28 ((cBx u).map .p), yB A k, yB x1 x2, .cells 58 [.sl 2 x1 1 0 x3], .cells 35 [(.fn 43 [.ptr 3 0, .ptr 4 0])], .cells 28 ((cBx i).map .p), .row 4 1 0 [[vb j]]]⟩)
abbrev YX (u : BoxD) (A : Nat) (k : Oqq) (aD : Nat) (aE : Oqq) (a0 : Nat) (i : BoxD) (j : Bool) (x2 : BoxD) : List AB := [.cells 28 ((cBx u).map .p), yB A k, yB aD aE, .cells 58 [.sl 2 aD 1 0 a0], .cells 35 [(.fn 43 [.ptr 3 0, .ptr 4 0])], .cells 28 ((cBx i).map .p), .row 4 1 0 [[vb j]], .row 28 4 0 (ra cBx []), .cells 28 ((cBx x2).map .p)]
abbrev Qr (i : BoxD) (j : Bool) (x2 : BoxD) : List AB := [.cells 28 ((cBx i).map .p), .row 4 1 0 [[vb j]], .row 28 4 0 (ra cBx []), .cells 28 ((cBx x2).map .p)]
abbrev Qs (u : BoxD) (A : Nat) (k : Oqq) (x : Nat) (R : Oqq) (Q : Nat) (i : BoxD) (j : Bool) (x2 : BoxD) : List AB := [.cells 28 ((cBx u).map .p), yB A k, yB x R, .cells 58 [.sl 2 x 1 0 Q], .cells 35 [(.fn 43 [.ptr 3 0, .ptr 4 0])], .cells 28 ((cBx i).map .p), .row 4 1 0 [[vb j]], .row 28 4 0 (ra cBx []), .cells 28 ((cBx x2).map .p)]
theorem JG (rF28_2 : XM) (hF28_2 : UF rF28_2) (c : Int) (j : Bool) (i : BoxD) (o : Int) (u : BoxD) (A : Nat) (k : Oqq) (w : Bool) (F : Int) (x : Nat) (R : Oqq) (Q : Nat) {r : E_L28_0_3 ⊕ (Bool × Int × Nat × Oqq × Nat)} (h : Wm rF28_2 i o u A k w F x R Q = some r) : OkR (fun e => SO c j i o u A k e (Xq c j i o u A k w F x R Q)) (fun s => Xq c j i o u A k w F x R Q = Xq c j i o u A k s.1 s.2.1 s.2.2.1 s.2.2.2.1 s.2.2.2.2) r := by
 unfold Wm at h
 apply bi h <;> intro h1 h
 ·
  apply bn h; intro x2 h2 h
  have q0 := ((igr ZF h2) : idxA 4 (.p (.lst 4 (Zb i.kids))) (i6 F) = some (.ro (cBx x2)))
  have k1 := ka [(27, .d true), (28, .v (.ro (cBx x2)))] (av h1 (apc q0 apn))
  apply bn h; intro r3 h3 h
  cases r3 with
  | k0 aG aD aE a0 =>
   apply bi h <;> intro h4 h
   ·
    rw [← sj h]
    exact rn ([(32, .r (vb true) (YX u A k aD aE a0 i j x2)), (6000, .d true)] ++ kH k1) (k1.b (apc (((hF28_2 x2 u A k x R Q h3 (Qr i j x2)).trans (congrArg (fun z => some (vb z, ((YX u A k aD aE a0 i j x2) : List AB))) h4)) : CS prg 43 [(.agg ((cBx x2).map .p)), .ptr 3 0, .ptr 4 0] (Qs u A k x R Q i j x2) = some (vb true, YX u A k aD aE a0 i j x2)) (apc (Um c j i o u A k true (w6 (F + 1)) aD aE a0) apn)))
   ·
    rw [← sj h]
    exact rn ([(32, .r (vb false) (YX u A k aD aE a0 i j x2)), (6000, .d true)] ++ kH k1) (k1.b (apc (((hF28_2 x2 u A k x R Q h3 (Qr i j x2)).trans (congrArg (fun z => some (vb z, ((YX u A k aD aE a0 i j x2) : List AB))) h4)) : CS prg 43 [(.agg ((cBx x2).map .p)), .ptr 3 0, .ptr 4 0] (Qs u A k x R Q i j x2) = some (vb false, YX u A k aD aE a0 i j x2)) (apc (Um c j i o u A k w (w6 (F + 1)) aD aE a0) apn)))
 ·
  rw [← sj h]
  exact xb [(27, .d false), (6000, .d true)] (av h1 apn)
theorem SP (rF28_2 : XM) (hF28_2 : UF rF28_2) (c : Int) (j : Bool) (i : BoxD) (o : Int) (u : BoxD) (A : Nat) (k : Oqq) (s0 : Bool × Int × Nat × Oqq × Nat) (e : E_L28_0_3) (h : runL (fun s => Wm rF28_2 i o u A k s.1 s.2.1 s.2.2.1 s.2.2.2.1 s.2.2.2.2) s0 = some e) : SO c j i o u A k e (Xq c j i o u A k s0.1 s0.2.1 s0.2.2.1 s0.2.2.2.1 s0.2.2.2.2) := by
  have q := @Zg (Bool × Int × Nat × Oqq × Nat) E_L28_0_3 (fun s => Wm rF28_2 i o u A k s.1 s.2.1 s.2.2.1 s.2.2.2.1 s.2.2.2.2) (fun s => Xq c j i o u A k s.1 s.2.1 s.2.2.1 s.2.2.2.1 s.2.2.2.2) (SO c j i o u A k) (fun s r h => JG rF28_2 hF28_2 c j i o u A k s.1 s.2.1 s.2.2.1 s.2.2.2.1 s.2.2.2.2 h) s0 e h
  exact q
def WF (rF28_2 : XM) (c j : BoxD) (i : Nat) (o : Oqq) (u : Nat) (A : Oqq) (k : Nat) : Option R_F28_2 :=
  (bif (c.kind == 2) then (bif (apOk k 1 A.length 1) then (bif (decide (k + 1 ≤ A.length)) then ((runL (fun s => Wl rF28_2 c (c.kids.length : Int) j i o s.1 s.2.1 s.2.2.1 s.2.2.2) (0, u, (splice A k [true]), k + 1)).bind fun r4 => match r4 with | .k0 aO bg aY => ((ixN aY ((k : Nat) : Int)).bind fun x5 => ((bg[x5]?).bind fun x6 => (some (.k0 true aO (bg.set x5 true) aY))))) else ((runL (fun s => Wl rF28_2 c (c.kids.length : Int) j i o s.1 s.2.1 s.2.2.1 s.2.2.2) (0, u + 1, (A.take k ++ [true]), k + 1)).bind fun r4 => match r4 with | .k0 aO bg aY => ((ixN aY ((k : Nat) : Int)).bind fun x5 => ((bg[x5]?).bind fun x6 => (some (.k0 true aO (bg.set x5 true) aY)))))) else none) else ((F29 c).bind fun x2 => (bif (apOk k 1 A.length 1) then (bif (decide (k + 1 ≤ A.length)) then ((runL (fun s => Wm rF28_2 c (c.kids.length : Int) j i o s.1 s.2.1 s.2.2.1 s.2.2.2.1 s.2.2.2.2) (x2, 0, u, (splice A k [x2]), k + 1)).bind fun r5 => match r5 with | .k0 bu bb bo bm => ((ixN bm ((k : Nat) : Int)).bind fun x6 => ((bo[x6]?).bind fun x7 => (some (.k0 bu bb (bo.set x6 bu) bm))))) else ((runL (fun s => Wm rF28_2 c (c.kids.length : Int) j i o s.1 s.2.1 s.2.2.1 s.2.2.2.1 s.2.2.2.2) (x2, 0, u + 1, (A.take k ++ [x2]), k + 1)).bind fun r5 => match r5 with | .k0 bu bb bo bm => ((ixN bm ((k : Nat) : Int)).bind fun x6 => ((bo[x6]?).bind fun x7 => (some (.k0 bu bb (bo.set x6 bu) bm)))))) else none)))
abbrev WU (j : BoxD) (i : Nat) (o : Oqq) (aO : Nat) (bg : Oqq) (x5 aY : Nat) (c : BoxD) : List AB := [.cells 28 ((cBx j).map .p), yB i o, yB aO (bg.set x5 true), .cells 58 [.sl 2 aO 1 0 aY], .cells 35 [(.fn 43 [.ptr 3 0, .ptr 4 0])], .cells 28 ((cBx c).map .p), .row 4 1 0 [[vb true]]]
abbrev L8 (j : BoxD) (i : Nat) (o : Oqq) (u : Nat) (A : Oqq) (k : Nat) (c : BoxD) : List AB := [.cells 28 ((cBx j).map .p), yB i o, yB u (splice A k [true]), .cells 58 [.sl 2 u 1 0 k], .cells 35 [(.fn 43 [.ptr 3 0, .ptr 4 0])], .cells 28 ((cBx c).map .p), .row 4 1 0 [[vb true]]]
abbrev TC (g4 : Nat → AV) (k : Nat) (c j : BoxD) (i : Nat) (o : Oqq) (aO : Nat) (bg : Oqq) (aY : Nat) : St := ⟨fr 39 g4 [(1, .ptr 3 0), (5, (i6 ((k : Nat) : Int))), (6, vb true), (24, (.p (.lst 4 (Zb c.kids))))], [.cells 28 ((cBx j).map .p), yB i o, yB aO bg, .cells 58 [.sl 2 aO 1 0 aY], .cells 35 [(.fn 43 [.ptr 3 0, .ptr 4 0])], .cells 28 ((cBx c).map .p), .row 4 1 0 [[vb true]]]⟩
abbrev L9 (j : BoxD) (i : Nat) (o : Oqq) (u : Nat) (A : Oqq) (k : Nat) (c : BoxD) : List AB := [.cells 28 ((cBx j).map .p), yB i o, yB u A, .cells 58 [.sl 2 u 1 0 k], .cells 35 [(.fn 43 [.ptr 3 0, .ptr 4 0])], .cells 28 ((cBx c).map .p), .row 4 1 0 [[vb true]]]
abbrev Ka (j : BoxD) (i : Nat) (o : Oqq) (aO : Nat) (bg : Oqq) (aY : Nat) (c : BoxD) : List AB := [.cells 28 ((cBx j).map .p), yB i o, yB aO bg, .cells 58 [.sl 2 aO 1 0 aY], .cells 35 [(.fn 43 [.ptr 3 0, .ptr 4 0])], .cells 28 ((cBx c).map .p), .row 4 1 0 [[vb true]]]
abbrev Kb (j : BoxD) (i : Nat) (o : Oqq) (u : Nat) (A : Oqq) (k : Nat) (c : BoxD) : List AB := [.cells 28 ((cBx j).map .p), yB i o, yB (u + 1) (A.take k ++ [true]), .cells 58 [.sl 2 u 1 0 k], .cells 35 [(.fn 43 [.ptr 3 0, .ptr 4 0])], .cells 28 ((cBx c).map .p), .row 4 1 0 [[vb true]]]
abbrev Kc (j : BoxD) (i : Nat) (o : Oqq) (u : Nat) (A : Oqq) (k : Nat) (x2 : Bool) (c : BoxD) : List AB := [.cells 28 ((cBx j).map .p), yB i o, yB u (splice A k [x2]), .cells 58 [.sl 2 u 1 0 k], .cells 35 [(.fn 43 [.ptr 3 0, .ptr 4 0])], .cells 28 ((cBx c).map .p), .row 4 1 0 [[vb x2]]]
abbrev TD (g5 : Nat → AV) (k : Nat) (bu : Bool) (c j : BoxD) (i : Nat) (o : Oqq) (bb : Nat) (bo : Oqq) (bm : Nat) (x2 : Bool) : St := ⟨fr 39 g5 [(1, .ptr 3 0), (5, (i6 ((k : Nat) : Int))), (6, vb bu), (24, (.p (.lst 4 (Zb c.kids))))], [.cells 28 ((cBx j).map .p), yB i o, yB bb bo, .cells 58 [.sl 2 bb 1 0 bm], .cells 35 [(.fn 43 [.ptr 3 0, .ptr 4 0])], .cells 28 ((cBx c).map .p), .row 4 1 0 [[vb x2]]]⟩
abbrev Kd (j : BoxD) (i : Nat) (o : Oqq) (u : Nat) (A : Oqq) (k : Nat) (c : BoxD) (x2 : Bool) : List AB := [.cells 28 ((cBx j).map .p), yB i o, yB u A, .cells 58 [.sl 2 u 1 0 k], .cells 35 [(.fn 43 [.ptr 3 0, .ptr 4 0])], .cells 28 ((cBx c).map .p), .row 4 1 0 [[vb x2]]]
abbrev O5 (j : BoxD) (i : Nat) (o : Oqq) (bb : Nat) (bo : Oqq) (bm : Nat) (c : BoxD) (x2 : Bool) : List AB := [.cells 28 ((cBx j).map .p), yB i o, yB bb bo, .cells 58 [.sl 2 bb 1 0 bm], .cells 35 [(.fn 43 [.ptr 3 0, .ptr 4 0])], .cells 28 ((cBx c).map .p), .row 4 1 0 [[vb x2]]]
abbrev O6 (j : BoxD) (i : Nat) (o : Oqq) (u : Nat) (A : Oqq) (k : Nat) (x2 : Bool) (c : BoxD) : List AB := [.cells 28 ((cBx j).map .p), yB i o, yB (u + 1) (A.take k ++ [x2]), .cells 58 [.sl 2 u 1 0 k], .cells 35 [(.fn 43 [.ptr 3 0, .ptr 4 0])], .cells 28 ((cBx c).map .p), .row 4 1 0 [[vb x2]]]
theorem Hu (rF28_2 : XM) (hF28_2 : UF rF28_2) (c j : BoxD) (i : Nat) (o : Oqq) (u : Nat) (A : Oqq) (k : Nat) {r : R_F28_2} (h : WF rF28_2 c j i o u A k = some r) : ∀ hx : List AB, CS prg 43 [(.agg ((cBx c).map .p)), .ptr 3 0, .ptr 4 0] ([.cells 28 ((cBx j).map .p), yB i o, yB u A, .cells 58 [.sl 2 u 1 0 k], .cells 35 [(.fn 43 [.ptr 3 0, .ptr 4 0])]] ++ hx) = some (Hs c j i o u A k r, Ht c j i o u A k r ++ hx) := by
 unfold WF at h
 have q0 := ((lgr ZF) : lnA (.p (.lst 4 (Zb c.kids))) = some (i6 (c.kids.length : Int)))
 apply bi h <;> intro h1 h
 ·
  apply bi h <;> intro h2 h
  ·
   apply bi h <;> intro h3 h
   ·
    apply bn h; intro r4 h4 h
    cases r4 with
    | k0 aO bg aY =>
     obtain ⟨g4, e4⟩ := SN rF28_2 hF28_2 ((k : Nat) : Int) c (c.kids.length : Int) j i o (0, u, (splice A k [true]), k + 1) _ h4
     apply bn h; intro x5 h5 h
     apply bn h; intro x6 h6 h
     rw [← sj h]
     exact fcF (m := 5) (v := (vb true)) (h' := (WU j i o aO bg x5 aY c)) [(13, .d true), (22, .r (.sl 2 u 1 0 (k + 1)) (L8 j i o u A k c)), (25, .v (i6 (c.kids.length : Int))), (2000, .l (.brk 0) (TC g4 k c j i o aO bg aY)), (37, .v (.rp 2 aO 1 x5 0)), (1037, .r ud (WU j i o aO bg x5 aY c)), (6000, .d true)] (av h1 (apc ((X0 (e := Zc) (xs := A) (news := [true]) rfl (ZA (e := Zc) (xs := [true]) rfl) rfl h2 h3) : appA (L9 j i o u A k c) 4 1 1 (.sl 2 u 1 0 k) (.sl 6 0 1 0 1) = some ((.sl 2 u 1 0 (k + 1)), L8 j i o u A k c)) (apc q0 (apc (SL ((k : Nat) : Int) c (c.kids.length : Int) j i o 0 u (splice A k [true]) (k + 1)) (apc (e4 : Xp ((k : Nat) : Int) c (c.kids.length : Int) j i o 0 u (splice A k [true]) (k + 1) = some ((.brk 0), TC g4 k c j i o aO bg aY)) (apc ((ZP h5) : idxA 1 (.sl 2 aO 1 0 aY) (i6 ((k : Nat) : Int)) = some (.rp 2 aO 1 x5 0)) (apc (⟨ZZ (v' := true) rfl h6 rfl rfl (Nat.le_of_ble_eq_true rfl) rfl, rfl⟩ : stA (Ka j i o aO bg aY c) 1 (.rp 2 aO 1 x5 0) (vb true) = some (WU j i o aO bg x5 aY c) ∧ ud = ud) apn))))))) rfl (ac (ar (ar (ac (ac rfl))))) rfl (ac (ar (ar (ac (ac rfl))))) rfl (by kernel_rfl)
   ·
    apply bn h; intro r4 h4 h
    cases r4 with
    | k0 aO bg aY =>
     obtain ⟨g4, e4⟩ := SN rF28_2 hF28_2 ((k : Nat) : Int) c (c.kids.length : Int) j i o (0, u + 1, (A.take k ++ [true]), k + 1) _ h4
     apply bn h; intro x5 h5 h
     apply bn h; intro x6 h6 h
     rw [← sj h]
     exact fcF (m := 5) (v := (vb true)) (h' := (WU j i o aO bg x5 aY c)) [(13, .d true), (22, .r (.sl 2 (u + 1) 1 0 (k + 1)) (Kb j i o u A k c)), (25, .v (i6 (c.kids.length : Int))), (2000, .l (.brk 0) (TC g4 k c j i o aO bg aY)), (37, .v (.rp 2 aO 1 x5 0)), (1037, .r ud (WU j i o aO bg x5 aY c)), (6000, .d true)] (av h1 (apc ((Yk (e := Zc) (xs := A) (news := [true]) rfl (ZA (e := Zc) (xs := [true]) rfl) rfl h2 h3) : appA (L9 j i o u A k c) 4 1 1 (.sl 2 u 1 0 k) (.sl 6 0 1 0 1) = some ((.sl 2 (u + 1) 1 0 (k + 1)), Kb j i o u A k c)) (apc q0 (apc (SL ((k : Nat) : Int) c (c.kids.length : Int) j i o 0 (u + 1) (A.take k ++ [true]) (k + 1)) (apc (e4 : Xp ((k : Nat) : Int) c (c.kids.length : Int) j i o 0 (u + 1) (A.take k ++ [true]) (k + 1) = some ((.brk 0), TC g4 k c j i o aO bg aY)) (apc ((ZP h5) : idxA 1 (.sl 2 aO 1 0 aY) (i6 ((k : Nat) : Int)) = some (.rp 2 aO 1 x5 0)) (apc (⟨ZZ (v' := true) rfl h6 rfl rfl (Nat.le_of_ble_eq_true rfl) rfl, rfl⟩ : stA (Ka j i o aO bg aY c) 1 (.rp 2 aO 1 x5 0) (vb true) = some (WU j i o aO bg x5 aY c) ∧ ud = ud) apn))))))) rfl (ac (ar (ar (ac (ac rfl))))) rfl (ac (ar (ar (ac (ac rfl))))) rfl (by kernel_rfl)
  ·
   cases h
 ·
  apply bn h; intro x2 h2 h
  have q1 := (((BA c h2).cp rfl _) : CP prg 44 [vs c.text, (vs (⟨([10] : List UInt8).toArray⟩ : ByteArray))] [.cells 28 ((cBx j).map .p), yB i o, yB u A, .cells 58 [.sl 2 u 1 0 k], .cells 35 [(.fn 43 [.ptr 3 0, .ptr 4 0])], .cells 28 ((cBx c).map .p)] = some (vb x2))
  have k2 := ka [(13, .d false), (17, .v (vb x2))] (av h1 (apc q1 apn))
  apply bi h <;> intro h3 h
  ·
   apply bi h <;> intro h4 h
   ·
    apply bn h; intro r5 h5 h
    cases r5 with
    | k0 bu bb bo bm =>
     obtain ⟨g5, e5⟩ := SP rF28_2 hF28_2 ((k : Nat) : Int) x2 c (c.kids.length : Int) j i o (x2, 0, u, (splice A k [x2]), k + 1) _ h5
     apply bn h; intro x6 h6 h
     apply bn h; intro x7 h7 h
     rw [← sj h]
     exact fcF (m := 5) (v := (vb bu)) (h' := [.cells 28 ((cBx j).map .p), yB i o, yB bb (bo.set x6 bu), .cells 58 [.sl 2 bb 1 0 bm], .cells 35 [(.fn 43 [.ptr 3 0, .ptr 4 0])], .cells 28 ((cBx c).map .p), .row 4 1 0 [[vb x2]]]) ([(22, .r (.sl 2 u 1 0 (k + 1)) (Kc j i o u A k x2 c)), (25, .v (i6 (c.kids.length : Int))), (2000, .l (.brk 0) (TD g5 k bu c j i o bb bo bm x2)), (37, .v (.rp 2 bb 1 x6 0)), (1037, .r ud [.cells 28 ((cBx j).map .p), yB i o, yB bb (bo.set x6 bu), .cells 58 [.sl 2 bb 1 0 bm], .cells 35 [(.fn 43 [.ptr 3 0, .ptr 4 0])], .cells 28 ((cBx c).map .p), .row 4 1 0 [[vb x2]]]), (6000, .d true)] ++ kH k2) (k2.b (apc ((X0 (e := Zc) (xs := A) (news := [x2]) rfl (ZA (e := Zc) (xs := [x2]) rfl) rfl h3 h4) : appA (Kd j i o u A k c x2) 4 1 1 (.sl 2 u 1 0 k) (.sl 6 0 1 0 1) = some ((.sl 2 u 1 0 (k + 1)), Kc j i o u A k x2 c)) (apc q0 (apc (Um ((k : Nat) : Int) x2 c (c.kids.length : Int) j i o x2 0 u (splice A k [x2]) (k + 1)) (apc (e5 : Xq ((k : Nat) : Int) x2 c (c.kids.length : Int) j i o x2 0 u (splice A k [x2]) (k + 1) = some ((.brk 0), TD g5 k bu c j i o bb bo bm x2)) (apc ((ZP h6) : idxA 1 (.sl 2 bb 1 0 bm) (i6 ((k : Nat) : Int)) = some (.rp 2 bb 1 x6 0)) (apc (⟨ZZ (v' := bu) rfl h7 rfl rfl (Nat.le_of_ble_eq_true rfl) rfl, rfl⟩ : stA (O5 j i o bb bo bm c x2) 1 (.rp 2 bb 1 x6 0) (vb bu) = some [.cells 28 ((cBx j).map .p), yB i o, yB bb (bo.set x6 bu), .cells 58 [.sl 2 bb 1 0 bm], .cells 35 [(.fn 43 [.ptr 3 0, .ptr 4 0])], .cells 28 ((cBx c).map .p), .row 4 1 0 [[vb x2]]] ∧ ud = ud) apn))))))) rfl (ac (ar (ar (ac (ac rfl))))) rfl (ac (ar (ar (ac (ac rfl))))) rfl (by kernel_rfl)
   ·
    apply bn h; intro r5 h5 h
    cases r5 with
    | k0 bu bb bo bm =>
     obtain ⟨g5, e5⟩ := SP rF28_2 hF28_2 ((k : Nat) : Int) x2 c (c.kids.length : Int) j i o (x2, 0, u + 1, (A.take k ++ [x2]), k + 1) _ h5
     apply bn h; intro x6 h6 h
     apply bn h; intro x7 h7 h
     rw [← sj h]
     exact fcF (m := 5) (v := (vb bu)) (h' := [.cells 28 ((cBx j).map .p), yB i o, yB bb (bo.set x6 bu), .cells 58 [.sl 2 bb 1 0 bm], .cells 35 [(.fn 43 [.ptr 3 0, .ptr 4 0])], .cells 28 ((cBx c).map .p), .row 4 1 0 [[vb x2]]]) ([(22, .r (.sl 2 (u + 1) 1 0 (k + 1)) (O6 j i o u A k x2 c)), (25, .v (i6 (c.kids.length : Int))), (2000, .l (.brk 0) (TD g5 k bu c j i o bb bo bm x2)), (37, .v (.rp 2 bb 1 x6 0)), (1037, .r ud [.cells 28 ((cBx j).map .p), yB i o, yB bb (bo.set x6 bu), .cells 58 [.sl 2 bb 1 0 bm], .cells 35 [(.fn 43 [.ptr 3 0, .ptr 4 0])], .cells 28 ((cBx c).map .p), .row 4 1 0 [[vb x2]]]), (6000, .d true)] ++ kH k2) (k2.b (apc ((Yk (e := Zc) (xs := A) (news := [x2]) rfl (ZA (e := Zc) (xs := [x2]) rfl) rfl h3 h4) : appA (Kd j i o u A k c x2) 4 1 1 (.sl 2 u 1 0 k) (.sl 6 0 1 0 1) = some ((.sl 2 (u + 1) 1 0 (k + 1)), O6 j i o u A k x2 c)) (apc q0 (apc (Um ((k : Nat) : Int) x2 c (c.kids.length : Int) j i o x2 0 (u + 1) (A.take k ++ [x2]) (k + 1)) (apc (e5 : Xq ((k : Nat) : Int) x2 c (c.kids.length : Int) j i o x2 0 (u + 1) (A.take k ++ [x2]) (k + 1) = some ((.brk 0), TD g5 k bu c j i o bb bo bm x2)) (apc ((ZP h6) : idxA 1 (.sl 2 bb 1 0 bm) (i6 ((k : Nat) : Int)) = some (.rp 2 bb 1 x6 0)) (apc (⟨ZZ (v' := bu) rfl h7 rfl rfl (Nat.le_of_ble_eq_true rfl) rfl, rfl⟩ : stA (O5 j i o bb bo bm c x2) 1 (.rp 2 bb 1 x6 0) (vb bu) = some [.cells 28 ((cBx j).map .p), yB i o, yB bb (bo.set x6 bu), .cells 58 [.sl 2 bb 1 0 bm], .cells 35 [(.fn 43 [.ptr 3 0, .ptr 4 0])], .cells 28 ((cBx c).map .p), .row 4 1 0 [[vb x2]]] ∧ ud = ud) apn))))))) rfl (ac (ar (ar (ac (ac rfl))))) rfl (ac (ar (ar (ac (ac rfl))))) rfl (by kernel_rfl)
  ·
   cases h
def SQ : Nat → XM
  | 0 => fun _ _ _ _ _ _ _ => none
  | Nf + 1 => WF (SQ Nf)
theorem G5 (Nf : Nat) : UF (SQ Nf) := by
  induction Nf with
  | zero => intro c j i o u A k r h; have h : (none : Option R_F28_2) = some r := h; cases h
  | succ Nf ih => intro c j i o u A k r h; exact Hu (SQ Nf) ih c j i o u A k h
def Az (c : BoxD) (x0 : Oqq) : AV := (ls 1 Zc x0)
def F18 (Nf : Nat) (c : BoxD) : Option Oqq :=
  ((SQ Nf c c 0 ([]) 0 ([]) 0).bind fun r1 => match r1 with | .k0 ak aj an aX => (bif (decide (aX ≤ an.length)) then (some (an.take aX)) else none))
abbrev Hv (c : BoxD) (aj : Nat) (an : Oqq) (aX : Nat) : List AB := [.cells 28 ((cBx c).map .p), yB 0 ([]), yB aj an, .cells 58 [.sl 2 aj 1 0 aX], .cells 35 [(.fn 43 [.ptr 3 0, .ptr 4 0])]]
theorem BB (Nf : Nat) (c : BoxD) {r : Oqq} (h : F18 Nf c = some r) : PR2 prg 28 [(.agg ((cBx c).map .p))] (Az c r) := by
 unfold F18 at h
 apply bn h; intro r1 h1 h
 cases r1 with
 | k0 ak aj an aX =>
  have q0 := ((G5 Nf c c 0 ([]) 0 ([]) 0 h1 []) : CS prg 43 [(.agg ((cBx c).map .p)), .ptr 3 0, .ptr 4 0] [.cells 28 ((cBx c).map .p), yB0, yB0, .cells 58 [.sl 2 0 1 0 0], .cells 35 [(.fn 43 [.ptr 3 0, .ptr 4 0])]] = some ((vb ak), Hv c aj an aX))
  have k1 := ka [(8, .r (vb ak) (Hv c aj an aX))] (apc q0 apn)
  apply bi h <;> intro h2 h
  ·
   rw [← sj h]
   exact fpn (v := (.sl 2 aj 1 0 aX)) (h' := (Hv c aj an aX)) (kH k1) (k1.b apn) (Sw (e := Zc) rfl h2) rfl (Sw (e := Zc) (getq rfl (I8 (fun _ => rfl))) h2) (by kernel_rfl)
  ·
   cases h
inductive R_F30_2 where
  | k0 (x0 : Nat) (x1 : Iqq) (x2 : Nat)
def Hw (c j : BoxD) (i : Nat) (o : Iqq) (u : Nat) (A : Iqq) (k : Nat) (r : R_F30_2) : AV := match r with | .k0 x0 x1 x2 => (.tup [])
def Hx (c j : BoxD) (i : Nat) (o : Iqq) (u : Nat) (A : Iqq) (k : Nat) (r : R_F30_2) : List AB := match r with | .k0 x0 x1 x2 => [.cells 28 ((cBx j).map .p), yI i o, yI x0 x1, .cells 74 [.sl 2 x0 1 0 x2], .cells 92 [(.fn 48 [.ptr 3 0, .ptr 4 0])]]
abbrev VC := BoxD → BoxD → Nat → Iqq → Nat → Iqq → Nat → Option R_F30_2
abbrev PK (f : VC) : Prop := ∀ (c j : BoxD) (i : Nat) (o : Iqq) (u : Nat) (A : Iqq) (k : Nat) {r : R_F30_2}, f c j i o u A k = some r → ∀ hx : List AB, CS prg 48 [(.agg ((cBx c).map .p)), .ptr 3 0, .ptr 4 0] ([.cells 28 ((cBx j).map .p), yI i o, yI u A, .cells 74 [.sl 2 u 1 0 k], .cells 92 [(.fn 48 [.ptr 3 0, .ptr 4 0])]] ++ hx) = some (Hw c j i o u A k r, Hx c j i o u A k r ++ hx)
inductive E_L30_0_2 where
  | k0 (x0 : Nat) (x1 : Iqq) (x2 : Nat)
def XN (rF30_2 : VC) (j : BoxD) (i : Int) (o : BoxD) (u : Nat) (A : Iqq) (w : Int) (F : Nat) (x : Iqq) (R : Nat) : Option (E_L30_0_2 ⊕ (Int × Nat × Iqq × Nat)) :=
  (bif (decide (w < i)) then ((getI j.kids w).bind fun x2 => ((rF30_2 x2 o u A F x R).bind fun r3 => match r3 with | .k0 aG aD aE => (some (.inr ((IntKind.wrap .i64 (w + 1)), aG, aD, aE))))) else (some (.inl (.k0 F x R))))
def O7 (c : Int) (j : BoxD) (i : Int) (o : BoxD) (u : Nat) (A : Iqq) (w : Int) (F : Nat) (x : Iqq) (R : Nat) : St := ⟨fr 30 ug [(1, .ptr 3 0), (2, .ptr 4 0), (4, i6 c), (13, (.p (.lst 4 (Zb j.kids)))), (14, i6 i), (15, i6 w)], [.cells 28 ((cBx o).map .p), yI u A, yI F x, .cells 74 [.sl 2 F 1 0 R], .cells 92 [(.fn 48 [.ptr 3 0, .ptr 4 0])], .cells 28 ((cBx j).map .p), .row 3 1 0 [[i6 0]]]⟩
theorem SS (c : Int) (j : BoxD) (i : Int) (o : BoxD) (u : Nat) (A : Iqq) (w : Int) (F : Nat) (x : Iqq) (R : Nat) : okT 7 (O7 c j i o u A w F x R).h = true := (ZE rfl (ac (ar (ar (ac (ac (ac (ac rfl))))))))
abbrev Xr (c : Int) (j : BoxD) (i : Int) (o : BoxD) (u : Nat) (A : Iqq) (w : Int) (F : Nat) (x : Iqq) (R : Nat) := evH prg 7 [1, 2, 4, 13, 14, 15] He (O7 c j i o u A w F x R)
def SU (c : Int) (j : BoxD) (i : Int) (o : BoxD) (u : Nat) (A : Iqq) (e : E_L30_0_2) (r : Option (Out × St)) : Prop := match e with | .k0 x0 x1 x2 => ∃ g, r = some ((.brk 0), ⟨fr 30 g [(1, .ptr 3 0), (4, i6 c), (13, (.p (.lst 4 (Zb j.kids))))], [.cells 28 ((cBx o).map .p), yI u A, yI x0 x1, .cells 74 [.sl 2 x0 1 0 x2], .cells 92 [(.fn 48 [.ptr 3 0, .ptr 4 0])], .cells 28 ((cBx j).map .p), .row 3 1 0 [[i6 0]]]⟩)
abbrev Qt (o : BoxD) (u : Nat) (A : Iqq) (aG : Nat) (aD : Iqq) (aE : Nat) (j x2 : BoxD) : List AB := [.cells 28 ((cBx o).map .p), yI u A, yI aG aD, .cells 74 [.sl 2 aG 1 0 aE], .cells 92 [(.fn 48 [.ptr 3 0, .ptr 4 0])], .cells 28 ((cBx j).map .p), .row 3 1 0 [[i6 0]], .row 28 4 0 (ra cBx []), .cells 28 ((cBx x2).map .p)]
theorem JH (rF30_2 : VC) (hF30_2 : PK rF30_2) (c : Int) (j : BoxD) (i : Int) (o : BoxD) (u : Nat) (A : Iqq) (w : Int) (F : Nat) (x : Iqq) (R : Nat) {r : E_L30_0_2 ⊕ (Int × Nat × Iqq × Nat)} (h : XN rF30_2 j i o u A w F x R = some r) : OkR (fun e => SU c j i o u A e (Xr c j i o u A w F x R)) (fun s => Xr c j i o u A w F x R = Xr c j i o u A s.1 s.2.1 s.2.2.1 s.2.2.2) r := by
 unfold XN at h
 apply bi h <;> intro h1 h
 ·
  apply bn h; intro x2 h2 h
  apply bn h; intro r3 h3 h
  cases r3 with
  | k0 aG aD aE =>
   rw [← sj h]
   exact rn [(16, .d true), (17, .v (.ro (cBx x2))), (21, .r (.tup []) (Qt o u A aG aD aE j x2)), (6000, .d true)] (av h1 (apc ((igr ZF h2) : idxA 4 (.p (.lst 4 (Zb j.kids))) (i6 w) = some (.ro (cBx x2))) (apc ((hF30_2 x2 o u A F x R h3 [.cells 28 ((cBx j).map .p), .row 3 1 0 [[i6 0]], .row 28 4 0 (ra cBx []), .cells 28 ((cBx x2).map .p)]) : CS prg 48 [(.agg ((cBx x2).map .p)), .ptr 3 0, .ptr 4 0] [.cells 28 ((cBx o).map .p), yI u A, yI F x, .cells 74 [.sl 2 F 1 0 R], .cells 92 [(.fn 48 [.ptr 3 0, .ptr 4 0])], .cells 28 ((cBx j).map .p), .row 3 1 0 [[i6 0]], .row 28 4 0 (ra cBx []), .cells 28 ((cBx x2).map .p)] = some ((.tup []), Qt o u A aG aD aE j x2)) (apc (SS c j i o u A (w6 (w + 1)) aG aD aE) apn))))
 ·
  rw [← sj h]
  exact xb [(16, .d false), (6000, .d true)] (av h1 apn)
theorem SV (rF30_2 : VC) (hF30_2 : PK rF30_2) (c : Int) (j : BoxD) (i : Int) (o : BoxD) (u : Nat) (A : Iqq) (s0 : Int × Nat × Iqq × Nat) (e : E_L30_0_2) (h : runL (fun s => XN rF30_2 j i o u A s.1 s.2.1 s.2.2.1 s.2.2.2) s0 = some e) : SU c j i o u A e (Xr c j i o u A s0.1 s0.2.1 s0.2.2.1 s0.2.2.2) := by
  have q := @Zg (Int × Nat × Iqq × Nat) E_L30_0_2 (fun s => XN rF30_2 j i o u A s.1 s.2.1 s.2.2.1 s.2.2.2) (fun s => Xr c j i o u A s.1 s.2.1 s.2.2.1 s.2.2.2) (SU c j i o u A) (fun s r h => JH rF30_2 hF30_2 c j i o u A s.1 s.2.1 s.2.2.1 s.2.2.2 h) s0 e h
  exact q
def UG (rF30_2 : VC) (c j : BoxD) (i : Nat) (o : Iqq) (u : Nat) (A : Iqq) (k : Nat) : Option R_F30_2 :=
  (bif (apOk k 1 A.length 8) then (bif (decide (k + 1 ≤ A.length)) then ((runL (fun s => XN rF30_2 c (c.kids.length : Int) j i o s.1 s.2.1 s.2.2.1 s.2.2.2) (0, u, (splice A k [0]), k + 1)).bind fun r3 => match r3 with | .k0 aG aD aE => ((ixN aE ((k : Nat) : Int)).bind fun x4 => ((aD[x4]?).bind fun x5 => (some (.k0 aG (aD.set x4 (IntKind.wrap .i64 (((aE : Nat) : Int) - ((k : Nat) : Int)))) aE))))) else ((runL (fun s => XN rF30_2 c (c.kids.length : Int) j i o s.1 s.2.1 s.2.2.1 s.2.2.2) (0, u + 1, (A.take k ++ [0]), k + 1)).bind fun r3 => match r3 with | .k0 aG aD aE => ((ixN aE ((k : Nat) : Int)).bind fun x4 => ((aD[x4]?).bind fun x5 => (some (.k0 aG (aD.set x4 (IntKind.wrap .i64 (((aE : Nat) : Int) - ((k : Nat) : Int)))) aE)))))) else none)
abbrev WV (j : BoxD) (i : Nat) (o : Iqq) (aG : Nat) (aD : Iqq) (x4 aE k : Nat) (c : BoxD) : List AB := [.cells 28 ((cBx j).map .p), yI i o, .row 3 1 aG (ra eI64 (aD.set x4 (w6 (((aE : Nat) : Int) - ((k : Nat) : Int))))), .cells 74 [.sl 2 aG 1 0 aE], .cells 92 [(.fn 48 [.ptr 3 0, .ptr 4 0])], .cells 28 ((cBx c).map .p), .row 3 1 0 [[i6 0]]]
abbrev Ke (j : BoxD) (i : Nat) (o : Iqq) (u : Nat) (A : Iqq) (k : Nat) (c : BoxD) : List AB := [.cells 28 ((cBx j).map .p), yI i o, yI u (splice A k [0]), .cells 74 [.sl 2 u 1 0 k], .cells 92 [(.fn 48 [.ptr 3 0, .ptr 4 0])], .cells 28 ((cBx c).map .p), .row 3 1 0 [[i6 0]]]
abbrev TE (g3 : Nat → AV) (k : Nat) (c j : BoxD) (i : Nat) (o : Iqq) (aG : Nat) (aD : Iqq) (aE : Nat) : St := ⟨fr 30 g3 [(1, .ptr 3 0), (4, (i6 ((k : Nat) : Int))), (13, (.p (.lst 4 (Zb c.kids))))], [.cells 28 ((cBx j).map .p), yI i o, yI aG aD, .cells 74 [.sl 2 aG 1 0 aE], .cells 92 [(.fn 48 [.ptr 3 0, .ptr 4 0])], .cells 28 ((cBx c).map .p), .row 3 1 0 [[i6 0]]]⟩
abbrev Kf (j : BoxD) (i : Nat) (o : Iqq) (u : Nat) (A : Iqq) (k : Nat) (c : BoxD) : List AB := [.cells 28 ((cBx j).map .p), yI i o, yI u A, .cells 74 [.sl 2 u 1 0 k], .cells 92 [(.fn 48 [.ptr 3 0, .ptr 4 0])], .cells 28 ((cBx c).map .p), .row 3 1 0 [[i6 0]]]
abbrev Kg (j : BoxD) (i : Nat) (o : Iqq) (aG : Nat) (aD : Iqq) (aE : Nat) (c : BoxD) : List AB := [.cells 28 ((cBx j).map .p), yI i o, yI aG aD, .cells 74 [.sl 2 aG 1 0 aE], .cells 92 [(.fn 48 [.ptr 3 0, .ptr 4 0])], .cells 28 ((cBx c).map .p), .row 3 1 0 [[i6 0]]]
abbrev Kh (j : BoxD) (i : Nat) (o : Iqq) (u : Nat) (A : Iqq) (k : Nat) (c : BoxD) : List AB := [.cells 28 ((cBx j).map .p), yI i o, yI (u + 1) (A.take k ++ [0]), .cells 74 [.sl 2 u 1 0 k], .cells 92 [(.fn 48 [.ptr 3 0, .ptr 4 0])], .cells 28 ((cBx c).map .p), .row 3 1 0 [[i6 0]]]
theorem Hy (rF30_2 : VC) (hF30_2 : PK rF30_2) (c j : BoxD) (i : Nat) (o : Iqq) (u : Nat) (A : Iqq) (k : Nat) {r : R_F30_2} (h : UG rF30_2 c j i o u A k = some r) : ∀ hx : List AB, CS prg 48 [(.agg ((cBx c).map .p)), .ptr 3 0, .ptr 4 0] ([.cells 28 ((cBx j).map .p), yI i o, yI u A, .cells 74 [.sl 2 u 1 0 k], .cells 92 [(.fn 48 [.ptr 3 0, .ptr 4 0])]] ++ hx) = some (Hw c j i o u A k r, Hx c j i o u A k r ++ hx) := by
 unfold UG at h
 have q0 := ((lgr ZF) : lnA (.p (.lst 4 (Zb c.kids))) = some (i6 (c.kids.length : Int)))
 apply bi h <;> intro h1 h
 ·
  apply bi h <;> intro h2 h
  ·
   apply bn h; intro r3 h3 h
   cases r3 with
   | k0 aG aD aE =>
    obtain ⟨g3, e3⟩ := SV rF30_2 hF30_2 ((k : Nat) : Int) c (c.kids.length : Int) j i o (0, u, (splice A k [0]), k + 1) _ h3
    apply bn h; intro x4 h4 h
    apply bn h; intro x5 h5 h
    rw [← sj h]
    exact fcF (m := 5) (v := (.tup [])) (h' := (WV j i o aG aD x4 aE k c)) [(11, .r (.sl 2 u 1 0 (k + 1)) (Ke j i o u A k c)), (14, .v (i6 (c.kids.length : Int))), (2000, .l (.brk 0) (TE g3 k c j i o aG aD aE)), (29, .v (.rp 2 aG 1 x4 0)), (1029, .r ud (WV j i o aG aD x4 aE k c)), (6000, .d true)] (apc ((X0 (e := eI64) (xs := A) (news := [0]) rfl (ZA (e := eI64) (xs := [0]) rfl) rfl h1 h2) : appA (Kf j i o u A k c) 3 1 8 (.sl 2 u 1 0 k) (.sl 6 0 1 0 1) = some ((.sl 2 u 1 0 (k + 1)), Ke j i o u A k c)) (apc q0 (apc (SS ((k : Nat) : Int) c (c.kids.length : Int) j i o 0 u (splice A k [0]) (k + 1)) (apc (e3 : Xr ((k : Nat) : Int) c (c.kids.length : Int) j i o 0 u (splice A k [0]) (k + 1) = some ((.brk 0), TE g3 k c j i o aG aD aE)) (apc ((ZP h4) : idxA 1 (.sl 2 aG 1 0 aE) (i6 ((k : Nat) : Int)) = some (.rp 2 aG 1 x4 0)) (apc (⟨ZZ (v' := (w6 (((aE : Nat) : Int) - ((k : Nat) : Int)))) rfl h5 rfl rfl (Nat.le_of_ble_eq_true rfl) rfl, rfl⟩ : stA (Kg j i o aG aD aE c) 1 (.rp 2 aG 1 x4 0) (i6 (w6 (((aE : Nat) : Int) - ((k : Nat) : Int)))) = some (WV j i o aG aD x4 aE k c) ∧ ud = ud) apn)))))) rfl (ac (ar (ar (ac (ac rfl))))) rfl (ac (ar (ar (ac (ac rfl))))) rfl (by kernel_rfl)
  ·
   apply bn h; intro r3 h3 h
   cases r3 with
   | k0 aG aD aE =>
    obtain ⟨g3, e3⟩ := SV rF30_2 hF30_2 ((k : Nat) : Int) c (c.kids.length : Int) j i o (0, u + 1, (A.take k ++ [0]), k + 1) _ h3
    apply bn h; intro x4 h4 h
    apply bn h; intro x5 h5 h
    rw [← sj h]
    exact fcF (m := 5) (v := (.tup [])) (h' := (WV j i o aG aD x4 aE k c)) [(11, .r (.sl 2 (u + 1) 1 0 (k + 1)) (Kh j i o u A k c)), (14, .v (i6 (c.kids.length : Int))), (2000, .l (.brk 0) (TE g3 k c j i o aG aD aE)), (29, .v (.rp 2 aG 1 x4 0)), (1029, .r ud (WV j i o aG aD x4 aE k c)), (6000, .d true)] (apc ((Yk (e := eI64) (xs := A) (news := [0]) rfl (ZA (e := eI64) (xs := [0]) rfl) rfl h1 h2) : appA (Kf j i o u A k c) 3 1 8 (.sl 2 u 1 0 k) (.sl 6 0 1 0 1) = some ((.sl 2 (u + 1) 1 0 (k + 1)), Kh j i o u A k c)) (apc q0 (apc (SS ((k : Nat) : Int) c (c.kids.length : Int) j i o 0 (u + 1) (A.take k ++ [0]) (k + 1)) (apc (e3 : Xr ((k : Nat) : Int) c (c.kids.length : Int) j i o 0 (u + 1) (A.take k ++ [0]) (k + 1) = some ((.brk 0), TE g3 k c j i o aG aD aE)) (apc ((ZP h4) : idxA 1 (.sl 2 aG 1 0 aE) (i6 ((k : Nat) : Int)) = some (.rp 2 aG 1 x4 0)) (apc (⟨ZZ (v' := (w6 (((aE : Nat) : Int) - ((k : Nat) : Int)))) rfl h5 rfl rfl (Nat.le_of_ble_eq_true rfl) rfl, rfl⟩ : stA (Kg j i o aG aD aE c) 1 (.rp 2 aG 1 x4 0) (i6 (w6 (((aE : Nat) : Int) - ((k : Nat) : Int)))) = some (WV j i o aG aD x4 aE k c) ∧ ud = ud) apn)))))) rfl (ac (ar (ar (ac (ac rfl))))) rfl (ac (ar (ar (ac (ac rfl))))) rfl (by kernel_rfl)
 ·
  cases h
def RP : Nat → VC
  | 0 => fun _ _ _ _ _ _ _ => none
  | Nf + 1 => UG (RP Nf)
theorem G6 (Nf : Nat) : PK (RP Nf) := by
  induction Nf with
  | zero => intro c j i o u A k r h; have h : (none : Option R_F30_2) = some r := h; cases h
  | succ Nf ih => intro c j i o u A k r h; exact Hy (RP Nf) ih c j i o u A k h
def AA (c : BoxD) (x0 : Iqq) : AV := (ls 1 eI64 x0)
def F26 (Nf : Nat) (c : BoxD) : Option Iqq :=
  ((RP Nf c c 0 ([]) 0 ([]) 0).bind fun r1 => match r1 with | .k0 ak aj an => (bif (decide (an ≤ aj.length)) then (some (aj.take an)) else none))
abbrev Hz (c : BoxD) (ak : Nat) (aj : Iqq) (an : Nat) : List AB := [.cells 28 ((cBx c).map .p), yI 0 ([]), yI ak aj, .cells 74 [.sl 2 ak 1 0 an], .cells 92 [(.fn 48 [.ptr 3 0, .ptr 4 0])]]
theorem BC (Nf : Nat) (c : BoxD) {r : Iqq} (h : F26 Nf c = some r) : PR2 prg 40 [(.agg ((cBx c).map .p))] (AA c r) := by
 unfold F26 at h
 apply bn h; intro r1 h1 h
 cases r1 with
 | k0 ak aj an =>
  have q0 := ((G6 Nf c c 0 ([]) 0 ([]) 0 h1 []) : CS prg 48 [(.agg ((cBx c).map .p)), .ptr 3 0, .ptr 4 0] [.cells 28 ((cBx c).map .p), yI0, yI0, .cells 74 [.sl 2 0 1 0 0], .cells 92 [(.fn 48 [.ptr 3 0, .ptr 4 0])]] = some ((.tup []), Hz c ak aj an))
  have k1 := ka [(8, .r (.tup []) (Hz c ak aj an))] (apc q0 apn)
  apply bi h <;> intro h2 h
  ·
   rw [← sj h]
   exact fpn (v := (.sl 2 ak 1 0 an)) (h' := (Hz c ak aj an)) (kH k1) (k1.b apn) (Sw (e := eI64) rfl h2) rfl (Sw (e := eI64) (getq rfl (I8 (fun _ => rfl))) h2) (by kernel_rfl)
  ·
   cases h
def Cg (c : BoxD) (j : Nat) (i : Tqq) (o : Bool) (u A k : Nat) (G : Oqq) (D : Iqq) (I E : Int) (B : Bool) (C : Iqq) (x0 : Int) : AV := (i6 x0)
def Ch (c : BoxD) (j : Nat) (i : Tqq) (o : Bool) (u A k : Nat) (G : Oqq) (D : Iqq) (I E : Int) (B : Bool) (C : Iqq) (x0 : Int) : List AB := [.cells 28 ((cBx c).map .p), yT j i, .cells 83 [sp o 2 0, .sl 3 u 1 0 A, .sl 1 j 7 0 k, ls 1 Zc G, ls 1 eI64 D, i6 I, i6 E, vb B], yU u C]
def G7 (A : Nat) : Option Int :=
  (some ((A : Nat) : Int))
theorem G8 (c : BoxD) (j : Nat) (i : Tqq) (o : Bool) (u A k : Nat) (G : Oqq) (D : Iqq) (I E : Int) (B : Bool) (C : Iqq) {r : Int} (h : G7 A = some r) : CS prg 49 [.ptr 2 0] [.cells 28 ((cBx c).map .p), yT j i, .cells 83 [sp o 2 0, .sl 3 u 1 0 A, .sl 1 j 7 0 k, ls 1 Zc G, ls 1 eI64 D, i6 I, i6 E, vb B], yU u C] = some (Cg c j i o u A k G D I E B C r, Ch c j i o u A k G D I E B C r) := by
 unfold G7 at h
 rw [← sj h]
 exact fc [] apn
def Ci (c : BoxD) (j : Nat) (i : Tqq) (o : Bool) (u A k : Nat) (G : Oqq) (D : Iqq) (I E : Int) (B : Bool) (C : Iqq) (H : ThingD) (x0 : Bool) : AV := (.tup [])
def Cj (c : BoxD) (j : Nat) (i : Tqq) (o : Bool) (u A k : Nat) (G : Oqq) (D : Iqq) (I E : Int) (B : Bool) (C : Iqq) (H : ThingD) (x0 : Bool) : List AB := [.cells 28 ((cBx c).map .p), yT j i, .cells 83 [sp x0 2 0, .sl 3 u 1 0 A, .sl 1 j 7 0 k, ls 1 Zc G, ls 1 eI64 D, i6 I, i6 E, vb B], yU u C, .row 28 4 0 (ra cBx []), .cells 77 ((Za H).map .p)]
def MN (o : Bool) : Option Bool :=
  (bif o then (some o) else (some true))
abbrev TF (c : BoxD) (j : Nat) (i : Tqq) (o : Bool) (u A k : Nat) (G : Oqq) (D : Iqq) (I E : Int) (B : Bool) (C : Iqq) (H : ThingD) : List AB := [.cells 28 ((cBx c).map .p), yT j i, .cells 83 [sp o 2 0, .sl 3 u 1 0 A, .sl 1 j 7 0 k, ls 1 Zc G, ls 1 eI64 D, i6 I, i6 E, vb B], yU u C, .row 28 4 0 (ra cBx []), .cells 77 ((Za H).map .p)]
theorem PL (c : BoxD) (j : Nat) (i : Tqq) (o : Bool) (u A k : Nat) (G : Oqq) (D : Iqq) (I E : Int) (B : Bool) (C : Iqq) (H : ThingD) {r : Bool} (h : MN o = some r) : CS prg 63 [.ptr 2 0] [.cells 28 ((cBx c).map .p), yT j i, .cells 83 [sp o 2 0, .sl 3 u 1 0 A, .sl 1 j 7 0 k, ls 1 Zc G, ls 1 eI64 D, i6 I, i6 E, vb B], yU u C, .row 28 4 0 (ra cBx []), .cells 77 ((Za H).map .p)] = some (Ci c j i o u A k G D I E B C H r, Cj c j i o u A k G D I E B C H r) := by
 unfold MN at h
 apply bi h <;> intro h1 h
 ·
  have q0 := (((rfl : ldA (TF c j i o u A k G D I E B C H) .false 1 (.ptr 2 0) = some (sp o 2 0)).trans (congrArg some (sp_t h1))) : ldA (TF c j i o u A k G D I E B C H) .false 1 (.ptr 2 0) = some (.ptr 2 0))
  rw [← sj h]
  exact fc [(5, .v (.ptr 2 0)), (17, .v (.ptr 2 0))] (apc q0 (apc q0 apn))
 ·
  rw [← sj h]
  exact fc [(5, .v (.p (.val (.pointer .none))))] (apc (((rfl : ldA (TF c j i o u A k G D I E B C H) .false 1 (.ptr 2 0) = some (sp o 2 0)).trans (congrArg some (sp_f h1))) : ldA (TF c j i o u A k G D I E B C H) .false 1 (.ptr 2 0) = some (.p (.val (.pointer .none)))) apn)
inductive R_F34_7 where
  | k0 (x0 : Int) (x1 : Bool) (x2 : Nat) (x3 : Iqq)
def Ck (c : ByteArray) (j : BoxD) (i : Nat) (o : Tqq) (u : Bool) (A k G : Nat) (D : Oqq) (I : Iqq) (E B : Int) (C : Bool) (H : Iqq) (J : ThingD) (r : R_F34_7) : AV := match r with | .k0 x0 x1 x2 x3 => (.tup [i6 x0, (.p (.val .nilIface))])
def Cl (c : ByteArray) (j : BoxD) (i : Nat) (o : Tqq) (u : Bool) (A k G : Nat) (D : Oqq) (I : Iqq) (E B : Int) (C : Bool) (H : Iqq) (J : ThingD) (r : R_F34_7) : List AB := match r with | .k0 x0 x1 x2 x3 => [.cells 28 ((cBx j).map .p), yT i o, .cells 83 [sp x1 2 0, (.sl 3 x2 1 0 (k + (Zl c).length)), .sl 1 i 7 0 G, ls 1 Zc D, ls 1 eI64 I, i6 E, i6 B, vb C], yU x2 x3, .row 28 4 0 (ra cBx []), .cells 77 ((Za J).map .p)]
def JI (c : ByteArray) (u : Bool) (A k : Nat) (H : Iqq) : Option R_F34_7 :=
  ((MN u).bind fun x1 => (bif (apOk k (Zl c).length H.length 1) then (bif (decide (k + (Zl c).length ≤ H.length)) then (some (.k0 (c.size : Int) x1 A (splice H k (Zl c)))) else (some (.k0 (c.size : Int) x1 (A + 1) (H.take k ++ (Zl c))))) else none))
abbrev TG (j : BoxD) (i : Nat) (o : Tqq) (x1 : Bool) (A k G : Nat) (D : Oqq) (I : Iqq) (E B : Int) (C : Bool) (H : Iqq) (J : ThingD) : List AB := [.cells 28 ((cBx j).map .p), yT i o, .cells 83 [sp x1 2 0, .sl 3 A 1 0 k, .sl 1 i 7 0 G, ls 1 Zc D, ls 1 eI64 I, i6 E, i6 B, vb C], yU A H, .row 28 4 0 (ra cBx []), .cells 77 ((Za J).map .p)]
abbrev Ki (j : BoxD) (i : Nat) (o : Tqq) (x1 : Bool) (A k G : Nat) (D : Oqq) (I : Iqq) (E B : Int) (C : Bool) (H : Iqq) (c : ByteArray) (J : ThingD) : List AB := [.cells 28 ((cBx j).map .p), yT i o, .cells 83 [sp x1 2 0, .sl 3 A 1 0 k, .sl 1 i 7 0 G, ls 1 Zc D, ls 1 eI64 I, i6 E, i6 B, vb C], yU A (splice H k (Zl c)), .row 28 4 0 (ra cBx []), .cells 77 ((Za J).map .p)]
abbrev Kj (j : BoxD) (i : Nat) (o : Tqq) (x1 : Bool) (A k G : Nat) (D : Oqq) (I : Iqq) (E B : Int) (C : Bool) (H : Iqq) (c : ByteArray) (J : ThingD) : List AB := [.cells 28 ((cBx j).map .p), yT i o, .cells 83 [sp x1 2 0, .sl 3 A 1 0 k, .sl 1 i 7 0 G, ls 1 Zc D, ls 1 eI64 I, i6 E, i6 B, vb C], yU (A + 1) (H.take k ++ (Zl c)), .row 28 4 0 (ra cBx []), .cells 77 ((Za J).map .p)]
theorem Kk (c : ByteArray) (j : BoxD) (i : Nat) (o : Tqq) (u : Bool) (A k G : Nat) (D : Oqq) (I : Iqq) (E B : Int) (C : Bool) (H : Iqq) (J : ThingD) {r : R_F34_7} (h : JI c u A k H = some r) : CS prg 52 [.ptr 2 0, vs c] [.cells 28 ((cBx j).map .p), yT i o, .cells 83 [sp u 2 0, .sl 3 A 1 0 k, .sl 1 i 7 0 G, ls 1 Zc D, ls 1 eI64 I, i6 E, i6 B, vb C], yU A H, .row 28 4 0 (ra cBx []), .cells 77 ((Za J).map .p)] = some (Ck c j i o u A k G D I E B C H J r, Cl c j i o u A k G D I E B C H J r) := by
 unfold JI at h
 apply bn h; intro x1 h1 h
 have q0 := ((PL j i o u A k G D I E B C H J h1) : CS prg 63 [.ptr 2 0] [.cells 28 ((cBx j).map .p), yT i o, .cells 83 [sp u 2 0, .sl 3 A 1 0 k, .sl 1 i 7 0 G, ls 1 Zc D, ls 1 eI64 I, i6 E, i6 B, vb C], yU A H, .row 28 4 0 (ra cBx []), .cells 77 ((Za J).map .p)] = some ((.tup []), TG j i o x1 A k G D I E B C H J))
 have k1 := ka [(7, .r (.tup []) (TG j i o x1 A k G D I E B C H J))] (apc q0 apn)
 apply bi h <;> intro h2 h
 ·
  apply bi h <;> intro h3 h
  ·
   rw [← sj h]
   exact fc ([(14, .r (.sl 3 A 1 0 (k + (Zl c).length)) (Ki j i o x1 A k G D I E B C H c J))] ++ kH k1) (k1.b (apc ((X0 (e := eU8) (xs := H) (news := (Zl c)) rfl LZ rfl h2 h3) : appA (TG j i o x1 A k G D I E B C H J) 5 1 1 (.sl 3 A 1 0 k) (vs c) = some ((.sl 3 A 1 0 (k + (Zl c).length)), Ki j i o x1 A k G D I E B C H c J)) apn))
  ·
   rw [← sj h]
   exact fc ([(14, .r (.sl 3 (A + 1) 1 0 (k + (Zl c).length)) (Kj j i o x1 A k G D I E B C H c J))] ++ kH k1) (k1.b (apc ((Yk (e := eU8) (xs := H) (news := (Zl c)) rfl LZ rfl h2 h3) : appA (TG j i o x1 A k G D I E B C H J) 5 1 1 (.sl 3 A 1 0 k) (vs c) = some ((.sl 3 (A + 1) 1 0 (k + (Zl c).length)), Kj j i o x1 A k G D I E B C H c J)) apn))
 ·
  cases h
inductive R_F34_5 where
  | k0 (x0 : Int) (x1 : Bool) (x2 : Nat) (x3 : Iqq)
def Cm (c : ThingD) (j : BoxD) (i : Nat) (o : Tqq) (u : Bool) (A k G : Nat) (D : Oqq) (I : Iqq) (E B : Int) (C : Bool) (H : Iqq) (r : R_F34_5) : AV := match r with | .k0 x0 x1 x2 x3 => (.tup [i6 x0, (.p (.val .nilIface))])
def Cn (c : ThingD) (j : BoxD) (i : Nat) (o : Tqq) (u : Bool) (A k G : Nat) (D : Oqq) (I : Iqq) (E B : Int) (C : Bool) (H : Iqq) (r : R_F34_5) : List AB := match r with | .k0 x0 x1 x2 x3 => [.cells 28 ((cBx j).map .p), yT i o, .cells 83 [sp x1 2 0, (.sl 3 x2 1 0 (k + (Zl c.text).length)), .sl 1 i 7 0 G, ls 1 Zc D, ls 1 eI64 I, i6 E, i6 B, vb C], yU x2 x3, .row 28 4 0 (ra cBx []), .cells 77 ((Za c).map .p)]
def MO (c : ThingD) (u : Bool) (A k : Nat) (H : Iqq) : Option R_F34_5 :=
  ((MN u).bind fun x1 => (bif (apOk k (Zl c.text).length H.length 1) then (bif (decide (k + (Zl c.text).length ≤ H.length)) then (some (.k0 (c.text.size : Int) x1 A (splice H k (Zl c.text)))) else (some (.k0 (c.text.size : Int) x1 (A + 1) (H.take k ++ (Zl c.text))))) else none))
abbrev TH (j : BoxD) (i : Nat) (o : Tqq) (x1 : Bool) (A k G : Nat) (D : Oqq) (I : Iqq) (E B : Int) (C : Bool) (H : Iqq) (c : ThingD) : List AB := [.cells 28 ((cBx j).map .p), yT i o, .cells 83 [sp x1 2 0, .sl 3 A 1 0 k, .sl 1 i 7 0 G, ls 1 Zc D, ls 1 eI64 I, i6 E, i6 B, vb C], yU A H, .row 28 4 0 (ra cBx []), .cells 77 ((Za c).map .p)]
abbrev Kl (j : BoxD) (i : Nat) (o : Tqq) (x1 : Bool) (A k G : Nat) (D : Oqq) (I : Iqq) (E B : Int) (C : Bool) (H : Iqq) (c : ThingD) : List AB := [.cells 28 ((cBx j).map .p), yT i o, .cells 83 [sp x1 2 0, .sl 3 A 1 0 k, .sl 1 i 7 0 G, ls 1 Zc D, ls 1 eI64 I, i6 E, i6 B, vb C], yU A (splice H k (Zl c.text)), .row 28 4 0 (ra cBx []), .cells 77 ((Za c).map .p)]
abbrev Km (j : BoxD) (i : Nat) (o : Tqq) (x1 : Bool) (A k G : Nat) (D : Oqq) (I : Iqq) (E B : Int) (C : Bool) (H : Iqq) (c : ThingD) : List AB := [.cells 28 ((cBx j).map .p), yT i o, .cells 83 [sp x1 2 0, .sl 3 A 1 0 k, .sl 1 i 7 0 G, ls 1 Zc D, ls 1 eI64 I, i6 E, i6 B, vb C], yU (A + 1) (H.take k ++ (Zl c.text)), .row 28 4 0 (ra cBx []), .cells 77 ((Za c).map .p)]
theorem PM (c : ThingD) (j : BoxD) (i : Nat) (o : Tqq) (u : Bool) (A k G : Nat) (D : Oqq) (I : Iqq) (E B : Int) (C : Bool) (H : Iqq) {r : R_F34_5} (h : MO c u A k H = some r) : CS prg 52 [.ptr 2 0, vs c.text] [.cells 28 ((cBx j).map .p), yT i o, .cells 83 [sp u 2 0, .sl 3 A 1 0 k, .sl 1 i 7 0 G, ls 1 Zc D, ls 1 eI64 I, i6 E, i6 B, vb C], yU A H, .row 28 4 0 (ra cBx []), .cells 77 ((Za c).map .p)] = some (Cm c j i o u A k G D I E B C H r, Cn c j i o u A k G D I E B C H r) := by
 unfold MO at h
 apply bn h; intro x1 h1 h
 have q0 := ((PL j i o u A k G D I E B C H c h1) : CS prg 63 [.ptr 2 0] [.cells 28 ((cBx j).map .p), yT i o, .cells 83 [sp u 2 0, .sl 3 A 1 0 k, .sl 1 i 7 0 G, ls 1 Zc D, ls 1 eI64 I, i6 E, i6 B, vb C], yU A H, .row 28 4 0 (ra cBx []), .cells 77 ((Za c).map .p)] = some ((.tup []), TH j i o x1 A k G D I E B C H c))
 have k1 := ka [(7, .r (.tup []) (TH j i o x1 A k G D I E B C H c))] (apc q0 apn)
 apply bi h <;> intro h2 h
 ·
  apply bi h <;> intro h3 h
  ·
   rw [← sj h]
   exact fc ([(14, .r (.sl 3 A 1 0 (k + (Zl c.text).length)) (Kl j i o x1 A k G D I E B C H c))] ++ kH k1) (k1.b (apc ((X0 (e := eU8) (xs := H) (news := (Zl c.text)) rfl LZ rfl h2 h3) : appA (TH j i o x1 A k G D I E B C H c) 5 1 1 (.sl 3 A 1 0 k) (vs c.text) = some ((.sl 3 A 1 0 (k + (Zl c.text).length)), Kl j i o x1 A k G D I E B C H c)) apn))
  ·
   rw [← sj h]
   exact fc ([(14, .r (.sl 3 (A + 1) 1 0 (k + (Zl c.text).length)) (Km j i o x1 A k G D I E B C H c))] ++ kH k1) (k1.b (apc ((Yk (e := eU8) (xs := H) (news := (Zl c.text)) rfl LZ rfl h2 h3) : appA (TH j i o x1 A k G D I E B C H c) 5 1 1 (.sl 3 A 1 0 k) (vs c.text) = some ((.sl 3 (A + 1) 1 0 (k + (Zl c.text).length)), Km j i o x1 A k G D I E B C H c)) apn))
 ·
  cases h
inductive E_L49_0_2 where
  | k0 (x0 : Int)
  | k1
section
variable (c : ThingD)
def Yu (w : Int) : Option (E_L49_0_2 ⊕ (Int)) :=
  (bif (decide (w ≥ 0)) then ((getI c.text.data.toList w).bind fun x2 => (bif ((x2.toNat : Int) == 10) then (some (.inl (.k0 w))) else (some (.inr ((IntKind.wrap .i64 (w - 1))))))) else (some (.inl (.k1))))
def O8 (w : Int) : St := ⟨fr 19 ug [(0, vs c.text), (1, vi .u8 10), (5, i6 w)], []⟩
theorem O9 (w : Int) : okT 0 (O8 c w).h = true := (ZE rfl rfl)
abbrev Xs (w : Int) := evH prg 0 [0, 1, 5] Hi (O8 c w)
def SW (e : E_L49_0_2) (r : Option (Out × St)) : Prop := match e with | .k0 x0 => ∃ g y, r = some (.ret, ⟨fr 19 g [(4, i6 x0)], y⟩) | .k1 => ∃ g, r = some ((.brk 0), ⟨fr 19 g [(0, vs c.text)], []⟩)
theorem JJ (w : Int) {r : E_L49_0_2 ⊕ (Int)} (h : Yu c w = some r) : OkR (fun e => SW c e (Xs c w)) (fun s => Xs c w = Xs c s) r := by
 unfold Yu at h
 apply bi h <;> intro h1 h
 ·
  apply bn h; intro x2 h2 h
  have q0 := ((OG h2) : ixS (vs c.text) (i6 w) = some (vi .u8 (x2.toNat : Int)))
  have k1 := ka [(10, .d true), (15, .v (vi .u8 (x2.toNat : Int)))] (av h1 (apc q0 apn))
  apply bi h <;> intro h3 h
  ·
   rw [← sj h]
   exact xy ([(17, .d true), (6000, .d true)] ++ kH k1) (k1.b (av h3 apn))
  ·
   rw [← sj h]
   exact rn ([(17, .d false), (6000, .d true)] ++ kH k1) (k1.b (av h3 (apc (O9 c (w6 (w - 1))) apn)))
 ·
  rw [← sj h]
  exact xb [(10, .d false), (6000, .d true)] (av h1 apn)
theorem SX (s0 : Int) (e : E_L49_0_2) (h : runL (fun s => Yu c s) s0 = some e) : SW c e (Xs c s0) := by
  have q := @Zg (Int) E_L49_0_2 (fun s => Yu c s) (fun s => Xs c s) (SW c) (fun s r h => JJ c s h) s0 e h
  exact q
end
def Co (c : ThingD) (x0 : Int) : AV := (i6 x0)
def HA (c : ThingD) : Option Int :=
  ((runL (fun s => Yu c s) ((IntKind.wrap .i64 ((c.text.size : Int) - 1)))).bind fun r1 => match r1 with | .k0 ak => (some ak) | .k1 => (some (-1)))
theorem G9 (c : ThingD) {r : Int} (h : HA c = some r) : PR1 prg 71 [vs c.text, vi .u8 10] (Co c r) := by
 unfold HA at h
 have q0 := (O9 c (w6 ((c.text.size : Int) - 1)))
 apply bn h; intro r1 h1 h
 cases r1 with
 | k0 ak =>
  obtain ⟨g1, y1, e1⟩ := SX c ((w6 ((c.text.size : Int) - 1))) _ h1
  rw [← sj h]
  exact fq [(2000, .l .ret ⟨fr 19 g1 [(4, i6 ak)], y1⟩), (6000, .d true)] (apc q0 (apc (e1 : Xs c (w6 ((c.text.size : Int) - 1)) = some (.ret, ⟨fr 19 g1 [(4, i6 ak)], y1⟩)) apn))
 | k1 =>
  obtain ⟨g1, e1⟩ := SX c ((w6 ((c.text.size : Int) - 1))) _ h1
  rw [← sj h]
  exact fq [(2000, .l (.brk 0) ⟨fr 19 g1 [(0, vs c.text)], []⟩), (6000, .d true)] (apc q0 (apc (e1 : Xs c (w6 ((c.text.size : Int) - 1)) = some ((.brk 0), ⟨fr 19 g1 [(0, vs c.text)], []⟩)) apn))
def Cp (c : ThingD) (x0 : Int) : AV := (i6 x0)
def Tn (c : ThingD) : Option Int :=
  ((HA c).bind fun x1 => (some x1))
theorem PN (c : ThingD) {r : Int} (h : Tn c = some r) : PR1 prg 61 [vs c.text, vi .u8 10] (Cp c r) := by
 unfold Tn at h
 apply bn h; intro x1 h1 h
 rw [← sj h]
 exact fq [(7, .v (i6 x1))] (apc (((G9 c h1).cp rfl _) : CP prg 71 [vs c.text, vi .u8 10] [] = some (i6 x1)) apn)
inductive R_F32_4 where
  | k0 (x0 : Bool) (x1 x2 : Nat) (x3 : Int) (x4 : Bool) (x5 : Iqq)
def Cq (c : ThingD) (j : BoxD) (i : Nat) (o : Tqq) (u : Bool) (A k G : Nat) (D : Oqq) (I : Iqq) (E B : Int) (C : Bool) (H : Iqq) (r : R_F32_4) : AV := match r with | .k0 x0 x1 x2 x3 x4 x5 => (.tup [])
def Cr (c : ThingD) (j : BoxD) (i : Nat) (o : Tqq) (u : Bool) (A k G : Nat) (D : Oqq) (I : Iqq) (E B : Int) (C : Bool) (H : Iqq) (r : R_F32_4) : List AB := match r with | .k0 x0 x1 x2 x3 x4 x5 => [.cells 28 ((cBx j).map .p), yT i o, .cells 83 [sp x0 2 0, .sl 3 x1 1 0 x2, .sl 1 i 7 0 G, ls 1 Zc D, ls 1 eI64 I, i6 E, i6 x3, vb x4], yU x1 x5, .row 28 4 0 (ra cBx []), .cells 77 ((Za c).map .p)]
def HB (c : ThingD) (u : Bool) (A k : Nat) (B : Int) (C : Bool) (H : Iqq) : Option R_F32_4 :=
  (bif (c.text.toList == Eqq.toList) then (some (.k0 u A k B C H)) else (bif C then ((getI c.text.data.toList 0).bind fun x3 => (bif ((x3.toNat : Int) != 10) then ((F35 (⟨([32] : List UInt8).toArray⟩ : ByteArray) c.depth).bind fun x5 => ((JI x5 u A k H).bind fun r6 => match r6 with | .k0 cc bJ cd ch => ((MO c bJ cd (k + (Zl x5).length) ch).bind fun r7 => match r7 with | .k0 bf bh bj ce => ((Tn c).bind fun x8 => (bif (x8 == (IntKind.wrap .i64 ((c.text.size : Int) - 1))) then (some (.k0 bh bj ((k + (Zl x5).length) + (Zl c.text).length) c.depth (x8 == (IntKind.wrap .i64 ((c.text.size : Int) - 1))) ce)) else (bif (decide (x8 ≥ 0)) then (some (.k0 bh bj ((k + (Zl x5).length) + (Zl c.text).length) (IntKind.wrap .i64 ((IntKind.wrap .i64 ((c.text.size : Int) - 1)) - x8)) (x8 == (IntKind.wrap .i64 ((c.text.size : Int) - 1))) ce)) else (some (.k0 bh bj ((k + (Zl x5).length) + (Zl c.text).length) (IntKind.wrap .i64 (B + (c.text.size : Int))) (x8 == (IntKind.wrap .i64 ((c.text.size : Int) - 1))) ce)))))))) else ((MO c u A k H).bind fun r5 => match r5 with | .k0 bu bb bo bm => ((Tn c).bind fun x6 => (bif (x6 == (IntKind.wrap .i64 ((c.text.size : Int) - 1))) then (some (.k0 bb bo (k + (Zl c.text).length) c.depth (x6 == (IntKind.wrap .i64 ((c.text.size : Int) - 1))) bm)) else (bif (decide (x6 ≥ 0)) then (some (.k0 bb bo (k + (Zl c.text).length) (IntKind.wrap .i64 ((IntKind.wrap .i64 ((c.text.size : Int) - 1)) - x6)) (x6 == (IntKind.wrap .i64 ((c.text.size : Int) - 1))) bm)) else (some (.k0 bb bo (k + (Zl c.text).length) (IntKind.wrap .i64 (B + (c.text.size : Int))) (x6 == (IntKind.wrap .i64 ((c.text.size : Int) - 1))) bm)))))))) else ((MO c u A k H).bind fun r3 => match r3 with | .k0 aG aD aE a0 => ((Tn c).bind fun x4 => (bif (x4 == (IntKind.wrap .i64 ((c.text.size : Int) - 1))) then (some (.k0 aD aE (k + (Zl c.text).length) c.depth (x4 == (IntKind.wrap .i64 ((c.text.size : Int) - 1))) a0)) else (bif (decide (x4 ≥ 0)) then (some (.k0 aD aE (k + (Zl c.text).length) (IntKind.wrap .i64 ((IntKind.wrap .i64 ((c.text.size : Int) - 1)) - x4)) (x4 == (IntKind.wrap .i64 ((c.text.size : Int) - 1))) a0)) else (some (.k0 aD aE (k + (Zl c.text).length) (IntKind.wrap .i64 (B + (c.text.size : Int))) (x4 == (IntKind.wrap .i64 ((c.text.size : Int) - 1))) a0))))))))
abbrev TI (j : BoxD) (i : Nat) (o : Tqq) (u : Bool) (A k G : Nat) (D : Oqq) (I : Iqq) (E B : Int) (C : Bool) (H : Iqq) (c : ThingD) : List AB := [.cells 28 ((cBx j).map .p), yT i o, .cells 83 [sp u 2 0, .sl 3 A 1 0 k, .sl 1 i 7 0 G, ls 1 Zc D, ls 1 eI64 I, i6 E, i6 B, vb C], yU A H, .row 28 4 0 (ra cBx []), .cells 77 ((Za c).map .p)]
abbrev PO (j : BoxD) (i : Nat) (o : Tqq) (bJ : Bool) (cd k : Nat) (x5 : ByteArray) (G : Nat) (D : Oqq) (I : Iqq) (E B : Int) (C : Bool) (ch : Iqq) (c : ThingD) : List AB := [.cells 28 ((cBx j).map .p), yT i o, .cells 83 [sp bJ 2 0, (.sl 3 cd 1 0 (k + (Zl x5).length)), .sl 1 i 7 0 G, ls 1 Zc D, ls 1 eI64 I, i6 E, i6 B, vb C], yU cd ch, .row 28 4 0 (ra cBx []), .cells 77 ((Za c).map .p)]
abbrev PP (j : BoxD) (i : Nat) (o : Tqq) (bh : Bool) (bj k : Nat) (x5 : ByteArray) (c : ThingD) (G : Nat) (D : Oqq) (I : Iqq) (E B : Int) (C : Bool) (ce : Iqq) : List AB := [.cells 28 ((cBx j).map .p), yT i o, .cells 83 [sp bh 2 0, (.sl 3 bj 1 0 ((k + (Zl x5).length) + (Zl c.text).length)), .sl 1 i 7 0 G, ls 1 Zc D, ls 1 eI64 I, i6 E, i6 B, vb C], yU bj ce, .row 28 4 0 (ra cBx []), .cells 77 ((Za c).map .p)]
abbrev PQ (j : BoxD) (i : Nat) (o : Tqq) (bb : Bool) (bo k : Nat) (c : ThingD) (G : Nat) (D : Oqq) (I : Iqq) (E B : Int) (C : Bool) (bm : Iqq) : List AB := [.cells 28 ((cBx j).map .p), yT i o, .cells 83 [sp bb 2 0, (.sl 3 bo 1 0 (k + (Zl c.text).length)), .sl 1 i 7 0 G, ls 1 Zc D, ls 1 eI64 I, i6 E, i6 B, vb C], yU bo bm, .row 28 4 0 (ra cBx []), .cells 77 ((Za c).map .p)]
abbrev PS (j : BoxD) (i : Nat) (o : Tqq) (aD : Bool) (aE k : Nat) (c : ThingD) (G : Nat) (D : Oqq) (I : Iqq) (E B : Int) (C : Bool) (a0 : Iqq) : List AB := [.cells 28 ((cBx j).map .p), yT i o, .cells 83 [sp aD 2 0, (.sl 3 aE 1 0 (k + (Zl c.text).length)), .sl 1 i 7 0 G, ls 1 Zc D, ls 1 eI64 I, i6 E, i6 B, vb C], yU aE a0, .row 28 4 0 (ra cBx []), .cells 77 ((Za c).map .p)]
theorem Fa (c : ThingD) (j : BoxD) (i : Nat) (o : Tqq) (u : Bool) (A k G : Nat) (D : Oqq) (I : Iqq) (E B : Int) (C : Bool) (H : Iqq) {r : R_F32_4} (h : HB c u A k B C H = some r) : CS prg 50 [.ptr 2 0, vs c.text, i6 c.depth] [.cells 28 ((cBx j).map .p), yT i o, .cells 83 [sp u 2 0, .sl 3 A 1 0 k, .sl 1 i 7 0 G, ls 1 Zc D, ls 1 eI64 I, i6 E, i6 B, vb C], yU A H, .row 28 4 0 (ra cBx []), .cells 77 ((Za c).map .p)] = some (Cq c j i o u A k G D I E B C H r, Cr c j i o u A k G D I E B C H r) := by
 unfold HB at h
 apply bi h <;> intro h1 h
 ·
  rw [← sj h]
  exact fc [(8, .d true)] (av h1 apn)
 ·
  apply bi h <;> intro h2 h
  ·
   have k0 := ka [(8, .d false), (12, .d true)] (av h1 (av h2 apn))
   apply bn h; intro x3 h3 h
   have q1 := ((OG h3) : ixS (vs c.text) (i6 0) = some (vi .u8 (x3.toNat : Int)))
   apply bi h <;> intro h4 h
   ·
    have k2 := k0.a [(15, .v (vi .u8 (x3.toNat : Int))), (16, .d true)] (apc q1 (av h4 apn))
    apply bn h; intro x5 h5 h
    have q3 := (((F8 (⟨([32] : List UInt8).toArray⟩ : ByteArray) c.depth h5).cp rfl _) : CP prg 53 [(vs (⟨([32] : List UInt8).toArray⟩ : ByteArray)), i6 c.depth] (TI j i o u A k G D I E B C H c) = some (vs x5))
    apply bn h; intro r6 h6 h
    cases r6 with
    | k0 cc bJ cd ch =>
     have q4 := ((Kk x5 j i o u A k G D I E B C H c h6) : CS prg 52 [.ptr 2 0, vs x5] (TI j i o u A k G D I E B C H c) = some ((.tup [i6 cc, (.p (.val .nilIface))]), PO j i o bJ cd k x5 G D I E B C ch c))
     have k5 := k2.a [(22, .v (vs x5)), (23, .r (.tup [i6 cc, (.p (.val .nilIface))]) (PO j i o bJ cd k x5 G D I E B C ch c))] (apc q3 (apc q4 apn))
     apply bn h; intro r7 h7 h
     cases r7 with
     | k0 bf bh bj ce =>
      have q6 := ((PM c j i o bJ cd (k + (Zl x5).length) G D I E B C ch h7) : CS prg 52 [.ptr 2 0, vs c.text] (PO j i o bJ cd k x5 G D I E B C ch c) = some ((.tup [i6 bf, (.p (.val .nilIface))]), PP j i o bh bj k x5 c G D I E B C ce))
      have k7 := k5.a [(28, .r (.tup [i6 bf, (.p (.val .nilIface))]) (PP j i o bh bj k x5 c G D I E B C ce))] (apc q6 apn)
      apply bn h; intro x8 h8 h
      have q8 := (((PN c h8).cp rfl _) : CP prg 61 [vs c.text, vi .u8 10] (PP j i o bh bj k x5 c G D I E B C ce) = some (i6 x8))
      apply bi h <;> intro h9 h
      ·
       rw [← sj h]
       exact fc ([(30, .v (i6 x8)), (52, .d true)] ++ kH k7) (k7.b (apc q8 (av h9 apn)))
      ·
       have k9 := k7.a [(30, .v (i6 x8)), (52, .d false)] (apc q8 (av h9 apn))
       apply bi h <;> intro bq h
       ·
        rw [← sj h]
        exact fc ([(59, .d true)] ++ kH k9) (k9.b (av bq apn))
       ·
        rw [← sj h]
        exact fc ([(59, .d false)] ++ kH k9) (k9.b (av bq apn))
   ·
    have k10 := k0.a [(15, .v (vi .u8 (x3.toNat : Int))), (16, .d false)] (apc q1 (av h4 apn))
    apply bn h; intro r5 h5 h
    cases r5 with
    | k0 bu bb bo bm =>
     have cn := ((PM c j i o u A k G D I E B C H h5) : CS prg 52 [.ptr 2 0, vs c.text] (TI j i o u A k G D I E B C H c) = some ((.tup [i6 bu, (.p (.val .nilIface))]), PQ j i o bb bo k c G D I E B C bm))
     have k12 := k10.a [(28, .r (.tup [i6 bu, (.p (.val .nilIface))]) (PQ j i o bb bo k c G D I E B C bm))] (apc cn apn)
     apply bn h; intro x6 h6 h
     have cs := (((PN c h6).cp rfl _) : CP prg 61 [vs c.text, vi .u8 10] (PQ j i o bb bo k c G D I E B C bm) = some (i6 x6))
     apply bi h <;> intro h7 h
     ·
      rw [← sj h]
      exact fc ([(30, .v (i6 x6)), (52, .d true)] ++ kH k12) (k12.b (apc cs (av h7 apn)))
     ·
      have k14 := k12.a [(30, .v (i6 x6)), (52, .d false)] (apc cs (av h7 apn))
      apply bi h <;> intro h8 h
      ·
       rw [← sj h]
       exact fc ([(59, .d true)] ++ kH k14) (k14.b (av h8 apn))
      ·
       rw [← sj h]
       exact fc ([(59, .d false)] ++ kH k14) (k14.b (av h8 apn))
  ·
   have k15 := ka [(8, .d false), (12, .d false)] (av h1 (av h2 apn))
   apply bn h; intro r3 h3 h
   cases r3 with
   | k0 aG aD aE a0 =>
    have cN := ((PM c j i o u A k G D I E B C H h3) : CS prg 52 [.ptr 2 0, vs c.text] (TI j i o u A k G D I E B C H c) = some ((.tup [i6 aG, (.p (.val .nilIface))]), PS j i o aD aE k c G D I E B C a0))
    have k17 := k15.a [(28, .r (.tup [i6 aG, (.p (.val .nilIface))]) (PS j i o aD aE k c G D I E B C a0))] (apc cN apn)
    apply bn h; intro x4 h4 h
    have cy := (((PN c h4).cp rfl _) : CP prg 61 [vs c.text, vi .u8 10] (PS j i o aD aE k c G D I E B C a0) = some (i6 x4))
    apply bi h <;> intro h5 h
    ·
     rw [← sj h]
     exact fc ([(30, .v (i6 x4)), (52, .d true)] ++ kH k17) (k17.b (apc cy (av h5 apn)))
    ·
     have k19 := k17.a [(30, .v (i6 x4)), (52, .d false)] (apc cy (av h5 apn))
     apply bi h <;> intro h6 h
     ·
      rw [← sj h]
      exact fc ([(59, .d true)] ++ kH k19) (k19.b (av h6 apn))
     ·
      rw [← sj h]
      exact fc ([(59, .d false)] ++ kH k19) (k19.b (av h6 apn))
inductive E_L37_1 where
  | k0 (x0 x1 : Nat) (x2 : Tqq)
section
variable (c : Nat) (i o A : Int) (k : ThingD) (G : Int) (D : BoxD) (E : Bool) (B C H : Nat) (J : Oqq) (K : Iqq) (L N : Int) (M : Bool) (O : Iqq) (P : Nat) (S : Bqq) (T : ThingD)
def JK (w F : Nat) (x R : Int) (Q : Tqq) : Option (E_L37_1 ⊕ (Nat × Nat × Int × Int × Tqq)) :=
  (bif (decide (R < G)) then ((getI k.kids R).bind fun x2 => (bif (apOk F 1 Q.length 80) then (bif (decide (F + 1 ≤ Q.length)) then ((getI K x).bind fun x5 => (some (.inr (w, F + 1, (IntKind.wrap .i64 (x + x5)), (IntKind.wrap .i64 (R + 1)), (splice Q F [(⟨x2.kind, x2.text, x2.n, x2.kids, i, o, x⟩ : ThingD)]))))) else ((getI K x).bind fun x5 => (some (.inr ((w + 1), F + 1, (IntKind.wrap .i64 (x + x5)), (IntKind.wrap .i64 (R + 1)), (Q.take F ++ [(⟨x2.kind, x2.text, x2.n, x2.kids, i, o, x⟩ : ThingD)])))))) else none)) else (some (.inl (.k0 w F Q))))
def HC (w F : Nat) (x R : Int) (Q : Tqq) : St := ⟨fr 74 ug [(0, .ptr 2 0), (1, .sl 1 w 7 0 F), (3, i6 i), (4, i6 o), (11, i6 x), (12, i6 A), (24, (.p (.lst 4 (Zb k.kids)))), (25, i6 G), (26, i6 R)], [.cells 28 ((cBx D).map .p), yT w Q, .cells 83 [sp E 2 0, .sl 3 B 1 0 C, .sl 1 c 7 0 H, ls 1 Zc J, ls 1 eI64 K, i6 L, i6 N, vb M], yU B O, .row 28 4 P (ra cBx S), .cells 77 ((Za T).map .p), .cells 77 ((Za k).map .p), yT0]⟩
theorem MP (w F : Nat) (x R : Int) (Q : Tqq) : okT 8 (HC c i o A k G D E B C H J K L N M O P S T w F x R Q).h = true := (ZE rfl (ac (ar (Zv (Z8 rfl (Ze rfl (Ze rfl (Ze rfl (Ze rfl (Ze rfl (Ze rfl (Ze rfl rfl)))))))) (ar (ar (ac (ac (ar rfl)))))))))
abbrev UH (w F : Nat) (x R : Int) (Q : Tqq) := evH prg 8 [0, 1, 3, 4, 11, 12, 24, 25, 26, 1000199007707] XL (HC c i o A k G D E B C H J K L N M O P S T w F x R Q)
def MQ (e : E_L37_1) (r : Option (Out × St)) : Prop := match e with | .k0 x0 x1 x2 => ∃ g, r = some ((.brk 0), ⟨fr 74 g [(1, .sl 1 x0 7 0 x1), (12, i6 A), (24, (.p (.lst 4 (Zb k.kids))))], [.cells 28 ((cBx D).map .p), yT x0 x2, .cells 83 [sp E 2 0, .sl 3 B 1 0 C, .sl 1 c 7 0 H, ls 1 Zc J, ls 1 eI64 K, i6 L, i6 N, vb M], yU B O, .row 28 4 P (ra cBx S), .cells 77 ((Za T).map .p), .cells 77 ((Za k).map .p), yT0]⟩)
abbrev Kn (w : Nat) (Q : Tqq) (F : Nat) (x2 : BoxD) (x : Int) : List AB := [.cells 28 ((cBx D).map .p), yT w (splice Q F [(⟨x2.kind, x2.text, x2.n, x2.kids, i, o, x⟩ : ThingD)]), .cells 83 [sp E 2 0, .sl 3 B 1 0 C, .sl 1 c 7 0 H, ls 1 Zc J, ls 1 eI64 K, i6 L, i6 N, vb M], yU B O, .row 28 4 P (ra cBx S), .cells 77 ((Za T).map .p), .cells 77 ((Za k).map .p), yT0, .row 28 4 0 (ra cBx []), .cells 28 ((cBx x2).map .p), .row 77 7 0 [[i6 x2.kind, vs x2.text, i6 x2.n, (.p (.lst 4 (Zb x2.kids))), i6 i, i6 o, i6 x]]]
abbrev Ko (w : Nat) (Q : Tqq) (x2 : BoxD) (x : Int) : List AB := [.cells 28 ((cBx D).map .p), yT w Q, .cells 83 [sp E 2 0, .sl 3 B 1 0 C, .sl 1 c 7 0 H, ls 1 Zc J, ls 1 eI64 K, i6 L, i6 N, vb M], yU B O, .row 28 4 P (ra cBx S), .cells 77 ((Za T).map .p), .cells 77 ((Za k).map .p), yT0, .row 28 4 0 (ra cBx []), .cells 28 ((cBx x2).map .p), .row 77 7 0 [[i6 x2.kind, vs x2.text, i6 x2.n, (.p (.lst 4 (Zb x2.kids))), i6 i, i6 o, i6 x]]]
abbrev Kp (w : Nat) (Q : Tqq) (F : Nat) (x2 : BoxD) (x : Int) : List AB := [.cells 28 ((cBx D).map .p), yT (w + 1) (Q.take F ++ [(⟨x2.kind, x2.text, x2.n, x2.kids, i, o, x⟩ : ThingD)]), .cells 83 [sp E 2 0, .sl 3 B 1 0 C, .sl 1 c 7 0 H, ls 1 Zc J, ls 1 eI64 K, i6 L, i6 N, vb M], yU B O, .row 28 4 P (ra cBx S), .cells 77 ((Za T).map .p), .cells 77 ((Za k).map .p), yT0, .row 28 4 0 (ra cBx []), .cells 28 ((cBx x2).map .p), .row 77 7 0 [[i6 x2.kind, vs x2.text, i6 x2.n, (.p (.lst 4 (Zb x2.kids))), i6 i, i6 o, i6 x]]]
theorem Fb (w F : Nat) (x R : Int) (Q : Tqq) {r : E_L37_1 ⊕ (Nat × Nat × Int × Int × Tqq)} (h : JK i o k G K w F x R Q = some r) : OkR (fun e => MQ c A k D E B C H J K L N M O P S T e (UH c i o A k G D E B C H J K L N M O P S T w F x R Q)) (fun s => UH c i o A k G D E B C H J K L N M O P S T w F x R Q = UH c i o A k G D E B C H J K L N M O P S T s.1 s.2.1 s.2.2.1 s.2.2.2.1 s.2.2.2.2) r := by
 unfold JK at h
 apply bi h <;> intro h1 h
 ·
  apply bn h; intro x2 h2 h
  have q0 := ((igr ZF h2) : idxA 4 (.p (.lst 4 (Zb k.kids))) (i6 R) = some (.ro (cBx x2)))
  have k1 := ka [(27, .d true), (28, .v (.ro (cBx x2)))] (av h1 (apc q0 apn))
  apply bi h <;> intro h3 h
  ·
   apply bi h <;> intro h4 h
   ·
    apply bn h; intro x5 h5 h
    rw [← sj h]
    exact rn ([(37, .r (.sl 1 w 7 0 (F + 1)) (Kn c i o k D E B C H J K L N M O P S T w Q F x2 x)), (44, .v (.ro [.val (.int .i64 x5)])), (6000, .d true)] ++ kH k1) (k1.b (apc ((X0 (e := Za) (xs := Q) (news := [(⟨x2.kind, x2.text, x2.n, x2.kids, i, o, x⟩ : ThingD)]) rfl (ZA (e := Za) (xs := [(⟨x2.kind, x2.text, x2.n, x2.kids, i, o, x⟩ : ThingD)]) rfl) rfl h3 h4) : appA (Ko c i o k D E B C H J K L N M O P S T w Q x2 x) 77 7 80 (.sl 1 w 7 0 F) (.sl 10 0 7 0 1) = some ((.sl 1 w 7 0 (F + 1)), Kn c i o k D E B C H J K L N M O P S T w Q F x2 x)) (apc (ig eI64 1 .i64 h5) (apc (MP c i o A k G D E B C H J K L N M O P S T w (F + 1) (w6 (x + x5)) (w6 (R + 1)) (splice Q F [(⟨x2.kind, x2.text, x2.n, x2.kids, i, o, x⟩ : ThingD)])) apn))))
   ·
    apply bn h; intro x5 h5 h
    rw [← sj h]
    exact rn ([(37, .r (.sl 1 (w + 1) 7 0 (F + 1)) (Kp c i o k D E B C H J K L N M O P S T w Q F x2 x)), (44, .v (.ro [.val (.int .i64 x5)])), (6000, .d true)] ++ kH k1) (k1.b (apc ((Yk (e := Za) (xs := Q) (news := [(⟨x2.kind, x2.text, x2.n, x2.kids, i, o, x⟩ : ThingD)]) rfl (ZA (e := Za) (xs := [(⟨x2.kind, x2.text, x2.n, x2.kids, i, o, x⟩ : ThingD)]) rfl) rfl h3 h4) : appA (Ko c i o k D E B C H J K L N M O P S T w Q x2 x) 77 7 80 (.sl 1 w 7 0 F) (.sl 10 0 7 0 1) = some ((.sl 1 (w + 1) 7 0 (F + 1)), Kp c i o k D E B C H J K L N M O P S T w Q F x2 x)) (apc (ig eI64 1 .i64 h5) (apc (MP c i o A k G D E B C H J K L N M O P S T (w + 1) (F + 1) (w6 (x + x5)) (w6 (R + 1)) (Q.take F ++ [(⟨x2.kind, x2.text, x2.n, x2.kids, i, o, x⟩ : ThingD)])) apn))))
  ·
   cases h
 ·
  rw [← sj h]
  exact xb [(27, .d false), (6000, .d true)] (av h1 apn)
theorem HD (s0 : Nat × Nat × Int × Int × Tqq) (e : E_L37_1) (h : runL (fun s => JK i o k G K s.1 s.2.1 s.2.2.1 s.2.2.2.1 s.2.2.2.2) s0 = some e) : MQ c A k D E B C H J K L N M O P S T e (UH c i o A k G D E B C H J K L N M O P S T s0.1 s0.2.1 s0.2.2.1 s0.2.2.2.1 s0.2.2.2.2) := by
  have q := @Zg (Nat × Nat × Int × Int × Tqq) E_L37_1 (fun s => JK i o k G K s.1 s.2.1 s.2.2.1 s.2.2.2.1 s.2.2.2.2) (fun s => UH c i o A k G D E B C H J K L N M O P S T s.1 s.2.1 s.2.2.1 s.2.2.2.1 s.2.2.2.2) (MQ c A k D E B C H J K L N M O P S T) (fun s r h => Fb c i o A k G D E B C H J K L N M O P S T s.1 s.2.1 s.2.2.1 s.2.2.2.1 s.2.2.2.2 h) s0 e h
  exact q
end
inductive E_L37_0 where
  | k0 (x0 : Tqq)
section
variable (c j : Nat) (u : BoxD) (k : Bool) (G D I E : Nat) (B : Oqq) (C : Iqq) (H J : Int) (K : Bool) (L : Iqq) (N : Nat) (M : Bqq) (O P : ThingD)
def JL (w F : Int) (x : Tqq) : Option (E_L37_0 ⊕ (Int × Int × Tqq)) :=
  (bif (decide (w < F)) then ((ixN j F).bind fun x2 => ((x[x2]?).bind fun x3 => ((ixN j w).bind fun x4 => ((x[x4]?).bind fun x5 => (((x.set x4 (⟨x3.kind, x3.text, x3.n, x3.kids, x3.depth, x3.way, x3.at_⟩ : ThingD))[x2]?).bind fun x6 => (some (.inr ((IntKind.wrap .i64 (w + 1)), (IntKind.wrap .i64 (F - 1)), ((x.set x4 (⟨x3.kind, x3.text, x3.n, x3.kids, x3.depth, x3.way, x3.at_⟩ : ThingD)).set x2 (⟨x5.kind, x5.text, x5.n, x5.kids, x5.depth, x5.way, x5.at_⟩ : ThingD)))))))))) else (some (.inl (.k0 x))))
def HE (w F : Int) (x : Tqq) : St := ⟨fr 74 ug [(1, .sl 1 c 7 0 j), (15, i6 w), (16, i6 F)], [.cells 28 ((cBx u).map .p), yT c x, .cells 83 [sp k 2 0, .sl 3 G 1 0 D, .sl 1 I 7 0 E, ls 1 Zc B, ls 1 eI64 C, i6 H, i6 J, vb K], yU G L, .row 28 4 N (ra cBx M), .cells 77 ((Za O).map .p), .cells 77 ((Za P).map .p), yT0]⟩
theorem HF (w F : Int) (x : Tqq) : okT 8 (HE c j u k G D I E B C H J K L N M O P w F x).h = true := (ZE rfl (ac (ar (Zv (Z8 rfl (Ze rfl (Ze rfl (Ze rfl (Ze rfl (Ze rfl (Ze rfl (Ze rfl rfl)))))))) (ar (ar (ac (ac (ar rfl)))))))))
abbrev UI (w F : Int) (x : Tqq) := evH prg 8 [1, 15, 16] XK (HE c j u k G D I E B C H J K L N M O P w F x)
def MR (e : E_L37_0) (r : Option (Out × St)) : Prop := match e with | .k0 x0 => ∃ g, r = some ((.brk 2), ⟨fr 74 g [(1, .sl 1 c 7 0 j)], [.cells 28 ((cBx u).map .p), yT c x0, .cells 83 [sp k 2 0, .sl 3 G 1 0 D, .sl 1 I 7 0 E, ls 1 Zc B, ls 1 eI64 C, i6 H, i6 J, vb K], yU G L, .row 28 4 N (ra cBx M), .cells 77 ((Za O).map .p), .cells 77 ((Za P).map .p), yT0]⟩)
abbrev PT (x : Tqq) (x4 : Nat) (x3 : ThingD) : List AB := [.cells 28 ((cBx u).map .p), yT c (x.set x4 (⟨x3.kind, x3.text, x3.n, x3.kids, x3.depth, x3.way, x3.at_⟩ : ThingD)), .cells 83 [sp k 2 0, .sl 3 G 1 0 D, .sl 1 I 7 0 E, ls 1 Zc B, ls 1 eI64 C, i6 H, i6 J, vb K], yU G L, .row 28 4 N (ra cBx M), .cells 77 ((Za O).map .p), .cells 77 ((Za P).map .p), yT0]
abbrev Kq (x : Tqq) (x4 : Nat) (x3 : ThingD) (x2 : Nat) (x5 : ThingD) : List AB := [.cells 28 ((cBx u).map .p), yT c ((x.set x4 (⟨x3.kind, x3.text, x3.n, x3.kids, x3.depth, x3.way, x3.at_⟩ : ThingD)).set x2 (⟨x5.kind, x5.text, x5.n, x5.kids, x5.depth, x5.way, x5.at_⟩ : ThingD)), .cells 83 [sp k 2 0, .sl 3 G 1 0 D, .sl 1 I 7 0 E, ls 1 Zc B, ls 1 eI64 C, i6 H, i6 J, vb K], yU G L, .row 28 4 N (ra cBx M), .cells 77 ((Za O).map .p), .cells 77 ((Za P).map .p), yT0]
abbrev PU (x : Tqq) : List AB := [.cells 28 ((cBx u).map .p), yT c x, .cells 83 [sp k 2 0, .sl 3 G 1 0 D, .sl 1 I 7 0 E, ls 1 Zc B, ls 1 eI64 C, i6 H, i6 J, vb K], yU G L, .row 28 4 N (ra cBx M), .cells 77 ((Za O).map .p), .cells 77 ((Za P).map .p), yT0]
theorem Fc (w F : Int) (x : Tqq) {r : E_L37_0 ⊕ (Int × Int × Tqq)} (h : JL j w F x = some r) : OkR (fun e => MR c j u k G D I E B C H J K L N M O P e (UI c j u k G D I E B C H J K L N M O P w F x)) (fun s => UI c j u k G D I E B C H J K L N M O P w F x = UI c j u k G D I E B C H J K L N M O P s.1 s.2.1 s.2.2) r := by
 unfold JL at h
 apply bi h <;> intro h1 h
 ·
  apply bn h; intro x2 h2 h
  have q0 := ((ZP h2) : idxA 7 (.sl 1 c 7 0 j) (i6 F) = some (.rp 1 c 7 x2 0))
  apply bn h; intro x3 h3 h
  apply bn h; intro x4 h4 h
  have q1 := ((ZP h4) : idxA 7 (.sl 1 c 7 0 j) (i6 w) = some (.rp 1 c 7 x4 0))
  apply bn h; intro x5 h5 h
  apply bn h; intro x6 h6 h
  rw [← sj h]
  exact rn [(54, .d true), (65, .v (.rp 1 c 7 x2 0)), (66, .v (.agg ((Za x3).map .p))), (69, .v (.rp 1 c 7 x4 0)), (70, .v (.agg ((Za x5).map .p))), (71, .v (.rp 1 c 7 x4 0)), (1071, .r ud (PT c u k G D I E B C H J K L N M O P x x4 x3)), (72, .v (.rp 1 c 7 x2 0)), (1072, .r ud (Kq c u k G D I E B C H J K L N M O P x x4 x3 x2 x5)), (6000, .d true)] (av h1 (apc q0 (apc ((Z6 rfl h3 rfl) : ldA (PU c u k G D I E B C H J K L N M O P x) .true 7 (.rp 1 c 7 x2 0) = some (.agg ((Za x3).map .p))) (apc q1 (apc ((Z6 rfl h5 rfl) : ldA (PU c u k G D I E B C H J K L N M O P x) .true 7 (.rp 1 c 7 x4 0) = some (.agg ((Za x5).map .p))) (apc q1 (apc (⟨ZZ (v' := (⟨x3.kind, x3.text, x3.n, x3.kids, x3.depth, x3.way, x3.at_⟩ : ThingD)) rfl h5 rfl rfl (Nat.le_of_ble_eq_true rfl) rfl, rfl⟩ : stA (PU c u k G D I E B C H J K L N M O P x) 7 (.rp 1 c 7 x4 0) (.agg ((Za x3).map .p)) = some (PT c u k G D I E B C H J K L N M O P x x4 x3) ∧ ud = ud) (apc q0 (apc (⟨ZZ (v' := (⟨x5.kind, x5.text, x5.n, x5.kids, x5.depth, x5.way, x5.at_⟩ : ThingD)) rfl h6 rfl rfl (Nat.le_of_ble_eq_true rfl) rfl, rfl⟩ : stA (PT c u k G D I E B C H J K L N M O P x x4 x3) 7 (.rp 1 c 7 x2 0) (.agg ((Za x5).map .p)) = some (Kq c u k G D I E B C H J K L N M O P x x4 x3 x2 x5) ∧ ud = ud) (apc (HF c j u k G D I E B C H J K L N M O P (w6 (w + 1)) (w6 (F - 1)) ((x.set x4 (⟨x3.kind, x3.text, x3.n, x3.kids, x3.depth, x3.way, x3.at_⟩ : ThingD)).set x2 (⟨x5.kind, x5.text, x5.n, x5.kids, x5.depth, x5.way, x5.at_⟩ : ThingD))) apn))))))))))
 ·
  rw [← sj h]
  exact xb [(54, .d false), (6000, .d true)] (av h1 apn)
theorem HG (s0 : Int × Int × Tqq) (e : E_L37_0) (h : runL (fun s => JL j s.1 s.2.1 s.2.2) s0 = some e) : MR c j u k G D I E B C H J K L N M O P e (UI c j u k G D I E B C H J K L N M O P s0.1 s0.2.1 s0.2.2) := by
  have q := @Zg (Int × Int × Tqq) E_L37_0 (fun s => JL j s.1 s.2.1 s.2.2) (fun s => UI c j u k G D I E B C H J K L N M O P s.1 s.2.1 s.2.2) (MR c j u k G D I E B C H J K L N M O P) (fun s r h => Fc c j u k G D I E B C H J K L N M O P s.1 s.2.1 s.2.2 h) s0 e h
  exact q
end
inductive R_F37 where
  | k0 (x0 x1 : Nat) (x2 : Tqq)
def AC (c j : Nat) (i : ThingD) (o u : Int) (A : BoxD) (k : Tqq) (G : Bool) (D I E : Nat) (B : Oqq) (C : Iqq) (H J : Int) (K : Bool) (L : Iqq) (N : Nat) (M : Bqq) (O : ThingD) (r : R_F37) : AV := match r with | .k0 x0 x1 x2 => (.sl 1 x0 7 0 x1)
def AD (c j : Nat) (i : ThingD) (o u : Int) (A : BoxD) (k : Tqq) (G : Bool) (D I E : Nat) (B : Oqq) (C : Iqq) (H J : Int) (K : Bool) (L : Iqq) (N : Nat) (M : Bqq) (O : ThingD) (r : R_F37) : List AB := match r with | .k0 x0 x1 x2 => [.cells 28 ((cBx A).map .p), yT x0 x2, .cells 83 [sp G 2 0, .sl 3 D 1 0 I, .sl 1 c 7 0 E, ls 1 Zc B, ls 1 eI64 C, i6 H, i6 J, vb K], yU D L, .row 28 4 N (ra cBx M), .cells 77 ((Za O).map .p), .cells 77 ((Za i).map .p), yT0]
def F37 (c j : Nat) (i : ThingD) (o u : Int) (k : Tqq) (C : Iqq) : Option R_F37 :=
  ((runL (fun s => JK o u i (i.kids.length : Int) C s.1 s.2.1 s.2.2.1 s.2.2.2.1 s.2.2.2.2) (c, j, (IntKind.wrap .i64 (i.at_ + 1)), 0, k)).bind fun r1 => match r1 with | .k0 ak aj an => ((runL (fun s => JL aj s.1 s.2.1 s.2.2) (((j : Nat) : Int), (IntKind.wrap .i64 (((aj : Nat) : Int) - 1)), an)).bind fun r2 => match r2 with | .k0 ao => (some (.k0 ak aj ao))))
abbrev Ej (g1 : Nat → AV) (ak aj j : Nat) (i : ThingD) (A : BoxD) (an : Tqq) (G : Bool) (D I c E : Nat) (B : Oqq) (C : Iqq) (H J : Int) (K : Bool) (L : Iqq) (N : Nat) (M : Bqq) (O : ThingD) : St := ⟨fr 74 g1 [(1, .sl 1 ak 7 0 aj), (12, (i6 ((j : Nat) : Int))), (24, (.p (.lst 4 (Zb i.kids))))], [.cells 28 ((cBx A).map .p), yT ak an, .cells 83 [sp G 2 0, .sl 3 D 1 0 I, .sl 1 c 7 0 E, ls 1 Zc B, ls 1 eI64 C, i6 H, i6 J, vb K], yU D L, .row 28 4 N (ra cBx M), .cells 77 ((Za O).map .p), .cells 77 ((Za i).map .p), yT0]⟩
abbrev Ek (g2 : Nat → AV) (ak aj : Nat) (A : BoxD) (ao : Tqq) (G : Bool) (D I c E : Nat) (B : Oqq) (C : Iqq) (H J : Int) (K : Bool) (L : Iqq) (N : Nat) (M : Bqq) (O i : ThingD) : St := ⟨fr 74 g2 [(1, .sl 1 ak 7 0 aj)], [.cells 28 ((cBx A).map .p), yT ak ao, .cells 83 [sp G 2 0, .sl 3 D 1 0 I, .sl 1 c 7 0 E, ls 1 Zc B, ls 1 eI64 C, i6 H, i6 J, vb K], yU D L, .row 28 4 N (ra cBx M), .cells 77 ((Za O).map .p), .cells 77 ((Za i).map .p), yT0]⟩
theorem Qu (c j : Nat) (i : ThingD) (o u : Int) (A : BoxD) (k : Tqq) (G : Bool) (D I E : Nat) (B : Oqq) (C : Iqq) (H J : Int) (K : Bool) (L : Iqq) (N : Nat) (M : Bqq) (O : ThingD) {r : R_F37} (h : F37 c j i o u k C = some r) : CS prg 55 [.ptr 2 0, .sl 1 c 7 0 j, (.agg ((Za i).map .p)), i6 o, i6 u] [.cells 28 ((cBx A).map .p), yT c k, .cells 83 [sp G 2 0, .sl 3 D 1 0 I, .sl 1 c 7 0 E, ls 1 Zc B, ls 1 eI64 C, i6 H, i6 J, vb K], yU D L, .row 28 4 N (ra cBx M), .cells 77 ((Za O).map .p)] = some (AC c j i o u A k G D I E B C H J K L N M O r, AD c j i o u A k G D I E B C H J K L N M O r) := by
 unfold F37 at h
 apply bn h; intro r1 h1 h
 cases r1 with
 | k0 ak aj an =>
  obtain ⟨g1, e1⟩ := HD c o u ((j : Nat) : Int) i (i.kids.length : Int) A G D I E B C H J K L N M O (c, j, (w6 (i.at_ + 1)), 0, k) _ h1
  apply bn h; intro r2 h2 h
  cases r2 with
  | k0 ao =>
   obtain ⟨g2, e2⟩ := HG ak aj A G D I c E B C H J K L N M O i (((j : Nat) : Int), (w6 (((aj : Nat) : Int) - 1)), an) _ h2
   rw [← sj h]
   exact fc [(25, .v (i6 (i.kids.length : Int))), (2000, .l (.brk 0) (Ej g1 ak aj j i A an G D I c E B C H J K L N M O)), (2002, .l (.brk 2) (Ek g2 ak aj A ao G D I c E B C H J K L N M O i)), (6000, .d true)] (apc ((lgr ZF) : lnA (.p (.lst 4 (Zb i.kids))) = some (i6 (i.kids.length : Int))) (apc (MP c o u ((j : Nat) : Int) i (i.kids.length : Int) A G D I E B C H J K L N M O c j (w6 (i.at_ + 1)) 0 k) (apc (e1 : UH c o u ((j : Nat) : Int) i (i.kids.length : Int) A G D I E B C H J K L N M O c j (w6 (i.at_ + 1)) 0 k = some ((.brk 0), Ej g1 ak aj j i A an G D I c E B C H J K L N M O)) (apc (HF ak aj A G D I c E B C H J K L N M O i ((j : Nat) : Int) (w6 (((aj : Nat) : Int) - 1)) an) (apc (e2 : UI ak aj A G D I c E B C H J K L N M O i ((j : Nat) : Int) (w6 (((aj : Nat) : Int) - 1)) an = some ((.brk 2), Ek g2 ak aj A ao G D I c E B C H J K L N M O i)) apn)))))
inductive R_F41_3 where
  | k0 (x0 : Bool) (x1 : Nat) (x2 : Iqq)
def Cs (c : BoxD) (j : Nat) (i : Tqq) (o : Bool) (u A k : Nat) (G : Oqq) (D : Iqq) (I E : Int) (B : Bool) (C : Iqq) (H : ThingD) (r : R_F41_3) : AV := match r with | .k0 x0 x1 x2 => (.p (.val .nilIface))
def Ct (c : BoxD) (j : Nat) (i : Tqq) (o : Bool) (u A k : Nat) (G : Oqq) (D : Iqq) (I E : Int) (B : Bool) (C : Iqq) (H : ThingD) (r : R_F41_3) : List AB := match r with | .k0 x0 x1 x2 => [.cells 28 ((cBx c).map .p), yT j i, .cells 83 [sp x0 2 0, (.sl 3 x1 1 0 (A + 1)), .sl 1 j 7 0 k, ls 1 Zc G, ls 1 eI64 D, i6 I, i6 E, vb B], yU x1 x2, .row 28 4 0 (ra cBx []), .cells 77 ((Za H).map .p), .row 5 1 0 [[vi .u8 10]]]
def Fd (o : Bool) (u A : Nat) (C : Iqq) : Option R_F41_3 :=
  ((MN o).bind fun x1 => (bif (apOk A 1 C.length 1) then (bif (decide (A + 1 ≤ C.length)) then (some (.k0 x1 u (splice C A [10]))) else (some (.k0 x1 (u + 1) (C.take A ++ [10])))) else none))
abbrev Kr (c : BoxD) (j : Nat) (i : Tqq) (x1 : Bool) (u A k : Nat) (G : Oqq) (D : Iqq) (I E : Int) (B : Bool) (C : Iqq) (H : ThingD) : List AB := [.cells 28 ((cBx c).map .p), yT j i, .cells 83 [sp x1 2 0, .sl 3 u 1 0 A, .sl 1 j 7 0 k, ls 1 Zc G, ls 1 eI64 D, i6 I, i6 E, vb B], yU u C, .row 28 4 0 (ra cBx []), .cells 77 ((Za H).map .p)]
abbrev Ks (c : BoxD) (j : Nat) (i : Tqq) (x1 : Bool) (u A k : Nat) (G : Oqq) (D : Iqq) (I E : Int) (B : Bool) (C : Iqq) (H : ThingD) : List AB := [.cells 28 ((cBx c).map .p), yT j i, .cells 83 [sp x1 2 0, .sl 3 u 1 0 A, .sl 1 j 7 0 k, ls 1 Zc G, ls 1 eI64 D, i6 I, i6 E, vb B], yU u (splice C A [10]), .row 28 4 0 (ra cBx []), .cells 77 ((Za H).map .p), .row 5 1 0 [[vi .u8 10]]]
abbrev Kt (c : BoxD) (j : Nat) (i : Tqq) (x1 : Bool) (u A k : Nat) (G : Oqq) (D : Iqq) (I E : Int) (B : Bool) (C : Iqq) (H : ThingD) : List AB := [.cells 28 ((cBx c).map .p), yT j i, .cells 83 [sp x1 2 0, .sl 3 u 1 0 A, .sl 1 j 7 0 k, ls 1 Zc G, ls 1 eI64 D, i6 I, i6 E, vb B], yU u C, .row 28 4 0 (ra cBx []), .cells 77 ((Za H).map .p), .row 5 1 0 [[vi .u8 10]]]
abbrev Ku (c : BoxD) (j : Nat) (i : Tqq) (x1 : Bool) (u A k : Nat) (G : Oqq) (D : Iqq) (I E : Int) (B : Bool) (C : Iqq) (H : ThingD) : List AB := [.cells 28 ((cBx c).map .p), yT j i, .cells 83 [sp x1 2 0, .sl 3 u 1 0 A, .sl 1 j 7 0 k, ls 1 Zc G, ls 1 eI64 D, i6 I, i6 E, vb B], yU (u + 1) (C.take A ++ [10]), .row 28 4 0 (ra cBx []), .cells 77 ((Za H).map .p), .row 5 1 0 [[vi .u8 10]]]
theorem Fe (c : BoxD) (j : Nat) (i : Tqq) (o : Bool) (u A k : Nat) (G : Oqq) (D : Iqq) (I E : Int) (B : Bool) (C : Iqq) (H : ThingD) {r : R_F41_3} (h : Fd o u A C = some r) : CS prg 62 [.ptr 2 0, vi .u8 10] [.cells 28 ((cBx c).map .p), yT j i, .cells 83 [sp o 2 0, .sl 3 u 1 0 A, .sl 1 j 7 0 k, ls 1 Zc G, ls 1 eI64 D, i6 I, i6 E, vb B], yU u C, .row 28 4 0 (ra cBx []), .cells 77 ((Za H).map .p)] = some (Cs c j i o u A k G D I E B C H r, Ct c j i o u A k G D I E B C H r) := by
 unfold Fd at h
 apply bn h; intro x1 h1 h
 have q0 := ((PL c j i o u A k G D I E B C H h1) : CS prg 63 [.ptr 2 0] [.cells 28 ((cBx c).map .p), yT j i, .cells 83 [sp o 2 0, .sl 3 u 1 0 A, .sl 1 j 7 0 k, ls 1 Zc G, ls 1 eI64 D, i6 I, i6 E, vb B], yU u C, .row 28 4 0 (ra cBx []), .cells 77 ((Za H).map .p)] = some ((.tup []), Kr c j i x1 u A k G D I E B C H))
 have k1 := ka [(6, .r (.tup []) (Kr c j i x1 u A k G D I E B C H))] (apc q0 apn)
 apply bi h <;> intro h2 h
 ·
  apply bi h <;> intro h3 h
  ·
   rw [← sj h]
   exact fc ([(14, .r (.sl 3 u 1 0 (A + 1)) (Ks c j i x1 u A k G D I E B C H))] ++ kH k1) (k1.b (apc ((X0 (e := eU8) (xs := C) (news := [10]) rfl (ZA (e := eU8) (xs := [10]) rfl) rfl h2 h3) : appA (Kt c j i x1 u A k G D I E B C H) 5 1 1 (.sl 3 u 1 0 A) (.sl 6 0 1 0 1) = some ((.sl 3 u 1 0 (A + 1)), Ks c j i x1 u A k G D I E B C H)) apn))
  ·
   rw [← sj h]
   exact fc ([(14, .r (.sl 3 (u + 1) 1 0 (A + 1)) (Ku c j i x1 u A k G D I E B C H))] ++ kH k1) (k1.b (apc ((Yk (e := eU8) (xs := C) (news := [10]) rfl (ZA (e := eU8) (xs := [10]) rfl) rfl h2 h3) : appA (Kt c j i x1 u A k G D I E B C H) 5 1 1 (.sl 3 u 1 0 A) (.sl 6 0 1 0 1) = some ((.sl 3 (u + 1) 1 0 (A + 1)), Ku c j i x1 u A k G D I E B C H)) apn))
 ·
  cases h
inductive R_F33_4 where
  | k0 (x0 : Bool) (x1 : Nat) (x2 : Iqq)
def Cu (c : ThingD) (j : BoxD) (i : Nat) (o : Tqq) (u : Bool) (A k G : Nat) (D : Oqq) (I : Iqq) (E B : Int) (C : Bool) (H : Iqq) (r : R_F33_4) : AV := match r with | .k0 x0 x1 x2 => (.tup [])
def Cv (c : ThingD) (j : BoxD) (i : Nat) (o : Tqq) (u : Bool) (A k G : Nat) (D : Oqq) (I : Iqq) (E B : Int) (C : Bool) (H : Iqq) (r : R_F33_4) : List AB := match r with | .k0 x0 x1 x2 => [.cells 28 ((cBx j).map .p), yT i o, .cells 83 [sp x0 2 0, (.sl 3 x1 1 0 (k + 1)), .sl 1 i 7 0 G, ls 1 Zc D, ls 1 eI64 I, i6 E, i6 c.depth, vb true], yU x1 x2, .row 28 4 0 (ra cBx []), .cells 77 ((Za c).map .p), .row 5 1 0 [[vi .u8 10]]]
def JM (u : Bool) (A k : Nat) (H : Iqq) : Option R_F33_4 :=
  ((Fd u A k H).bind fun r1 => match r1 with | .k0 ak aj an => (some (.k0 ak aj an)))
abbrev Kv (j : BoxD) (i : Nat) (o : Tqq) (ak : Bool) (aj k G : Nat) (D : Oqq) (I : Iqq) (E B : Int) (C : Bool) (an : Iqq) (c : ThingD) : List AB := [.cells 28 ((cBx j).map .p), yT i o, .cells 83 [sp ak 2 0, (.sl 3 aj 1 0 (k + 1)), .sl 1 i 7 0 G, ls 1 Zc D, ls 1 eI64 I, i6 E, i6 B, vb C], yU aj an, .row 28 4 0 (ra cBx []), .cells 77 ((Za c).map .p), .row 5 1 0 [[vi .u8 10]]]
theorem Kw (c : ThingD) (j : BoxD) (i : Nat) (o : Tqq) (u : Bool) (A k G : Nat) (D : Oqq) (I : Iqq) (E B : Int) (C : Bool) (H : Iqq) {r : R_F33_4} (h : JM u A k H = some r) : CS prg 51 [.ptr 2 0, i6 c.depth] [.cells 28 ((cBx j).map .p), yT i o, .cells 83 [sp u 2 0, .sl 3 A 1 0 k, .sl 1 i 7 0 G, ls 1 Zc D, ls 1 eI64 I, i6 E, i6 B, vb C], yU A H, .row 28 4 0 (ra cBx []), .cells 77 ((Za c).map .p)] = some (Cu c j i o u A k G D I E B C H r, Cv c j i o u A k G D I E B C H r) := by
 unfold JM at h
 apply bn h; intro r1 h1 h
 cases r1 with
 | k0 ak aj an =>
  rw [← sj h]
  exact fc [(7, .r (.p (.val .nilIface)) (Kv j i o ak aj k G D I E B C an c))] (apc ((Fe j i o u A k G D I E B C H c h1) : CS prg 62 [.ptr 2 0, vi .u8 10] [.cells 28 ((cBx j).map .p), yT i o, .cells 83 [sp u 2 0, .sl 3 A 1 0 k, .sl 1 i 7 0 G, ls 1 Zc D, ls 1 eI64 I, i6 E, i6 B, vb C], yU A H, .row 28 4 0 (ra cBx []), .cells 77 ((Za c).map .p)] = some ((.p (.val .nilIface)), Kv j i o ak aj k G D I E B C an c)) apn)
inductive E_L37_1_10 where
  | k0 (x0 x1 : Nat) (x2 : Tqq)
section
variable (c : Nat) (i o A : Int) (k : ThingD) (G : Int) (D : BoxD) (E : Bool) (B C H : Nat) (J : Oqq) (K : Iqq) (L N : Int) (M : Iqq) (O : Nat) (P : Bqq) (S : ThingD) (T : Nat) (U : Int)
def WW (w F : Nat) (x R : Int) (Q : Tqq) : Option (E_L37_1_10 ⊕ (Nat × Nat × Int × Int × Tqq)) :=
  (bif (decide (R < G)) then ((getI k.kids R).bind fun x2 => (bif (apOk F 1 Q.length 80) then (bif (decide (F + 1 ≤ Q.length)) then ((getI K x).bind fun x5 => (some (.inr (w, F + 1, (IntKind.wrap .i64 (x + x5)), (IntKind.wrap .i64 (R + 1)), (splice Q F [(⟨x2.kind, x2.text, x2.n, x2.kids, i, o, x⟩ : ThingD)]))))) else ((getI K x).bind fun x5 => (some (.inr ((w + 1), F + 1, (IntKind.wrap .i64 (x + x5)), (IntKind.wrap .i64 (R + 1)), (Q.take F ++ [(⟨x2.kind, x2.text, x2.n, x2.kids, i, o, x⟩ : ThingD)])))))) else none)) else (some (.inl (.k0 w F Q))))
def Qv (w F : Nat) (x R : Int) (Q : Tqq) : St := ⟨fr 74 ug [(0, .ptr 2 0), (1, .sl 1 w 7 0 F), (3, i6 i), (4, i6 o), (11, i6 x), (12, i6 A), (24, (.p (.lst 4 (Zb k.kids)))), (25, i6 G), (26, i6 R)], [.cells 28 ((cBx D).map .p), yT w Q, .cells 83 [sp E 2 0, .sl 3 B 1 0 C, .sl 1 c 7 0 H, ls 1 Zc J, ls 1 eI64 K, i6 L, i6 N, vb true], yU B M, .row 28 4 O (ra cBx P), .cells 77 ((Za S).map .p), .row 5 1 T [[vi .u8 U]], .cells 77 ((Za k).map .p), yT0]⟩
theorem UJ (w F : Nat) (x R : Int) (Q : Tqq) : okT 9 (Qv c i o A k G D E B C H J K L N M O P S T U w F x R Q).h = true := (ZE rfl (ac (ar (Zv (Z8 rfl (Ze rfl (Ze rfl (Ze rfl (Ze rfl (Ze rfl (Ze rfl (Ze rfl rfl)))))))) (ar (ar (ac (ac (ac (ar rfl))))))))))
abbrev YY (w F : Nat) (x R : Int) (Q : Tqq) := evH prg 9 [0, 1, 3, 4, 11, 12, 24, 25, 26, 1000199007707] XL (Qv c i o A k G D E B C H J K L N M O P S T U w F x R Q)
def UK (e : E_L37_1_10) (r : Option (Out × St)) : Prop := match e with | .k0 x0 x1 x2 => ∃ g, r = some ((.brk 0), ⟨fr 74 g [(1, .sl 1 x0 7 0 x1), (12, i6 A), (24, (.p (.lst 4 (Zb k.kids))))], [.cells 28 ((cBx D).map .p), yT x0 x2, .cells 83 [sp E 2 0, .sl 3 B 1 0 C, .sl 1 c 7 0 H, ls 1 Zc J, ls 1 eI64 K, i6 L, i6 N, vb true], yU B M, .row 28 4 O (ra cBx P), .cells 77 ((Za S).map .p), .row 5 1 T [[vi .u8 U]], .cells 77 ((Za k).map .p), yT0]⟩)
abbrev SY (w : Nat) (Q : Tqq) (F : Nat) (x2 : BoxD) (x : Int) : List AB := [.cells 28 ((cBx D).map .p), yT w (splice Q F [(⟨x2.kind, x2.text, x2.n, x2.kids, i, o, x⟩ : ThingD)]), .cells 83 [sp E 2 0, .sl 3 B 1 0 C, .sl 1 c 7 0 H, ls 1 Zc J, ls 1 eI64 K, i6 L, i6 N, vb true], yU B M, .row 28 4 O (ra cBx P), .cells 77 ((Za S).map .p), .row 5 1 T [[vi .u8 U]], .cells 77 ((Za k).map .p), yT0, .row 28 4 0 (ra cBx []), .cells 28 ((cBx x2).map .p), .row 77 7 0 [[i6 x2.kind, vs x2.text, i6 x2.n, (.p (.lst 4 (Zb x2.kids))), i6 i, i6 o, i6 x]]]
abbrev SZ (w : Nat) (Q : Tqq) (x2 : BoxD) (x : Int) : List AB := [.cells 28 ((cBx D).map .p), yT w Q, .cells 83 [sp E 2 0, .sl 3 B 1 0 C, .sl 1 c 7 0 H, ls 1 Zc J, ls 1 eI64 K, i6 L, i6 N, vb true], yU B M, .row 28 4 O (ra cBx P), .cells 77 ((Za S).map .p), .row 5 1 T [[vi .u8 U]], .cells 77 ((Za k).map .p), yT0, .row 28 4 0 (ra cBx []), .cells 28 ((cBx x2).map .p), .row 77 7 0 [[i6 x2.kind, vs x2.text, i6 x2.n, (.p (.lst 4 (Zb x2.kids))), i6 i, i6 o, i6 x]]]
abbrev S2 (w : Nat) (Q : Tqq) (F : Nat) (x2 : BoxD) (x : Int) : List AB := [.cells 28 ((cBx D).map .p), yT (w + 1) (Q.take F ++ [(⟨x2.kind, x2.text, x2.n, x2.kids, i, o, x⟩ : ThingD)]), .cells 83 [sp E 2 0, .sl 3 B 1 0 C, .sl 1 c 7 0 H, ls 1 Zc J, ls 1 eI64 K, i6 L, i6 N, vb true], yU B M, .row 28 4 O (ra cBx P), .cells 77 ((Za S).map .p), .row 5 1 T [[vi .u8 U]], .cells 77 ((Za k).map .p), yT0, .row 28 4 0 (ra cBx []), .cells 28 ((cBx x2).map .p), .row 77 7 0 [[i6 x2.kind, vs x2.text, i6 x2.n, (.p (.lst 4 (Zb x2.kids))), i6 i, i6 o, i6 x]]]
theorem MS (w F : Nat) (x R : Int) (Q : Tqq) {r : E_L37_1_10 ⊕ (Nat × Nat × Int × Int × Tqq)} (h : WW i o k G K w F x R Q = some r) : OkR (fun e => UK c A k D E B C H J K L N M O P S T U e (YY c i o A k G D E B C H J K L N M O P S T U w F x R Q)) (fun s => YY c i o A k G D E B C H J K L N M O P S T U w F x R Q = YY c i o A k G D E B C H J K L N M O P S T U s.1 s.2.1 s.2.2.1 s.2.2.2.1 s.2.2.2.2) r := by
 unfold WW at h
 apply bi h <;> intro h1 h
 ·
  apply bn h; intro x2 h2 h
  have q0 := ((igr ZF h2) : idxA 4 (.p (.lst 4 (Zb k.kids))) (i6 R) = some (.ro (cBx x2)))
  have k1 := ka [(27, .d true), (28, .v (.ro (cBx x2)))] (av h1 (apc q0 apn))
  apply bi h <;> intro h3 h
  ·
   apply bi h <;> intro h4 h
   ·
    apply bn h; intro x5 h5 h
    rw [← sj h]
    exact rn ([(37, .r (.sl 1 w 7 0 (F + 1)) (SY c i o k D E B C H J K L N M O P S T U w Q F x2 x)), (44, .v (.ro [.val (.int .i64 x5)])), (6000, .d true)] ++ kH k1) (k1.b (apc ((X0 (e := Za) (xs := Q) (news := [(⟨x2.kind, x2.text, x2.n, x2.kids, i, o, x⟩ : ThingD)]) rfl (ZA (e := Za) (xs := [(⟨x2.kind, x2.text, x2.n, x2.kids, i, o, x⟩ : ThingD)]) rfl) rfl h3 h4) : appA (SZ c i o k D E B C H J K L N M O P S T U w Q x2 x) 77 7 80 (.sl 1 w 7 0 F) (.sl 11 0 7 0 1) = some ((.sl 1 w 7 0 (F + 1)), SY c i o k D E B C H J K L N M O P S T U w Q F x2 x)) (apc (ig eI64 1 .i64 h5) (apc (UJ c i o A k G D E B C H J K L N M O P S T U w (F + 1) (w6 (x + x5)) (w6 (R + 1)) (splice Q F [(⟨x2.kind, x2.text, x2.n, x2.kids, i, o, x⟩ : ThingD)])) apn))))
   ·
    apply bn h; intro x5 h5 h
    rw [← sj h]
    exact rn ([(37, .r (.sl 1 (w + 1) 7 0 (F + 1)) (S2 c i o k D E B C H J K L N M O P S T U w Q F x2 x)), (44, .v (.ro [.val (.int .i64 x5)])), (6000, .d true)] ++ kH k1) (k1.b (apc ((Yk (e := Za) (xs := Q) (news := [(⟨x2.kind, x2.text, x2.n, x2.kids, i, o, x⟩ : ThingD)]) rfl (ZA (e := Za) (xs := [(⟨x2.kind, x2.text, x2.n, x2.kids, i, o, x⟩ : ThingD)]) rfl) rfl h3 h4) : appA (SZ c i o k D E B C H J K L N M O P S T U w Q x2 x) 77 7 80 (.sl 1 w 7 0 F) (.sl 11 0 7 0 1) = some ((.sl 1 (w + 1) 7 0 (F + 1)), S2 c i o k D E B C H J K L N M O P S T U w Q F x2 x)) (apc (ig eI64 1 .i64 h5) (apc (UJ c i o A k G D E B C H J K L N M O P S T U (w + 1) (F + 1) (w6 (x + x5)) (w6 (R + 1)) (Q.take F ++ [(⟨x2.kind, x2.text, x2.n, x2.kids, i, o, x⟩ : ThingD)])) apn))))
  ·
   cases h
 ·
  rw [← sj h]
  exact xb [(27, .d false), (6000, .d true)] (av h1 apn)
theorem Na (s0 : Nat × Nat × Int × Int × Tqq) (e : E_L37_1_10) (h : runL (fun s => WW i o k G K s.1 s.2.1 s.2.2.1 s.2.2.2.1 s.2.2.2.2) s0 = some e) : UK c A k D E B C H J K L N M O P S T U e (YY c i o A k G D E B C H J K L N M O P S T U s0.1 s0.2.1 s0.2.2.1 s0.2.2.2.1 s0.2.2.2.2) := by
  have q := @Zg (Nat × Nat × Int × Int × Tqq) E_L37_1_10 (fun s => WW i o k G K s.1 s.2.1 s.2.2.1 s.2.2.2.1 s.2.2.2.2) (fun s => YY c i o A k G D E B C H J K L N M O P S T U s.1 s.2.1 s.2.2.1 s.2.2.2.1 s.2.2.2.2) (UK c A k D E B C H J K L N M O P S T U) (fun s r h => MS c i o A k G D E B C H J K L N M O P S T U s.1 s.2.1 s.2.2.1 s.2.2.2.1 s.2.2.2.2 h) s0 e h
  exact q
end
inductive E_L37_0_10 where
  | k0 (x0 : Tqq)
section
variable (c j : Nat) (u : BoxD) (k : Bool) (G D I E : Nat) (B : Oqq) (C : Iqq) (H J : Int) (K : Iqq) (L : Nat) (N : Bqq) (M : ThingD) (O : Nat) (P : Int) (S : ThingD)
def WX (w F : Int) (x : Tqq) : Option (E_L37_0_10 ⊕ (Int × Int × Tqq)) :=
  (bif (decide (w < F)) then ((ixN j F).bind fun x2 => ((x[x2]?).bind fun x3 => ((ixN j w).bind fun x4 => ((x[x4]?).bind fun x5 => (((x.set x4 (⟨x3.kind, x3.text, x3.n, x3.kids, x3.depth, x3.way, x3.at_⟩ : ThingD))[x2]?).bind fun x6 => (some (.inr ((IntKind.wrap .i64 (w + 1)), (IntKind.wrap .i64 (F - 1)), ((x.set x4 (⟨x3.kind, x3.text, x3.n, x3.kids, x3.depth, x3.way, x3.at_⟩ : ThingD)).set x2 (⟨x5.kind, x5.text, x5.n, x5.kids, x5.depth, x5.way, x5.at_⟩ : ThingD)))))))))) else (some (.inl (.k0 x))))
def Qw (w F : Int) (x : Tqq) : St := ⟨fr 74 ug [(1, .sl 1 c 7 0 j), (15, i6 w), (16, i6 F)], [.cells 28 ((cBx u).map .p), yT c x, .cells 83 [sp k 2 0, .sl 3 G 1 0 D, .sl 1 I 7 0 E, ls 1 Zc B, ls 1 eI64 C, i6 H, i6 J, vb true], yU G K, .row 28 4 L (ra cBx N), .cells 77 ((Za M).map .p), .row 5 1 O [[vi .u8 P]], .cells 77 ((Za S).map .p), yT0]⟩
theorem Qx (w F : Int) (x : Tqq) : okT 9 (Qw c j u k G D I E B C H J K L N M O P S w F x).h = true := (ZE rfl (ac (ar (Zv (Z8 rfl (Ze rfl (Ze rfl (Ze rfl (Ze rfl (Ze rfl (Ze rfl (Ze rfl rfl)))))))) (ar (ar (ac (ac (ac (ar rfl))))))))))
abbrev YZ (w F : Int) (x : Tqq) := evH prg 9 [1, 15, 16] XK (Qw c j u k G D I E B C H J K L N M O P S w F x)
def UL (e : E_L37_0_10) (r : Option (Out × St)) : Prop := match e with | .k0 x0 => ∃ g, r = some ((.brk 2), ⟨fr 74 g [(1, .sl 1 c 7 0 j)], [.cells 28 ((cBx u).map .p), yT c x0, .cells 83 [sp k 2 0, .sl 3 G 1 0 D, .sl 1 I 7 0 E, ls 1 Zc B, ls 1 eI64 C, i6 H, i6 J, vb true], yU G K, .row 28 4 L (ra cBx N), .cells 77 ((Za M).map .p), .row 5 1 O [[vi .u8 P]], .cells 77 ((Za S).map .p), yT0]⟩)
abbrev VD (x : Tqq) (x4 : Nat) (x3 : ThingD) : List AB := [.cells 28 ((cBx u).map .p), yT c (x.set x4 (⟨x3.kind, x3.text, x3.n, x3.kids, x3.depth, x3.way, x3.at_⟩ : ThingD)), .cells 83 [sp k 2 0, .sl 3 G 1 0 D, .sl 1 I 7 0 E, ls 1 Zc B, ls 1 eI64 C, i6 H, i6 J, vb true], yU G K, .row 28 4 L (ra cBx N), .cells 77 ((Za M).map .p), .row 5 1 O [[vi .u8 P]], .cells 77 ((Za S).map .p), yT0]
abbrev S3 (x : Tqq) (x4 : Nat) (x3 : ThingD) (x2 : Nat) (x5 : ThingD) : List AB := [.cells 28 ((cBx u).map .p), yT c ((x.set x4 (⟨x3.kind, x3.text, x3.n, x3.kids, x3.depth, x3.way, x3.at_⟩ : ThingD)).set x2 (⟨x5.kind, x5.text, x5.n, x5.kids, x5.depth, x5.way, x5.at_⟩ : ThingD)), .cells 83 [sp k 2 0, .sl 3 G 1 0 D, .sl 1 I 7 0 E, ls 1 Zc B, ls 1 eI64 C, i6 H, i6 J, vb true], yU G K, .row 28 4 L (ra cBx N), .cells 77 ((Za M).map .p), .row 5 1 O [[vi .u8 P]], .cells 77 ((Za S).map .p), yT0]
abbrev VE (x : Tqq) : List AB := [.cells 28 ((cBx u).map .p), yT c x, .cells 83 [sp k 2 0, .sl 3 G 1 0 D, .sl 1 I 7 0 E, ls 1 Zc B, ls 1 eI64 C, i6 H, i6 J, vb true], yU G K, .row 28 4 L (ra cBx N), .cells 77 ((Za M).map .p), .row 5 1 O [[vi .u8 P]], .cells 77 ((Za S).map .p), yT0]
theorem MT (w F : Int) (x : Tqq) {r : E_L37_0_10 ⊕ (Int × Int × Tqq)} (h : WX j w F x = some r) : OkR (fun e => UL c j u k G D I E B C H J K L N M O P S e (YZ c j u k G D I E B C H J K L N M O P S w F x)) (fun s => YZ c j u k G D I E B C H J K L N M O P S w F x = YZ c j u k G D I E B C H J K L N M O P S s.1 s.2.1 s.2.2) r := by
 unfold WX at h
 apply bi h <;> intro h1 h
 ·
  apply bn h; intro x2 h2 h
  have q0 := ((ZP h2) : idxA 7 (.sl 1 c 7 0 j) (i6 F) = some (.rp 1 c 7 x2 0))
  apply bn h; intro x3 h3 h
  apply bn h; intro x4 h4 h
  have q1 := ((ZP h4) : idxA 7 (.sl 1 c 7 0 j) (i6 w) = some (.rp 1 c 7 x4 0))
  apply bn h; intro x5 h5 h
  apply bn h; intro x6 h6 h
  rw [← sj h]
  exact rn [(54, .d true), (65, .v (.rp 1 c 7 x2 0)), (66, .v (.agg ((Za x3).map .p))), (69, .v (.rp 1 c 7 x4 0)), (70, .v (.agg ((Za x5).map .p))), (71, .v (.rp 1 c 7 x4 0)), (1071, .r ud (VD c u k G D I E B C H J K L N M O P S x x4 x3)), (72, .v (.rp 1 c 7 x2 0)), (1072, .r ud (S3 c u k G D I E B C H J K L N M O P S x x4 x3 x2 x5)), (6000, .d true)] (av h1 (apc q0 (apc ((Z6 rfl h3 rfl) : ldA (VE c u k G D I E B C H J K L N M O P S x) .true 7 (.rp 1 c 7 x2 0) = some (.agg ((Za x3).map .p))) (apc q1 (apc ((Z6 rfl h5 rfl) : ldA (VE c u k G D I E B C H J K L N M O P S x) .true 7 (.rp 1 c 7 x4 0) = some (.agg ((Za x5).map .p))) (apc q1 (apc (⟨ZZ (v' := (⟨x3.kind, x3.text, x3.n, x3.kids, x3.depth, x3.way, x3.at_⟩ : ThingD)) rfl h5 rfl rfl (Nat.le_of_ble_eq_true rfl) rfl, rfl⟩ : stA (VE c u k G D I E B C H J K L N M O P S x) 7 (.rp 1 c 7 x4 0) (.agg ((Za x3).map .p)) = some (VD c u k G D I E B C H J K L N M O P S x x4 x3) ∧ ud = ud) (apc q0 (apc (⟨ZZ (v' := (⟨x5.kind, x5.text, x5.n, x5.kids, x5.depth, x5.way, x5.at_⟩ : ThingD)) rfl h6 rfl rfl (Nat.le_of_ble_eq_true rfl) rfl, rfl⟩ : stA (VD c u k G D I E B C H J K L N M O P S x x4 x3) 7 (.rp 1 c 7 x2 0) (.agg ((Za x5).map .p)) = some (S3 c u k G D I E B C H J K L N M O P S x x4 x3 x2 x5) ∧ ud = ud) (apc (Qx c j u k G D I E B C H J K L N M O P S (w6 (w + 1)) (w6 (F - 1)) ((x.set x4 (⟨x3.kind, x3.text, x3.n, x3.kids, x3.depth, x3.way, x3.at_⟩ : ThingD)).set x2 (⟨x5.kind, x5.text, x5.n, x5.kids, x5.depth, x5.way, x5.at_⟩ : ThingD))) apn))))))))))
 ·
  rw [← sj h]
  exact xb [(54, .d false), (6000, .d true)] (av h1 apn)
theorem Nb (s0 : Int × Int × Tqq) (e : E_L37_0_10) (h : runL (fun s => WX j s.1 s.2.1 s.2.2) s0 = some e) : UL c j u k G D I E B C H J K L N M O P S e (YZ c j u k G D I E B C H J K L N M O P S s0.1 s0.2.1 s0.2.2) := by
  have q := @Zg (Int × Int × Tqq) E_L37_0_10 (fun s => WX j s.1 s.2.1 s.2.2) (fun s => YZ c j u k G D I E B C H J K L N M O P S s.1 s.2.1 s.2.2) (UL c j u k G D I E B C H J K L N M O P S) (fun s r h => MT c j u k G D I E B C H J K L N M O P S s.1 s.2.1 s.2.2 h) s0 e h
  exact q
end
end
end Go.Proofs.Tryd
