/- Decompiled by a program: functions as plain data see them, part 2. -/
import Derived.Test.YthpmanlglbfcdaaDoorH51
namespace Go.Proofs.Tryd
set_option linter.unusedSimpArgs false
set_option linter.unusedVariables false
set_option maxHeartbeats 4000000
open Go Go.Vs
noncomputable section
inductive R_F13 where
  | k0 (x0 : ByteArray) (x1 : Int)
def F13_v (a1 : ByteArray) (a2 : List EditD) (r : R_F13) : AV := match r with | .k0 x0 x1 => (.tup [vs x0, i6 x1])
def F13 (Nf : Nat) (a1 : ByteArray) (a2 : List EditD) : Option R_F13 :=
  (bif (decide ((a1.size : Int) > 1048576)) then (some (.k0 (⟨([] : List UInt8).toArray⟩ : ByteArray) 3)) else ((F24 (a1.size : Int) a2).bind fun x2 => (bif x2 then ((F25 Nf a2).bind fun r4 => match r4 with | .k0 x4_0 x4_1 => (bif (x4_1 != 0) then (some (.k0 (⟨([] : List UInt8).toArray⟩ : ByteArray) x4_1)) else ((runL (fun s => L13_0 a1 x4_0 (x4_0.length : Int) s.1 s.2.1 s.2.2.1 s.2.2.2.1 s.2.2.2.2.1 s.2.2.2.2.2.1 s.2.2.2.2.2.2) (0, 0, false, 0, 0, 0, [])).bind fun r6 => match r6 with | .k0 x6_0 x6_1 x6_2 x6_3 x6_4 x6_5 => (bif (sl_ok x6_0 (a1.size : Int) a1.size) then ((F26_5 (a1.extract (Int.toNat x6_0) (Int.toNat (a1.size : Int))) x6_1 x6_2 x6_3 x6_4 x6_5).bind fun r8 => match r8 with | .k0 x8_0 x8_1 x8_2 x8_3 => (bif (decide ((IntKind.wrap .i64 (x6_4 + ((a1.extract (Int.toNat x6_0) (Int.toNat (a1.size : Int))).size : Int))) > 1048576)) then (some (.k0 (⟨([] : List UInt8).toArray⟩ : ByteArray) 3)) else ((F27 x8_2 x8_3).bind fun r10 => match r10 with | .k0 x10_0 => (some (.k0 x10_0 0)) | .k1 x10_0 => (some (.k0 x10_0 0))))) else none)))) else (some (.k0 (⟨([] : List UInt8).toArray⟩ : ByteArray) 4)))))
abbrev F13_d0 (g6 : Nat → AV) (a1 : ByteArray) (x6_0 : Int) (x4_0 : List EditD) (x6_1 : Bool) (x6_2 x6_3 : Nat) (x6_4 : Int) (x6_5 : List Int) : St := ⟨fr 66 g6 [(0, vs a1), (8, .ptr 0 0), (9, i6 x6_0), (30, ls 3 eEdit x4_0)], [.cells 63 [sp x6_1 0 0, .sl 1 x6_2 1 0 x6_3, i6 x6_4], yU x6_2 x6_5]⟩
abbrev F13_d1 (x8_0 : Bool) (x8_1 x8_2 : Nat) (x6_4 : Int) (a1 : ByteArray) (x6_0 : Int) (x8_3 : List Int) : List AB := [.cells 63 [sp x8_0 0 0, .sl 1 x8_1 1 0 x8_2, (i6 (w6 (x6_4 + ((a1.extract (Int.toNat x6_0) (Int.toNat (a1.size : Int))).size : Int))))], yU x8_1 x8_3]
abbrev F13_d2 (x8_0 : Bool) (x8_1 x8_2 : Nat) (x6_4 : Int) (a1 : ByteArray) (x6_0 : Int) : List AB := [.cells 63 [sp x8_0 0 0, .sl 1 x8_1 1 0 x8_2, (i6 (w6 (x6_4 + ((a1.extract (Int.toNat x6_0) (Int.toNat (a1.size : Int))).size : Int))))], .dead]
theorem F13_ok (Nf : Nat) (a1 : ByteArray) (a2 : List EditD) {r : R_F13} (h : F13 Nf a1 a2 = some r) : PR1 prg 13 [vs a1, ls 3 eEdit a2] (F13_v a1 a2 r) := by
 unfold F13 at h
 apply bi h <;> intro h1 h
 ·
  rw [← sj h]
  exact fq [(14, .d true)] (av h1 apn)
 ·
  apply bn h; intro x2 h2 h
  apply bi h <;> intro h3 h
  ·
   have q0 := ((((F24_ok (a1.size : Int) a2 h2).cp rfl _).trans (congrArg (fun z => some (vb z)) h3)) : CP prg 24 [(i6 (a1.size : Int)), ls 3 eEdit a2] [] = some (vb true))
   have k1 := ka [(14, .d false), (18, .v (vb true))] (av h1 (apc q0 apn))
   apply bn h; intro r4 h4 h
   cases r4 with
   | k0 x4_0 x4_1 =>
    have q2 := (((F25_ok Nf a2 h4).cp rfl _) : CP prg 25 [ls 3 eEdit a2] [] = some (.tup [ls 3 eEdit x4_0, i6 x4_1]))
    have k3 := k1.a [(22, .v (.tup [ls 3 eEdit x4_0, i6 x4_1]))] (apc q2 apn)
    apply bi h <;> intro h5 h
    ·
     rw [← sj h]
     exact fq ([(26, .d true)] ++ kH k3) (k3.b (av h5 apn))
    ·
     have k4 := k3.a [(26, .d false), (31, .v (i6 (x4_0.length : Int)))] (av h5 (apc (lg x4_0 eEdit 3) apn))
     apply bn h; intro r6 h6 h
     cases r6 with
     | k0 x6_0 x6_1 x6_2 x6_3 x6_4 x6_5 =>
      obtain ⟨g6, e6⟩ := L13_0_run a1 x4_0 (x4_0.length : Int) (0, 0, false, 0, 0, 0, []) _ h6
      have q5 := (e6 : L13_0_e a1 x4_0 (x4_0.length : Int) 0 0 false 0 0 0 ([]) = some ((.brk 0), F13_d0 g6 a1 x6_0 x4_0 x6_1 x6_2 x6_3 x6_4 x6_5))
      have k6 := k4.a [(2000, .l (.brk 0) (F13_d0 g6 a1 x6_0 x4_0 x6_1 x6_2 x6_3 x6_4 x6_5))] (apc (L13_0_k a1 x4_0 (x4_0.length : Int) 0 0 false 0 0 0 ([])) (apc q5 apn))
      apply bi h <;> intro h7 h
      ·
       have q7 := ((sl_str h7) : slS (vs a1) (some x6_0) (some (a1.size : Int)) = some (vs (a1.extract (Int.toNat x6_0) (Int.toNat (a1.size : Int)))))
       have k8 := k6.a [(55, .v (vs (a1.extract (Int.toNat x6_0) (Int.toNat (a1.size : Int)))))] (apc q7 apn)
       apply bn h; intro r8 h8 h
       cases r8 with
       | k0 x8_0 x8_1 x8_2 x8_3 =>
        have q9 := ((F26_5_ok (a1.extract (Int.toNat x6_0) (Int.toNat (a1.size : Int))) x6_1 x6_2 x6_3 x6_4 x6_5 h8) : CS prg 26 [.ptr 0 0, (vs (a1.extract (Int.toNat x6_0) (Int.toNat (a1.size : Int))))] [.cells 63 [sp x6_1 0 0, .sl 1 x6_2 1 0 x6_3, i6 x6_4], yU x6_2 x6_5] = some ((.tup []), F13_d1 x8_0 x8_1 x8_2 x6_4 a1 x6_0 x8_3))
        have k10 := k8.a [(56, .r (.tup []) (F13_d1 x8_0 x8_1 x8_2 x6_4 a1 x6_0 x8_3))] (apc q9 apn)
        apply bi h <;> intro h9 h
        ·
         rw [← sj h]
         exact fq ([(61, .d true), (6000, .d true)] ++ kH k10) (k10.b (av h9 apn))
        ·
         apply bn h; intro r10 h10 h
         cases r10 with
         | k0 x10_0 =>
          rw [← sj h]
          exact fq ([(61, .d false), (65, .r (vs x10_0) (F13_d2 x8_0 x8_1 x8_2 x6_4 a1 x6_0)), (6000, .d true)] ++ kH k10) (k10.b (av h9 (apc ((F27_ok x8_0 x8_1 x8_2 (w6 (x6_4 + ((a1.extract (Int.toNat x6_0) (Int.toNat (a1.size : Int))).size : Int))) x8_3 h10) : CS prg 27 [.ptr 0 0] (F13_d1 x8_0 x8_1 x8_2 x6_4 a1 x6_0 x8_3) = some ((vs x10_0), F13_d2 x8_0 x8_1 x8_2 x6_4 a1 x6_0)) apn)))
         | k1 x10_0 =>
          rw [← sj h]
          exact fq ([(61, .d false), (65, .r (vs x10_0) (F13_d1 x8_0 x8_1 x8_2 x6_4 a1 x6_0 x8_3)), (6000, .d true)] ++ kH k10) (k10.b (av h9 (apc ((F27_ok x8_0 x8_1 x8_2 (w6 (x6_4 + ((a1.extract (Int.toNat x6_0) (Int.toNat (a1.size : Int))).size : Int))) x8_3 h10) : CS prg 27 [.ptr 0 0] (F13_d1 x8_0 x8_1 x8_2 x6_4 a1 x6_0 x8_3) = some ((vs x10_0), F13_d1 x8_0 x8_1 x8_2 x6_4 a1 x6_0 x8_3)) apn)))
      ·
       cases h
  ·
   rw [← sj h]
   exact fq [(14, .d false), (18, .v (vb false))] (av h1 (apc ((((F24_ok (a1.size : Int) a2 h2).cp rfl _).trans (congrArg (fun z => some (vb z)) h3)) : CP prg 24 [(i6 (a1.size : Int)), ls 3 eEdit a2] [] = some (vb false)) apn))
inductive E_L5_0_2 where
  | k0 (x0 : Int)
section
variable (a1 : List EditD) (a2 a3 : ByteArray) (a4 : Nat) (a5 : Int) (a6 : List Bool)
def L5_0_2 (v1 v2 : Int) : Option (E_L5_0_2 ⊕ (Int × Int)) :=
  (bif (decide (v2 < (a1.length : Int))) then ((ixN a4 v2).bind fun x2 => ((a6[x2]?).bind fun x3 => (bif x3 then (some (.inr (v1, (IntKind.wrap .i64 (v2 + 1))))) else (bif (decide (v1 < 0)) then (some (.inr (v2, (IntKind.wrap .i64 (v2 + 1))))) else ((getI a1 v2).bind fun x6 => ((getI a1 v1).bind fun x7 => (bif (decide (x6.frm > x7.frm)) then (some (.inr (v2, (IntKind.wrap .i64 (v2 + 1))))) else (bif (x6.frm == x7.frm) then (bif (decide (x6.til > x7.til)) then (some (.inr (v2, (IntKind.wrap .i64 (v2 + 1))))) else (some (.inr (v1, (IntKind.wrap .i64 (v2 + 1)))))) else (some (.inr (v1, (IntKind.wrap .i64 (v2 + 1))))))))))))) else (some (.inl (.k0 v1))))
def L5_0_2_s (v1 v2 : Int) : St := ⟨fr 121 ug [(1, ls 3 eEdit a1), (5, vs a2), (7, vs a3), (8, .sl 0 0 1 0 a4), (9, i6 a5), (10, i6 v1), (11, i6 v2)], [.row 4 1 0 (ra eBool a6)]⟩
theorem L5_0_2_k (v1 v2 : Int) : okT 1 (L5_0_2_s a1 a2 a3 a4 a5 a6 v1 v2).h = true := (okT_of rfl (ar rfl))
abbrev L5_0_2_e (v1 v2 : Int) := evH prg 1 [1, 5, 7, 8, 9, 10, 11] ir5_l0 (L5_0_2_s a1 a2 a3 a4 a5 a6 v1 v2)
def L5_0_2_x (e : E_L5_0_2) (r : Option (Out × St)) : Prop := match e with | .k0 x0 => ∃ g, r = some ((.brk 2), ⟨fr 121 g [(1, ls 3 eEdit a1), (5, vs a2), (7, vs a3), (8, .sl 0 0 1 0 a4), (9, i6 a5), (10, i6 x0)], [.row 4 1 0 (ra eBool a6)]⟩)
theorem L5_0_2_ok (v1 v2 : Int) {r : E_L5_0_2 ⊕ (Int × Int)} (h : L5_0_2 a1 a4 a6 v1 v2 = some r) : OkR (fun e => L5_0_2_x a1 a2 a3 a4 a5 a6 e (L5_0_2_e a1 a2 a3 a4 a5 a6 v1 v2)) (fun s => L5_0_2_e a1 a2 a3 a4 a5 a6 v1 v2 = L5_0_2_e a1 a2 a3 a4 a5 a6 s.1 s.2) r := by
 unfold L5_0_2 at h
 have q0 := (L5_0_2_k a1 a2 a3 a4 a5 a6 v1 (w6 (v2 + 1)))
 have q1 := (L5_0_2_k a1 a2 a3 a4 a5 a6 v2 (w6 (v2 + 1)))
 have k2 := ka [(43, .v (i6 (a1.length : Int)))] (apc (lg a1 eEdit 3) apn)
 apply bi h <;> intro h1 h
 ·
  apply bn h; intro x2 h2 h
  have q3 := ((idx_sl h2) : idxA 1 (.sl 0 0 1 0 a4) (i6 v2) = some (.rp 0 0 1 x2 0))
  have k4 := k2.a [(44, .d true), (49, .v (.rp 0 0 1 x2 0))] (av h1 (apc q3 apn))
  apply bn h; intro x3 h3 h
  apply bi h <;> intro h4 h
  ·
   rw [← sj h]
   exact rn ([(50, .v (vb true)), (6000, .d true)] ++ kH k4) (k4.b (apc (((ld_row (V := vb x3) rfl h3 rfl).trans (congrArg (fun z => some (vb z)) h4)) : ldA [.row 4 1 0 (ra eBool a6)] .false 1 (.rp 0 0 1 x2 0) = some (vb true)) (apc q0 apn)))
  ·
   have q5 := (((ld_row (V := vb x3) rfl h3 rfl).trans (congrArg (fun z => some (vb z)) h4)) : ldA [.row 4 1 0 (ra eBool a6)] .false 1 (.rp 0 0 1 x2 0) = some (vb false))
   apply bi h <;> intro h5 h
   ·
    rw [← sj h]
    exact rn ([(50, .v (vb false)), (52, .d true), (6000, .d true)] ++ kH k4) (k4.b (apc q5 (av h5 (apc q1 apn))))
   ·
    have k6 := k4.a [(50, .v (vb false)), (52, .d false)] (apc q5 (av h5 apn))
    apply bn h; intro x6 h6 h
    apply bn h; intro x7 h7 h
    have k7 := k6.a [(56, .v (.ro (eEdit x6))), (62, .v (.ro (eEdit x7)))] (apc (ig eEdit 3 .i64 h6) (apc (ig eEdit 3 .i64 h7) apn))
    apply bi h <;> intro h8 h
    ·
     rw [← sj h]
     exact rn ([(66, .d true), (6000, .d true)] ++ kH k7) (k7.b (av h8 (apc q1 apn)))
    ·
     have k8 := k7.a [(66, .d false), (71, .v (.ro (eEdit x6))), (77, .v (.ro (eEdit x7)))] (av h8 (apc (ig eEdit 3 .i64 h6) (apc (ig eEdit 3 .i64 h7) apn)))
     apply bi h <;> intro h9 h
     ·
      have k9 := k8.a [(81, .d true), (85, .v (.ro (eEdit x6))), (91, .v (.ro (eEdit x7)))] (av h9 (apc (ig eEdit 3 .i64 h6) (apc (ig eEdit 3 .i64 h7) apn)))
      apply bi h <;> intro h10 h
      ·
       rw [← sj h]
       exact rn ([(95, .d true), (6000, .d true)] ++ kH k9) (k9.b (av h10 (apc q1 apn)))
      ·
       rw [← sj h]
       exact rn ([(95, .d false), (6000, .d true)] ++ kH k9) (k9.b (av h10 (apc q0 apn)))
     ·
      rw [← sj h]
      exact rn ([(81, .d false), (6000, .d true)] ++ kH k8) (k8.b (av h9 (apc q0 apn)))
 ·
  rw [← sj h]
  exact xb ([(44, .d false), (6000, .d true)] ++ kH k2) (k2.b (av h1 apn))
theorem L5_0_2_run (s0 : Int × Int) (e : E_L5_0_2) (h : runL (fun s => L5_0_2 a1 a4 a6 s.1 s.2) s0 = some e) : L5_0_2_x a1 a2 a3 a4 a5 a6 e (L5_0_2_e a1 a2 a3 a4 a5 a6 s0.1 s0.2) := by
  have q := @loop_sound' (Int × Int) E_L5_0_2 (fun s => L5_0_2 a1 a4 a6 s.1 s.2) (fun s => L5_0_2_e a1 a2 a3 a4 a5 a6 s.1 s.2) (L5_0_2_x a1 a2 a3 a4 a5 a6) (fun s r h => L5_0_2_ok a1 a2 a3 a4 a5 a6 s.1 s.2 h) s0 e h
  exact q
end
inductive E_L5_1 where
  | k0
  | k1 (x0 : ByteArray) (x1 : List Bool)
def L5_1 (Nf : Nat) (a1 : List EditD) (a4 : Nat) (v1 : ByteArray) (v2 : Int) (v3 : List Bool) : Option (E_L5_1 ⊕ (ByteArray × Int × (List Bool))) :=
  (bif (decide (v2 < (a1.length : Int))) then ((runL (fun s => L5_0_2 a1 a4 v3 s.1 s.2) ((-1), 0)).bind fun r2 => match r2 with | .k0 x2_0 => ((ixN a4 x2_0).bind fun x3 => ((v3[x3]?).bind fun x4 => ((getI a1 x2_0).bind fun x5 => ((F13 Nf v1 ([(⟨x5.frm, x5.til, x5.text⟩ : EditD)])).bind fun r6 => match r6 with | .k0 x6_0 x6_1 => (bif (x6_1 != 0) then (some (.inl (.k0))) else (some (.inr (x6_0, (IntKind.wrap .i64 (v2 + 1)), v3.set x3 true))))))))) else (some (.inl (.k1 v1 v3))))
def L5_1_s (a1 : List EditD) (a2 : ByteArray) (a4 : Nat) (v1 : ByteArray) (v2 : Int) (v3 : List Bool) : St := ⟨fr 121 ug [(1, ls 3 eEdit a1), (5, vs a2), (7, vs v1), (8, .sl 0 0 1 0 a4), (9, i6 v2)], [.row 4 1 0 (ra eBool v3)]⟩
theorem L5_1_k (a1 : List EditD) (a2 : ByteArray) (a4 : Nat) (v1 : ByteArray) (v2 : Int) (v3 : List Bool) : okT 1 (L5_1_s a1 a2 a4 v1 v2 v3).h = true := (okT_of rfl (ar rfl))
abbrev L5_1_e (a1 : List EditD) (a2 : ByteArray) (a4 : Nat) (v1 : ByteArray) (v2 : Int) (v3 : List Bool) := evH prg 1 [1, 5, 7, 8, 9] ir5_l1 (L5_1_s a1 a2 a4 v1 v2 v3)
def L5_1_x (a1 : List EditD) (a2 : ByteArray) (a4 : Nat) (e : E_L5_1) (r : Option (Out × St)) : Prop := match e with | .k0 => ∃ g y, r = some (.ret, ⟨fr 121 g [(4, vb false)], y⟩) | .k1 x0 x1 => ∃ g, r = some ((.brk 0), ⟨fr 121 g [(1, ls 3 eEdit a1), (5, vs a2), (7, vs x0)], [.row 4 1 0 (ra eBool x1)]⟩)
abbrev L5_1_d0 (g2 : Nat → AV) (a1 : List EditD) (a2 v1 : ByteArray) (a4 : Nat) (v2 x2_0 : Int) (v3 : List Bool) : St := ⟨fr 121 g2 [(1, ls 3 eEdit a1), (5, vs a2), (7, vs v1), (8, .sl 0 0 1 0 a4), (9, i6 v2), (10, i6 x2_0)], [.row 4 1 0 (ra eBool v3)]⟩
theorem L5_1_ok (Nf : Nat) (a1 : List EditD) (a2 : ByteArray) (a4 : Nat) (v1 : ByteArray) (v2 : Int) (v3 : List Bool) {r : E_L5_1 ⊕ (ByteArray × Int × (List Bool))} (h : L5_1 Nf a1 a4 v1 v2 v3 = some r) : OkR (fun e => L5_1_x a1 a2 a4 e (L5_1_e a1 a2 a4 v1 v2 v3)) (fun s => L5_1_e a1 a2 a4 v1 v2 v3 = L5_1_e a1 a2 a4 s.1 s.2.1 s.2.2) r := by
 unfold L5_1 at h
 have k0 := ka [(37, .v (i6 (a1.length : Int)))] (apc (lg a1 eEdit 3) apn)
 apply bi h <;> intro h1 h
 ·
  apply bn h; intro r2 h2 h
  cases r2 with
  | k0 x2_0 =>
   obtain ⟨g2, e2⟩ := L5_0_2_run a1 a2 v1 a4 v2 v3 ((-1), 0) _ h2
   have q1 := (e2 : L5_0_2_e a1 a2 v1 a4 v2 v3 (-1) 0 = some ((.brk 2), L5_1_d0 g2 a1 a2 v1 a4 v2 x2_0 v3))
   have k2 := k0.a [(38, .d true), (2002, .l (.brk 2) (L5_1_d0 g2 a1 a2 v1 a4 v2 x2_0 v3))] (av h1 (apc (L5_0_2_k a1 a2 v1 a4 v2 v3 (-1) 0) (apc q1 apn)))
   apply bn h; intro x3 h3 h
   have q3 := ((idx_sl h3) : idxA 1 (.sl 0 0 1 0 a4) (i6 x2_0) = some (.rp 0 0 1 x3 0))
   apply bn h; intro x4 h4 h
   have q4 := (⟨st_row (v' := true) rfl h4 rfl rfl (Nat.le_of_ble_eq_true rfl) rfl, rfl⟩ : stA [.row 4 1 0 (ra eBool v3)] 1 (.rp 0 0 1 x3 0) (vb true) = some [.row 4 1 0 (ra eBool (v3.set x3 true))] ∧ ud = ud)
   have k5 := k2.a [(101, .v (.rp 0 0 1 x3 0)), (1101, .r ud [.row 4 1 0 (ra eBool (v3.set x3 true))])] (apc q3 (apc q4 apn))
   apply bn h; intro x5 h5 h
   apply bn h; intro r6 h6 h
   cases r6 with
   | k0 x6_0 x6_1 =>
    have q6 := (((F13_ok Nf v1 ([(⟨x5.frm, x5.til, x5.text⟩ : EditD)]) h6).own rfl (purAs_cons rfl (purAs_cons (purA_sl (e := eEdit) (xs := [(⟨x5.frm, x5.til, x5.text⟩ : EditD)]) rfl rfl) purAs_nil)) rfl) : CP prg 13 [vs v1, .sl 1 0 3 0 1] [.row 4 1 0 (ra eBool (v3.set x3 true)), .row 34 3 0 [[i6 x5.frm, i6 x5.til, vs x5.text]]] = some (.tup [vs x6_0, i6 x6_1]))
    have k7 := k5.a [(106, .v (.ro (eEdit x5))), (109, .v (.tup [vs x6_0, i6 x6_1]))] (apc (ig eEdit 3 .i64 h5) (apc q6 apn))
    apply bi h <;> intro h7 h
    ·
     rw [← sj h]
     exact xy ([(113, .d true), (6000, .d true)] ++ kH k7) (k7.b (av h7 apn))
    ·
     rw [← sj h]
     exact rn ([(113, .d false), (6000, .d true)] ++ kH k7) (k7.b (av h7 (apc (L5_1_k a1 a2 a4 x6_0 (w6 (v2 + 1)) (v3.set x3 true)) apn)))
 ·
  rw [← sj h]
  exact xb ([(38, .d false), (6000, .d true)] ++ kH k0) (k0.b (av h1 apn))
theorem L5_1_run (Nf : Nat) (a1 : List EditD) (a2 : ByteArray) (a4 : Nat) (s0 : ByteArray × Int × (List Bool)) (e : E_L5_1) (h : runL (fun s => L5_1 Nf a1 a4 s.1 s.2.1 s.2.2) s0 = some e) : L5_1_x a1 a2 a4 e (L5_1_e a1 a2 a4 s0.1 s0.2.1 s0.2.2) := by
  have q := @loop_sound' (ByteArray × Int × (List Bool)) E_L5_1 (fun s => L5_1 Nf a1 a4 s.1 s.2.1 s.2.2) (fun s => L5_1_e a1 a2 a4 s.1 s.2.1 s.2.2) (L5_1_x a1 a2 a4) (fun s r h => L5_1_ok Nf a1 a2 a4 s.1 s.2.1 s.2.2 h) s0 e h
  exact q
def F5_v (a1 : ByteArray) (a2 : List EditD) (x0 : Bool) : AV := (vb x0)
def F5 (Nf : Nat) (a1 : ByteArray) (a2 : List EditD) : Option Bool :=
  ((F14 a1 a2).bind fun x1 => (bif x1 then ((F9).bind fun x3 => (some x3)) else ((F13 Nf a1 a2).bind fun r3 => match r3 with | .k0 x3_0 x3_1 => (bif (x3_1 != 0) then (bif (x3_0.toList == (⟨([] : List UInt8).toArray⟩ : ByteArray).toList) then ((F9).bind fun x6 => (some x6)) else (some false)) else (bif (mkOk (a2.length : Int) 1) then ((runL (fun s => L5_1 Nf a2 (Int.toNat (a2.length : Int)) s.1 s.2.1 s.2.2) (a1, 0, (List.replicate (Int.toNat (a2.length : Int)) false))).bind fun r6 => match r6 with | .k0 => (some false) | .k1 x6_0 x6_1 => (bif (x6_0.toList == x3_0.toList) then ((F9).bind fun x8 => (some x8)) else (some false))) else none)))))
abbrev F5_d0 (a2 : List EditD) : List AB := [.row 4 1 0 (ra eBool (List.replicate (Int.toNat (a2.length : Int)) false))]
abbrev F5_d1 (g6 : Nat → AV) (a2 : List EditD) (x3_0 x6_0 : ByteArray) (x6_1 : List Bool) : St := ⟨fr 121 g6 [(1, ls 3 eEdit a2), (5, vs x3_0), (7, vs x6_0)], [.row 4 1 0 (ra eBool x6_1)]⟩
theorem F5_ok (Nf : Nat) (a1 : ByteArray) (a2 : List EditD) {r : Bool} (h : F5 Nf a1 a2 = some r) : PR1 prg 5 [vs a1, ls 3 eEdit a2] (F5_v a1 a2 r) := by
 unfold F5 at h
 apply bn h; intro x1 h1 h
 apply bi h <;> intro h2 h
 ·
  apply bn h; intro x3 h3 h
  rw [← sj h]
  exact fq [(16, .v (vb true)), (17, .v (vb x3))] (apc ((((F14_ok a1 a2 h1).cp rfl _).trans (congrArg (fun z => some (vb z)) h2)) : CP prg 14 [vs a1, ls 3 eEdit a2] [] = some (vb true)) (apc (((F9_ok  h3).cp rfl _) : CP prg 9 [] [] = some (vb x3)) apn))
 ·
  have q0 := ((((F14_ok a1 a2 h1).cp rfl _).trans (congrArg (fun z => some (vb z)) h2)) : CP prg 14 [vs a1, ls 3 eEdit a2] [] = some (vb false))
  apply bn h; intro r3 h3 h
  cases r3 with
  | k0 x3_0 x3_1 =>
   have q1 := (((F13_ok Nf a1 a2 h3).cp rfl _) : CP prg 13 [vs a1, ls 3 eEdit a2] [] = some (.tup [vs x3_0, i6 x3_1]))
   have q2 := (L5_1_k a2 x3_0 (Int.toNat (a2.length : Int)) a1 0 (List.replicate (Int.toNat (a2.length : Int)) false))
   have k3 := ka [(16, .v (vb false)), (21, .v (.tup [vs x3_0, i6 x3_1]))] (apc q0 (apc q1 apn))
   apply bi h <;> intro h4 h
   ·
    apply bi h <;> intro h5 h
    ·
     apply bn h; intro x6 h6 h
     rw [← sj h]
     exact fq ([(25, .d true), (27, .d true), (29, .v (vb x6))] ++ kH k3) (k3.b (av h4 (av h5 (apc (((F9_ok  h6).cp rfl _) : CP prg 9 [] [] = some (vb x6)) apn))))
    ·
     rw [← sj h]
     exact fq ([(25, .d true), (27, .d false)] ++ kH k3) (k3.b (av h4 (av h5 apn)))
   ·
    have k4 := k3.a [(25, .d false), (33, .v (i6 (a2.length : Int)))] (av h4 (apc (lg a2 eEdit 3) apn))
    apply bi h <;> intro h5 h
    ·
     have q5 := ((mk_row' (h := []) (e := eBool) (z := false) h5 rfl) : (mkA 4 1 1 [.val (.bool false)] (i6 (a2.length : Int)) (i6 (a2.length : Int)) 0).map (fun x => (x.1, [] ++ [x.2])) = some ((.sl 0 0 1 0 (Int.toNat (a2.length : Int))), F5_d0 a2))
     have k6 := k4.a [(34, .r (.sl 0 0 1 0 (Int.toNat (a2.length : Int))) (F5_d0 a2))] (apc q5 apn)
     apply bn h; intro r6 h6 h
     cases r6 with
     | k0 =>
      obtain ⟨g6, y6, e6⟩ := L5_1_run Nf a2 x3_0 (Int.toNat (a2.length : Int)) (a1, 0, (List.replicate (Int.toNat (a2.length : Int)) false)) _ h6
      rw [← sj h]
      exact fq ([(2000, .l .ret ⟨fr 121 g6 [(4, vb false)], y6⟩), (6000, .d true)] ++ kH k6) (k6.b (apc q2 (apc (e6 : L5_1_e a2 x3_0 (Int.toNat (a2.length : Int)) a1 0 (List.replicate (Int.toNat (a2.length : Int)) false) = some (.ret, ⟨fr 121 g6 [(4, vb false)], y6⟩)) apn)))
     | k1 x6_0 x6_1 =>
      obtain ⟨g6, e6⟩ := L5_1_run Nf a2 x3_0 (Int.toNat (a2.length : Int)) (a1, 0, (List.replicate (Int.toNat (a2.length : Int)) false)) _ h6
      have q7 := (e6 : L5_1_e a2 x3_0 (Int.toNat (a2.length : Int)) a1 0 (List.replicate (Int.toNat (a2.length : Int)) false) = some ((.brk 0), F5_d1 g6 a2 x3_0 x6_0 x6_1))
      have k8 := k6.a [(2000, .l (.brk 0) (F5_d1 g6 a2 x3_0 x6_0 x6_1))] (apc q2 (apc q7 apn))
      apply bi h <;> intro h7 h
      ·
       apply bn h; intro x8 h8 h
       rw [← sj h]
       exact fq ([(117, .d true), (119, .v (vb x8)), (6000, .d true)] ++ kH k8) (k8.b (av h7 (apc (((F9_ok  h8).cp rfl _) : CP prg 9 [] [.row 4 1 0 (ra eBool x6_1)] = some (vb x8)) apn)))
      ·
       rw [← sj h]
       exact fq ([(117, .d false), (6000, .d true)] ++ kH k8) (k8.b (av h7 apn))
    ·
     cases h
end
end Go.Proofs.Tryd
