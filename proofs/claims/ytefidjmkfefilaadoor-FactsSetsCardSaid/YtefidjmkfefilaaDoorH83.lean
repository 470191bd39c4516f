/- Decompiled by a program: functions as plain data see them, part 3. -/
import Derived.Test.YtefidjmkfefilaaDoorH82
namespace Go.Proofs.Tryd
set_option linter.unusedSimpArgs false
set_option linter.unusedVariables false
open Go Go.Vs
noncomputable section
inductive R_F35 where
  | k0 (x0 : List SetD) (x1 : List Bool)
def ZcK (a1 : GramD) (r : R_F35) : AV := match r with | .k0 x0 x1 => (.tup [ls 4 eSet x0, ls 1 Zk x1])
def F35 (a1 : GramD) : Option R_F35 :=
  ((F16 a1).bind fun x1 => ((F27 a1).bind fun x2 => ((F34 a1).bind fun x3 => (bif (mkOk (a1.sorts.length : Int) 1) then (bif (mkOk (a1.sorts.length : Int) 32) then ((getI x1 a1.start).bind fun x6 => ((ixN (Int.toNat (a1.sorts.length : Int)) a1.start).bind fun x7 => (((List.replicate (Int.toNat (a1.sorts.length : Int)) false)[x7]?).bind fun x8 => ((((List.replicate (Int.toNat (a1.sorts.length : Int)) false).set x7 (decide (x6 ≥ 0)))[x7]?).bind fun x9 => ((runL (fun s => UO x1 x2 x3 (Int.toNat (a1.sorts.length : Int)) a1 s.1 s.2.1 s.2.2.1 s.2.2.2) (true, ((List.replicate (Int.toNat (a1.sorts.length : Int)) false).set x7 (decide (x6 ≥ 0))), (List.replicate (Int.toNat (a1.sorts.length : Int)) (⟨0, 0, 0, 0⟩ : SetD)), ((List.replicate (Int.toNat (a1.sorts.length : Int)) false).set x7 x9))).bind fun r10 => match r10 with | .k0 x10_0 x10_1 x10_2 => (bif (decide ((Int.toNat (a1.sorts.length : Int)) ≤ x10_1.length)) then (bif (decide ((Int.toNat (a1.sorts.length : Int)) ≤ x10_2.length)) then (some (.k0 (x10_1.take (Int.toNat (a1.sorts.length : Int))) (x10_2.take (Int.toNat (a1.sorts.length : Int))))) else none) else none)))))) else none) else none))))
abbrev NG (a1 : GramD) : List AB := [bG a1, bS [], bB []]
abbrev Bb (a1 : GramD) : List AB := [bG a1, bS [], bB [], bB (List.replicate (tS a1) false)]
abbrev Jv (a1 : GramD) (x7 : Nat) (x6 : Int) : List AB := [bG a1, bS [], bB [], bB ((List.replicate (tS a1) false).set x7 (decide (x6 ≥ 0))), bS (List.replicate (tS a1) (⟨0, 0, 0, 0⟩ : SetD)), bB (List.replicate (tS a1) false)]
abbrev Bc (a1 : GramD) (x7 : Nat) (x6 : Int) (x9 : Bool) : List AB := [bG a1, bS [], bB [], bB ((List.replicate (tS a1) false).set x7 (decide (x6 ≥ 0))), bS (List.replicate (tS a1) (⟨0, 0, 0, 0⟩ : SetD)), bB ((List.replicate (tS a1) false).set x7 x9)]
abbrev Bd (g10 : Nat → AV) (x1 : List Int) (a1 : GramD) (x10_0 : List Bool) (x10_1 : List SetD) (x10_2 : List Bool) : St := ⟨fr 202 g10 [(1, .ptr 0 0), (4, ls 1 eI64 x1), (7, (.sl 3 0 1 0 (tS a1))), (8, (.sl 4 0 4 0 (tS a1))), (9, (.sl 5 0 1 0 (tS a1)))], [bG a1, bS [], bB [], bB x10_0, bS x10_1, bB x10_2]⟩
theorem Zbl (a1 : GramD) {r : R_F35} (h : F35 a1 = some r) : PR2 prg 35 [aG a1] (ZcK a1 r) := by
 unfold F35 at h
 apply bn h; intro x1 h1 h
 have q0 := (((Fx a1 h1).cp rfl _) : CP prg 16 [aG a1] (NG a1) = some (ls 1 eI64 x1))
 apply bn h; intro x2 h2 h
 have q1 := (((C7 a1 h2).cp rfl _) : CP prg 27 [aG a1] (NG a1) = some (ls 1 Zk x2))
 have k2 := ka [(20, .v (ls 1 eI64 x1)), (22, .v (ls 1 Zk x2))] (apc q0 (apc q1 apn))
 apply bn h; intro x3 h3 h
 have q3 := (((Ba a1 h3).cp rfl _) : CP prg 34 [aG a1] (NG a1) = some (ls 4 eSet x3))
 have k4 := k2.a [(24, .v (ls 4 eSet x3)), (27, .v (i6 (lS a1)))] (apc q3 (apc (lg a1.sorts eStr 1) apn))
 apply bi h <;> intro h4 h
 ·
  have q5 := ((U5 (h := (NG a1)) (e := Zk) (z := false) h4 rfl) : (mkA 4 1 1 [.val (.bool false)] (i6 (lS a1)) (i6 (lS a1)) 3).map (fun x => (x.1, (NG a1) ++ [x.2])) = some ((.sl 3 0 1 0 (tS a1)), Bb a1))
  have q6 := ((S3 (e := Zk) (z := false) h4 rfl) : mkA 4 1 1 [.val (.bool false)] (i6 (lS a1)) (i6 (lS a1)) 5 = some ((.sl 5 0 1 0 (tS a1)), bB (List.replicate (tS a1) false)))
  have k7 := k4.a [(28, .r (.sl 3 0 1 0 (tS a1)) (Bb a1)), (31, .v (i6 (lS a1)))] (apc q5 (apc (lg a1.sorts eStr 1) apn))
  apply bi h <;> intro h5 h
  ·
   have q8 := ((S3 (e := eSet) (z := (⟨0, 0, 0, 0⟩ : SetD)) h5 rfl) : mkA 46 4 32 [.val (.int .u64 0), .val (.int .u64 0), .val (.int .u64 0), .val (.int .u64 0)] (i6 (lS a1)) (i6 (lS a1)) 4 = some ((.sl 4 0 4 0 (tS a1)), bS (List.replicate (tS a1) (⟨0, 0, 0, 0⟩ : SetD))))
   have k9 := k7.a [(32, .r (.sl 4 0 4 0 (tS a1)) [bS (List.replicate (tS a1) (⟨0, 0, 0, 0⟩ : SetD))]), (35, .v (i6 (lS a1))), (36, .r (.sl 5 0 1 0 (tS a1)) [bB (List.replicate (tS a1) false)])] (apc q8 (apc (lg a1.sorts eStr 1) (apc q6 apn)))
   apply bn h; intro x6 h6 h
   have k10 := k9.a [(43, .v (.ro [.val (.int .i64 x6)]))] (apc (ig eI64 1 .i64 h6) apn)
   apply bn h; intro x7 h7 h
   have q11 := ((ZW h7) : idxA 1 (.sl 3 0 1 0 (tS a1)) (i6 a1.start) = some (.rp 3 0 1 x7 0))
   have q12 := ((ZW h7) : idxA 1 (.sl 5 0 1 0 (tS a1)) (i6 a1.start) = some (.rp 5 0 1 x7 0))
   apply bn h; intro x8 h8 h
   have q13 := (⟨Zt (v' := (decide (x6 ≥ 0))) rfl h8 rfl rfl (Nat.le_of_ble_eq_true rfl) rfl, rfl⟩ : stA [bG a1, bS [], bB [], bB (List.replicate (tS a1) false), bS (List.replicate (tS a1) (⟨0, 0, 0, 0⟩ : SetD)), bB (List.replicate (tS a1) false)] 1 (.rp 3 0 1 x7 0) (vb (decide (x6 ≥ 0))) = some (Jv a1 x7 x6) ∧ ud = ud)
   have k14 := k10.a [(46, .v (.rp 3 0 1 x7 0)), (1046, .r ud (Jv a1 x7 x6)), (53, .v (.rp 3 0 1 x7 0))] (apc q11 (apc q13 (apc q11 apn)))
   apply bn h; intro x9 h9 h
   have q15 := ((Zp rfl h9 rfl) : ldA (Jv a1 x7 x6) .false 1 (.rp 3 0 1 x7 0) = some (vb x9))
   have q16 := (⟨Zt (v' := x9) rfl h8 rfl rfl (Nat.le_of_ble_eq_true rfl) rfl, rfl⟩ : stA (Jv a1 x7 x6) 1 (.rp 5 0 1 x7 0) (vb x9) = some (Bc a1 x7 x6 x9) ∧ ud = ud)
   have q17 := (FL x1 x2 x3 (tS a1) a1 true ((List.replicate (tS a1) false).set x7 (decide (x6 ≥ 0))) (List.replicate (tS a1) (⟨0, 0, 0, 0⟩ : SetD)) ((List.replicate (tS a1) false).set x7 x9))
   have k18 := k14.a [(54, .v (vb x9)), (55, .v (.rp 5 0 1 x7 0)), (1055, .r ud (Bc a1 x7 x6 x9))] (apc q15 (apc q12 (apc q16 apn)))
   apply bn h; intro r10 h10 h
   cases r10 with
   | k0 x10_0 x10_1 x10_2 =>
    obtain ⟨g10, e10⟩ := FM x1 x2 x3 (tS a1) a1 (true, ((List.replicate (tS a1) false).set x7 (decide (x6 ≥ 0))), (List.replicate (tS a1) (⟨0, 0, 0, 0⟩ : SetD)), ((List.replicate (tS a1) false).set x7 x9)) _ h10
    have q19 := (e10 : Tw x1 x2 x3 (tS a1) a1 true ((List.replicate (tS a1) false).set x7 (decide (x6 ≥ 0))) (List.replicate (tS a1) (⟨0, 0, 0, 0⟩ : SetD)) ((List.replicate (tS a1) false).set x7 x9) = some ((.brk 0), Bd g10 x1 a1 x10_0 x10_1 x10_2))
    have k20 := k18.a [(2000, .l (.brk 0) (Bd g10 x1 a1 x10_0 x10_1 x10_2))] (apc q17 (apc q19 apn))
    apply bi h <;> intro h11 h
    ·
     apply bi h <;> intro h12 h
     ·
      rw [← sj h]
      exact fpn (v := (.tup [(.sl 4 0 4 0 (tS a1)), (.sl 5 0 1 0 (tS a1))])) (h' := [bG a1, bS [], bB [], bB x10_0, bS x10_1, bB x10_2]) (kH k20 ++ [(6000, .d true)]) (k20.b apn) (XR (Zg (ZR (e := eSet) rfl h11) (Zg (ZR (e := Zk) rfl h12) Zv))) rfl (XR (Zg (ZR (e := eSet) (getq rfl (W4 (fun _ => rfl))) h11) (Zg (ZR (e := Zk) (getq rfl (W4 (fun _ => rfl))) h12) Zv))) (by kernel_rfl)
     ·
      cases h
    ·
     cases h
  ·
   cases h
 ·
  cases h
inductive E_L8_0 where
  | k0
  | k1
section
variable (a1 a2 : List SetD) (a3 : List Bool) (a4 : Int) (a5 a6 : List SetD) (a7 : List Bool) (a8 : GramD)
def L8_0 (v1 : Int) : Option (E_L8_0 ⊕ (Int)) :=
  (bif (decide (v1 < (a5.length : Int))) then ((getI a1 v1).bind fun x2 => ((getI a5 v1).bind fun x3 => (bif (!((x2.a == x3.a) && ((x2.b == x3.b) && ((x2.c == x3.c) && ((x2.d == x3.d) && true))))) then (some (.inl (.k0))) else ((getI a2 v1).bind fun x5 => ((getI a6 v1).bind fun x6 => (bif (!((x5.a == x6.a) && ((x5.b == x6.b) && ((x5.c == x6.c) && ((x5.d == x6.d) && true))))) then (some (.inl (.k0))) else (some (.inr ((IntKind.wrap .i64 (v1 + 1))))))))))) else (some (.inl (.k1))))
def Be (v1 : Int) : St := ⟨fr 127 ug [(4, ls 4 eSet a1), (6, ls 4 eSet a2), (8, ls 1 Zk a3), (9, i6 a4), (10, ls 4 eSet a5), (11, ls 4 eSet a6), (12, ls 1 Zk a7), (13, i6 v1)], [bG a8]⟩
theorem FN (v1 : Int) : okT 1 (Be a1 a2 a3 a4 a5 a6 a7 a8 v1).h = true := (Zr rfl (ac rfl))
abbrev RG (v1 : Int) := evH prg 1 [4, 6, 8, 9, 10, 11, 12, 13] Cx (Be a1 a2 a3 a4 a5 a6 a7 a8 v1)
def FO (e : E_L8_0) (r : Option (Out × St)) : Prop := match e with | .k0 => ∃ g y, r = some (.ret, ⟨fr 127 g [(2, vb false)], y⟩) | .k1 => ∃ g, r = some ((.brk 0), ⟨fr 127 g [(4, ls 4 eSet a1), (6, ls 4 eSet a2), (8, ls 1 Zk a3), (9, i6 a4), (10, ls 4 eSet a5), (11, ls 4 eSet a6), (12, ls 1 Zk a7)], [bG a8]⟩)
theorem Zav (v1 : Int) {r : E_L8_0 ⊕ (Int)} (h : L8_0 a1 a2 a5 a6 v1 = some r) : OkR (fun e => FO a1 a2 a3 a4 a5 a6 a7 a8 e (RG a1 a2 a3 a4 a5 a6 a7 a8 v1)) (fun s => RG a1 a2 a3 a4 a5 a6 a7 a8 v1 = RG a1 a2 a3 a4 a5 a6 a7 a8 s) r := by
 unfold L8_0 at h
 have k0 := ka [(96, .v (i6 (a5.length : Int)))] (apc (lg a5 eSet 4) apn)
 apply bi h <;> intro h1 h
 ·
  apply bn h; intro x2 h2 h
  have k1 := k0.a [(97, .d true), (102, .v (.ro (eSet x2)))] (av h1 (apc (ig eSet 4 .i64 h2) apn))
  apply bn h; intro x3 h3 h
  apply bi h <;> intro h4 h
  ·
   rw [← sj h]
   exact xy (kH k1 ++ [(106, .v (.ro (eSet x3))), (108, .d true), (6000, .d true)]) (k1.b (apc (ig eSet 4 .i64 h3) (av h4 apn)))
  ·
   have k2 := k1.a [(106, .v (.ro (eSet x3))), (108, .d false)] (apc (ig eSet 4 .i64 h3) (av h4 apn))
   apply bn h; intro x5 h5 h
   apply bn h; intro x6 h6 h
   have k3 := k2.a [(112, .v (.ro (eSet x5))), (116, .v (.ro (eSet x6)))] (apc (ig eSet 4 .i64 h5) (apc (ig eSet 4 .i64 h6) apn))
   apply bi h <;> intro h7 h
   ·
    rw [← sj h]
    exact xy (kH k3 ++ [(118, .d true), (6000, .d true)]) (k3.b (av h7 apn))
   ·
    rw [← sj h]
    exact rn (kH k3 ++ [(118, .d false), (6000, .d true)]) (k3.b (av h7 (apc (FN a1 a2 a3 a4 a5 a6 a7 a8 (w6 (v1 + 1))) apn)))
 ·
  rw [← sj h]
  exact xb (kH k0 ++ [(97, .d false), (6000, .d true)]) (k0.b (av h1 apn))
theorem Jw (s0 : Int) (e : E_L8_0) (h : runL (fun s => L8_0 a1 a2 a5 a6 s) s0 = some e) : FO a1 a2 a3 a4 a5 a6 a7 a8 e (RG a1 a2 a3 a4 a5 a6 a7 a8 s0) := by
  have q := @Zb (Int) E_L8_0 (fun s => L8_0 a1 a2 a5 a6 s) (fun s => RG a1 a2 a3 a4 a5 a6 a7 a8 s) (FO a1 a2 a3 a4 a5 a6 a7 a8) (fun s r h => Zav a1 a2 a3 a4 a5 a6 a7 a8 s h) s0 e h
  exact q
end
inductive E_L24_0_2 where
  | k0
  | k1
section
variable (a1 a2 : List Bool)
def WF (v1 : Int) : Option (E_L24_0_2 ⊕ (Int)) :=
  (bif (decide (v1 < (a1.length : Int))) then ((getI a1 v1).bind fun x2 => ((getI a2 v1).bind fun x3 => (bif (!((x2 == x3) && true)) then (some (.inl (.k0))) else (some (.inr ((IntKind.wrap .i64 (v1 + 1)))))))) else (some (.inl (.k1))))
def NH (v1 : Int) : St := ⟨fr 47 ug [(0, ls 1 Zk a1), (1, ls 1 Zk a2), (9, i6 v1)], []⟩
theorem RH (v1 : Int) : okT 0 (NH a1 a2 v1).h = true := (Zr rfl rfl)
abbrev XC (v1 : Int) := evH prg 0 [0, 1, 9] MC (NH a1 a2 v1)
def RI (e : E_L24_0_2) (r : Option (Out × St)) : Prop := match e with | .k0 => ∃ g y, r = some (.ret, ⟨fr 47 g [(8, vb false)], y⟩) | .k1 => ∃ g, r = some ((.brk 0), ⟨fr 47 g [(0, ls 1 Zk a1), (1, ls 1 Zk a2)], []⟩)
theorem IJ (v1 : Int) {r : E_L24_0_2 ⊕ (Int)} (h : WF a1 a2 v1 = some r) : OkR (fun e => RI a1 a2 e (XC a1 a2 v1)) (fun s => XC a1 a2 v1 = XC a1 a2 s) r := by
 unfold WF at h
 have k0 := ka [(34, .v (i6 (a1.length : Int)))] (apc (lg a1 Zk 1) apn)
 apply bi h <;> intro h1 h
 ·
  apply bn h; intro x2 h2 h
  have k1 := k0.a [(35, .d true), (40, .v (.ro [.val (.bool x2)]))] (av h1 (apc (ig Zk 1 .i64 h2) apn))
  apply bn h; intro x3 h3 h
  have k2 := k1.a [(44, .v (.ro [.val (.bool x3)]))] (apc (ig Zk 1 .i64 h3) apn)
  apply bi h <;> intro h4 h
  ·
   rw [← sj h]
   exact xy (kH k2 ++ [(46, .d true), (6000, .d true)]) (k2.b (av h4 apn))
  ·
   rw [← sj h]
   exact rn (kH k2 ++ [(46, .d false), (6000, .d true)]) (k2.b (av h4 (apc (RH a1 a2 (w6 (v1 + 1))) apn)))
 ·
  rw [← sj h]
  exact xb (kH k0 ++ [(35, .d false), (6000, .d true)]) (k0.b (av h1 apn))
theorem RJ (s0 : Int) (e : E_L24_0_2) (h : runL (fun s => WF a1 a2 s) s0 = some e) : RI a1 a2 e (XC a1 a2 s0) := by
  have q := @Zb (Int) E_L24_0_2 (fun s => WF a1 a2 s) (fun s => XC a1 a2 s) (RI a1 a2) (fun s r h => IJ a1 a2 s h) s0 e h
  exact q
end
def Zaw (a1 a2 : List Bool) (a3 : Int) (x0 : Bool) : AV := (vb x0)
def FQ (a1 a2 : List Bool) (a3 : Int) : Option Bool :=
  ((F15 a3).bind fun x1 => (bif (x1 != 0) then ((F15 a3).bind fun x3 => (bif (x3 == 0) then (some ((a1.length : Int) == 0)) else (some false))) else (bif ((a1.length : Int) != (a2.length : Int)) then (some false) else ((runL (fun s => WF a1 a2 s) 0).bind fun r4 => match r4 with | .k0 => (some false) | .k1 => (some true)))))
abbrev Jx (g4 : Nat → AV) (a1 a2 : List Bool) : St := ⟨fr 47 g4 [(0, ls 1 Zk a1), (1, ls 1 Zk a2)], []⟩
theorem Jy (a1 a2 : List Bool) (a3 : Int) {r : Bool} (h : FQ a1 a2 a3 = some r) : PR1 prg 24 [ls 1 Zk a1, ls 1 Zk a2, i6 a3, i6 0] (Zaw a1 a2 a3 r) := by
 unfold FQ at h
 apply bn h; intro x1 h1 h
 have q0 := (((UI a3 h1).cp rfl _) : CP prg 15 [i6 a3] [] = some (i6 x1))
 apply bi h <;> intro h2 h
 ·
  have k1 := ka [(11, .v (i6 x1)), (13, .d true)] (apc q0 (av h2 apn))
  apply bn h; intro x3 h3 h
  have q2 := (((UI a3 h3).cp rfl _) : CP prg 15 [i6 a3] [] = some (i6 x3))
  apply bi h <;> intro h4 h
  ·
   rw [← sj h]
   exact fq (kH k1 ++ [(19, .v (i6 x3)), (21, .d true), (24, .v (i6 (a1.length : Int)))]) (k1.b (apc q2 (av h4 (apc (lg a1 Zk 1) apn))))
  ·
   rw [← sj h]
   exact fq (kH k1 ++ [(19, .v (i6 x3)), (21, .d false)]) (k1.b (apc q2 (av h4 apn)))
 ·
  have k3 := ka [(11, .v (i6 x1)), (13, .d false), (28, .v (i6 (a1.length : Int))), (30, .v (i6 (a2.length : Int)))] (apc q0 (av h2 (apc (lg a1 Zk 1) (apc (lg a2 Zk 1) apn))))
  apply bi h <;> intro h3 h
  ·
   rw [← sj h]
   exact fq (kH k3 ++ [(31, .d true)]) (k3.b (av h3 apn))
  ·
   apply bn h; intro r4 h4 h
   cases r4 with
   | k0 =>
    obtain ⟨g4, y4, e4⟩ := RJ a1 a2 0 _ h4
    rw [← sj h]
    exact fq (kH k3 ++ [(31, .d false), (2000, .l .ret ⟨fr 47 g4 [(8, vb false)], y4⟩), (6000, .d true)]) (k3.b (av h3 (apc (RH a1 a2 0) (apc (e4 : XC a1 a2 0 = some (.ret, ⟨fr 47 g4 [(8, vb false)], y4⟩)) apn))))
   | k1 =>
    obtain ⟨g4, e4⟩ := RJ a1 a2 0 _ h4
    rw [← sj h]
    exact fq (kH k3 ++ [(31, .d false), (2000, .l (.brk 0) (Jx g4 a1 a2)), (6000, .d true)]) (k3.b (av h3 (apc (RH a1 a2 0) (apc (e4 : XC a1 a2 0 = some ((.brk 0), Jx g4 a1 a2)) apn))))
def F8_v (a1 : GramD) (x0 : Bool) : AV := (vb x0)
def F8 (a1 : GramD) : Option Bool :=
  ((F10 a1).bind fun x1 => (bif x1 then ((F11).bind fun x3 => (some x3)) else ((F12 a1).bind fun x3 => ((F30 a1).bind fun r4 => match r4 with | .k0 x4_0 x4_1 => ((F32 a1).bind fun r5 => match r5 with | .k0 x5_0 x5_1 => ((F33 a1).bind fun r6 => match r6 with | .k0 x6_0 x6_1 => (bif (x3 != 0) then (bif ((x4_0.length : Int) == 0) then ((F15 x4_1).bind fun x9 => (bif (x9 == x3) then (bif ((x5_0.length : Int) == 0) then ((F15 x5_1).bind fun x12 => (bif (x12 == x3) then ((F24 x6_0 x6_1 x3).bind fun x14 => (bif x14 then ((F11).bind fun x16 => (some x16)) else (some false))) else (some false))) else (some false)) else (some false))) else (some false)) else ((F34 a1).bind fun x8 => ((F35 a1).bind fun r9 => match r9 with | .k0 x9_0 x9_1 => ((F15 x4_1).bind fun x10 => (bif (x10 != 0) then (some false) else ((F15 x5_1).bind fun x12 => (bif (x12 != 0) then (some false) else (bif ((x4_0.length : Int) != (x8.length : Int)) then (some false) else (bif ((x5_0.length : Int) != (x9_0.length : Int)) then (some false) else ((runL (fun s => L8_0 x4_0 x5_0 x8 x9_0 s) 0).bind fun r16 => match r16 with | .k0 => (some false) | .k1 => ((FQ x6_0 x9_1 x6_1).bind fun x17 => (bif x17 then ((F11).bind fun x19 => (some x19)) else (some false)))))))))))))))))))
abbrev Zbm (g16 : Nat → AV) (x4_0 x5_0 : List SetD) (x6_0 : List Bool) (x6_1 : Int) (x8 x9_0 : List SetD) (x9_1 : List Bool) (a1 : GramD) : St := ⟨fr 127 g16 [(4, ls 4 eSet x4_0), (6, ls 4 eSet x5_0), (8, ls 1 Zk x6_0), (9, i6 x6_1), (10, ls 4 eSet x8), (11, ls 4 eSet x9_0), (12, ls 1 Zk x9_1)], [bG a1]⟩
theorem ZcL (a1 : GramD) {r : Bool} (h : F8 a1 = some r) : PR1 prg 8 [aG a1] (F8_v a1 r) := by
 unfold F8 at h
 apply bn h; intro x1 h1 h
 apply bi h <;> intro h2 h
 ·
  apply bn h; intro x3 h3 h
  rw [← sj h]
  exact fq [(15, .v (vb true)), (16, .v (vb x3))] (apc ((((Cy a1 h1).cp rfl _).trans (congrArg (fun z => some (vb z)) h2)) : CP prg 10 [aG a1] [bG a1] = some (vb true)) (apc (((Gx  h3).cp rfl _) : CP prg 11 [] [bG a1] = some (vb x3)) apn))
 ·
  have q0 := ((((Cy a1 h1).cp rfl _).trans (congrArg (fun z => some (vb z)) h2)) : CP prg 10 [aG a1] [bG a1] = some (vb false))
  apply bn h; intro x3 h3 h
  have q1 := (((Zbf a1 h3).cp rfl _) : CP prg 12 [aG a1] [bG a1] = some (i6 x3))
  have k2 := ka [(15, .v (vb false)), (18, .v (i6 x3))] (apc q0 (apc q1 apn))
  apply bn h; intro r4 h4 h
  cases r4 with
  | k0 x4_0 x4_1 =>
   have q3 := (((Zbi a1 h4).cp rfl _) : CP prg 30 [aG a1] [bG a1] = some (.tup [ls 4 eSet x4_0, i6 x4_1]))
   have k4 := k2.a [(21, .v (.tup [ls 4 eSet x4_0, i6 x4_1]))] (apc q3 apn)
   apply bn h; intro r5 h5 h
   cases r5 with
   | k0 x5_0 x5_1 =>
    have q5 := (((Zbj a1 h5).cp rfl _) : CP prg 32 [aG a1] [bG a1] = some (.tup [ls 4 eSet x5_0, i6 x5_1]))
    have k6 := k4.a [(26, .v (.tup [ls 4 eSet x5_0, i6 x5_1]))] (apc q5 apn)
    apply bn h; intro r6 h6 h
    cases r6 with
    | k0 x6_0 x6_1 =>
     have q7 := (((Zbk a1 h6).cp rfl _) : CP prg 33 [aG a1] [bG a1] = some (.tup [ls 1 Zk x6_0, i6 x6_1]))
     have k8 := k6.a [(31, .v (.tup [ls 1 Zk x6_0, i6 x6_1]))] (apc q7 apn)
     apply bi h <;> intro h7 h
     ·
      have k9 := k8.a [(35, .d true), (37, .v (i6 (x4_0.length : Int)))] (av h7 (apc (lg x4_0 eSet 4) apn))
      apply bi h <;> intro h8 h
      ·
       apply bn h; intro x9 h9 h
       have q10 := (((UI x4_1 h9).cp rfl _) : CP prg 15 [i6 x4_1] [bG a1] = some (i6 x9))
       have k11 := k9.a [(38, .d true), (41, .v (i6 x9))] (av h8 (apc q10 apn))
       apply bi h <;> intro h10 h
       ·
        have k12 := k11.a [(43, .d true), (47, .v (i6 (x5_0.length : Int)))] (av h10 (apc (lg x5_0 eSet 4) apn))
        apply bi h <;> intro h11 h
        ·
         apply bn h; intro x12 h12 h
         have q13 := (((UI x5_1 h12).cp rfl _) : CP prg 15 [i6 x5_1] [bG a1] = some (i6 x12))
         have k14 := k12.a [(48, .d true), (52, .v (i6 x12))] (av h11 (apc q13 apn))
         apply bi h <;> intro h13 h
         ·
          apply bn h; intro x14 h14 h
          apply bi h <;> intro h15 h
          ·
           apply bn h; intro x16 h16 h
           rw [← sj h]
           exact fq (kH k14 ++ [(54, .d true), (60, .v (vb true)), (63, .v (vb x16))]) (k14.b (av h13 (apc ((((C1 x6_0 x6_1 x3 h14).cp rfl _).trans (congrArg (fun z => some (vb z)) h15)) : CP prg 24 [ls 1 Zk x6_0, n0, i6 x6_1, i6 x3] [bG a1] = some (vb true)) (apc (((Gx  h16).cp rfl _) : CP prg 11 [] [bG a1] = some (vb x16)) apn))))
          ·
           rw [← sj h]
           exact fq (kH k14 ++ [(54, .d true), (60, .v (vb false))]) (k14.b (av h13 (apc ((((C1 x6_0 x6_1 x3 h14).cp rfl _).trans (congrArg (fun z => some (vb z)) h15)) : CP prg 24 [ls 1 Zk x6_0, n0, i6 x6_1, i6 x3] [bG a1] = some (vb false)) apn)))
         ·
          rw [← sj h]
          exact fq (kH k14 ++ [(54, .d false)]) (k14.b (av h13 apn))
        ·
         rw [← sj h]
         exact fq (kH k12 ++ [(48, .d false)]) (k12.b (av h11 apn))
       ·
        rw [← sj h]
        exact fq (kH k11 ++ [(43, .d false)]) (k11.b (av h10 apn))
      ·
       rw [← sj h]
       exact fq (kH k9 ++ [(38, .d false)]) (k9.b (av h8 apn))
     ·
      apply bn h; intro x8 h8 h
      have q15 := (((Ba a1 h8).cp rfl _) : CP prg 34 [aG a1] [bG a1] = some (ls 4 eSet x8))
      have k16 := k8.a [(35, .d false), (66, .v (ls 4 eSet x8))] (av h7 (apc q15 apn))
      apply bn h; intro r9 h9 h
      cases r9 with
      | k0 x9_0 x9_1 =>
       have q17 := (((Zbl a1 h9).cp rfl _) : CP prg 35 [aG a1] [bG a1] = some (.tup [ls 4 eSet x9_0, ls 1 Zk x9_1]))
       have k18 := k16.a [(69, .v (.tup [ls 4 eSet x9_0, ls 1 Zk x9_1]))] (apc q17 apn)
       apply bn h; intro x10 h10 h
       have q19 := (((UI x4_1 h10).cp rfl _) : CP prg 15 [i6 x4_1] [bG a1] = some (i6 x10))
       apply bi h <;> intro h11 h
       ·
        rw [← sj h]
        exact fq (kH k18 ++ [(73, .v (i6 x10)), (74, .d true)]) (k18.b (apc q19 (av h11 apn)))
       ·
        have k20 := k18.a [(73, .v (i6 x10)), (74, .d false)] (apc q19 (av h11 apn))
        apply bn h; intro x12 h12 h
        have q21 := (((UI x5_1 h12).cp rfl _) : CP prg 15 [i6 x5_1] [bG a1] = some (i6 x12))
        apply bi h <;> intro h13 h
        ·
         rw [← sj h]
         exact fq (kH k20 ++ [(77, .v (i6 x12)), (78, .d true)]) (k20.b (apc q21 (av h13 apn)))
        ·
         have k22 := k20.a [(77, .v (i6 x12)), (78, .d false), (82, .v (i6 (x4_0.length : Int))), (84, .v (i6 (x8.length : Int)))] (apc q21 (av h13 (apc (lg x4_0 eSet 4) (apc (lg x8 eSet 4) apn))))
         apply bi h <;> intro h14 h
         ·
          rw [← sj h]
          exact fq (kH k22 ++ [(85, .d true)]) (k22.b (av h14 apn))
         ·
          have k23 := k22.a [(85, .d false), (89, .v (i6 (x5_0.length : Int))), (91, .v (i6 (x9_0.length : Int)))] (av h14 (apc (lg x5_0 eSet 4) (apc (lg x9_0 eSet 4) apn)))
          apply bi h <;> intro h15 h
          ·
           rw [← sj h]
           exact fq (kH k23 ++ [(92, .d true)]) (k23.b (av h15 apn))
          ·
           apply bn h; intro r16 h16 h
           cases r16 with
           | k0 =>
            obtain ⟨g16, y16, e16⟩ := Jw x4_0 x5_0 x6_0 x6_1 x8 x9_0 x9_1 a1 0 _ h16
            rw [← sj h]
            exact fq (kH k23 ++ [(92, .d false), (2000, .l .ret ⟨fr 127 g16 [(2, vb false)], y16⟩), (6000, .d true)]) (k23.b (av h15 (apc (FN x4_0 x5_0 x6_0 x6_1 x8 x9_0 x9_1 a1 0) (apc (e16 : RG x4_0 x5_0 x6_0 x6_1 x8 x9_0 x9_1 a1 0 = some (.ret, ⟨fr 127 g16 [(2, vb false)], y16⟩)) apn))))
           | k1 =>
            obtain ⟨g16, e16⟩ := Jw x4_0 x5_0 x6_0 x6_1 x8 x9_0 x9_1 a1 0 _ h16
            have q24 := (e16 : RG x4_0 x5_0 x6_0 x6_1 x8 x9_0 x9_1 a1 0 = some ((.brk 0), Zbm g16 x4_0 x5_0 x6_0 x6_1 x8 x9_0 x9_1 a1))
            have k25 := k23.a [(92, .d false), (2000, .l (.brk 0) (Zbm g16 x4_0 x5_0 x6_0 x6_1 x8 x9_0 x9_1 a1))] (av h15 (apc (FN x4_0 x5_0 x6_0 x6_1 x8 x9_0 x9_1 a1 0) (apc q24 apn)))
            apply bn h; intro x17 h17 h
            apply bi h <;> intro h18 h
            ·
             apply bn h; intro x19 h19 h
             rw [← sj h]
             exact fq (kH k25 ++ [(123, .v (vb true)), (125, .v (vb x19)), (6000, .d true)]) (k25.b (apc ((((Jy x6_0 x9_1 x6_1 h17).cp rfl _).trans (congrArg (fun z => some (vb z)) h18)) : CP prg 24 [ls 1 Zk x6_0, ls 1 Zk x9_1, i6 x6_1, i6 0] [bG a1] = some (vb true)) (apc (((Gx  h19).cp rfl _) : CP prg 11 [] [bG a1] = some (vb x19)) apn)))
            ·
             rw [← sj h]
             exact fq (kH k25 ++ [(123, .v (vb false)), (6000, .d true)]) (k25.b (apc ((((Jy x6_0 x9_1 x6_1 h17).cp rfl _).trans (congrArg (fun z => some (vb z)) h18)) : CP prg 24 [ls 1 Zk x6_0, ls 1 Zk x9_1, i6 x6_1, i6 0] [bG a1] = some (vb false)) apn))
end
end Go.Proofs.Tryd
