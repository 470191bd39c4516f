/- Decompiled by a program: functions as plain data see them, part 1. -/
import Derived.Test.YtefbhnhekkncpaaW4
namespace Go.Proofs.Try
set_option linter.unusedSimpArgs false
set_option linter.unusedVariables false
set_option maxHeartbeats 4000000
open Go Go.Vs
noncomputable section
def Il (a1 : BoxD) (a2 : Int) (x0 : Int) : AV := (i6 x0)
abbrev Vt := BoxD → Int → Option Int
abbrev Pn (f : Vt) : Prop := ∀ (a1 : BoxD) (a2 : Int) {r : Int}, f a1 a2 = some r → PR1 prg 12 [(.agg ((cBx a1).map .p)), i6 a2] (Il a1 a2 r)
inductive E_L12_0_2 where
  | k0 (x0 : Int)
def Wa (rF12_2 : Vt) (a1 : Int) (a3 : BoxD) (v1 v2 : Int) : Option (E_L12_0_2 ⊕ (Int × Int)) :=
  (bif (decide (v2 < (a3.kids.length : Int))) then (bif (decide (v1 ≤ a1)) then ((getI a3.kids v2).bind fun x3 => ((rF12_2 x3 (IntKind.wrap .i64 (a1 - v1))).bind fun x4 => (some (.inr ((IntKind.wrap .i64 (v1 + x4)), (IntKind.wrap .i64 (v2 + 1))))))) else (some (.inl (.k0 v1)))) else (some (.inl (.k0 v1))))
def Oo (a1 : Int) (a3 : BoxD) (v1 v2 : Int) : St := ⟨fr 35 ug [(1, i6 a1), (2, .ptr 0 0), (5, i6 v1), (6, i6 v2)], [.cells 25 ((cBx a3).map .p)]⟩
theorem Oq (a1 : Int) (a3 : BoxD) (v1 v2 : Int) : okT 1 (Oo a1 a3 v1 v2).h = true := (ZD rfl (ac rfl))
abbrev XU (a1 : Int) (a3 : BoxD) (v1 v2 : Int) := evH prg 1 [1, 2, 5, 6] Ie (Oo a1 a3 v1 v2)
def Si (a1 : Int) (a3 : BoxD) (e : E_L12_0_2) (r : Option (Out × St)) : Prop := match e with | .k0 x0 => ∃ g, r = some ((.brk 0), ⟨fr 35 g [(2, .ptr 0 0), (5, i6 x0)], [.cells 25 ((cBx a3).map .p)]⟩)
theorem KM (rF12_2 : Vt) (hF12_2 : Pn rF12_2) (a1 : Int) (a3 : BoxD) (v1 v2 : Int) {r : E_L12_0_2 ⊕ (Int × Int)} (h : Wa rF12_2 a1 a3 v1 v2 = some r) : OkR (fun e => Si a1 a3 e (XU a1 a3 v1 v2)) (fun s => XU a1 a3 v1 v2 = XU a1 a3 s.1 s.2) r := by
 unfold Wa at h
 have q0 := ((lgr Zr) : lnA (.p (.lst 4 (Zb a3.kids))) = some (i6 (a3.kids.length : Int)))
 apply bi h <;> intro h1 h
 ·
  have k1 := ka [(14, .v (i6 (a3.kids.length : Int))), (15, .d true)] (apc q0 (av h1 apn))
  apply bi h <;> intro h2 h
  ·
   apply bn h; intro x3 h3 h
   apply bn h; intro x4 h4 h
   rw [← sj h]
   exact rn ([(19, .d true), (27, .v (.ro (cBx x3))), (32, .v (i6 x4)), (6000, .d true)] ++ kH k1) (k1.b (av h2 (apc ((igr Zr h3) : idxA 4 (.p (.lst 4 (Zb a3.kids))) (i6 v2) = some (.ro (cBx x3))) (apc (((hF12_2 x3 (w6 (a1 - v1)) h4).cp rfl _) : CP prg 12 [(.agg ((cBx x3).map .p)), (i6 (w6 (a1 - v1)))] [.cells 25 ((cBx a3).map .p)] = some (i6 x4)) (apc (Oq a1 a3 (w6 (v1 + x4)) (w6 (v2 + 1))) apn)))))
  ·
   rw [← sj h]
   exact xb ([(19, .d false), (6000, .d true)] ++ kH k1) (k1.b (av h2 apn))
 ·
  rw [← sj h]
  exact xb [(14, .v (i6 (a3.kids.length : Int))), (15, .d false), (6000, .d true)] (apc q0 (av h1 apn))
theorem N7 (rF12_2 : Vt) (hF12_2 : Pn rF12_2) (a1 : Int) (a3 : BoxD) (s0 : Int × Int) (e : E_L12_0_2) (h : runL (fun s => Wa rF12_2 a1 a3 s.1 s.2) s0 = some e) : Si a1 a3 e (XU a1 a3 s0.1 s0.2) := by
  have q := @Zg (Int × Int) E_L12_0_2 (fun s => Wa rF12_2 a1 a3 s.1 s.2) (fun s => XU a1 a3 s.1 s.2) (Si a1 a3) (fun s r h => KM rF12_2 hF12_2 a1 a3 s.1 s.2 h) s0 e h
  exact q
def Sj (rF12_2 : Vt) (a1 : BoxD) (a2 : Int) : Option Int :=
  ((runL (fun s => Wa rF12_2 a2 a1 s.1 s.2) ((IntKind.wrap .i64 (1 + (a1.text.size : Int))), 0)).bind fun r1 => match r1 with | .k0 x1_0 => (some x1_0))
abbrev Lo (g1 : Nat → AV) (x1_0 : Int) (a1 : BoxD) : St := ⟨fr 35 g1 [(2, .ptr 0 0), (5, i6 x1_0)], [.cells 25 ((cBx a1).map .p)]⟩
theorem Im (rF12_2 : Vt) (hF12_2 : Pn rF12_2) (a1 : BoxD) (a2 : Int) {r : Int} (h : Sj rF12_2 a1 a2 = some r) : PR1 prg 12 [(.agg ((cBx a1).map .p)), i6 a2] (Il a1 a2 r) := by
 unfold Sj at h
 apply bn h; intro r1 h1 h
 cases r1 with
 | k0 x1_0 =>
  obtain ⟨g1, e1⟩ := N7 rF12_2 hF12_2 a2 a1 ((w6 (1 + (a1.text.size : Int))), 0) _ h1
  rw [← sj h]
  exact fq [(2000, .l (.brk 0) (Lo g1 x1_0 a1)), (6000, .d true)] (apc (Oq a2 a1 (w6 (1 + (a1.text.size : Int))) 0) (apc (e1 : XU a2 a1 (w6 (1 + (a1.text.size : Int))) 0 = some ((.brk 0), Lo g1 x1_0 a1)) apn))
def N8 : Nat → Vt
  | 0 => fun _ _ => none
  | Nf + 1 => Sj (N8 Nf)
theorem HQ (Nf : Nat) : Pn (N8 Nf) := by
  induction Nf with
  | zero => intro a1 a2 r h; have h : (none : Option Int) = some r := h; cases h
  | succ Nf ih => intro a1 a2 r h; exact Im (N8 Nf) ih a1 a2 h
def F5_v (a1 : BoxD) (x0 : Bool) : AV := (vb x0)
def F5 (Nf : Nat) (a1 : BoxD) : Option Bool :=
  ((N8 Nf a1 3000).bind fun x1 => (some (decide (x1 ≤ 3000))))
theorem D8 (Nf : Nat) (a1 : BoxD) {r : Bool} (h : F5 Nf a1 = some r) : PR1 prg 5 [(.agg ((cBx a1).map .p))] (F5_v a1 r) := by
 unfold F5 at h
 apply bn h; intro x1 h1 h
 rw [← sj h]
 exact fq [(4, .v (i6 x1))] (apc (((HQ Nf a1 3000 h1).cp rfl _) : CP prg 12 [(.agg ((cBx a1).map .p)), i6 3000] [.cells 25 ((cBx a1).map .p)] = some (i6 x1)) apn)
def D9 (a1 : BoxD) (x0 : Bool) : AV := (vb x0)
abbrev Wb := BoxD → Option Bool
abbrev Tb (f : Wb) : Prop := ∀ (a1 : BoxD) {r : Bool}, f a1 = some r → PR1 prg 25 [(.agg ((cBx a1).map .p))] (D9 a1 r)
inductive E_L25_0 where
  | k0
  | k1
def Ut (rF25 : Wb) (a1 : BoxD) (a2 : Int) (v1 : Int) : Option (E_L25_0 ⊕ (Int)) :=
  (bif (decide (v1 < a2)) then ((getI a1.kids v1).bind fun x2 => ((rF25 x2).bind fun x3 => (bif x3 then (some (.inr ((IntKind.wrap .i64 (v1 + 1))))) else (some (.inl (.k0)))))) else (some (.inl (.k1))))
def In (a1 : BoxD) (a2 : Int) (v1 : Int) : St := ⟨fr 76 ug [(66, (.p (.lst 4 (Zb a1.kids)))), (67, i6 a2), (68, i6 v1)], [.cells 25 ((cBx a1).map .p), .row 25 4 0 (ra cBx []), .cells 25 [i6 a1.kind, vs a1.text, i6 0, n0]]⟩
theorem N9 (a1 : BoxD) (a2 : Int) (v1 : Int) : okT 3 (In a1 a2 v1).h = true := (ZD rfl (ac (ar (ac rfl))))
abbrev Vu (a1 : BoxD) (a2 : Int) (v1 : Int) := evH prg 3 [66, 67, 68] Us (In a1 a2 v1)
def Ma (a1 : BoxD) (a2 : Int) (e : E_L25_0) (r : Option (Out × St)) : Prop := match e with | .k0 => ∃ g y, r = some (.ret, ⟨fr 76 g [(2, vb false)], y⟩) | .k1 => ∃ g, r = some ((.brk 7), ⟨fr 76 g [(66, (.p (.lst 4 (Zb a1.kids))))], [.cells 25 ((cBx a1).map .p), .row 25 4 0 (ra cBx []), .cells 25 [i6 a1.kind, vs a1.text, i6 0, n0]]⟩)
abbrev Lp (a1 x2 : BoxD) : List AB := [.cells 25 ((cBx a1).map .p), .row 25 4 0 (ra cBx []), .cells 25 [i6 a1.kind, vs a1.text, i6 0, n0], .row 25 4 0 (ra cBx []), .cells 25 ((cBx x2).map .p)]
theorem HS (rF25 : Wb) (hF25 : Tb rF25) (a1 : BoxD) (a2 : Int) (v1 : Int) {r : E_L25_0 ⊕ (Int)} (h : Ut rF25 a1 a2 v1 = some r) : OkR (fun e => Ma a1 a2 e (Vu a1 a2 v1)) (fun s => Vu a1 a2 v1 = Vu a1 a2 s) r := by
 unfold Ut at h
 apply bi h <;> intro h1 h
 ·
  apply bn h; intro x2 h2 h
  have q0 := ((igr Zr h2) : idxA 4 (.p (.lst 4 (Zb a1.kids))) (i6 v1) = some (.ro (cBx x2)))
  have k1 := ka [(69, .d true), (70, .v (.ro (cBx x2)))] (av h1 (apc q0 apn))
  apply bn h; intro x3 h3 h
  apply bi h <;> intro h4 h
  ·
   rw [← sj h]
   exact rn ([(73, .v (vb true)), (6000, .d true)] ++ kH k1) (k1.b (apc ((((hF25 x2 h3).cp rfl _).trans (congrArg (fun z => some (vb z)) h4)) : CP prg 25 [(.agg ((cBx x2).map .p))] (Lp a1 x2) = some (vb true)) (apc (N9 a1 a2 (w6 (v1 + 1))) apn)))
  ·
   rw [← sj h]
   exact xy ([(73, .v (vb false)), (6000, .d true)] ++ kH k1) (k1.b (apc ((((hF25 x2 h3).cp rfl _).trans (congrArg (fun z => some (vb z)) h4)) : CP prg 25 [(.agg ((cBx x2).map .p))] (Lp a1 x2) = some (vb false)) apn))
 ·
  rw [← sj h]
  exact xb [(69, .d false), (6000, .d true)] (av h1 apn)
theorem Or (rF25 : Wb) (hF25 : Tb rF25) (a1 : BoxD) (a2 : Int) (s0 : Int) (e : E_L25_0) (h : runL (fun s => Ut rF25 a1 a2 s) s0 = some e) : Ma a1 a2 e (Vu a1 a2 s0) := by
  have q := @Zg (Int) E_L25_0 (fun s => Ut rF25 a1 a2 s) (fun s => Vu a1 a2 s) (Ma a1 a2) (fun s r h => HS rF25 hF25 a1 a2 s h) s0 e h
  exact q
inductive E_L25_0_2 where
  | k0
  | k1
def Yx (rF25 : Wb) (a1 : BoxD) (a2 : Int) (v1 : Int) : Option (E_L25_0_2 ⊕ (Int)) :=
  (bif (decide (v1 < a2)) then ((getI a1.kids v1).bind fun x2 => ((rF25 x2).bind fun x3 => (bif x3 then (some (.inr ((IntKind.wrap .i64 (v1 + 1))))) else (some (.inl (.k0)))))) else (some (.inl (.k1))))
def Ot (a1 : BoxD) (a2 : Int) (v1 : Int) : St := ⟨fr 76 ug [(66, (.p (.lst 4 (Zb a1.kids)))), (67, i6 a2), (68, i6 v1)], [.cells 25 ((cBx a1).map .p), .row 25 4 0 (ra cBx []), .cells 25 [i6 a1.kind, (vs (⟨([] : List UInt8).toArray⟩ : ByteArray)), i6 a1.n, (.p (.lst 4 (Zb a1.kids)))]]⟩
theorem Sk (a1 : BoxD) (a2 : Int) (v1 : Int) : okT 3 (Ot a1 a2 v1).h = true := (ZD rfl (ac (ar (ac rfl))))
abbrev Xg (a1 : BoxD) (a2 : Int) (v1 : Int) := evH prg 3 [66, 67, 68] Us (Ot a1 a2 v1)
def Sl (a1 : BoxD) (a2 : Int) (e : E_L25_0_2) (r : Option (Out × St)) : Prop := match e with | .k0 => ∃ g y, r = some (.ret, ⟨fr 76 g [(2, vb false)], y⟩) | .k1 => ∃ g, r = some ((.brk 7), ⟨fr 76 g [(66, (.p (.lst 4 (Zb a1.kids))))], [.cells 25 ((cBx a1).map .p), .row 25 4 0 (ra cBx []), .cells 25 [i6 a1.kind, (vs (⟨([] : List UInt8).toArray⟩ : ByteArray)), i6 a1.n, (.p (.lst 4 (Zb a1.kids)))]]⟩)
abbrev R2 (a1 x2 : BoxD) : List AB := [.cells 25 ((cBx a1).map .p), .row 25 4 0 (ra cBx []), .cells 25 [i6 a1.kind, (vs (⟨([] : List UInt8).toArray⟩ : ByteArray)), i6 a1.n, (.p (.lst 4 (Zb a1.kids)))], .row 25 4 0 (ra cBx []), .cells 25 ((cBx x2).map .p)]
theorem KN (rF25 : Wb) (hF25 : Tb rF25) (a1 : BoxD) (a2 : Int) (v1 : Int) {r : E_L25_0_2 ⊕ (Int)} (h : Yx rF25 a1 a2 v1 = some r) : OkR (fun e => Sl a1 a2 e (Xg a1 a2 v1)) (fun s => Xg a1 a2 v1 = Xg a1 a2 s) r := by
 unfold Yx at h
 apply bi h <;> intro h1 h
 ·
  apply bn h; intro x2 h2 h
  have q0 := ((igr Zr h2) : idxA 4 (.p (.lst 4 (Zb a1.kids))) (i6 v1) = some (.ro (cBx x2)))
  have k1 := ka [(69, .d true), (70, .v (.ro (cBx x2)))] (av h1 (apc q0 apn))
  apply bn h; intro x3 h3 h
  apply bi h <;> intro h4 h
  ·
   rw [← sj h]
   exact rn ([(73, .v (vb true)), (6000, .d true)] ++ kH k1) (k1.b (apc ((((hF25 x2 h3).cp rfl _).trans (congrArg (fun z => some (vb z)) h4)) : CP prg 25 [(.agg ((cBx x2).map .p))] (R2 a1 x2) = some (vb true)) (apc (Sk a1 a2 (w6 (v1 + 1))) apn)))
  ·
   rw [← sj h]
   exact xy ([(73, .v (vb false)), (6000, .d true)] ++ kH k1) (k1.b (apc ((((hF25 x2 h3).cp rfl _).trans (congrArg (fun z => some (vb z)) h4)) : CP prg 25 [(.agg ((cBx x2).map .p))] (R2 a1 x2) = some (vb false)) apn))
 ·
  rw [← sj h]
  exact xb [(69, .d false), (6000, .d true)] (av h1 apn)
theorem Sm (rF25 : Wb) (hF25 : Tb rF25) (a1 : BoxD) (a2 : Int) (s0 : Int) (e : E_L25_0_2) (h : runL (fun s => Yx rF25 a1 a2 s) s0 = some e) : Sl a1 a2 e (Xg a1 a2 s0) := by
  have q := @Zg (Int) E_L25_0_2 (fun s => Yx rF25 a1 a2 s) (fun s => Xg a1 a2 s) (Sl a1 a2) (fun s r h => KN rF25 hF25 a1 a2 s h) s0 e h
  exact q
inductive E_L25_0_3 where
  | k0
  | k1
def Yy (rF25 : Wb) (a1 : BoxD) (a2 : Int) (v1 : Int) : Option (E_L25_0_3 ⊕ (Int)) :=
  (bif (decide (v1 < a2)) then ((getI a1.kids v1).bind fun x2 => ((rF25 x2).bind fun x3 => (bif x3 then (some (.inr ((IntKind.wrap .i64 (v1 + 1))))) else (some (.inl (.k0)))))) else (some (.inl (.k1))))
def Ou (a1 : BoxD) (a2 : Int) (v1 : Int) : St := ⟨fr 76 ug [(66, (.p (.lst 4 (Zb a1.kids)))), (67, i6 a2), (68, i6 v1)], [.cells 25 ((cBx a1).map .p), .row 25 4 0 (ra cBx []), .cells 25 [i6 a1.kind, (vs (⟨([] : List UInt8).toArray⟩ : ByteArray)), i6 a1.n, n0]]⟩
theorem So (a1 : BoxD) (a2 : Int) (v1 : Int) : okT 3 (Ou a1 a2 v1).h = true := (ZD rfl (ac (ar (ac rfl))))
abbrev Xh (a1 : BoxD) (a2 : Int) (v1 : Int) := evH prg 3 [66, 67, 68] Us (Ou a1 a2 v1)
def Sp (a1 : BoxD) (a2 : Int) (e : E_L25_0_3) (r : Option (Out × St)) : Prop := match e with | .k0 => ∃ g y, r = some (.ret, ⟨fr 76 g [(2, vb false)], y⟩) | .k1 => ∃ g, r = some ((.brk 7), ⟨fr 76 g [(66, (.p (.lst 4 (Zb a1.kids))))], [.cells 25 ((cBx a1).map .p), .row 25 4 0 (ra cBx []), .cells 25 [i6 a1.kind, (vs (⟨([] : List UInt8).toArray⟩ : ByteArray)), i6 a1.n, n0]]⟩)
abbrev R3 (a1 x2 : BoxD) : List AB := [.cells 25 ((cBx a1).map .p), .row 25 4 0 (ra cBx []), .cells 25 [i6 a1.kind, (vs (⟨([] : List UInt8).toArray⟩ : ByteArray)), i6 a1.n, n0], .row 25 4 0 (ra cBx []), .cells 25 ((cBx x2).map .p)]
theorem KO (rF25 : Wb) (hF25 : Tb rF25) (a1 : BoxD) (a2 : Int) (v1 : Int) {r : E_L25_0_3 ⊕ (Int)} (h : Yy rF25 a1 a2 v1 = some r) : OkR (fun e => Sp a1 a2 e (Xh a1 a2 v1)) (fun s => Xh a1 a2 v1 = Xh a1 a2 s) r := by
 unfold Yy at h
 apply bi h <;> intro h1 h
 ·
  apply bn h; intro x2 h2 h
  have q0 := ((igr Zr h2) : idxA 4 (.p (.lst 4 (Zb a1.kids))) (i6 v1) = some (.ro (cBx x2)))
  have k1 := ka [(69, .d true), (70, .v (.ro (cBx x2)))] (av h1 (apc q0 apn))
  apply bn h; intro x3 h3 h
  apply bi h <;> intro h4 h
  ·
   rw [← sj h]
   exact rn ([(73, .v (vb true)), (6000, .d true)] ++ kH k1) (k1.b (apc ((((hF25 x2 h3).cp rfl _).trans (congrArg (fun z => some (vb z)) h4)) : CP prg 25 [(.agg ((cBx x2).map .p))] (R3 a1 x2) = some (vb true)) (apc (So a1 a2 (w6 (v1 + 1))) apn)))
  ·
   rw [← sj h]
   exact xy ([(73, .v (vb false)), (6000, .d true)] ++ kH k1) (k1.b (apc ((((hF25 x2 h3).cp rfl _).trans (congrArg (fun z => some (vb z)) h4)) : CP prg 25 [(.agg ((cBx x2).map .p))] (R3 a1 x2) = some (vb false)) apn))
 ·
  rw [← sj h]
  exact xb [(69, .d false), (6000, .d true)] (av h1 apn)
theorem Sq (rF25 : Wb) (hF25 : Tb rF25) (a1 : BoxD) (a2 : Int) (s0 : Int) (e : E_L25_0_3) (h : runL (fun s => Yy rF25 a1 a2 s) s0 = some e) : Sp a1 a2 e (Xh a1 a2 s0) := by
  have q := @Zg (Int) E_L25_0_3 (fun s => Yy rF25 a1 a2 s) (fun s => Xh a1 a2 s) (Sp a1 a2) (fun s r h => KO rF25 hF25 a1 a2 s h) s0 e h
  exact q
inductive E_L25_0_4 where
  | k0
  | k1
def Yk (rF25 : Wb) (a1 : BoxD) (a2 : Int) (v1 : Int) : Option (E_L25_0_4 ⊕ (Int)) :=
  (bif (decide (v1 < a2)) then ((getI a1.kids v1).bind fun x2 => ((rF25 x2).bind fun x3 => (bif x3 then (some (.inr ((IntKind.wrap .i64 (v1 + 1))))) else (some (.inl (.k0)))))) else (some (.inl (.k1))))
def Ov (a1 : BoxD) (a2 : Int) (v1 : Int) : St := ⟨fr 76 ug [(66, (.p (.lst 4 (Zb a1.kids)))), (67, i6 a2), (68, i6 v1)], [.cells 25 ((cBx a1).map .p), .row 25 4 0 (ra cBx []), .cells 25 [i6 a1.kind, (vs (⟨([] : List UInt8).toArray⟩ : ByteArray)), i6 0, (.p (.lst 4 (Zb a1.kids)))]]⟩
theorem Ww (a1 : BoxD) (a2 : Int) (v1 : Int) : okT 3 (Ov a1 a2 v1).h = true := (ZD rfl (ac (ar (ac rfl))))
abbrev Yl (a1 : BoxD) (a2 : Int) (v1 : Int) := evH prg 3 [66, 67, 68] Us (Ov a1 a2 v1)
def Sr (a1 : BoxD) (a2 : Int) (e : E_L25_0_4) (r : Option (Out × St)) : Prop := match e with | .k0 => ∃ g y, r = some (.ret, ⟨fr 76 g [(2, vb false)], y⟩) | .k1 => ∃ g, r = some ((.brk 7), ⟨fr 76 g [(66, (.p (.lst 4 (Zb a1.kids))))], [.cells 25 ((cBx a1).map .p), .row 25 4 0 (ra cBx []), .cells 25 [i6 a1.kind, (vs (⟨([] : List UInt8).toArray⟩ : ByteArray)), i6 0, (.p (.lst 4 (Zb a1.kids)))]]⟩)
abbrev R4 (a1 x2 : BoxD) : List AB := [.cells 25 ((cBx a1).map .p), .row 25 4 0 (ra cBx []), .cells 25 [i6 a1.kind, (vs (⟨([] : List UInt8).toArray⟩ : ByteArray)), i6 0, (.p (.lst 4 (Zb a1.kids)))], .row 25 4 0 (ra cBx []), .cells 25 ((cBx x2).map .p)]
theorem KQ (rF25 : Wb) (hF25 : Tb rF25) (a1 : BoxD) (a2 : Int) (v1 : Int) {r : E_L25_0_4 ⊕ (Int)} (h : Yk rF25 a1 a2 v1 = some r) : OkR (fun e => Sr a1 a2 e (Yl a1 a2 v1)) (fun s => Yl a1 a2 v1 = Yl a1 a2 s) r := by
 unfold Yk at h
 apply bi h <;> intro h1 h
 ·
  apply bn h; intro x2 h2 h
  have q0 := ((igr Zr h2) : idxA 4 (.p (.lst 4 (Zb a1.kids))) (i6 v1) = some (.ro (cBx x2)))
  have k1 := ka [(69, .d true), (70, .v (.ro (cBx x2)))] (av h1 (apc q0 apn))
  apply bn h; intro x3 h3 h
  apply bi h <;> intro h4 h
  ·
   rw [← sj h]
   exact rn ([(73, .v (vb true)), (6000, .d true)] ++ kH k1) (k1.b (apc ((((hF25 x2 h3).cp rfl _).trans (congrArg (fun z => some (vb z)) h4)) : CP prg 25 [(.agg ((cBx x2).map .p))] (R4 a1 x2) = some (vb true)) (apc (Ww a1 a2 (w6 (v1 + 1))) apn)))
  ·
   rw [← sj h]
   exact xy ([(73, .v (vb false)), (6000, .d true)] ++ kH k1) (k1.b (apc ((((hF25 x2 h3).cp rfl _).trans (congrArg (fun z => some (vb z)) h4)) : CP prg 25 [(.agg ((cBx x2).map .p))] (R4 a1 x2) = some (vb false)) apn))
 ·
  rw [← sj h]
  exact xb [(69, .d false), (6000, .d true)] (av h1 apn)
theorem Wc (rF25 : Wb) (hF25 : Tb rF25) (a1 : BoxD) (a2 : Int) (s0 : Int) (e : E_L25_0_4) (h : runL (fun s => Yk rF25 a1 a2 s) s0 = some e) : Sr a1 a2 e (Yl a1 a2 s0) := by
  have q := @Zg (Int) E_L25_0_4 (fun s => Yk rF25 a1 a2 s) (fun s => Yl a1 a2 s) (Sr a1 a2) (fun s r h => KQ rF25 hF25 a1 a2 s h) s0 e h
  exact q
inductive E_L25_0_5 where
  | k0
  | k1
def Yz (rF25 : Wb) (a1 : BoxD) (a2 : Int) (v1 : Int) : Option (E_L25_0_5 ⊕ (Int)) :=
  (bif (decide (v1 < a2)) then ((getI a1.kids v1).bind fun x2 => ((rF25 x2).bind fun x3 => (bif x3 then (some (.inr ((IntKind.wrap .i64 (v1 + 1))))) else (some (.inl (.k0)))))) else (some (.inl (.k1))))
def Ow (a1 : BoxD) (a2 : Int) (v1 : Int) : St := ⟨fr 76 ug [(66, (.p (.lst 4 (Zb a1.kids)))), (67, i6 a2), (68, i6 v1)], [.cells 25 ((cBx a1).map .p), .row 25 4 0 (ra cBx []), .cells 25 [i6 a1.kind, (vs (⟨([] : List UInt8).toArray⟩ : ByteArray)), i6 0, n0]]⟩
theorem Ss (a1 : BoxD) (a2 : Int) (v1 : Int) : okT 3 (Ow a1 a2 v1).h = true := (ZD rfl (ac (ar (ac rfl))))
abbrev Xi (a1 : BoxD) (a2 : Int) (v1 : Int) := evH prg 3 [66, 67, 68] Us (Ow a1 a2 v1)
def Su (a1 : BoxD) (a2 : Int) (e : E_L25_0_5) (r : Option (Out × St)) : Prop := match e with | .k0 => ∃ g y, r = some (.ret, ⟨fr 76 g [(2, vb false)], y⟩) | .k1 => ∃ g, r = some ((.brk 7), ⟨fr 76 g [(66, (.p (.lst 4 (Zb a1.kids))))], [.cells 25 ((cBx a1).map .p), .row 25 4 0 (ra cBx []), .cells 25 [i6 a1.kind, (vs (⟨([] : List UInt8).toArray⟩ : ByteArray)), i6 0, n0]]⟩)
abbrev R5 (a1 x2 : BoxD) : List AB := [.cells 25 ((cBx a1).map .p), .row 25 4 0 (ra cBx []), .cells 25 [i6 a1.kind, (vs (⟨([] : List UInt8).toArray⟩ : ByteArray)), i6 0, n0], .row 25 4 0 (ra cBx []), .cells 25 ((cBx x2).map .p)]
theorem KR (rF25 : Wb) (hF25 : Tb rF25) (a1 : BoxD) (a2 : Int) (v1 : Int) {r : E_L25_0_5 ⊕ (Int)} (h : Yz rF25 a1 a2 v1 = some r) : OkR (fun e => Su a1 a2 e (Xi a1 a2 v1)) (fun s => Xi a1 a2 v1 = Xi a1 a2 s) r := by
 unfold Yz at h
 apply bi h <;> intro h1 h
 ·
  apply bn h; intro x2 h2 h
  have q0 := ((igr Zr h2) : idxA 4 (.p (.lst 4 (Zb a1.kids))) (i6 v1) = some (.ro (cBx x2)))
  have k1 := ka [(69, .d true), (70, .v (.ro (cBx x2)))] (av h1 (apc q0 apn))
  apply bn h; intro x3 h3 h
  apply bi h <;> intro h4 h
  ·
   rw [← sj h]
   exact rn ([(73, .v (vb true)), (6000, .d true)] ++ kH k1) (k1.b (apc ((((hF25 x2 h3).cp rfl _).trans (congrArg (fun z => some (vb z)) h4)) : CP prg 25 [(.agg ((cBx x2).map .p))] (R5 a1 x2) = some (vb true)) (apc (Ss a1 a2 (w6 (v1 + 1))) apn)))
  ·
   rw [← sj h]
   exact xy ([(73, .v (vb false)), (6000, .d true)] ++ kH k1) (k1.b (apc ((((hF25 x2 h3).cp rfl _).trans (congrArg (fun z => some (vb z)) h4)) : CP prg 25 [(.agg ((cBx x2).map .p))] (R5 a1 x2) = some (vb false)) apn))
 ·
  rw [← sj h]
  exact xb [(69, .d false), (6000, .d true)] (av h1 apn)
theorem Sv (rF25 : Wb) (hF25 : Tb rF25) (a1 : BoxD) (a2 : Int) (s0 : Int) (e : E_L25_0_5) (h : runL (fun s => Yz rF25 a1 a2 s) s0 = some e) : Su a1 a2 e (Xi a1 a2 s0) := by
  have q := @Zg (Int) E_L25_0_5 (fun s => Yz rF25 a1 a2 s) (fun s => Xi a1 a2 s) (Su a1 a2) (fun s r h => KR rF25 hF25 a1 a2 s h) s0 e h
  exact q
def Mb (rF25 : Wb) (a1 : BoxD) : Option Bool :=
  (bif (a1.kind == 0) then (bif (!(a1.text.toList == a1.text.toList)) then (some false) else (bif (a1.n != 0) then (some false) else (bif ((a1.kids.length : Int) != 0) then (some false) else (bif (decide (a1.n < 0)) then (some false) else (bif (decide (a1.n > 100)) then (some false) else ((runL (fun s => Ut rF25 a1 (a1.kids.length : Int) s) 0).bind fun r7 => match r7 with | .k0 => (some false) | .k1 => (some true))))))) else (bif (a1.kind == 5) then (bif (!(a1.text.toList == (⟨([] : List UInt8).toArray⟩ : ByteArray).toList)) then (some false) else (bif (a1.n != a1.n) then (some false) else (bif ((a1.kids.length : Int) != (a1.kids.length : Int)) then (some false) else (bif (decide (a1.n < 0)) then (some false) else (bif (decide (a1.n > 100)) then (some false) else ((runL (fun s => Yx rF25 a1 (a1.kids.length : Int) s) 0).bind fun r8 => match r8 with | .k0 => (some false) | .k1 => (some true))))))) else (bif (a1.kind == 1) then (bif (!(a1.text.toList == (⟨([] : List UInt8).toArray⟩ : ByteArray).toList)) then (some false) else (bif (a1.n != a1.n) then (some false) else (bif ((a1.kids.length : Int) != 0) then (some false) else (bif (decide (a1.n < 0)) then (some false) else (bif (decide (a1.n > 100)) then (some false) else ((runL (fun s => Yy rF25 a1 (a1.kids.length : Int) s) 0).bind fun r9 => match r9 with | .k0 => (some false) | .k1 => (some true))))))) else (bif (a1.kind == 3) then (bif (!(a1.text.toList == (⟨([] : List UInt8).toArray⟩ : ByteArray).toList)) then (some false) else (bif (a1.n != 0) then (some false) else (bif ((a1.kids.length : Int) != (a1.kids.length : Int)) then (some false) else (bif (decide (a1.n < 0)) then (some false) else (bif (decide (a1.n > 100)) then (some false) else ((runL (fun s => Yk rF25 a1 (a1.kids.length : Int) s) 0).bind fun r10 => match r10 with | .k0 => (some false) | .k1 => (some true))))))) else (bif (a1.kind == 4) then (bif (!(a1.text.toList == (⟨([] : List UInt8).toArray⟩ : ByteArray).toList)) then (some false) else (bif (a1.n != 0) then (some false) else (bif ((a1.kids.length : Int) != (a1.kids.length : Int)) then (some false) else (bif (decide (a1.n < 0)) then (some false) else (bif (decide (a1.n > 100)) then (some false) else ((runL (fun s => Yk rF25 a1 (a1.kids.length : Int) s) 0).bind fun r11 => match r11 with | .k0 => (some false) | .k1 => (some true))))))) else (bif (a1.kind == 2) then (bif (!(a1.text.toList == (⟨([] : List UInt8).toArray⟩ : ByteArray).toList)) then (some false) else (bif (a1.n != 0) then (some false) else (bif ((a1.kids.length : Int) != 0) then (some false) else (bif (decide (a1.n < 0)) then (some false) else (bif (decide (a1.n > 100)) then (some false) else ((runL (fun s => Yz rF25 a1 (a1.kids.length : Int) s) 0).bind fun r12 => match r12 with | .k0 => (some false) | .k1 => (some true))))))) else (some false)))))))
abbrev GU (g7 : Nat → AV) (a1 : BoxD) : St := ⟨fr 76 g7 [(66, (.p (.lst 4 (Zb a1.kids))))], [.cells 25 ((cBx a1).map .p), .row 25 4 0 (ra cBx []), .cells 25 [i6 a1.kind, vs a1.text, i6 0, n0]]⟩
abbrev GV (g8 : Nat → AV) (a1 : BoxD) : St := ⟨fr 76 g8 [(66, (.p (.lst 4 (Zb a1.kids))))], [.cells 25 ((cBx a1).map .p), .row 25 4 0 (ra cBx []), .cells 25 [i6 a1.kind, (vs (⟨([] : List UInt8).toArray⟩ : ByteArray)), i6 a1.n, (.p (.lst 4 (Zb a1.kids)))]]⟩
abbrev GW (g9 : Nat → AV) (a1 : BoxD) : St := ⟨fr 76 g9 [(66, (.p (.lst 4 (Zb a1.kids))))], [.cells 25 ((cBx a1).map .p), .row 25 4 0 (ra cBx []), .cells 25 [i6 a1.kind, (vs (⟨([] : List UInt8).toArray⟩ : ByteArray)), i6 a1.n, n0]]⟩
abbrev GX (g10 : Nat → AV) (a1 : BoxD) : St := ⟨fr 76 g10 [(66, (.p (.lst 4 (Zb a1.kids))))], [.cells 25 ((cBx a1).map .p), .row 25 4 0 (ra cBx []), .cells 25 [i6 a1.kind, (vs (⟨([] : List UInt8).toArray⟩ : ByteArray)), i6 0, (.p (.lst 4 (Zb a1.kids)))]]⟩
abbrev GY (g11 : Nat → AV) (a1 : BoxD) : St := ⟨fr 76 g11 [(66, (.p (.lst 4 (Zb a1.kids))))], [.cells 25 ((cBx a1).map .p), .row 25 4 0 (ra cBx []), .cells 25 [i6 a1.kind, (vs (⟨([] : List UInt8).toArray⟩ : ByteArray)), i6 0, (.p (.lst 4 (Zb a1.kids)))]]⟩
abbrev GZ (g12 : Nat → AV) (a1 : BoxD) : St := ⟨fr 76 g12 [(66, (.p (.lst 4 (Zb a1.kids))))], [.cells 25 ((cBx a1).map .p), .row 25 4 0 (ra cBx []), .cells 25 [i6 a1.kind, (vs (⟨([] : List UInt8).toArray⟩ : ByteArray)), i6 0, n0]]⟩
theorem E1 (rF25 : Wb) (hF25 : Tb rF25) (a1 : BoxD) {r : Bool} (h : Mb rF25 a1 = some r) : PR1 prg 25 [(.agg ((cBx a1).map .p))] (D9 a1 r) := by
 unfold Mb at h
 have q0 := ((lgr Zr) : lnA (.p (.lst 4 (Zb a1.kids))) = some (i6 (a1.kids.length : Int)))
 apply bi h <;> intro h1 h
 ·
  apply bi h <;> intro h2 h
  ·
   rw [← sj h]
   exact fq [(12, .d true), (38, .d true)] (av h1 (av h2 apn))
  ·
   have k1 := ka [(12, .d true), (38, .d false)] (av h1 (av h2 apn))
   apply bi h <;> intro h3 h
   ·
    rw [← sj h]
    exact fq ([(44, .d true)] ++ kH k1) (k1.b (av h3 apn))
   ·
    have k2 := k1.a [(44, .d false), (49, .v (i6 (a1.kids.length : Int)))] (av h3 (apc q0 apn))
    apply bi h <;> intro h4 h
    ·
     rw [← sj h]
     exact fq ([(53, .d true)] ++ kH k2) (k2.b (av h4 apn))
    ·
     apply bi h <;> intro h5 h
     ·
      rw [← sj h]
      exact fq ([(53, .d false), (58, .d true)] ++ kH k2) (k2.b (av h4 (av h5 apn)))
     ·
      have k3 := k2.a [(53, .d false), (58, .d false)] (av h4 (av h5 apn))
      apply bi h <;> intro h6 h
      ·
       rw [← sj h]
       exact fq ([(63, .d true)] ++ kH k3) (k3.b (av h6 apn))
      ·
       have k4 := k3.a [(63, .d false), (67, .v (i6 (a1.kids.length : Int)))] (av h6 (apc q0 apn))
       apply bn h; intro r7 h7 h
       cases r7 with
       | k0 =>
        obtain ⟨g7, y7, e7⟩ := Or rF25 hF25 a1 (a1.kids.length : Int) 0 _ h7
        rw [← sj h]
        exact fq ([(2007, .l .ret ⟨fr 76 g7 [(2, vb false)], y7⟩), (6000, .d true)] ++ kH k4) (k4.b (apc (N9 a1 (a1.kids.length : Int) 0) (apc (e7 : Vu a1 (a1.kids.length : Int) 0 = some (.ret, ⟨fr 76 g7 [(2, vb false)], y7⟩)) apn)))
       | k1 =>
        obtain ⟨g7, e7⟩ := Or rF25 hF25 a1 (a1.kids.length : Int) 0 _ h7
        rw [← sj h]
        exact fq ([(2007, .l (.brk 7) (GU g7 a1)), (6000, .d true)] ++ kH k4) (k4.b (apc (N9 a1 (a1.kids.length : Int) 0) (apc (e7 : Vu a1 (a1.kids.length : Int) 0 = some ((.brk 7), GU g7 a1)) apn)))
 ·
  apply bi h <;> intro h2 h
  ·
   have k5 := ka [(12, .d false), (14, .d true)] (av h1 (av h2 apn))
   apply bi h <;> intro h3 h
   ·
    rw [← sj h]
    exact fq ([(38, .d true)] ++ kH k5) (k5.b (av h3 apn))
   ·
    apply bi h <;> intro h4 h
    ·
     rw [← sj h]
     exact fq ([(38, .d false), (44, .d true)] ++ kH k5) (k5.b (av h3 (av h4 apn)))
    ·
     have k6 := k5.a [(38, .d false), (44, .d false), (49, .v (i6 (a1.kids.length : Int))), (52, .v (i6 (a1.kids.length : Int)))] (av h3 (av h4 (apc q0 (apc q0 apn))))
     apply bi h <;> intro h5 h
     ·
      rw [← sj h]
      exact fq ([(53, .d true)] ++ kH k6) (k6.b (av h5 apn))
     ·
      apply bi h <;> intro h6 h
      ·
       rw [← sj h]
       exact fq ([(53, .d false), (58, .d true)] ++ kH k6) (k6.b (av h5 (av h6 apn)))
      ·
       have k7 := k6.a [(53, .d false), (58, .d false)] (av h5 (av h6 apn))
       apply bi h <;> intro h7 h
       ·
        rw [← sj h]
        exact fq ([(63, .d true)] ++ kH k7) (k7.b (av h7 apn))
       ·
        have k8 := k7.a [(63, .d false), (67, .v (i6 (a1.kids.length : Int)))] (av h7 (apc q0 apn))
        apply bn h; intro r8 h8 h
        cases r8 with
        | k0 =>
         obtain ⟨g8, y8, e8⟩ := Sm rF25 hF25 a1 (a1.kids.length : Int) 0 _ h8
         rw [← sj h]
         exact fq ([(2007, .l .ret ⟨fr 76 g8 [(2, vb false)], y8⟩), (6000, .d true)] ++ kH k8) (k8.b (apc (Sk a1 (a1.kids.length : Int) 0) (apc (e8 : Xg a1 (a1.kids.length : Int) 0 = some (.ret, ⟨fr 76 g8 [(2, vb false)], y8⟩)) apn)))
        | k1 =>
         obtain ⟨g8, e8⟩ := Sm rF25 hF25 a1 (a1.kids.length : Int) 0 _ h8
         rw [← sj h]
         exact fq ([(2007, .l (.brk 7) (GV g8 a1)), (6000, .d true)] ++ kH k8) (k8.b (apc (Sk a1 (a1.kids.length : Int) 0) (apc (e8 : Xg a1 (a1.kids.length : Int) 0 = some ((.brk 7), GV g8 a1)) apn)))
  ·
   have k9 := ka [(12, .d false), (14, .d false)] (av h1 (av h2 apn))
   apply bi h <;> intro h3 h
   ·
    apply bi h <;> intro h4 h
    ·
     rw [← sj h]
     exact fq ([(16, .d true), (38, .d true)] ++ kH k9) (k9.b (av h3 (av h4 apn)))
    ·
     have k10 := k9.a [(16, .d true), (38, .d false)] (av h3 (av h4 apn))
     apply bi h <;> intro h5 h
     ·
      rw [← sj h]
      exact fq ([(44, .d true)] ++ kH k10) (k10.b (av h5 apn))
     ·
      have k11 := k10.a [(44, .d false), (49, .v (i6 (a1.kids.length : Int)))] (av h5 (apc q0 apn))
      apply bi h <;> intro h6 h
      ·
       rw [← sj h]
       exact fq ([(53, .d true)] ++ kH k11) (k11.b (av h6 apn))
      ·
       apply bi h <;> intro h7 h
       ·
        rw [← sj h]
        exact fq ([(53, .d false), (58, .d true)] ++ kH k11) (k11.b (av h6 (av h7 apn)))
       ·
        have k12 := k11.a [(53, .d false), (58, .d false)] (av h6 (av h7 apn))
        apply bi h <;> intro h8 h
        ·
         rw [← sj h]
         exact fq ([(63, .d true)] ++ kH k12) (k12.b (av h8 apn))
        ·
         have k13 := k12.a [(63, .d false), (67, .v (i6 (a1.kids.length : Int)))] (av h8 (apc q0 apn))
         apply bn h; intro r9 h9 h
         cases r9 with
         | k0 =>
          obtain ⟨g9, y9, e9⟩ := Sq rF25 hF25 a1 (a1.kids.length : Int) 0 _ h9
          rw [← sj h]
          exact fq ([(2007, .l .ret ⟨fr 76 g9 [(2, vb false)], y9⟩), (6000, .d true)] ++ kH k13) (k13.b (apc (So a1 (a1.kids.length : Int) 0) (apc (e9 : Xh a1 (a1.kids.length : Int) 0 = some (.ret, ⟨fr 76 g9 [(2, vb false)], y9⟩)) apn)))
         | k1 =>
          obtain ⟨g9, e9⟩ := Sq rF25 hF25 a1 (a1.kids.length : Int) 0 _ h9
          rw [← sj h]
          exact fq ([(2007, .l (.brk 7) (GW g9 a1)), (6000, .d true)] ++ kH k13) (k13.b (apc (So a1 (a1.kids.length : Int) 0) (apc (e9 : Xh a1 (a1.kids.length : Int) 0 = some ((.brk 7), GW g9 a1)) apn)))
   ·
    apply bi h <;> intro h4 h
    ·
     have k14 := k9.a [(16, .d false), (18, .d true)] (av h3 (av h4 apn))
     apply bi h <;> intro h5 h
     ·
      rw [← sj h]
      exact fq ([(38, .d true)] ++ kH k14) (k14.b (av h5 apn))
     ·
      apply bi h <;> intro h6 h
      ·
       rw [← sj h]
       exact fq ([(38, .d false), (44, .d true)] ++ kH k14) (k14.b (av h5 (av h6 apn)))
      ·
       have k15 := k14.a [(38, .d false), (44, .d false), (49, .v (i6 (a1.kids.length : Int))), (52, .v (i6 (a1.kids.length : Int)))] (av h5 (av h6 (apc q0 (apc q0 apn))))
       apply bi h <;> intro h7 h
       ·
        rw [← sj h]
        exact fq ([(53, .d true)] ++ kH k15) (k15.b (av h7 apn))
       ·
        apply bi h <;> intro h8 h
        ·
         rw [← sj h]
         exact fq ([(53, .d false), (58, .d true)] ++ kH k15) (k15.b (av h7 (av h8 apn)))
        ·
         have k16 := k15.a [(53, .d false), (58, .d false)] (av h7 (av h8 apn))
         apply bi h <;> intro h9 h
         ·
          rw [← sj h]
          exact fq ([(63, .d true)] ++ kH k16) (k16.b (av h9 apn))
         ·
          have k17 := k16.a [(63, .d false), (67, .v (i6 (a1.kids.length : Int)))] (av h9 (apc q0 apn))
          apply bn h; intro r10 h10 h
          cases r10 with
          | k0 =>
           obtain ⟨g10, y10, e10⟩ := Wc rF25 hF25 a1 (a1.kids.length : Int) 0 _ h10
           rw [← sj h]
           exact fq ([(2007, .l .ret ⟨fr 76 g10 [(2, vb false)], y10⟩), (6000, .d true)] ++ kH k17) (k17.b (apc (Ww a1 (a1.kids.length : Int) 0) (apc (e10 : Yl a1 (a1.kids.length : Int) 0 = some (.ret, ⟨fr 76 g10 [(2, vb false)], y10⟩)) apn)))
          | k1 =>
           obtain ⟨g10, e10⟩ := Wc rF25 hF25 a1 (a1.kids.length : Int) 0 _ h10
           rw [← sj h]
           exact fq ([(2007, .l (.brk 7) (GX g10 a1)), (6000, .d true)] ++ kH k17) (k17.b (apc (Ww a1 (a1.kids.length : Int) 0) (apc (e10 : Yl a1 (a1.kids.length : Int) 0 = some ((.brk 7), GX g10 a1)) apn)))
    ·
     have k18 := k9.a [(16, .d false), (18, .d false)] (av h3 (av h4 apn))
     apply bi h <;> intro h5 h
     ·
      apply bi h <;> intro h6 h
      ·
       rw [← sj h]
       exact fq ([(19, .d true), (38, .d true)] ++ kH k18) (k18.b (av h5 (av h6 apn)))
      ·
       have k19 := k18.a [(19, .d true), (38, .d false)] (av h5 (av h6 apn))
       apply bi h <;> intro h7 h
       ·
        rw [← sj h]
        exact fq ([(44, .d true)] ++ kH k19) (k19.b (av h7 apn))
       ·
        have k20 := k19.a [(44, .d false), (49, .v (i6 (a1.kids.length : Int))), (52, .v (i6 (a1.kids.length : Int)))] (av h7 (apc q0 (apc q0 apn)))
        apply bi h <;> intro h8 h
        ·
         rw [← sj h]
         exact fq ([(53, .d true)] ++ kH k20) (k20.b (av h8 apn))
        ·
         apply bi h <;> intro h9 h
         ·
          rw [← sj h]
          exact fq ([(53, .d false), (58, .d true)] ++ kH k20) (k20.b (av h8 (av h9 apn)))
         ·
          have k21 := k20.a [(53, .d false), (58, .d false)] (av h8 (av h9 apn))
          apply bi h <;> intro h10 h
          ·
           rw [← sj h]
           exact fq ([(63, .d true)] ++ kH k21) (k21.b (av h10 apn))
          ·
           have k22 := k21.a [(63, .d false), (67, .v (i6 (a1.kids.length : Int)))] (av h10 (apc q0 apn))
           apply bn h; intro r11 h11 h
           cases r11 with
           | k0 =>
            obtain ⟨g11, y11, e11⟩ := Wc rF25 hF25 a1 (a1.kids.length : Int) 0 _ h11
            rw [← sj h]
            exact fq ([(2007, .l .ret ⟨fr 76 g11 [(2, vb false)], y11⟩), (6000, .d true)] ++ kH k22) (k22.b (apc (Ww a1 (a1.kids.length : Int) 0) (apc (e11 : Yl a1 (a1.kids.length : Int) 0 = some (.ret, ⟨fr 76 g11 [(2, vb false)], y11⟩)) apn)))
           | k1 =>
            obtain ⟨g11, e11⟩ := Wc rF25 hF25 a1 (a1.kids.length : Int) 0 _ h11
            rw [← sj h]
            exact fq ([(2007, .l (.brk 7) (GY g11 a1)), (6000, .d true)] ++ kH k22) (k22.b (apc (Ww a1 (a1.kids.length : Int) 0) (apc (e11 : Yl a1 (a1.kids.length : Int) 0 = some ((.brk 7), GY g11 a1)) apn)))
     ·
      apply bi h <;> intro h6 h
      ·
       have k23 := k18.a [(19, .d false), (21, .d true)] (av h5 (av h6 apn))
       apply bi h <;> intro h7 h
       ·
        rw [← sj h]
        exact fq ([(38, .d true)] ++ kH k23) (k23.b (av h7 apn))
       ·
        apply bi h <;> intro h8 h
        ·
         rw [← sj h]
         exact fq ([(38, .d false), (44, .d true)] ++ kH k23) (k23.b (av h7 (av h8 apn)))
        ·
         have k24 := k23.a [(38, .d false), (44, .d false), (49, .v (i6 (a1.kids.length : Int)))] (av h7 (av h8 (apc q0 apn)))
         apply bi h <;> intro h9 h
         ·
          rw [← sj h]
          exact fq ([(53, .d true)] ++ kH k24) (k24.b (av h9 apn))
         ·
          apply bi h <;> intro h10 h
          ·
           rw [← sj h]
           exact fq ([(53, .d false), (58, .d true)] ++ kH k24) (k24.b (av h9 (av h10 apn)))
          ·
           have k25 := k24.a [(53, .d false), (58, .d false)] (av h9 (av h10 apn))
           apply bi h <;> intro h11 h
           ·
            rw [← sj h]
            exact fq ([(63, .d true)] ++ kH k25) (k25.b (av h11 apn))
           ·
            have k26 := k25.a [(63, .d false), (67, .v (i6 (a1.kids.length : Int)))] (av h11 (apc q0 apn))
            apply bn h; intro r12 h12 h
            cases r12 with
            | k0 =>
             obtain ⟨g12, y12, e12⟩ := Sv rF25 hF25 a1 (a1.kids.length : Int) 0 _ h12
             rw [← sj h]
             exact fq ([(2007, .l .ret ⟨fr 76 g12 [(2, vb false)], y12⟩), (6000, .d true)] ++ kH k26) (k26.b (apc (Ss a1 (a1.kids.length : Int) 0) (apc (e12 : Xi a1 (a1.kids.length : Int) 0 = some (.ret, ⟨fr 76 g12 [(2, vb false)], y12⟩)) apn)))
            | k1 =>
             obtain ⟨g12, e12⟩ := Sv rF25 hF25 a1 (a1.kids.length : Int) 0 _ h12
             rw [← sj h]
             exact fq ([(2007, .l (.brk 7) (GZ g12 a1)), (6000, .d true)] ++ kH k26) (k26.b (apc (Ss a1 (a1.kids.length : Int) 0) (apc (e12 : Xi a1 (a1.kids.length : Int) 0 = some ((.brk 7), GZ g12 a1)) apn)))
      ·
       rw [← sj h]
       exact fq ([(19, .d false), (21, .d false)] ++ kH k18) (k18.b (av h5 (av h6 apn)))
def F25 : Nat → Wb
  | 0 => fun _ => none
  | Nf + 1 => Mb (F25 Nf)
theorem G1 (Nf : Nat) : Tb (F25 Nf) := by
  induction Nf with
  | zero => intro a1 r h; have h : (none : Option Bool) = some r := h; cases h
  | succ Nf ih => intro a1 r h; exact E1 (F25 Nf) ih a1 h
inductive R_F21 where
  | k0 (x0 x1 : Int)
def Ca (a1 : BoxD) (r : R_F21) : AV := match r with | .k0 x0 x1 => (.tup [i6 x0, i6 x1])
abbrev Mc := BoxD → Option R_F21
abbrev HT (f : Mc) : Prop := ∀ (a1 : BoxD) {r : R_F21}, f a1 = some r → PR1 prg 21 [(.agg ((cBx a1).map .p))] (Ca a1 r)
inductive E_L21_0 where
  | k0 (x0 x1 : Int)
def Po (rF21 : Mc) (a1 : BoxD) (a2 : Int) (v1 v2 v3 : Int) : Option (E_L21_0 ⊕ (Int × Int × Int)) :=
  (bif (decide (v3 < a2)) then ((getI a1.kids v3).bind fun x2 => ((rF21 x2).bind fun r3 => match r3 with | .k0 x3_0 x3_1 => (some (.inr ((IntKind.wrap .i64 (v1 + x3_0)), (if v2 < x3_1 then x3_1 else v2), (IntKind.wrap .i64 (v3 + 1))))))) else (some (.inl (.k0 v1 v2))))
def Io (a1 : BoxD) (a2 : Int) (v1 v2 v3 : Int) : St := ⟨fr 32 ug [(4, i6 v1), (5, i6 v2), (11, (.p (.lst 4 (Zb a1.kids)))), (12, i6 a2), (13, i6 v3)], [.cells 25 ((cBx a1).map .p)]⟩
theorem Ip (a1 : BoxD) (a2 : Int) (v1 v2 v3 : Int) : okT 1 (Io a1 a2 v1 v2 v3).h = true := (ZD rfl (ac rfl))
abbrev Uu (a1 : BoxD) (a2 : Int) (v1 v2 v3 : Int) := evH prg 1 [4, 5, 11, 12, 13] If (Io a1 a2 v1 v2 v3)
def Md (a1 : BoxD) (a2 : Int) (e : E_L21_0) (r : Option (Out × St)) : Prop := match e with | .k0 x0 x1 => ∃ g, r = some ((.brk 0), ⟨fr 32 g [(4, i6 x0), (5, i6 x1), (11, (.p (.lst 4 (Zb a1.kids))))], [.cells 25 ((cBx a1).map .p)]⟩)
theorem HU (rF21 : Mc) (hF21 : HT rF21) (a1 : BoxD) (a2 : Int) (v1 v2 v3 : Int) {r : E_L21_0 ⊕ (Int × Int × Int)} (h : Po rF21 a1 a2 v1 v2 v3 = some r) : OkR (fun e => Md a1 a2 e (Uu a1 a2 v1 v2 v3)) (fun s => Uu a1 a2 v1 v2 v3 = Uu a1 a2 s.1 s.2.1 s.2.2) r := by
 unfold Po at h
 apply bi h <;> intro h1 h
 ·
  apply bn h; intro x2 h2 h
  apply bn h; intro r3 h3 h
  cases r3 with
  | k0 x3_0 x3_1 =>
   rw [← sj h]
   exact rn [(14, .d true), (15, .v (.ro (cBx x2))), (19, .v (.tup [i6 x3_0, i6 x3_1])), (6000, .d true)] (av h1 (apc ((igr Zr h2) : idxA 4 (.p (.lst 4 (Zb a1.kids))) (i6 v3) = some (.ro (cBx x2))) (apc (((hF21 x2 h3).cp rfl _) : CP prg 21 [(.agg ((cBx x2).map .p))] [.cells 25 ((cBx a1).map .p), .row 25 4 0 (ra cBx []), .cells 25 ((cBx x2).map .p)] = some (.tup [i6 x3_0, i6 x3_1])) (apc (Ip a1 a2 (w6 (v1 + x3_0)) (if v2 < x3_1 then x3_1 else v2) (w6 (v3 + 1))) apn))))
 ·
  rw [← sj h]
  exact xb [(14, .d false), (6000, .d true)] (av h1 apn)
theorem Iq (rF21 : Mc) (hF21 : HT rF21) (a1 : BoxD) (a2 : Int) (s0 : Int × Int × Int) (e : E_L21_0) (h : runL (fun s => Po rF21 a1 a2 s.1 s.2.1 s.2.2) s0 = some e) : Md a1 a2 e (Uu a1 a2 s0.1 s0.2.1 s0.2.2) := by
  have q := @Zg (Int × Int × Int) E_L21_0 (fun s => Po rF21 a1 a2 s.1 s.2.1 s.2.2) (fun s => Uu a1 a2 s.1 s.2.1 s.2.2) (Md a1 a2) (fun s r h => HU rF21 hF21 a1 a2 s.1 s.2.1 s.2.2 h) s0 e h
  exact q
def Ir (rF21 : Mc) (a1 : BoxD) : Option R_F21 :=
  ((runL (fun s => Po rF21 a1 (a1.kids.length : Int) s.1 s.2.1 s.2.2) (1, 0, 0)).bind fun r1 => match r1 with | .k0 x1_0 x1_1 => (some (.k0 x1_0 (IntKind.wrap .i64 (x1_1 + 1)))))
abbrev G2 (g1 : Nat → AV) (x1_0 x1_1 : Int) (a1 : BoxD) : St := ⟨fr 32 g1 [(4, i6 x1_0), (5, i6 x1_1), (11, (.p (.lst 4 (Zb a1.kids))))], [.cells 25 ((cBx a1).map .p)]⟩
theorem E2 (rF21 : Mc) (hF21 : HT rF21) (a1 : BoxD) {r : R_F21} (h : Ir rF21 a1 = some r) : PR1 prg 21 [(.agg ((cBx a1).map .p))] (Ca a1 r) := by
 unfold Ir at h
 apply bn h; intro r1 h1 h
 cases r1 with
 | k0 x1_0 x1_1 =>
  obtain ⟨g1, e1⟩ := Iq rF21 hF21 a1 (a1.kids.length : Int) (1, 0, 0) _ h1
  rw [← sj h]
  exact fq [(12, .v (i6 (a1.kids.length : Int))), (2000, .l (.brk 0) (G2 g1 x1_0 x1_1 a1)), (6000, .d true)] (apc ((lgr Zr) : lnA (.p (.lst 4 (Zb a1.kids))) = some (i6 (a1.kids.length : Int))) (apc (Ip a1 (a1.kids.length : Int) 1 0 0) (apc (e1 : Uu a1 (a1.kids.length : Int) 1 0 0 = some ((.brk 0), G2 g1 x1_0 x1_1 a1)) apn)))
def F21 : Nat → Mc
  | 0 => fun _ => none
  | Nf + 1 => Ir (F21 Nf)
theorem Cb (Nf : Nat) : HT (F21 Nf) := by
  induction Nf with
  | zero => intro a1 r h; have h : (none : Option R_F21) = some r := h; cases h
  | succ Nf ih => intro a1 r h; exact E2 (F21 Nf) ih a1 h
def CY (a1 : BoxD) (x0 : Int) : AV := (i6 x0)
def F16 (Nf : Nat) (a1 : BoxD) : Option Int :=
  ((F25 Nf a1).bind fun x1 => (bif x1 then ((F21 Nf a1).bind fun r3 => match r3 with | .k0 x3_0 x3_1 => (bif (decide (x3_0 > 65536)) then (some 3) else (bif (decide (x3_1 > 16384)) then (some 3) else (some 0)))) else (some 260)))
theorem G3 (Nf : Nat) (a1 : BoxD) {r : Int} (h : F16 Nf a1 = some r) : PR1 prg 16 [(.agg ((cBx a1).map .p))] (CY a1 r) := by
 unfold F16 at h
 apply bn h; intro x1 h1 h
 apply bi h <;> intro h2 h
 ·
  have q0 := ((((G1 Nf a1 h1).cp rfl _).trans (congrArg (fun z => some (vb z)) h2)) : CP prg 25 [(.agg ((cBx a1).map .p))] [.cells 25 ((cBx a1).map .p)] = some (vb true))
  apply bn h; intro r3 h3 h
  cases r3 with
  | k0 x3_0 x3_1 =>
   have q1 := (((Cb Nf a1 h3).cp rfl _) : CP prg 21 [(.agg ((cBx a1).map .p))] [.cells 25 ((cBx a1).map .p)] = some (.tup [i6 x3_0, i6 x3_1]))
   have k2 := ka [(6, .v (vb true)), (10, .v (.tup [i6 x3_0, i6 x3_1]))] (apc q0 (apc q1 apn))
   apply bi h <;> intro h4 h
   ·
    rw [← sj h]
    exact fq ([(14, .d true)] ++ kH k2) (k2.b (av h4 apn))
   ·
    apply bi h <;> intro h5 h
    ·
     rw [← sj h]
     exact fq ([(14, .d false), (17, .d true)] ++ kH k2) (k2.b (av h4 (av h5 apn)))
    ·
     rw [← sj h]
     exact fq ([(14, .d false), (17, .d false)] ++ kH k2) (k2.b (av h4 (av h5 apn)))
 ·
  rw [← sj h]
  exact fq [(6, .v (vb false))] (apc ((((G1 Nf a1 h1).cp rfl _).trans (congrArg (fun z => some (vb z)) h2)) : CP prg 25 [(.agg ((cBx a1).map .p))] [.cells 25 ((cBx a1).map .p)] = some (vb false)) apn)
inductive R_F28_2 where
  | k0 (x0 : Bool) (x1 : Nat) (x2 : List Bool) (x3 : Nat)
def Is (a1 a2 : BoxD) (a3 : Nat) (a4 : List Bool) (a5 : Nat) (a6 : List Bool) (a7 : Nat) (r : R_F28_2) : AV := match r with | .k0 x0 x1 x2 x3 => (vb x0)
def It (a1 a2 : BoxD) (a3 : Nat) (a4 : List Bool) (a5 : Nat) (a6 : List Bool) (a7 : Nat) (r : R_F28_2) : List AB := match r with | .k0 x0 x1 x2 x3 => [.cells 25 ((cBx a2).map .p), yB a3 a4, yB x1 x2, .cells 48 [.sl 2 x1 1 0 x3], .cells 26 [(.fn 28 [.ptr 3 0, .ptr 4 0])]]
abbrev XG := BoxD → BoxD → Nat → (List Bool) → Nat → (List Bool) → Nat → Option R_F28_2
abbrev Uv (f : XG) : Prop := ∀ (a1 a2 : BoxD) (a3 : Nat) (a4 : List Bool) (a5 : Nat) (a6 : List Bool) (a7 : Nat) {r : R_F28_2}, f a1 a2 a3 a4 a5 a6 a7 = some r → ∀ hx : List AB, CS prg 28 [(.agg ((cBx a1).map .p)), .ptr 3 0, .ptr 4 0] ([.cells 25 ((cBx a2).map .p), yB a3 a4, yB a5 a6, .cells 48 [.sl 2 a5 1 0 a7], .cells 26 [(.fn 28 [.ptr 3 0, .ptr 4 0])]] ++ hx) = some (Is a1 a2 a3 a4 a5 a6 a7 r, It a1 a2 a3 a4 a5 a6 a7 r ++ hx)
inductive E_L28_0_2 where
  | k0 (x0 : Nat) (x1 : List Bool) (x2 : Nat)
def Wd (rF28_2 : XG) (a2 : BoxD) (a3 : Int) (a4 : BoxD) (a5 : Nat) (a6 : List Bool) (v1 : Int) (v2 : Nat) (v3 : List Bool) (v4 : Nat) : Option (E_L28_0_2 ⊕ (Int × Nat × (List Bool) × Nat)) :=
  (bif (decide (v1 < a3)) then ((getI a2.kids v1).bind fun x2 => ((rF28_2 x2 a4 a5 a6 v2 v3 v4).bind fun r3 => match r3 with | .k0 x3_0 x3_1 x3_2 x3_3 => (bif x3_0 then (some (.inr ((IntKind.wrap .i64 (v1 + 1)), x3_1, x3_2, x3_3))) else (some (.inr ((IntKind.wrap .i64 (v1 + 1)), x3_1, x3_2, x3_3)))))) else (some (.inl (.k0 v2 v3 v4))))
def Ox (a1 : Int) (a2 : BoxD) (a3 : Int) (a4 : BoxD) (a5 : Nat) (a6 : List Bool) (v1 : Int) (v2 : Nat) (v3 : List Bool) (v4 : Nat) : St := ⟨fr 39 ug [(1, .ptr 3 0), (2, .ptr 4 0), (5, i6 a1), (6, vb true), (24, (.p (.lst 4 (Zb a2.kids)))), (25, i6 a3), (26, i6 v1)], [.cells 25 ((cBx a4).map .p), yB a5 a6, yB v2 v3, .cells 48 [.sl 2 v2 1 0 v4], .cells 26 [(.fn 28 [.ptr 3 0, .ptr 4 0])], .cells 25 ((cBx a2).map .p), .row 4 1 0 [[vb true]]]⟩
theorem Sw (a1 : Int) (a2 : BoxD) (a3 : Int) (a4 : BoxD) (a5 : Nat) (a6 : List Bool) (v1 : Int) (v2 : Nat) (v3 : List Bool) (v4 : Nat) : okT 7 (Ox a1 a2 a3 a4 a5 a6 v1 v2 v3 v4).h = true := (ZD rfl (ac (ar (ar (ac (ac (ac (ac rfl))))))))
abbrev Xj (a1 : Int) (a2 : BoxD) (a3 : Int) (a4 : BoxD) (a5 : Nat) (a6 : List Bool) (v1 : Int) (v2 : Nat) (v3 : List Bool) (v4 : Nat) := evH prg 7 [1, 2, 5, 6, 24, 25, 26] N5 (Ox a1 a2 a3 a4 a5 a6 v1 v2 v3 v4)
def Sy (a1 : Int) (a2 : BoxD) (a3 : Int) (a4 : BoxD) (a5 : Nat) (a6 : List Bool) (e : E_L28_0_2) (r : Option (Out × St)) : Prop := match e with | .k0 x0 x1 x2 => ∃ g, r = some ((.brk 0), ⟨fr 39 g [(1, .ptr 3 0), (5, i6 a1), (6, vb true), (24, (.p (.lst 4 (Zb a2.kids))))], [.cells 25 ((cBx a4).map .p), yB a5 a6, yB x0 x1, .cells 48 [.sl 2 x0 1 0 x2], .cells 26 [(.fn 28 [.ptr 3 0, .ptr 4 0])], .cells 25 ((cBx a2).map .p), .row 4 1 0 [[vb true]]]⟩)
abbrev YO (a4 : BoxD) (a5 : Nat) (a6 : List Bool) (x3_1 : Nat) (x3_2 : List Bool) (x3_3 : Nat) (a2 x2 : BoxD) : List AB := [.cells 25 ((cBx a4).map .p), yB a5 a6, yB x3_1 x3_2, .cells 48 [.sl 2 x3_1 1 0 x3_3], .cells 26 [(.fn 28 [.ptr 3 0, .ptr 4 0])], .cells 25 ((cBx a2).map .p), .row 4 1 0 [[vb true]], .row 25 4 0 (ra cBx []), .cells 25 ((cBx x2).map .p)]
abbrev R6 (a2 x2 : BoxD) : List AB := [.cells 25 ((cBx a2).map .p), .row 4 1 0 [[vb true]], .row 25 4 0 (ra cBx []), .cells 25 ((cBx x2).map .p)]
abbrev R7 (a4 : BoxD) (a5 : Nat) (a6 : List Bool) (v2 : Nat) (v3 : List Bool) (v4 : Nat) (a2 x2 : BoxD) : List AB := [.cells 25 ((cBx a4).map .p), yB a5 a6, yB v2 v3, .cells 48 [.sl 2 v2 1 0 v4], .cells 26 [(.fn 28 [.ptr 3 0, .ptr 4 0])], .cells 25 ((cBx a2).map .p), .row 4 1 0 [[vb true]], .row 25 4 0 (ra cBx []), .cells 25 ((cBx x2).map .p)]
theorem KS (rF28_2 : XG) (hF28_2 : Uv rF28_2) (a1 : Int) (a2 : BoxD) (a3 : Int) (a4 : BoxD) (a5 : Nat) (a6 : List Bool) (v1 : Int) (v2 : Nat) (v3 : List Bool) (v4 : Nat) {r : E_L28_0_2 ⊕ (Int × Nat × (List Bool) × Nat)} (h : Wd rF28_2 a2 a3 a4 a5 a6 v1 v2 v3 v4 = some r) : OkR (fun e => Sy a1 a2 a3 a4 a5 a6 e (Xj a1 a2 a3 a4 a5 a6 v1 v2 v3 v4)) (fun s => Xj a1 a2 a3 a4 a5 a6 v1 v2 v3 v4 = Xj a1 a2 a3 a4 a5 a6 s.1 s.2.1 s.2.2.1 s.2.2.2) r := by
 unfold Wd at h
 apply bi h <;> intro h1 h
 ·
  apply bn h; intro x2 h2 h
  have q0 := ((igr Zr h2) : idxA 4 (.p (.lst 4 (Zb a2.kids))) (i6 v1) = some (.ro (cBx x2)))
  have k1 := ka [(27, .d true), (28, .v (.ro (cBx x2)))] (av h1 (apc q0 apn))
  apply bn h; intro r3 h3 h
  cases r3 with
  | k0 x3_0 x3_1 x3_2 x3_3 =>
   have q2 := (Sw a1 a2 a3 a4 a5 a6 (w6 (v1 + 1)) x3_1 x3_2 x3_3)
   apply bi h <;> intro h4 h
   ·
    rw [← sj h]
    exact rn ([(32, .r (vb true) (YO a4 a5 a6 x3_1 x3_2 x3_3 a2 x2)), (6000, .d true)] ++ kH k1) (k1.b (apc (((hF28_2 x2 a4 a5 a6 v2 v3 v4 h3 (R6 a2 x2)).trans (congrArg (fun z => some (vb z, ((YO a4 a5 a6 x3_1 x3_2 x3_3 a2 x2) : List AB))) h4)) : CS prg 28 [(.agg ((cBx x2).map .p)), .ptr 3 0, .ptr 4 0] (R7 a4 a5 a6 v2 v3 v4 a2 x2) = some (vb true, YO a4 a5 a6 x3_1 x3_2 x3_3 a2 x2)) (apc q2 apn)))
   ·
    rw [← sj h]
    exact rn ([(32, .r (vb false) (YO a4 a5 a6 x3_1 x3_2 x3_3 a2 x2)), (6000, .d true)] ++ kH k1) (k1.b (apc (((hF28_2 x2 a4 a5 a6 v2 v3 v4 h3 (R6 a2 x2)).trans (congrArg (fun z => some (vb z, ((YO a4 a5 a6 x3_1 x3_2 x3_3 a2 x2) : List AB))) h4)) : CS prg 28 [(.agg ((cBx x2).map .p)), .ptr 3 0, .ptr 4 0] (R7 a4 a5 a6 v2 v3 v4 a2 x2) = some (vb false, YO a4 a5 a6 x3_1 x3_2 x3_3 a2 x2)) (apc q2 apn)))
 ·
  rw [← sj h]
  exact xb [(27, .d false), (6000, .d true)] (av h1 apn)
theorem Sz (rF28_2 : XG) (hF28_2 : Uv rF28_2) (a1 : Int) (a2 : BoxD) (a3 : Int) (a4 : BoxD) (a5 : Nat) (a6 : List Bool) (s0 : Int × Nat × (List Bool) × Nat) (e : E_L28_0_2) (h : runL (fun s => Wd rF28_2 a2 a3 a4 a5 a6 s.1 s.2.1 s.2.2.1 s.2.2.2) s0 = some e) : Sy a1 a2 a3 a4 a5 a6 e (Xj a1 a2 a3 a4 a5 a6 s0.1 s0.2.1 s0.2.2.1 s0.2.2.2) := by
  have q := @Zg (Int × Nat × (List Bool) × Nat) E_L28_0_2 (fun s => Wd rF28_2 a2 a3 a4 a5 a6 s.1 s.2.1 s.2.2.1 s.2.2.2) (fun s => Xj a1 a2 a3 a4 a5 a6 s.1 s.2.1 s.2.2.1 s.2.2.2) (Sy a1 a2 a3 a4 a5 a6) (fun s r h => KS rF28_2 hF28_2 a1 a2 a3 a4 a5 a6 s.1 s.2.1 s.2.2.1 s.2.2.2 h) s0 e h
  exact q
def CZ (a1 : BoxD) (a2 : Int) (x0 : Int) : AV := (i6 x0)
def F56 (a1 : BoxD) (a2 : Int) : Option Int :=
  (some (firstIdx a1.text (Int.toNat a2).toUInt8))
theorem Cc (a1 : BoxD) (a2 : Int) {r : Int} (h : F56 a1 a2 = some r) : PR1 prg 56 [vs a1.text, vi .u8 a2] (CZ a1 a2 r) := by
 unfold F56 at h
 rw [← sj h]
 exact fq [] apn
def C0 (a1 : BoxD) (x0 : Int) : AV := (i6 x0)
def F48 (a1 : BoxD) : Option Int :=
  (bif ((⟨([10] : List UInt8).toArray⟩ : ByteArray).toList == a1.text.toList) then (some 0) else ((getI (⟨([10] : List UInt8).toArray⟩ : ByteArray).data.toList 0).bind fun x2 => ((F56 a1 (x2.toNat : Int)).bind fun x3 => (some x3))))
theorem Cd (a1 : BoxD) {r : Int} (h : F48 a1 = some r) : PR1 prg 48 [vs a1.text, (vs (⟨([10] : List UInt8).toArray⟩ : ByteArray))] (C0 a1 r) := by
 unfold F48 at h
 apply bi h <;> intro h1 h
 ·
  rw [← sj h]
  exact fq [(22, .d true)] (av h1 apn)
 ·
  apply bn h; intro x2 h2 h
  apply bn h; intro x3 h3 h
  rw [← sj h]
  exact fq [(22, .d false), (29, .v (vi .u8 (x2.toNat : Int))), (30, .v (i6 x3))] (av h1 (apc ((Lg h2) : ixS (vs (⟨([10] : List UInt8).toArray⟩ : ByteArray)) (i6 0) = some (vi .u8 (x2.toNat : Int))) (apc (((Cc a1 (x2.toNat : Int) h3).cp rfl _) : CP prg 56 [vs a1.text, (vi .u8 (x2.toNat : Int))] [] = some (i6 x3)) apn)))
def C1 (a1 : BoxD) (x0 : Int) : AV := (i6 x0)
def F39 (a1 : BoxD) : Option Int :=
  ((F48 a1).bind fun x1 => (some x1))
theorem Ce (a1 : BoxD) {r : Int} (h : F39 a1 = some r) : PR1 prg 39 [vs a1.text, (vs (⟨([10] : List UInt8).toArray⟩ : ByteArray))] (C1 a1 r) := by
 unfold F39 at h
 apply bn h; intro x1 h1 h
 rw [← sj h]
 exact fq [(7, .v (i6 x1))] (apc (((Cd a1 h1).cp rfl _) : CP prg 48 [vs a1.text, (vs (⟨([10] : List UInt8).toArray⟩ : ByteArray))] [] = some (i6 x1)) apn)
def C2 (a1 : BoxD) (x0 : Bool) : AV := (vb x0)
def F29 (a1 : BoxD) : Option Bool :=
  ((F39 a1).bind fun x1 => (some (decide (x1 ≥ 0))))
theorem Cf (a1 : BoxD) {r : Bool} (h : F29 a1 = some r) : PR1 prg 29 [vs a1.text, (vs (⟨([10] : List UInt8).toArray⟩ : ByteArray))] (C2 a1 r) := by
 unfold F29 at h
 apply bn h; intro x1 h1 h
 rw [← sj h]
 exact fq [(7, .v (i6 x1))] (apc (((Ce a1 h1).cp rfl _) : CP prg 39 [vs a1.text, (vs (⟨([10] : List UInt8).toArray⟩ : ByteArray))] [] = some (i6 x1)) apn)
inductive E_L28_0_3 where
  | k0 (x0 : Bool) (x1 : Nat) (x2 : List Bool) (x3 : Nat)
def We (rF28_2 : XG) (a3 : BoxD) (a4 : Int) (a5 : BoxD) (a6 : Nat) (a7 : List Bool) (v1 : Bool) (v2 : Int) (v3 : Nat) (v4 : List Bool) (v5 : Nat) : Option (E_L28_0_3 ⊕ (Bool × Int × Nat × (List Bool) × Nat)) :=
  (bif (decide (v2 < a4)) then ((getI a3.kids v2).bind fun x2 => ((rF28_2 x2 a5 a6 a7 v3 v4 v5).bind fun r3 => match r3 with | .k0 x3_0 x3_1 x3_2 x3_3 => (bif x3_0 then (some (.inr (true, (IntKind.wrap .i64 (v2 + 1)), x3_1, x3_2, x3_3))) else (some (.inr (v1, (IntKind.wrap .i64 (v2 + 1)), x3_1, x3_2, x3_3)))))) else (some (.inl (.k0 v1 v3 v4 v5))))
def Oy (a1 : Int) (a2 : Bool) (a3 : BoxD) (a4 : Int) (a5 : BoxD) (a6 : Nat) (a7 : List Bool) (v1 : Bool) (v2 : Int) (v3 : Nat) (v4 : List Bool) (v5 : Nat) : St := ⟨fr 39 ug [(1, .ptr 3 0), (2, .ptr 4 0), (5, i6 a1), (6, vb v1), (24, (.p (.lst 4 (Zb a3.kids)))), (25, i6 a4), (26, i6 v2)], [.cells 25 ((cBx a5).map .p), yB a6 a7, yB v3 v4, .cells 48 [.sl 2 v3 1 0 v5], .cells 26 [(.fn 28 [.ptr 3 0, .ptr 4 0])], .cells 25 ((cBx a3).map .p), .row 4 1 0 [[vb a2]]]⟩
theorem Ue (a1 : Int) (a2 : Bool) (a3 : BoxD) (a4 : Int) (a5 : BoxD) (a6 : Nat) (a7 : List Bool) (v1 : Bool) (v2 : Int) (v3 : Nat) (v4 : List Bool) (v5 : Nat) : okT 7 (Oy a1 a2 a3 a4 a5 a6 a7 v1 v2 v3 v4 v5).h = true := (ZD rfl (ac (ar (ar (ac (ac (ac (ac rfl))))))))
abbrev Xk (a1 : Int) (a2 : Bool) (a3 : BoxD) (a4 : Int) (a5 : BoxD) (a6 : Nat) (a7 : List Bool) (v1 : Bool) (v2 : Int) (v3 : Nat) (v4 : List Bool) (v5 : Nat) := evH prg 7 [1, 2, 5, 6, 24, 25, 26] N5 (Oy a1 a2 a3 a4 a5 a6 a7 v1 v2 v3 v4 v5)
def SA (a1 : Int) (a2 : Bool) (a3 : BoxD) (a4 : Int) (a5 : BoxD) (a6 : Nat) (a7 : List Bool) (e : E_L28_0_3) (r : Option (Out × St)) : Prop := match e with | .k0 x0 x1 x2 x3 => ∃ g, r = some ((.brk 0), ⟨fr 39 g [(1, .ptr 3 0), (5, i6 a1), (6, vb x0), (24, (.p (.lst 4 (Zb a3.kids))))], [.cells 25 ((cBx a5).map .p), yB a6 a7, yB x1 x2, .cells 48 [.sl 2 x1 1 0 x3], .cells 26 [(.fn 28 [.ptr 3 0, .ptr 4 0])], .cells 25 ((cBx a3).map .p), .row 4 1 0 [[vb a2]]]⟩)
abbrev YP (a5 : BoxD) (a6 : Nat) (a7 : List Bool) (x3_1 : Nat) (x3_2 : List Bool) (x3_3 : Nat) (a3 : BoxD) (a2 : Bool) (x2 : BoxD) : List AB := [.cells 25 ((cBx a5).map .p), yB a6 a7, yB x3_1 x3_2, .cells 48 [.sl 2 x3_1 1 0 x3_3], .cells 26 [(.fn 28 [.ptr 3 0, .ptr 4 0])], .cells 25 ((cBx a3).map .p), .row 4 1 0 [[vb a2]], .row 25 4 0 (ra cBx []), .cells 25 ((cBx x2).map .p)]
abbrev R8 (a3 : BoxD) (a2 : Bool) (x2 : BoxD) : List AB := [.cells 25 ((cBx a3).map .p), .row 4 1 0 [[vb a2]], .row 25 4 0 (ra cBx []), .cells 25 ((cBx x2).map .p)]
abbrev R9 (a5 : BoxD) (a6 : Nat) (a7 : List Bool) (v3 : Nat) (v4 : List Bool) (v5 : Nat) (a3 : BoxD) (a2 : Bool) (x2 : BoxD) : List AB := [.cells 25 ((cBx a5).map .p), yB a6 a7, yB v3 v4, .cells 48 [.sl 2 v3 1 0 v5], .cells 26 [(.fn 28 [.ptr 3 0, .ptr 4 0])], .cells 25 ((cBx a3).map .p), .row 4 1 0 [[vb a2]], .row 25 4 0 (ra cBx []), .cells 25 ((cBx x2).map .p)]
theorem KT (rF28_2 : XG) (hF28_2 : Uv rF28_2) (a1 : Int) (a2 : Bool) (a3 : BoxD) (a4 : Int) (a5 : BoxD) (a6 : Nat) (a7 : List Bool) (v1 : Bool) (v2 : Int) (v3 : Nat) (v4 : List Bool) (v5 : Nat) {r : E_L28_0_3 ⊕ (Bool × Int × Nat × (List Bool) × Nat)} (h : We rF28_2 a3 a4 a5 a6 a7 v1 v2 v3 v4 v5 = some r) : OkR (fun e => SA a1 a2 a3 a4 a5 a6 a7 e (Xk a1 a2 a3 a4 a5 a6 a7 v1 v2 v3 v4 v5)) (fun s => Xk a1 a2 a3 a4 a5 a6 a7 v1 v2 v3 v4 v5 = Xk a1 a2 a3 a4 a5 a6 a7 s.1 s.2.1 s.2.2.1 s.2.2.2.1 s.2.2.2.2) r := by
 unfold We at h
 apply bi h <;> intro h1 h
 ·
  apply bn h; intro x2 h2 h
  have q0 := ((igr Zr h2) : idxA 4 (.p (.lst 4 (Zb a3.kids))) (i6 v2) = some (.ro (cBx x2)))
  have k1 := ka [(27, .d true), (28, .v (.ro (cBx x2)))] (av h1 (apc q0 apn))
  apply bn h; intro r3 h3 h
  cases r3 with
  | k0 x3_0 x3_1 x3_2 x3_3 =>
   apply bi h <;> intro h4 h
   ·
    rw [← sj h]
    exact rn ([(32, .r (vb true) (YP a5 a6 a7 x3_1 x3_2 x3_3 a3 a2 x2)), (6000, .d true)] ++ kH k1) (k1.b (apc (((hF28_2 x2 a5 a6 a7 v3 v4 v5 h3 (R8 a3 a2 x2)).trans (congrArg (fun z => some (vb z, ((YP a5 a6 a7 x3_1 x3_2 x3_3 a3 a2 x2) : List AB))) h4)) : CS prg 28 [(.agg ((cBx x2).map .p)), .ptr 3 0, .ptr 4 0] (R9 a5 a6 a7 v3 v4 v5 a3 a2 x2) = some (vb true, YP a5 a6 a7 x3_1 x3_2 x3_3 a3 a2 x2)) (apc (Ue a1 a2 a3 a4 a5 a6 a7 true (w6 (v2 + 1)) x3_1 x3_2 x3_3) apn)))
   ·
    rw [← sj h]
    exact rn ([(32, .r (vb false) (YP a5 a6 a7 x3_1 x3_2 x3_3 a3 a2 x2)), (6000, .d true)] ++ kH k1) (k1.b (apc (((hF28_2 x2 a5 a6 a7 v3 v4 v5 h3 (R8 a3 a2 x2)).trans (congrArg (fun z => some (vb z, ((YP a5 a6 a7 x3_1 x3_2 x3_3 a3 a2 x2) : List AB))) h4)) : CS prg 28 [(.agg ((cBx x2).map .p)), .ptr 3 0, .ptr 4 0] (R9 a5 a6 a7 v3 v4 v5 a3 a2 x2) = some (vb false, YP a5 a6 a7 x3_1 x3_2 x3_3 a3 a2 x2)) (apc (Ue a1 a2 a3 a4 a5 a6 a7 v1 (w6 (v2 + 1)) x3_1 x3_2 x3_3) apn)))
 ·
  rw [← sj h]
  exact xb [(27, .d false), (6000, .d true)] (av h1 apn)
theorem SB (rF28_2 : XG) (hF28_2 : Uv rF28_2) (a1 : Int) (a2 : Bool) (a3 : BoxD) (a4 : Int) (a5 : BoxD) (a6 : Nat) (a7 : List Bool) (s0 : Bool × Int × Nat × (List Bool) × Nat) (e : E_L28_0_3) (h : runL (fun s => We rF28_2 a3 a4 a5 a6 a7 s.1 s.2.1 s.2.2.1 s.2.2.2.1 s.2.2.2.2) s0 = some e) : SA a1 a2 a3 a4 a5 a6 a7 e (Xk a1 a2 a3 a4 a5 a6 a7 s0.1 s0.2.1 s0.2.2.1 s0.2.2.2.1 s0.2.2.2.2) := by
  have q := @Zg (Bool × Int × Nat × (List Bool) × Nat) E_L28_0_3 (fun s => We rF28_2 a3 a4 a5 a6 a7 s.1 s.2.1 s.2.2.1 s.2.2.2.1 s.2.2.2.2) (fun s => Xk a1 a2 a3 a4 a5 a6 a7 s.1 s.2.1 s.2.2.1 s.2.2.2.1 s.2.2.2.2) (SA a1 a2 a3 a4 a5 a6 a7) (fun s r h => KT rF28_2 hF28_2 a1 a2 a3 a4 a5 a6 a7 s.1 s.2.1 s.2.2.1 s.2.2.2.1 s.2.2.2.2 h) s0 e h
  exact q
def Wx (rF28_2 : XG) (a1 a2 : BoxD) (a3 : Nat) (a4 : List Bool) (a5 : Nat) (a6 : List Bool) (a7 : Nat) : Option R_F28_2 :=
  (bif (a1.kind == 2) then (bif (apOk a7 1 a6.length 1) then (bif (decide (a7 + 1 ≤ a6.length)) then ((runL (fun s => Wd rF28_2 a1 (a1.kids.length : Int) a2 a3 a4 s.1 s.2.1 s.2.2.1 s.2.2.2) (0, a5, (splice a6 a7 [true]), a7 + 1)).bind fun r4 => match r4 with | .k0 x4_0 x4_1 x4_2 => ((ixN x4_2 ((a7 : Nat) : Int)).bind fun x5 => ((x4_1[x5]?).bind fun x6 => (some (.k0 true x4_0 (x4_1.set x5 true) x4_2))))) else ((runL (fun s => Wd rF28_2 a1 (a1.kids.length : Int) a2 a3 a4 s.1 s.2.1 s.2.2.1 s.2.2.2) (0, a5 + 1, (a6.take a7 ++ [true]), a7 + 1)).bind fun r4 => match r4 with | .k0 x4_0 x4_1 x4_2 => ((ixN x4_2 ((a7 : Nat) : Int)).bind fun x5 => ((x4_1[x5]?).bind fun x6 => (some (.k0 true x4_0 (x4_1.set x5 true) x4_2)))))) else none) else ((F29 a1).bind fun x2 => (bif (apOk a7 1 a6.length 1) then (bif (decide (a7 + 1 ≤ a6.length)) then ((runL (fun s => We rF28_2 a1 (a1.kids.length : Int) a2 a3 a4 s.1 s.2.1 s.2.2.1 s.2.2.2.1 s.2.2.2.2) (x2, 0, a5, (splice a6 a7 [x2]), a7 + 1)).bind fun r5 => match r5 with | .k0 x5_0 x5_1 x5_2 x5_3 => ((ixN x5_3 ((a7 : Nat) : Int)).bind fun x6 => ((x5_2[x6]?).bind fun x7 => (some (.k0 x5_0 x5_1 (x5_2.set x6 x5_0) x5_3))))) else ((runL (fun s => We rF28_2 a1 (a1.kids.length : Int) a2 a3 a4 s.1 s.2.1 s.2.2.1 s.2.2.2.1 s.2.2.2.2) (x2, 0, a5 + 1, (a6.take a7 ++ [x2]), a7 + 1)).bind fun r5 => match r5 with | .k0 x5_0 x5_1 x5_2 x5_3 => ((ixN x5_3 ((a7 : Nat) : Int)).bind fun x6 => ((x5_2[x6]?).bind fun x7 => (some (.k0 x5_0 x5_1 (x5_2.set x6 x5_0) x5_3)))))) else none)))
abbrev WM (a2 : BoxD) (a3 : Nat) (a4 : List Bool) (x4_0 : Nat) (x4_1 : List Bool) (x5 x4_2 : Nat) (a1 : BoxD) : List AB := [.cells 25 ((cBx a2).map .p), yB a3 a4, yB x4_0 (x4_1.set x5 true), .cells 48 [.sl 2 x4_0 1 0 x4_2], .cells 26 [(.fn 28 [.ptr 3 0, .ptr 4 0])], .cells 25 ((cBx a1).map .p), .row 4 1 0 [[vb true]]]
abbrev Lq (a2 : BoxD) (a3 : Nat) (a4 : List Bool) (a5 : Nat) (a6 : List Bool) (a7 : Nat) (a1 : BoxD) : List AB := [.cells 25 ((cBx a2).map .p), yB a3 a4, yB a5 (splice a6 a7 [true]), .cells 48 [.sl 2 a5 1 0 a7], .cells 26 [(.fn 28 [.ptr 3 0, .ptr 4 0])], .cells 25 ((cBx a1).map .p), .row 4 1 0 [[vb true]]]
abbrev Tp (g4 : Nat → AV) (a7 : Nat) (a1 a2 : BoxD) (a3 : Nat) (a4 : List Bool) (x4_0 : Nat) (x4_1 : List Bool) (x4_2 : Nat) : St := ⟨fr 39 g4 [(1, .ptr 3 0), (5, (i6 ((a7 : Nat) : Int))), (6, vb true), (24, (.p (.lst 4 (Zb a1.kids))))], [.cells 25 ((cBx a2).map .p), yB a3 a4, yB x4_0 x4_1, .cells 48 [.sl 2 x4_0 1 0 x4_2], .cells 26 [(.fn 28 [.ptr 3 0, .ptr 4 0])], .cells 25 ((cBx a1).map .p), .row 4 1 0 [[vb true]]]⟩
abbrev Lr (a2 : BoxD) (a3 : Nat) (a4 : List Bool) (a5 : Nat) (a6 : List Bool) (a7 : Nat) (a1 : BoxD) : List AB := [.cells 25 ((cBx a2).map .p), yB a3 a4, yB a5 a6, .cells 48 [.sl 2 a5 1 0 a7], .cells 26 [(.fn 28 [.ptr 3 0, .ptr 4 0])], .cells 25 ((cBx a1).map .p), .row 4 1 0 [[vb true]]]
abbrev Lt (a2 : BoxD) (a3 : Nat) (a4 : List Bool) (x4_0 : Nat) (x4_1 : List Bool) (x4_2 : Nat) (a1 : BoxD) : List AB := [.cells 25 ((cBx a2).map .p), yB a3 a4, yB x4_0 x4_1, .cells 48 [.sl 2 x4_0 1 0 x4_2], .cells 26 [(.fn 28 [.ptr 3 0, .ptr 4 0])], .cells 25 ((cBx a1).map .p), .row 4 1 0 [[vb true]]]
abbrev Lu (a2 : BoxD) (a3 : Nat) (a4 : List Bool) (a5 : Nat) (a6 : List Bool) (a7 : Nat) (a1 : BoxD) : List AB := [.cells 25 ((cBx a2).map .p), yB a3 a4, yB (a5 + 1) (a6.take a7 ++ [true]), .cells 48 [.sl 2 a5 1 0 a7], .cells 26 [(.fn 28 [.ptr 3 0, .ptr 4 0])], .cells 25 ((cBx a1).map .p), .row 4 1 0 [[vb true]]]
abbrev Lv (a2 : BoxD) (a3 : Nat) (a4 : List Bool) (a5 : Nat) (a6 : List Bool) (a7 : Nat) (x2 : Bool) (a1 : BoxD) : List AB := [.cells 25 ((cBx a2).map .p), yB a3 a4, yB a5 (splice a6 a7 [x2]), .cells 48 [.sl 2 a5 1 0 a7], .cells 26 [(.fn 28 [.ptr 3 0, .ptr 4 0])], .cells 25 ((cBx a1).map .p), .row 4 1 0 [[vb x2]]]
abbrev Tq (g5 : Nat → AV) (a7 : Nat) (x5_0 : Bool) (a1 a2 : BoxD) (a3 : Nat) (a4 : List Bool) (x5_1 : Nat) (x5_2 : List Bool) (x5_3 : Nat) (x2 : Bool) : St := ⟨fr 39 g5 [(1, .ptr 3 0), (5, (i6 ((a7 : Nat) : Int))), (6, vb x5_0), (24, (.p (.lst 4 (Zb a1.kids))))], [.cells 25 ((cBx a2).map .p), yB a3 a4, yB x5_1 x5_2, .cells 48 [.sl 2 x5_1 1 0 x5_3], .cells 26 [(.fn 28 [.ptr 3 0, .ptr 4 0])], .cells 25 ((cBx a1).map .p), .row 4 1 0 [[vb x2]]]⟩
abbrev Lw (a2 : BoxD) (a3 : Nat) (a4 : List Bool) (a5 : Nat) (a6 : List Bool) (a7 : Nat) (a1 : BoxD) (x2 : Bool) : List AB := [.cells 25 ((cBx a2).map .p), yB a3 a4, yB a5 a6, .cells 48 [.sl 2 a5 1 0 a7], .cells 26 [(.fn 28 [.ptr 3 0, .ptr 4 0])], .cells 25 ((cBx a1).map .p), .row 4 1 0 [[vb x2]]]
abbrev Oz (a2 : BoxD) (a3 : Nat) (a4 : List Bool) (x5_1 : Nat) (x5_2 : List Bool) (x5_3 : Nat) (a1 : BoxD) (x2 : Bool) : List AB := [.cells 25 ((cBx a2).map .p), yB a3 a4, yB x5_1 x5_2, .cells 48 [.sl 2 x5_1 1 0 x5_3], .cells 26 [(.fn 28 [.ptr 3 0, .ptr 4 0])], .cells 25 ((cBx a1).map .p), .row 4 1 0 [[vb x2]]]
abbrev OA (a2 : BoxD) (a3 : Nat) (a4 : List Bool) (a5 : Nat) (a6 : List Bool) (a7 : Nat) (x2 : Bool) (a1 : BoxD) : List AB := [.cells 25 ((cBx a2).map .p), yB a3 a4, yB (a5 + 1) (a6.take a7 ++ [x2]), .cells 48 [.sl 2 a5 1 0 a7], .cells 26 [(.fn 28 [.ptr 3 0, .ptr 4 0])], .cells 25 ((cBx a1).map .p), .row 4 1 0 [[vb x2]]]
theorem Iu (rF28_2 : XG) (hF28_2 : Uv rF28_2) (a1 a2 : BoxD) (a3 : Nat) (a4 : List Bool) (a5 : Nat) (a6 : List Bool) (a7 : Nat) {r : R_F28_2} (h : Wx rF28_2 a1 a2 a3 a4 a5 a6 a7 = some r) : ∀ hx : List AB, CS prg 28 [(.agg ((cBx a1).map .p)), .ptr 3 0, .ptr 4 0] ([.cells 25 ((cBx a2).map .p), yB a3 a4, yB a5 a6, .cells 48 [.sl 2 a5 1 0 a7], .cells 26 [(.fn 28 [.ptr 3 0, .ptr 4 0])]] ++ hx) = some (Is a1 a2 a3 a4 a5 a6 a7 r, It a1 a2 a3 a4 a5 a6 a7 r ++ hx) := by
 unfold Wx at h
 have q0 := ((lgr Zr) : lnA (.p (.lst 4 (Zb a1.kids))) = some (i6 (a1.kids.length : Int)))
 apply bi h <;> intro h1 h
 ·
  apply bi h <;> intro h2 h
  ·
   apply bi h <;> intro h3 h
   ·
    apply bn h; intro r4 h4 h
    cases r4 with
    | k0 x4_0 x4_1 x4_2 =>
     obtain ⟨g4, e4⟩ := Sz rF28_2 hF28_2 ((a7 : Nat) : Int) a1 (a1.kids.length : Int) a2 a3 a4 (0, a5, (splice a6 a7 [true]), a7 + 1) _ h4
     apply bn h; intro x5 h5 h
     apply bn h; intro x6 h6 h
     rw [← sj h]
     exact fcF (m := 5) (v := (vb true)) (h' := (WM a2 a3 a4 x4_0 x4_1 x5 x4_2 a1)) [(13, .d true), (22, .r (.sl 2 a5 1 0 (a7 + 1)) (Lq a2 a3 a4 a5 a6 a7 a1)), (25, .v (i6 (a1.kids.length : Int))), (2000, .l (.brk 0) (Tp g4 a7 a1 a2 a3 a4 x4_0 x4_1 x4_2)), (37, .v (.rp 2 x4_0 1 x5 0)), (1037, .r ud (WM a2 a3 a4 x4_0 x4_1 x5 x4_2 a1)), (6000, .d true)] (av h1 (apc ((Vr (e := Zc) (xs := a6) (news := [true]) rfl (ZO (e := Zc) (xs := [true]) rfl) rfl h2 h3) : appA (Lr a2 a3 a4 a5 a6 a7 a1) 4 1 1 (.sl 2 a5 1 0 a7) (.sl 6 0 1 0 1) = some ((.sl 2 a5 1 0 (a7 + 1)), Lq a2 a3 a4 a5 a6 a7 a1)) (apc q0 (apc (Sw ((a7 : Nat) : Int) a1 (a1.kids.length : Int) a2 a3 a4 0 a5 (splice a6 a7 [true]) (a7 + 1)) (apc (e4 : Xj ((a7 : Nat) : Int) a1 (a1.kids.length : Int) a2 a3 a4 0 a5 (splice a6 a7 [true]) (a7 + 1) = some ((.brk 0), Tp g4 a7 a1 a2 a3 a4 x4_0 x4_1 x4_2)) (apc ((ZL h5) : idxA 1 (.sl 2 x4_0 1 0 x4_2) (i6 ((a7 : Nat) : Int)) = some (.rp 2 x4_0 1 x5 0)) (apc (⟨ZV (v' := true) rfl h6 rfl rfl (Nat.le_of_ble_eq_true rfl) rfl, rfl⟩ : stA (Lt a2 a3 a4 x4_0 x4_1 x4_2 a1) 1 (.rp 2 x4_0 1 x5 0) (vb true) = some (WM a2 a3 a4 x4_0 x4_1 x5 x4_2 a1) ∧ ud = ud) apn))))))) rfl (ac (ar (ar (ac (ac rfl))))) rfl (ac (ar (ar (ac (ac rfl))))) rfl (by kernel_rfl)
   ·
    apply bn h; intro r4 h4 h
    cases r4 with
    | k0 x4_0 x4_1 x4_2 =>
     obtain ⟨g4, e4⟩ := Sz rF28_2 hF28_2 ((a7 : Nat) : Int) a1 (a1.kids.length : Int) a2 a3 a4 (0, a5 + 1, (a6.take a7 ++ [true]), a7 + 1) _ h4
     apply bn h; intro x5 h5 h
     apply bn h; intro x6 h6 h
     rw [← sj h]
     exact fcF (m := 5) (v := (vb true)) (h' := (WM a2 a3 a4 x4_0 x4_1 x5 x4_2 a1)) [(13, .d true), (22, .r (.sl 2 (a5 + 1) 1 0 (a7 + 1)) (Lu a2 a3 a4 a5 a6 a7 a1)), (25, .v (i6 (a1.kids.length : Int))), (2000, .l (.brk 0) (Tp g4 a7 a1 a2 a3 a4 x4_0 x4_1 x4_2)), (37, .v (.rp 2 x4_0 1 x5 0)), (1037, .r ud (WM a2 a3 a4 x4_0 x4_1 x5 x4_2 a1)), (6000, .d true)] (av h1 (apc ((Xf (e := Zc) (xs := a6) (news := [true]) rfl (ZO (e := Zc) (xs := [true]) rfl) rfl h2 h3) : appA (Lr a2 a3 a4 a5 a6 a7 a1) 4 1 1 (.sl 2 a5 1 0 a7) (.sl 6 0 1 0 1) = some ((.sl 2 (a5 + 1) 1 0 (a7 + 1)), Lu a2 a3 a4 a5 a6 a7 a1)) (apc q0 (apc (Sw ((a7 : Nat) : Int) a1 (a1.kids.length : Int) a2 a3 a4 0 (a5 + 1) (a6.take a7 ++ [true]) (a7 + 1)) (apc (e4 : Xj ((a7 : Nat) : Int) a1 (a1.kids.length : Int) a2 a3 a4 0 (a5 + 1) (a6.take a7 ++ [true]) (a7 + 1) = some ((.brk 0), Tp g4 a7 a1 a2 a3 a4 x4_0 x4_1 x4_2)) (apc ((ZL h5) : idxA 1 (.sl 2 x4_0 1 0 x4_2) (i6 ((a7 : Nat) : Int)) = some (.rp 2 x4_0 1 x5 0)) (apc (⟨ZV (v' := true) rfl h6 rfl rfl (Nat.le_of_ble_eq_true rfl) rfl, rfl⟩ : stA (Lt a2 a3 a4 x4_0 x4_1 x4_2 a1) 1 (.rp 2 x4_0 1 x5 0) (vb true) = some (WM a2 a3 a4 x4_0 x4_1 x5 x4_2 a1) ∧ ud = ud) apn))))))) rfl (ac (ar (ar (ac (ac rfl))))) rfl (ac (ar (ar (ac (ac rfl))))) rfl (by kernel_rfl)
  ·
   cases h
 ·
  apply bn h; intro x2 h2 h
  have q1 := (((Cf a1 h2).cp rfl _) : CP prg 29 [vs a1.text, (vs (⟨([10] : List UInt8).toArray⟩ : ByteArray))] [.cells 25 ((cBx a2).map .p), yB a3 a4, yB a5 a6, .cells 48 [.sl 2 a5 1 0 a7], .cells 26 [(.fn 28 [.ptr 3 0, .ptr 4 0])], .cells 25 ((cBx a1).map .p)] = some (vb x2))
  have k2 := ka [(13, .d false), (17, .v (vb x2))] (av h1 (apc q1 apn))
  apply bi h <;> intro h3 h
  ·
   apply bi h <;> intro h4 h
   ·
    apply bn h; intro r5 h5 h
    cases r5 with
    | k0 x5_0 x5_1 x5_2 x5_3 =>
     obtain ⟨g5, e5⟩ := SB rF28_2 hF28_2 ((a7 : Nat) : Int) x2 a1 (a1.kids.length : Int) a2 a3 a4 (x2, 0, a5, (splice a6 a7 [x2]), a7 + 1) _ h5
     apply bn h; intro x6 h6 h
     apply bn h; intro x7 h7 h
     rw [← sj h]
     exact fcF (m := 5) (v := (vb x5_0)) (h' := [.cells 25 ((cBx a2).map .p), yB a3 a4, yB x5_1 (x5_2.set x6 x5_0), .cells 48 [.sl 2 x5_1 1 0 x5_3], .cells 26 [(.fn 28 [.ptr 3 0, .ptr 4 0])], .cells 25 ((cBx a1).map .p), .row 4 1 0 [[vb x2]]]) ([(22, .r (.sl 2 a5 1 0 (a7 + 1)) (Lv a2 a3 a4 a5 a6 a7 x2 a1)), (25, .v (i6 (a1.kids.length : Int))), (2000, .l (.brk 0) (Tq g5 a7 x5_0 a1 a2 a3 a4 x5_1 x5_2 x5_3 x2)), (37, .v (.rp 2 x5_1 1 x6 0)), (1037, .r ud [.cells 25 ((cBx a2).map .p), yB a3 a4, yB x5_1 (x5_2.set x6 x5_0), .cells 48 [.sl 2 x5_1 1 0 x5_3], .cells 26 [(.fn 28 [.ptr 3 0, .ptr 4 0])], .cells 25 ((cBx a1).map .p), .row 4 1 0 [[vb x2]]]), (6000, .d true)] ++ kH k2) (k2.b (apc ((Vr (e := Zc) (xs := a6) (news := [x2]) rfl (ZO (e := Zc) (xs := [x2]) rfl) rfl h3 h4) : appA (Lw a2 a3 a4 a5 a6 a7 a1 x2) 4 1 1 (.sl 2 a5 1 0 a7) (.sl 6 0 1 0 1) = some ((.sl 2 a5 1 0 (a7 + 1)), Lv a2 a3 a4 a5 a6 a7 x2 a1)) (apc q0 (apc (Ue ((a7 : Nat) : Int) x2 a1 (a1.kids.length : Int) a2 a3 a4 x2 0 a5 (splice a6 a7 [x2]) (a7 + 1)) (apc (e5 : Xk ((a7 : Nat) : Int) x2 a1 (a1.kids.length : Int) a2 a3 a4 x2 0 a5 (splice a6 a7 [x2]) (a7 + 1) = some ((.brk 0), Tq g5 a7 x5_0 a1 a2 a3 a4 x5_1 x5_2 x5_3 x2)) (apc ((ZL h6) : idxA 1 (.sl 2 x5_1 1 0 x5_3) (i6 ((a7 : Nat) : Int)) = some (.rp 2 x5_1 1 x6 0)) (apc (⟨ZV (v' := x5_0) rfl h7 rfl rfl (Nat.le_of_ble_eq_true rfl) rfl, rfl⟩ : stA (Oz a2 a3 a4 x5_1 x5_2 x5_3 a1 x2) 1 (.rp 2 x5_1 1 x6 0) (vb x5_0) = some [.cells 25 ((cBx a2).map .p), yB a3 a4, yB x5_1 (x5_2.set x6 x5_0), .cells 48 [.sl 2 x5_1 1 0 x5_3], .cells 26 [(.fn 28 [.ptr 3 0, .ptr 4 0])], .cells 25 ((cBx a1).map .p), .row 4 1 0 [[vb x2]]] ∧ ud = ud) apn))))))) rfl (ac (ar (ar (ac (ac rfl))))) rfl (ac (ar (ar (ac (ac rfl))))) rfl (by kernel_rfl)
   ·
    apply bn h; intro r5 h5 h
    cases r5 with
    | k0 x5_0 x5_1 x5_2 x5_3 =>
     obtain ⟨g5, e5⟩ := SB rF28_2 hF28_2 ((a7 : Nat) : Int) x2 a1 (a1.kids.length : Int) a2 a3 a4 (x2, 0, a5 + 1, (a6.take a7 ++ [x2]), a7 + 1) _ h5
     apply bn h; intro x6 h6 h
     apply bn h; intro x7 h7 h
     rw [← sj h]
     exact fcF (m := 5) (v := (vb x5_0)) (h' := [.cells 25 ((cBx a2).map .p), yB a3 a4, yB x5_1 (x5_2.set x6 x5_0), .cells 48 [.sl 2 x5_1 1 0 x5_3], .cells 26 [(.fn 28 [.ptr 3 0, .ptr 4 0])], .cells 25 ((cBx a1).map .p), .row 4 1 0 [[vb x2]]]) ([(22, .r (.sl 2 (a5 + 1) 1 0 (a7 + 1)) (OA a2 a3 a4 a5 a6 a7 x2 a1)), (25, .v (i6 (a1.kids.length : Int))), (2000, .l (.brk 0) (Tq g5 a7 x5_0 a1 a2 a3 a4 x5_1 x5_2 x5_3 x2)), (37, .v (.rp 2 x5_1 1 x6 0)), (1037, .r ud [.cells 25 ((cBx a2).map .p), yB a3 a4, yB x5_1 (x5_2.set x6 x5_0), .cells 48 [.sl 2 x5_1 1 0 x5_3], .cells 26 [(.fn 28 [.ptr 3 0, .ptr 4 0])], .cells 25 ((cBx a1).map .p), .row 4 1 0 [[vb x2]]]), (6000, .d true)] ++ kH k2) (k2.b (apc ((Xf (e := Zc) (xs := a6) (news := [x2]) rfl (ZO (e := Zc) (xs := [x2]) rfl) rfl h3 h4) : appA (Lw a2 a3 a4 a5 a6 a7 a1 x2) 4 1 1 (.sl 2 a5 1 0 a7) (.sl 6 0 1 0 1) = some ((.sl 2 (a5 + 1) 1 0 (a7 + 1)), OA a2 a3 a4 a5 a6 a7 x2 a1)) (apc q0 (apc (Ue ((a7 : Nat) : Int) x2 a1 (a1.kids.length : Int) a2 a3 a4 x2 0 (a5 + 1) (a6.take a7 ++ [x2]) (a7 + 1)) (apc (e5 : Xk ((a7 : Nat) : Int) x2 a1 (a1.kids.length : Int) a2 a3 a4 x2 0 (a5 + 1) (a6.take a7 ++ [x2]) (a7 + 1) = some ((.brk 0), Tq g5 a7 x5_0 a1 a2 a3 a4 x5_1 x5_2 x5_3 x2)) (apc ((ZL h6) : idxA 1 (.sl 2 x5_1 1 0 x5_3) (i6 ((a7 : Nat) : Int)) = some (.rp 2 x5_1 1 x6 0)) (apc (⟨ZV (v' := x5_0) rfl h7 rfl rfl (Nat.le_of_ble_eq_true rfl) rfl, rfl⟩ : stA (Oz a2 a3 a4 x5_1 x5_2 x5_3 a1 x2) 1 (.rp 2 x5_1 1 x6 0) (vb x5_0) = some [.cells 25 ((cBx a2).map .p), yB a3 a4, yB x5_1 (x5_2.set x6 x5_0), .cells 48 [.sl 2 x5_1 1 0 x5_3], .cells 26 [(.fn 28 [.ptr 3 0, .ptr 4 0])], .cells 25 ((cBx a1).map .p), .row 4 1 0 [[vb x2]]] ∧ ud = ud) apn))))))) rfl (ac (ar (ar (ac (ac rfl))))) rfl (ac (ar (ar (ac (ac rfl))))) rfl (by kernel_rfl)
  ·
   cases h
def SC : Nat → XG
  | 0 => fun _ _ _ _ _ _ _ => none
  | Nf + 1 => Wx (SC Nf)
theorem HV (Nf : Nat) : Uv (SC Nf) := by
  induction Nf with
  | zero => intro a1 a2 a3 a4 a5 a6 a7 r h; have h : (none : Option R_F28_2) = some r := h; cases h
  | succ Nf ih => intro a1 a2 a3 a4 a5 a6 a7 r h; exact Iu (SC Nf) ih a1 a2 a3 a4 a5 a6 a7 h
def C3 (a1 : BoxD) (x0 : (List Bool)) : AV := (ls 1 Zc x0)
def F18 (Nf : Nat) (a1 : BoxD) : Option (List Bool) :=
  ((SC Nf a1 a1 0 ([]) 0 ([]) 0).bind fun r1 => match r1 with | .k0 x1_0 x1_1 x1_2 x1_3 => (bif (decide (x1_3 ≤ x1_2.length)) then (some (x1_2.take x1_3)) else none))
abbrev Iv (a1 : BoxD) (x1_1 : Nat) (x1_2 : List Bool) (x1_3 : Nat) : List AB := [.cells 25 ((cBx a1).map .p), yB 0 ([]), yB x1_1 x1_2, .cells 48 [.sl 2 x1_1 1 0 x1_3], .cells 26 [(.fn 28 [.ptr 3 0, .ptr 4 0])]]
theorem G4 (Nf : Nat) (a1 : BoxD) {r : (List Bool)} (h : F18 Nf a1 = some r) : PR2 prg 18 [(.agg ((cBx a1).map .p))] (C3 a1 r) := by
 unfold F18 at h
 apply bn h; intro r1 h1 h
 cases r1 with
 | k0 x1_0 x1_1 x1_2 x1_3 =>
  have q0 := ((HV Nf a1 a1 0 ([]) 0 ([]) 0 h1 []) : CS prg 28 [(.agg ((cBx a1).map .p)), .ptr 3 0, .ptr 4 0] [.cells 25 ((cBx a1).map .p), yB0, yB0, .cells 48 [.sl 2 0 1 0 0], .cells 26 [(.fn 28 [.ptr 3 0, .ptr 4 0])]] = some ((vb x1_0), Iv a1 x1_1 x1_2 x1_3))
  have k1 := ka [(8, .r (vb x1_0) (Iv a1 x1_1 x1_2 x1_3))] (apc q0 apn)
  apply bi h <;> intro h2 h
  ·
   rw [← sj h]
   exact fpn (v := (.sl 2 x1_1 1 0 x1_3)) (h' := (Iv a1 x1_1 x1_2 x1_3)) (kH k1) (k1.b apn) (Sd (e := Zc) rfl h2) rfl (Sd (e := Zc) (getq rfl (J9 (fun _ => rfl))) h2) (by kernel_rfl)
  ·
   cases h
inductive R_F30_2 where
  | k0 (x0 : Nat) (x1 : List Int) (x2 : Nat)
def Iw (a1 a2 : BoxD) (a3 : Nat) (a4 : List Int) (a5 : Nat) (a6 : List Int) (a7 : Nat) (r : R_F30_2) : AV := match r with | .k0 x0 x1 x2 => (.tup [])
def Ix (a1 a2 : BoxD) (a3 : Nat) (a4 : List Int) (a5 : Nat) (a6 : List Int) (a7 : Nat) (r : R_F30_2) : List AB := match r with | .k0 x0 x1 x2 => [.cells 25 ((cBx a2).map .p), yI a3 a4, yI x0 x1, .cells 57 [.sl 2 x0 1 0 x2], .cells 69 [(.fn 30 [.ptr 3 0, .ptr 4 0])]]
abbrev Vv := BoxD → BoxD → Nat → (List Int) → Nat → (List Int) → Nat → Option R_F30_2
abbrev Pp (f : Vv) : Prop := ∀ (a1 a2 : BoxD) (a3 : Nat) (a4 : List Int) (a5 : Nat) (a6 : List Int) (a7 : Nat) {r : R_F30_2}, f a1 a2 a3 a4 a5 a6 a7 = some r → ∀ hx : List AB, CS prg 30 [(.agg ((cBx a1).map .p)), .ptr 3 0, .ptr 4 0] ([.cells 25 ((cBx a2).map .p), yI a3 a4, yI a5 a6, .cells 57 [.sl 2 a5 1 0 a7], .cells 69 [(.fn 30 [.ptr 3 0, .ptr 4 0])]] ++ hx) = some (Iw a1 a2 a3 a4 a5 a6 a7 r, Ix a1 a2 a3 a4 a5 a6 a7 r ++ hx)
inductive E_L30_0_2 where
  | k0 (x0 : Nat) (x1 : List Int) (x2 : Nat)
def XH (rF30_2 : Vv) (a2 : BoxD) (a3 : Int) (a4 : BoxD) (a5 : Nat) (a6 : List Int) (v1 : Int) (v2 : Nat) (v3 : List Int) (v4 : Nat) : Option (E_L30_0_2 ⊕ (Int × Nat × (List Int) × Nat)) :=
  (bif (decide (v1 < a3)) then ((getI a2.kids v1).bind fun x2 => ((rF30_2 x2 a4 a5 a6 v2 v3 v4).bind fun r3 => match r3 with | .k0 x3_0 x3_1 x3_2 => (some (.inr ((IntKind.wrap .i64 (v1 + 1)), x3_0, x3_1, x3_2))))) else (some (.inl (.k0 v2 v3 v4))))
def OB (a1 : Int) (a2 : BoxD) (a3 : Int) (a4 : BoxD) (a5 : Nat) (a6 : List Int) (v1 : Int) (v2 : Nat) (v3 : List Int) (v4 : Nat) : St := ⟨fr 30 ug [(1, .ptr 3 0), (2, .ptr 4 0), (4, i6 a1), (13, (.p (.lst 4 (Zb a2.kids)))), (14, i6 a3), (15, i6 v1)], [.cells 25 ((cBx a4).map .p), yI a5 a6, yI v2 v3, .cells 57 [.sl 2 v2 1 0 v4], .cells 69 [(.fn 30 [.ptr 3 0, .ptr 4 0])], .cells 25 ((cBx a2).map .p), .row 3 1 0 [[i6 0]]]⟩
theorem SD (a1 : Int) (a2 : BoxD) (a3 : Int) (a4 : BoxD) (a5 : Nat) (a6 : List Int) (v1 : Int) (v2 : Nat) (v3 : List Int) (v4 : Nat) : okT 7 (OB a1 a2 a3 a4 a5 a6 v1 v2 v3 v4).h = true := (ZD rfl (ac (ar (ar (ac (ac (ac (ac rfl))))))))
abbrev Xl (a1 : Int) (a2 : BoxD) (a3 : Int) (a4 : BoxD) (a5 : Nat) (a6 : List Int) (v1 : Int) (v2 : Nat) (v3 : List Int) (v4 : Nat) := evH prg 7 [1, 2, 4, 13, 14, 15] Ih (OB a1 a2 a3 a4 a5 a6 v1 v2 v3 v4)
def SE (a1 : Int) (a2 : BoxD) (a3 : Int) (a4 : BoxD) (a5 : Nat) (a6 : List Int) (e : E_L30_0_2) (r : Option (Out × St)) : Prop := match e with | .k0 x0 x1 x2 => ∃ g, r = some ((.brk 0), ⟨fr 30 g [(1, .ptr 3 0), (4, i6 a1), (13, (.p (.lst 4 (Zb a2.kids))))], [.cells 25 ((cBx a4).map .p), yI a5 a6, yI x0 x1, .cells 57 [.sl 2 x0 1 0 x2], .cells 69 [(.fn 30 [.ptr 3 0, .ptr 4 0])], .cells 25 ((cBx a2).map .p), .row 3 1 0 [[i6 0]]]⟩)
abbrev Qa (a4 : BoxD) (a5 : Nat) (a6 : List Int) (x3_0 : Nat) (x3_1 : List Int) (x3_2 : Nat) (a2 x2 : BoxD) : List AB := [.cells 25 ((cBx a4).map .p), yI a5 a6, yI x3_0 x3_1, .cells 57 [.sl 2 x3_0 1 0 x3_2], .cells 69 [(.fn 30 [.ptr 3 0, .ptr 4 0])], .cells 25 ((cBx a2).map .p), .row 3 1 0 [[i6 0]], .row 25 4 0 (ra cBx []), .cells 25 ((cBx x2).map .p)]
theorem KU (rF30_2 : Vv) (hF30_2 : Pp rF30_2) (a1 : Int) (a2 : BoxD) (a3 : Int) (a4 : BoxD) (a5 : Nat) (a6 : List Int) (v1 : Int) (v2 : Nat) (v3 : List Int) (v4 : Nat) {r : E_L30_0_2 ⊕ (Int × Nat × (List Int) × Nat)} (h : XH rF30_2 a2 a3 a4 a5 a6 v1 v2 v3 v4 = some r) : OkR (fun e => SE a1 a2 a3 a4 a5 a6 e (Xl a1 a2 a3 a4 a5 a6 v1 v2 v3 v4)) (fun s => Xl a1 a2 a3 a4 a5 a6 v1 v2 v3 v4 = Xl a1 a2 a3 a4 a5 a6 s.1 s.2.1 s.2.2.1 s.2.2.2) r := by
 unfold XH at h
 apply bi h <;> intro h1 h
 ·
  apply bn h; intro x2 h2 h
  apply bn h; intro r3 h3 h
  cases r3 with
  | k0 x3_0 x3_1 x3_2 =>
   rw [← sj h]
   exact rn [(16, .d true), (17, .v (.ro (cBx x2))), (21, .r (.tup []) (Qa a4 a5 a6 x3_0 x3_1 x3_2 a2 x2)), (6000, .d true)] (av h1 (apc ((igr Zr h2) : idxA 4 (.p (.lst 4 (Zb a2.kids))) (i6 v1) = some (.ro (cBx x2))) (apc ((hF30_2 x2 a4 a5 a6 v2 v3 v4 h3 [.cells 25 ((cBx a2).map .p), .row 3 1 0 [[i6 0]], .row 25 4 0 (ra cBx []), .cells 25 ((cBx x2).map .p)]) : CS prg 30 [(.agg ((cBx x2).map .p)), .ptr 3 0, .ptr 4 0] [.cells 25 ((cBx a4).map .p), yI a5 a6, yI v2 v3, .cells 57 [.sl 2 v2 1 0 v4], .cells 69 [(.fn 30 [.ptr 3 0, .ptr 4 0])], .cells 25 ((cBx a2).map .p), .row 3 1 0 [[i6 0]], .row 25 4 0 (ra cBx []), .cells 25 ((cBx x2).map .p)] = some ((.tup []), Qa a4 a5 a6 x3_0 x3_1 x3_2 a2 x2)) (apc (SD a1 a2 a3 a4 a5 a6 (w6 (v1 + 1)) x3_0 x3_1 x3_2) apn))))
 ·
  rw [← sj h]
  exact xb [(16, .d false), (6000, .d true)] (av h1 apn)
theorem SF (rF30_2 : Vv) (hF30_2 : Pp rF30_2) (a1 : Int) (a2 : BoxD) (a3 : Int) (a4 : BoxD) (a5 : Nat) (a6 : List Int) (s0 : Int × Nat × (List Int) × Nat) (e : E_L30_0_2) (h : runL (fun s => XH rF30_2 a2 a3 a4 a5 a6 s.1 s.2.1 s.2.2.1 s.2.2.2) s0 = some e) : SE a1 a2 a3 a4 a5 a6 e (Xl a1 a2 a3 a4 a5 a6 s0.1 s0.2.1 s0.2.2.1 s0.2.2.2) := by
  have q := @Zg (Int × Nat × (List Int) × Nat) E_L30_0_2 (fun s => XH rF30_2 a2 a3 a4 a5 a6 s.1 s.2.1 s.2.2.1 s.2.2.2) (fun s => Xl a1 a2 a3 a4 a5 a6 s.1 s.2.1 s.2.2.1 s.2.2.2) (SE a1 a2 a3 a4 a5 a6) (fun s r h => KU rF30_2 hF30_2 a1 a2 a3 a4 a5 a6 s.1 s.2.1 s.2.2.1 s.2.2.2 h) s0 e h
  exact q
def Uw (rF30_2 : Vv) (a1 a2 : BoxD) (a3 : Nat) (a4 : List Int) (a5 : Nat) (a6 : List Int) (a7 : Nat) : Option R_F30_2 :=
  (bif (apOk a7 1 a6.length 8) then (bif (decide (a7 + 1 ≤ a6.length)) then ((runL (fun s => XH rF30_2 a1 (a1.kids.length : Int) a2 a3 a4 s.1 s.2.1 s.2.2.1 s.2.2.2) (0, a5, (splice a6 a7 [0]), a7 + 1)).bind fun r3 => match r3 with | .k0 x3_0 x3_1 x3_2 => ((ixN x3_2 ((a7 : Nat) : Int)).bind fun x4 => ((x3_1[x4]?).bind fun x5 => (some (.k0 x3_0 (x3_1.set x4 (IntKind.wrap .i64 (((x3_2 : Nat) : Int) - ((a7 : Nat) : Int)))) x3_2))))) else ((runL (fun s => XH rF30_2 a1 (a1.kids.length : Int) a2 a3 a4 s.1 s.2.1 s.2.2.1 s.2.2.2) (0, a5 + 1, (a6.take a7 ++ [0]), a7 + 1)).bind fun r3 => match r3 with | .k0 x3_0 x3_1 x3_2 => ((ixN x3_2 ((a7 : Nat) : Int)).bind fun x4 => ((x3_1[x4]?).bind fun x5 => (some (.k0 x3_0 (x3_1.set x4 (IntKind.wrap .i64 (((x3_2 : Nat) : Int) - ((a7 : Nat) : Int)))) x3_2)))))) else none)
abbrev WN (a2 : BoxD) (a3 : Nat) (a4 : List Int) (x3_0 : Nat) (x3_1 : List Int) (x4 x3_2 a7 : Nat) (a1 : BoxD) : List AB := [.cells 25 ((cBx a2).map .p), yI a3 a4, .row 3 1 x3_0 (ra eI64 (x3_1.set x4 (w6 (((x3_2 : Nat) : Int) - ((a7 : Nat) : Int))))), .cells 57 [.sl 2 x3_0 1 0 x3_2], .cells 69 [(.fn 30 [.ptr 3 0, .ptr 4 0])], .cells 25 ((cBx a1).map .p), .row 3 1 0 [[i6 0]]]
abbrev Lx (a2 : BoxD) (a3 : Nat) (a4 : List Int) (a5 : Nat) (a6 : List Int) (a7 : Nat) (a1 : BoxD) : List AB := [.cells 25 ((cBx a2).map .p), yI a3 a4, yI a5 (splice a6 a7 [0]), .cells 57 [.sl 2 a5 1 0 a7], .cells 69 [(.fn 30 [.ptr 3 0, .ptr 4 0])], .cells 25 ((cBx a1).map .p), .row 3 1 0 [[i6 0]]]
abbrev Ts (g3 : Nat → AV) (a7 : Nat) (a1 a2 : BoxD) (a3 : Nat) (a4 : List Int) (x3_0 : Nat) (x3_1 : List Int) (x3_2 : Nat) : St := ⟨fr 30 g3 [(1, .ptr 3 0), (4, (i6 ((a7 : Nat) : Int))), (13, (.p (.lst 4 (Zb a1.kids))))], [.cells 25 ((cBx a2).map .p), yI a3 a4, yI x3_0 x3_1, .cells 57 [.sl 2 x3_0 1 0 x3_2], .cells 69 [(.fn 30 [.ptr 3 0, .ptr 4 0])], .cells 25 ((cBx a1).map .p), .row 3 1 0 [[i6 0]]]⟩
abbrev Ly (a2 : BoxD) (a3 : Nat) (a4 : List Int) (a5 : Nat) (a6 : List Int) (a7 : Nat) (a1 : BoxD) : List AB := [.cells 25 ((cBx a2).map .p), yI a3 a4, yI a5 a6, .cells 57 [.sl 2 a5 1 0 a7], .cells 69 [(.fn 30 [.ptr 3 0, .ptr 4 0])], .cells 25 ((cBx a1).map .p), .row 3 1 0 [[i6 0]]]
abbrev Lz (a2 : BoxD) (a3 : Nat) (a4 : List Int) (x3_0 : Nat) (x3_1 : List Int) (x3_2 : Nat) (a1 : BoxD) : List AB := [.cells 25 ((cBx a2).map .p), yI a3 a4, yI x3_0 x3_1, .cells 57 [.sl 2 x3_0 1 0 x3_2], .cells 69 [(.fn 30 [.ptr 3 0, .ptr 4 0])], .cells 25 ((cBx a1).map .p), .row 3 1 0 [[i6 0]]]
abbrev LA (a2 : BoxD) (a3 : Nat) (a4 : List Int) (a5 : Nat) (a6 : List Int) (a7 : Nat) (a1 : BoxD) : List AB := [.cells 25 ((cBx a2).map .p), yI a3 a4, yI (a5 + 1) (a6.take a7 ++ [0]), .cells 57 [.sl 2 a5 1 0 a7], .cells 69 [(.fn 30 [.ptr 3 0, .ptr 4 0])], .cells 25 ((cBx a1).map .p), .row 3 1 0 [[i6 0]]]
theorem Iy (rF30_2 : Vv) (hF30_2 : Pp rF30_2) (a1 a2 : BoxD) (a3 : Nat) (a4 : List Int) (a5 : Nat) (a6 : List Int) (a7 : Nat) {r : R_F30_2} (h : Uw rF30_2 a1 a2 a3 a4 a5 a6 a7 = some r) : ∀ hx : List AB, CS prg 30 [(.agg ((cBx a1).map .p)), .ptr 3 0, .ptr 4 0] ([.cells 25 ((cBx a2).map .p), yI a3 a4, yI a5 a6, .cells 57 [.sl 2 a5 1 0 a7], .cells 69 [(.fn 30 [.ptr 3 0, .ptr 4 0])]] ++ hx) = some (Iw a1 a2 a3 a4 a5 a6 a7 r, Ix a1 a2 a3 a4 a5 a6 a7 r ++ hx) := by
 unfold Uw at h
 have q0 := ((lgr Zr) : lnA (.p (.lst 4 (Zb a1.kids))) = some (i6 (a1.kids.length : Int)))
 apply bi h <;> intro h1 h
 ·
  apply bi h <;> intro h2 h
  ·
   apply bn h; intro r3 h3 h
   cases r3 with
   | k0 x3_0 x3_1 x3_2 =>
    obtain ⟨g3, e3⟩ := SF rF30_2 hF30_2 ((a7 : Nat) : Int) a1 (a1.kids.length : Int) a2 a3 a4 (0, a5, (splice a6 a7 [0]), a7 + 1) _ h3
    apply bn h; intro x4 h4 h
    apply bn h; intro x5 h5 h
    rw [← sj h]
    exact fcF (m := 5) (v := (.tup [])) (h' := (WN a2 a3 a4 x3_0 x3_1 x4 x3_2 a7 a1)) [(11, .r (.sl 2 a5 1 0 (a7 + 1)) (Lx a2 a3 a4 a5 a6 a7 a1)), (14, .v (i6 (a1.kids.length : Int))), (2000, .l (.brk 0) (Ts g3 a7 a1 a2 a3 a4 x3_0 x3_1 x3_2)), (29, .v (.rp 2 x3_0 1 x4 0)), (1029, .r ud (WN a2 a3 a4 x3_0 x3_1 x4 x3_2 a7 a1)), (6000, .d true)] (apc ((Vr (e := eI64) (xs := a6) (news := [0]) rfl (ZO (e := eI64) (xs := [0]) rfl) rfl h1 h2) : appA (Ly a2 a3 a4 a5 a6 a7 a1) 3 1 8 (.sl 2 a5 1 0 a7) (.sl 6 0 1 0 1) = some ((.sl 2 a5 1 0 (a7 + 1)), Lx a2 a3 a4 a5 a6 a7 a1)) (apc q0 (apc (SD ((a7 : Nat) : Int) a1 (a1.kids.length : Int) a2 a3 a4 0 a5 (splice a6 a7 [0]) (a7 + 1)) (apc (e3 : Xl ((a7 : Nat) : Int) a1 (a1.kids.length : Int) a2 a3 a4 0 a5 (splice a6 a7 [0]) (a7 + 1) = some ((.brk 0), Ts g3 a7 a1 a2 a3 a4 x3_0 x3_1 x3_2)) (apc ((ZL h4) : idxA 1 (.sl 2 x3_0 1 0 x3_2) (i6 ((a7 : Nat) : Int)) = some (.rp 2 x3_0 1 x4 0)) (apc (⟨ZV (v' := (w6 (((x3_2 : Nat) : Int) - ((a7 : Nat) : Int)))) rfl h5 rfl rfl (Nat.le_of_ble_eq_true rfl) rfl, rfl⟩ : stA (Lz a2 a3 a4 x3_0 x3_1 x3_2 a1) 1 (.rp 2 x3_0 1 x4 0) (i6 (w6 (((x3_2 : Nat) : Int) - ((a7 : Nat) : Int)))) = some (WN a2 a3 a4 x3_0 x3_1 x4 x3_2 a7 a1) ∧ ud = ud) apn)))))) rfl (ac (ar (ar (ac (ac rfl))))) rfl (ac (ar (ar (ac (ac rfl))))) rfl (by kernel_rfl)
  ·
   apply bn h; intro r3 h3 h
   cases r3 with
   | k0 x3_0 x3_1 x3_2 =>
    obtain ⟨g3, e3⟩ := SF rF30_2 hF30_2 ((a7 : Nat) : Int) a1 (a1.kids.length : Int) a2 a3 a4 (0, a5 + 1, (a6.take a7 ++ [0]), a7 + 1) _ h3
    apply bn h; intro x4 h4 h
    apply bn h; intro x5 h5 h
    rw [← sj h]
    exact fcF (m := 5) (v := (.tup [])) (h' := (WN a2 a3 a4 x3_0 x3_1 x4 x3_2 a7 a1)) [(11, .r (.sl 2 (a5 + 1) 1 0 (a7 + 1)) (LA a2 a3 a4 a5 a6 a7 a1)), (14, .v (i6 (a1.kids.length : Int))), (2000, .l (.brk 0) (Ts g3 a7 a1 a2 a3 a4 x3_0 x3_1 x3_2)), (29, .v (.rp 2 x3_0 1 x4 0)), (1029, .r ud (WN a2 a3 a4 x3_0 x3_1 x4 x3_2 a7 a1)), (6000, .d true)] (apc ((Xf (e := eI64) (xs := a6) (news := [0]) rfl (ZO (e := eI64) (xs := [0]) rfl) rfl h1 h2) : appA (Ly a2 a3 a4 a5 a6 a7 a1) 3 1 8 (.sl 2 a5 1 0 a7) (.sl 6 0 1 0 1) = some ((.sl 2 (a5 + 1) 1 0 (a7 + 1)), LA a2 a3 a4 a5 a6 a7 a1)) (apc q0 (apc (SD ((a7 : Nat) : Int) a1 (a1.kids.length : Int) a2 a3 a4 0 (a5 + 1) (a6.take a7 ++ [0]) (a7 + 1)) (apc (e3 : Xl ((a7 : Nat) : Int) a1 (a1.kids.length : Int) a2 a3 a4 0 (a5 + 1) (a6.take a7 ++ [0]) (a7 + 1) = some ((.brk 0), Ts g3 a7 a1 a2 a3 a4 x3_0 x3_1 x3_2)) (apc ((ZL h4) : idxA 1 (.sl 2 x3_0 1 0 x3_2) (i6 ((a7 : Nat) : Int)) = some (.rp 2 x3_0 1 x4 0)) (apc (⟨ZV (v' := (w6 (((x3_2 : Nat) : Int) - ((a7 : Nat) : Int)))) rfl h5 rfl rfl (Nat.le_of_ble_eq_true rfl) rfl, rfl⟩ : stA (Lz a2 a3 a4 x3_0 x3_1 x3_2 a1) 1 (.rp 2 x3_0 1 x4 0) (i6 (w6 (((x3_2 : Nat) : Int) - ((a7 : Nat) : Int)))) = some (WN a2 a3 a4 x3_0 x3_1 x4 x3_2 a7 a1) ∧ ud = ud) apn)))))) rfl (ac (ar (ar (ac (ac rfl))))) rfl (ac (ar (ar (ac (ac rfl))))) rfl (by kernel_rfl)
 ·
  cases h
def Ry : Nat → Vv
  | 0 => fun _ _ _ _ _ _ _ => none
  | Nf + 1 => Uw (Ry Nf)
theorem HW (Nf : Nat) : Pp (Ry Nf) := by
  induction Nf with
  | zero => intro a1 a2 a3 a4 a5 a6 a7 r h; have h : (none : Option R_F30_2) = some r := h; cases h
  | succ Nf ih => intro a1 a2 a3 a4 a5 a6 a7 r h; exact Iy (Ry Nf) ih a1 a2 a3 a4 a5 a6 a7 h
def C4 (a1 : BoxD) (x0 : (List Int)) : AV := (ls 1 eI64 x0)
def F26 (Nf : Nat) (a1 : BoxD) : Option (List Int) :=
  ((Ry Nf a1 a1 0 ([]) 0 ([]) 0).bind fun r1 => match r1 with | .k0 x1_0 x1_1 x1_2 => (bif (decide (x1_2 ≤ x1_1.length)) then (some (x1_1.take x1_2)) else none))
abbrev Iz (a1 : BoxD) (x1_0 : Nat) (x1_1 : List Int) (x1_2 : Nat) : List AB := [.cells 25 ((cBx a1).map .p), yI 0 ([]), yI x1_0 x1_1, .cells 57 [.sl 2 x1_0 1 0 x1_2], .cells 69 [(.fn 30 [.ptr 3 0, .ptr 4 0])]]
theorem Cg (Nf : Nat) (a1 : BoxD) {r : (List Int)} (h : F26 Nf a1 = some r) : PR2 prg 26 [(.agg ((cBx a1).map .p))] (C4 a1 r) := by
 unfold F26 at h
 apply bn h; intro r1 h1 h
 cases r1 with
 | k0 x1_0 x1_1 x1_2 =>
  have q0 := ((HW Nf a1 a1 0 ([]) 0 ([]) 0 h1 []) : CS prg 30 [(.agg ((cBx a1).map .p)), .ptr 3 0, .ptr 4 0] [.cells 25 ((cBx a1).map .p), yI0, yI0, .cells 57 [.sl 2 0 1 0 0], .cells 69 [(.fn 30 [.ptr 3 0, .ptr 4 0])]] = some ((.tup []), Iz a1 x1_0 x1_1 x1_2))
  have k1 := ka [(8, .r (.tup []) (Iz a1 x1_0 x1_1 x1_2))] (apc q0 apn)
  apply bi h <;> intro h2 h
  ·
   rw [← sj h]
   exact fpn (v := (.sl 2 x1_0 1 0 x1_2)) (h' := (Iz a1 x1_0 x1_1 x1_2)) (kH k1) (k1.b apn) (Sd (e := eI64) rfl h2) rfl (Sd (e := eI64) (getq rfl (J9 (fun _ => rfl))) h2) (by kernel_rfl)
  ·
   cases h
def E3 (a1 : BoxD) (a2 : Nat) (a3 : List ThingD) (a4 : Bool) (a5 a6 a7 : Nat) (a8 : List Bool) (a9 : List Int) (a10 a11 : Int) (a12 : Bool) (a13 : List Int) (x0 : Int) : AV := (i6 x0)
def E4 (a1 : BoxD) (a2 : Nat) (a3 : List ThingD) (a4 : Bool) (a5 a6 a7 : Nat) (a8 : List Bool) (a9 : List Int) (a10 a11 : Int) (a12 : Bool) (a13 : List Int) (x0 : Int) : List AB := [.cells 25 ((cBx a1).map .p), yT a2 a3, .cells 66 [sp a4 2 0, .sl 3 a5 1 0 a6, .sl 1 a2 7 0 a7, ls 1 Zc a8, ls 1 eI64 a9, i6 a10, i6 a11, vb a12], yU a5 a13]
def HX (a6 : Nat) : Option Int :=
  (some ((a6 : Nat) : Int))
theorem HY (a1 : BoxD) (a2 : Nat) (a3 : List ThingD) (a4 : Bool) (a5 a6 a7 : Nat) (a8 : List Bool) (a9 : List Int) (a10 a11 : Int) (a12 : Bool) (a13 : List Int) {r : Int} (h : HX a6 = some r) : CS prg 31 [.ptr 2 0] [.cells 25 ((cBx a1).map .p), yT a2 a3, .cells 66 [sp a4 2 0, .sl 3 a5 1 0 a6, .sl 1 a2 7 0 a7, ls 1 Zc a8, ls 1 eI64 a9, i6 a10, i6 a11, vb a12], yU a5 a13] = some (E3 a1 a2 a3 a4 a5 a6 a7 a8 a9 a10 a11 a12 a13 r, E4 a1 a2 a3 a4 a5 a6 a7 a8 a9 a10 a11 a12 a13 r) := by
 unfold HX at h
 rw [← sj h]
 exact fc [] apn
def E5 (a1 : BoxD) (a2 : Nat) (a3 : List ThingD) (a4 : Bool) (a5 a6 a7 : Nat) (a8 : List Bool) (a9 : List Int) (a10 a11 : Int) (a12 : Bool) (a13 : List Int) (a14 : ThingD) (x0 : Bool) : AV := (.tup [])
def E6 (a1 : BoxD) (a2 : Nat) (a3 : List ThingD) (a4 : Bool) (a5 a6 a7 : Nat) (a8 : List Bool) (a9 : List Int) (a10 a11 : Int) (a12 : Bool) (a13 : List Int) (a14 : ThingD) (x0 : Bool) : List AB := [.cells 25 ((cBx a1).map .p), yT a2 a3, .cells 66 [sp x0 2 0, .sl 3 a5 1 0 a6, .sl 1 a2 7 0 a7, ls 1 Zc a8, ls 1 eI64 a9, i6 a10, i6 a11, vb a12], yU a5 a13, .row 25 4 0 (ra cBx []), .cells 60 ((Za a14).map .p)]
def Me (a4 : Bool) : Option Bool :=
  (bif a4 then (some a4) else (some true))
abbrev Tt (a1 : BoxD) (a2 : Nat) (a3 : List ThingD) (a4 : Bool) (a5 a6 a7 : Nat) (a8 : List Bool) (a9 : List Int) (a10 a11 : Int) (a12 : Bool) (a13 : List Int) (a14 : ThingD) : List AB := [.cells 25 ((cBx a1).map .p), yT a2 a3, .cells 66 [sp a4 2 0, .sl 3 a5 1 0 a6, .sl 1 a2 7 0 a7, ls 1 Zc a8, ls 1 eI64 a9, i6 a10, i6 a11, vb a12], yU a5 a13, .row 25 4 0 (ra cBx []), .cells 60 ((Za a14).map .p)]
theorem Pq (a1 : BoxD) (a2 : Nat) (a3 : List ThingD) (a4 : Bool) (a5 a6 a7 : Nat) (a8 : List Bool) (a9 : List Int) (a10 a11 : Int) (a12 : Bool) (a13 : List Int) (a14 : ThingD) {r : Bool} (h : Me a4 = some r) : CS prg 42 [.ptr 2 0] [.cells 25 ((cBx a1).map .p), yT a2 a3, .cells 66 [sp a4 2 0, .sl 3 a5 1 0 a6, .sl 1 a2 7 0 a7, ls 1 Zc a8, ls 1 eI64 a9, i6 a10, i6 a11, vb a12], yU a5 a13, .row 25 4 0 (ra cBx []), .cells 60 ((Za a14).map .p)] = some (E5 a1 a2 a3 a4 a5 a6 a7 a8 a9 a10 a11 a12 a13 a14 r, E6 a1 a2 a3 a4 a5 a6 a7 a8 a9 a10 a11 a12 a13 a14 r) := by
 unfold Me at h
 apply bi h <;> intro h1 h
 ·
  have q0 := (((rfl : ldA (Tt a1 a2 a3 a4 a5 a6 a7 a8 a9 a10 a11 a12 a13 a14) .false 1 (.ptr 2 0) = some (sp a4 2 0)).trans (congrArg some (sp_t h1))) : ldA (Tt a1 a2 a3 a4 a5 a6 a7 a8 a9 a10 a11 a12 a13 a14) .false 1 (.ptr 2 0) = some (.ptr 2 0))
  rw [← sj h]
  exact fc [(5, .v (.ptr 2 0)), (17, .v (.ptr 2 0))] (apc q0 (apc q0 apn))
 ·
  rw [← sj h]
  exact fc [(5, .v (.p (.val (.pointer .none))))] (apc (((rfl : ldA (Tt a1 a2 a3 a4 a5 a6 a7 a8 a9 a10 a11 a12 a13 a14) .false 1 (.ptr 2 0) = some (sp a4 2 0)).trans (congrArg some (sp_f h1))) : ldA (Tt a1 a2 a3 a4 a5 a6 a7 a8 a9 a10 a11 a12 a13 a14) .false 1 (.ptr 2 0) = some (.p (.val (.pointer .none)))) apn)
inductive R_F34_7 where
  | k0 (x0 : Int) (x1 : Bool) (x2 : Nat) (x3 : List Int)
def E7 (a1 : ByteArray) (a2 : BoxD) (a3 : Nat) (a4 : List ThingD) (a5 : Bool) (a6 a7 a8 : Nat) (a9 : List Bool) (a10 : List Int) (a11 a12 : Int) (a13 : Bool) (a14 : List Int) (a15 : ThingD) (r : R_F34_7) : AV := match r with | .k0 x0 x1 x2 x3 => (.tup [i6 x0, (.p (.val .nilIface))])
def E8 (a1 : ByteArray) (a2 : BoxD) (a3 : Nat) (a4 : List ThingD) (a5 : Bool) (a6 a7 a8 : Nat) (a9 : List Bool) (a10 : List Int) (a11 a12 : Int) (a13 : Bool) (a14 : List Int) (a15 : ThingD) (r : R_F34_7) : List AB := match r with | .k0 x0 x1 x2 x3 => [.cells 25 ((cBx a2).map .p), yT a3 a4, .cells 66 [sp x1 2 0, (.sl 3 x2 1 0 (a7 + (Zk a1).length)), .sl 1 a3 7 0 a8, ls 1 Zc a9, ls 1 eI64 a10, i6 a11, i6 a12, vb a13], yU x2 x3, .row 25 4 0 (ra cBx []), .cells 60 ((Za a15).map .p)]
def KV (a1 : ByteArray) (a5 : Bool) (a6 a7 : Nat) (a14 : List Int) : Option R_F34_7 :=
  ((Me a5).bind fun x1 => (bif (apOk a7 (Zk a1).length a14.length 1) then (bif (decide (a7 + (Zk a1).length ≤ a14.length)) then (some (.k0 (a1.size : Int) x1 a6 (splice a14 a7 (Zk a1)))) else (some (.k0 (a1.size : Int) x1 (a6 + 1) (a14.take a7 ++ (Zk a1))))) else none))
abbrev Tu (a2 : BoxD) (a3 : Nat) (a4 : List ThingD) (x1 : Bool) (a6 a7 a8 : Nat) (a9 : List Bool) (a10 : List Int) (a11 a12 : Int) (a13 : Bool) (a14 : List Int) (a15 : ThingD) : List AB := [.cells 25 ((cBx a2).map .p), yT a3 a4, .cells 66 [sp x1 2 0, .sl 3 a6 1 0 a7, .sl 1 a3 7 0 a8, ls 1 Zc a9, ls 1 eI64 a10, i6 a11, i6 a12, vb a13], yU a6 a14, .row 25 4 0 (ra cBx []), .cells 60 ((Za a15).map .p)]
abbrev LB (a2 : BoxD) (a3 : Nat) (a4 : List ThingD) (x1 : Bool) (a6 a7 a8 : Nat) (a9 : List Bool) (a10 : List Int) (a11 a12 : Int) (a13 : Bool) (a14 : List Int) (a1 : ByteArray) (a15 : ThingD) : List AB := [.cells 25 ((cBx a2).map .p), yT a3 a4, .cells 66 [sp x1 2 0, .sl 3 a6 1 0 a7, .sl 1 a3 7 0 a8, ls 1 Zc a9, ls 1 eI64 a10, i6 a11, i6 a12, vb a13], yU a6 (splice a14 a7 (Zk a1)), .row 25 4 0 (ra cBx []), .cells 60 ((Za a15).map .p)]
abbrev LC (a2 : BoxD) (a3 : Nat) (a4 : List ThingD) (x1 : Bool) (a6 a7 a8 : Nat) (a9 : List Bool) (a10 : List Int) (a11 a12 : Int) (a13 : Bool) (a14 : List Int) (a1 : ByteArray) (a15 : ThingD) : List AB := [.cells 25 ((cBx a2).map .p), yT a3 a4, .cells 66 [sp x1 2 0, .sl 3 a6 1 0 a7, .sl 1 a3 7 0 a8, ls 1 Zc a9, ls 1 eI64 a10, i6 a11, i6 a12, vb a13], yU (a6 + 1) (a14.take a7 ++ (Zk a1)), .row 25 4 0 (ra cBx []), .cells 60 ((Za a15).map .p)]
theorem LD (a1 : ByteArray) (a2 : BoxD) (a3 : Nat) (a4 : List ThingD) (a5 : Bool) (a6 a7 a8 : Nat) (a9 : List Bool) (a10 : List Int) (a11 a12 : Int) (a13 : Bool) (a14 : List Int) (a15 : ThingD) {r : R_F34_7} (h : KV a1 a5 a6 a7 a14 = some r) : CS prg 34 [.ptr 2 0, vs a1] [.cells 25 ((cBx a2).map .p), yT a3 a4, .cells 66 [sp a5 2 0, .sl 3 a6 1 0 a7, .sl 1 a3 7 0 a8, ls 1 Zc a9, ls 1 eI64 a10, i6 a11, i6 a12, vb a13], yU a6 a14, .row 25 4 0 (ra cBx []), .cells 60 ((Za a15).map .p)] = some (E7 a1 a2 a3 a4 a5 a6 a7 a8 a9 a10 a11 a12 a13 a14 a15 r, E8 a1 a2 a3 a4 a5 a6 a7 a8 a9 a10 a11 a12 a13 a14 a15 r) := by
 unfold KV at h
 apply bn h; intro x1 h1 h
 have q0 := ((Pq a2 a3 a4 a5 a6 a7 a8 a9 a10 a11 a12 a13 a14 a15 h1) : CS prg 42 [.ptr 2 0] [.cells 25 ((cBx a2).map .p), yT a3 a4, .cells 66 [sp a5 2 0, .sl 3 a6 1 0 a7, .sl 1 a3 7 0 a8, ls 1 Zc a9, ls 1 eI64 a10, i6 a11, i6 a12, vb a13], yU a6 a14, .row 25 4 0 (ra cBx []), .cells 60 ((Za a15).map .p)] = some ((.tup []), Tu a2 a3 a4 x1 a6 a7 a8 a9 a10 a11 a12 a13 a14 a15))
 have k1 := ka [(7, .r (.tup []) (Tu a2 a3 a4 x1 a6 a7 a8 a9 a10 a11 a12 a13 a14 a15))] (apc q0 apn)
 apply bi h <;> intro h2 h
 ·
  apply bi h <;> intro h3 h
  ·
   rw [← sj h]
   exact fc ([(14, .r (.sl 3 a6 1 0 (a7 + (Zk a1).length)) (LB a2 a3 a4 x1 a6 a7 a8 a9 a10 a11 a12 a13 a14 a1 a15))] ++ kH k1) (k1.b (apc ((Vr (e := eU8) (xs := a14) (news := (Zk a1)) rfl Li rfl h2 h3) : appA (Tu a2 a3 a4 x1 a6 a7 a8 a9 a10 a11 a12 a13 a14 a15) 5 1 1 (.sl 3 a6 1 0 a7) (vs a1) = some ((.sl 3 a6 1 0 (a7 + (Zk a1).length)), LB a2 a3 a4 x1 a6 a7 a8 a9 a10 a11 a12 a13 a14 a1 a15)) apn))
  ·
   rw [← sj h]
   exact fc ([(14, .r (.sl 3 (a6 + 1) 1 0 (a7 + (Zk a1).length)) (LC a2 a3 a4 x1 a6 a7 a8 a9 a10 a11 a12 a13 a14 a1 a15))] ++ kH k1) (k1.b (apc ((Xf (e := eU8) (xs := a14) (news := (Zk a1)) rfl Li rfl h2 h3) : appA (Tu a2 a3 a4 x1 a6 a7 a8 a9 a10 a11 a12 a13 a14 a15) 5 1 1 (.sl 3 a6 1 0 a7) (vs a1) = some ((.sl 3 (a6 + 1) 1 0 (a7 + (Zk a1).length)), LC a2 a3 a4 x1 a6 a7 a8 a9 a10 a11 a12 a13 a14 a1 a15)) apn))
 ·
  cases h
inductive R_F34_5 where
  | k0 (x0 : Int) (x1 : Bool) (x2 : Nat) (x3 : List Int)
def E9 (a1 : ThingD) (a2 : BoxD) (a3 : Nat) (a4 : List ThingD) (a5 : Bool) (a6 a7 a8 : Nat) (a9 : List Bool) (a10 : List Int) (a11 a12 : Int) (a13 : Bool) (a14 : List Int) (r : R_F34_5) : AV := match r with | .k0 x0 x1 x2 x3 => (.tup [i6 x0, (.p (.val .nilIface))])
def Da (a1 : ThingD) (a2 : BoxD) (a3 : Nat) (a4 : List ThingD) (a5 : Bool) (a6 a7 a8 : Nat) (a9 : List Bool) (a10 : List Int) (a11 a12 : Int) (a13 : Bool) (a14 : List Int) (r : R_F34_5) : List AB := match r with | .k0 x0 x1 x2 x3 => [.cells 25 ((cBx a2).map .p), yT a3 a4, .cells 66 [sp x1 2 0, (.sl 3 x2 1 0 (a7 + (Zk a1.text).length)), .sl 1 a3 7 0 a8, ls 1 Zc a9, ls 1 eI64 a10, i6 a11, i6 a12, vb a13], yU x2 x3, .row 25 4 0 (ra cBx []), .cells 60 ((Za a1).map .p)]
def Mf (a1 : ThingD) (a5 : Bool) (a6 a7 : Nat) (a14 : List Int) : Option R_F34_5 :=
  ((Me a5).bind fun x1 => (bif (apOk a7 (Zk a1.text).length a14.length 1) then (bif (decide (a7 + (Zk a1.text).length ≤ a14.length)) then (some (.k0 (a1.text.size : Int) x1 a6 (splice a14 a7 (Zk a1.text)))) else (some (.k0 (a1.text.size : Int) x1 (a6 + 1) (a14.take a7 ++ (Zk a1.text))))) else none))
abbrev Tv (a2 : BoxD) (a3 : Nat) (a4 : List ThingD) (x1 : Bool) (a6 a7 a8 : Nat) (a9 : List Bool) (a10 : List Int) (a11 a12 : Int) (a13 : Bool) (a14 : List Int) (a1 : ThingD) : List AB := [.cells 25 ((cBx a2).map .p), yT a3 a4, .cells 66 [sp x1 2 0, .sl 3 a6 1 0 a7, .sl 1 a3 7 0 a8, ls 1 Zc a9, ls 1 eI64 a10, i6 a11, i6 a12, vb a13], yU a6 a14, .row 25 4 0 (ra cBx []), .cells 60 ((Za a1).map .p)]
abbrev LE (a2 : BoxD) (a3 : Nat) (a4 : List ThingD) (x1 : Bool) (a6 a7 a8 : Nat) (a9 : List Bool) (a10 : List Int) (a11 a12 : Int) (a13 : Bool) (a14 : List Int) (a1 : ThingD) : List AB := [.cells 25 ((cBx a2).map .p), yT a3 a4, .cells 66 [sp x1 2 0, .sl 3 a6 1 0 a7, .sl 1 a3 7 0 a8, ls 1 Zc a9, ls 1 eI64 a10, i6 a11, i6 a12, vb a13], yU a6 (splice a14 a7 (Zk a1.text)), .row 25 4 0 (ra cBx []), .cells 60 ((Za a1).map .p)]
abbrev LG (a2 : BoxD) (a3 : Nat) (a4 : List ThingD) (x1 : Bool) (a6 a7 a8 : Nat) (a9 : List Bool) (a10 : List Int) (a11 a12 : Int) (a13 : Bool) (a14 : List Int) (a1 : ThingD) : List AB := [.cells 25 ((cBx a2).map .p), yT a3 a4, .cells 66 [sp x1 2 0, .sl 3 a6 1 0 a7, .sl 1 a3 7 0 a8, ls 1 Zc a9, ls 1 eI64 a10, i6 a11, i6 a12, vb a13], yU (a6 + 1) (a14.take a7 ++ (Zk a1.text)), .row 25 4 0 (ra cBx []), .cells 60 ((Za a1).map .p)]
theorem Ps (a1 : ThingD) (a2 : BoxD) (a3 : Nat) (a4 : List ThingD) (a5 : Bool) (a6 a7 a8 : Nat) (a9 : List Bool) (a10 : List Int) (a11 a12 : Int) (a13 : Bool) (a14 : List Int) {r : R_F34_5} (h : Mf a1 a5 a6 a7 a14 = some r) : CS prg 34 [.ptr 2 0, vs a1.text] [.cells 25 ((cBx a2).map .p), yT a3 a4, .cells 66 [sp a5 2 0, .sl 3 a6 1 0 a7, .sl 1 a3 7 0 a8, ls 1 Zc a9, ls 1 eI64 a10, i6 a11, i6 a12, vb a13], yU a6 a14, .row 25 4 0 (ra cBx []), .cells 60 ((Za a1).map .p)] = some (E9 a1 a2 a3 a4 a5 a6 a7 a8 a9 a10 a11 a12 a13 a14 r, Da a1 a2 a3 a4 a5 a6 a7 a8 a9 a10 a11 a12 a13 a14 r) := by
 unfold Mf at h
 apply bn h; intro x1 h1 h
 have q0 := ((Pq a2 a3 a4 a5 a6 a7 a8 a9 a10 a11 a12 a13 a14 a1 h1) : CS prg 42 [.ptr 2 0] [.cells 25 ((cBx a2).map .p), yT a3 a4, .cells 66 [sp a5 2 0, .sl 3 a6 1 0 a7, .sl 1 a3 7 0 a8, ls 1 Zc a9, ls 1 eI64 a10, i6 a11, i6 a12, vb a13], yU a6 a14, .row 25 4 0 (ra cBx []), .cells 60 ((Za a1).map .p)] = some ((.tup []), Tv a2 a3 a4 x1 a6 a7 a8 a9 a10 a11 a12 a13 a14 a1))
 have k1 := ka [(7, .r (.tup []) (Tv a2 a3 a4 x1 a6 a7 a8 a9 a10 a11 a12 a13 a14 a1))] (apc q0 apn)
 apply bi h <;> intro h2 h
 ·
  apply bi h <;> intro h3 h
  ·
   rw [← sj h]
   exact fc ([(14, .r (.sl 3 a6 1 0 (a7 + (Zk a1.text).length)) (LE a2 a3 a4 x1 a6 a7 a8 a9 a10 a11 a12 a13 a14 a1))] ++ kH k1) (k1.b (apc ((Vr (e := eU8) (xs := a14) (news := (Zk a1.text)) rfl Li rfl h2 h3) : appA (Tv a2 a3 a4 x1 a6 a7 a8 a9 a10 a11 a12 a13 a14 a1) 5 1 1 (.sl 3 a6 1 0 a7) (vs a1.text) = some ((.sl 3 a6 1 0 (a7 + (Zk a1.text).length)), LE a2 a3 a4 x1 a6 a7 a8 a9 a10 a11 a12 a13 a14 a1)) apn))
  ·
   rw [← sj h]
   exact fc ([(14, .r (.sl 3 (a6 + 1) 1 0 (a7 + (Zk a1.text).length)) (LG a2 a3 a4 x1 a6 a7 a8 a9 a10 a11 a12 a13 a14 a1))] ++ kH k1) (k1.b (apc ((Xf (e := eU8) (xs := a14) (news := (Zk a1.text)) rfl Li rfl h2 h3) : appA (Tv a2 a3 a4 x1 a6 a7 a8 a9 a10 a11 a12 a13 a14 a1) 5 1 1 (.sl 3 a6 1 0 a7) (vs a1.text) = some ((.sl 3 (a6 + 1) 1 0 (a7 + (Zk a1.text).length)), LG a2 a3 a4 x1 a6 a7 a8 a9 a10 a11 a12 a13 a14 a1)) apn))
 ·
  cases h
inductive E_L49_0_2 where
  | k0 (x0 : Int)
  | k1
section
variable (a1 : ThingD)
def Xm (v1 : Int) : Option (E_L49_0_2 ⊕ (Int)) :=
  (bif (decide (v1 ≥ 0)) then ((getI a1.text.data.toList v1).bind fun x2 => (bif ((x2.toNat : Int) == 10) then (some (.inl (.k0 v1))) else (some (.inr ((IntKind.wrap .i64 (v1 - 1))))))) else (some (.inl (.k1))))
def OC (v1 : Int) : St := ⟨fr 19 ug [(0, vs a1.text), (1, vi .u8 10), (5, i6 v1)], []⟩
theorem OD (v1 : Int) : okT 0 (OC a1 v1).h = true := (ZD rfl rfl)
abbrev Xn (v1 : Int) := evH prg 0 [0, 1, 5] Ik (OC a1 v1)
def SG (e : E_L49_0_2) (r : Option (Out × St)) : Prop := match e with | .k0 x0 => ∃ g y, r = some (.ret, ⟨fr 19 g [(4, i6 x0)], y⟩) | .k1 => ∃ g, r = some ((.brk 0), ⟨fr 19 g [(0, vs a1.text)], []⟩)
theorem KW (v1 : Int) {r : E_L49_0_2 ⊕ (Int)} (h : Xm a1 v1 = some r) : OkR (fun e => SG a1 e (Xn a1 v1)) (fun s => Xn a1 v1 = Xn a1 s) r := by
 unfold Xm at h
 apply bi h <;> intro h1 h
 ·
  apply bn h; intro x2 h2 h
  have q0 := ((Lg h2) : ixS (vs a1.text) (i6 v1) = some (vi .u8 (x2.toNat : Int)))
  have k1 := ka [(10, .d true), (15, .v (vi .u8 (x2.toNat : Int)))] (av h1 (apc q0 apn))
  apply bi h <;> intro h3 h
  ·
   rw [← sj h]
   exact xy ([(17, .d true), (6000, .d true)] ++ kH k1) (k1.b (av h3 apn))
  ·
   rw [← sj h]
   exact rn ([(17, .d false), (6000, .d true)] ++ kH k1) (k1.b (av h3 (apc (OD a1 (w6 (v1 - 1))) apn)))
 ·
  rw [← sj h]
  exact xb [(10, .d false), (6000, .d true)] (av h1 apn)
theorem SH (s0 : Int) (e : E_L49_0_2) (h : runL (fun s => Xm a1 s) s0 = some e) : SG a1 e (Xn a1 s0) := by
  have q := @Zg (Int) E_L49_0_2 (fun s => Xm a1 s) (fun s => Xn a1 s) (SG a1) (fun s r h => KW a1 s h) s0 e h
  exact q
end
def Db (a1 : ThingD) (x0 : Int) : AV := (i6 x0)
def HZ (a1 : ThingD) : Option Int :=
  ((runL (fun s => Xm a1 s) ((IntKind.wrap .i64 ((a1.text.size : Int) - 1)))).bind fun r1 => match r1 with | .k0 x1_0 => (some x1_0) | .k1 => (some (-1)))
theorem H0 (a1 : ThingD) {r : Int} (h : HZ a1 = some r) : PR1 prg 49 [vs a1.text, vi .u8 10] (Db a1 r) := by
 unfold HZ at h
 have q0 := (OD a1 (w6 ((a1.text.size : Int) - 1)))
 apply bn h; intro r1 h1 h
 cases r1 with
 | k0 x1_0 =>
  obtain ⟨g1, y1, e1⟩ := SH a1 ((w6 ((a1.text.size : Int) - 1))) _ h1
  rw [← sj h]
  exact fq [(2000, .l .ret ⟨fr 19 g1 [(4, i6 x1_0)], y1⟩), (6000, .d true)] (apc q0 (apc (e1 : Xn a1 (w6 ((a1.text.size : Int) - 1)) = some (.ret, ⟨fr 19 g1 [(4, i6 x1_0)], y1⟩)) apn))
 | k1 =>
  obtain ⟨g1, e1⟩ := SH a1 ((w6 ((a1.text.size : Int) - 1))) _ h1
  rw [← sj h]
  exact fq [(2000, .l (.brk 0) ⟨fr 19 g1 [(0, vs a1.text)], []⟩), (6000, .d true)] (apc q0 (apc (e1 : Xn a1 (w6 ((a1.text.size : Int) - 1)) = some ((.brk 0), ⟨fr 19 g1 [(0, vs a1.text)], []⟩)) apn))
def Dc (a1 : ThingD) (x0 : Int) : AV := (i6 x0)
def Rz (a1 : ThingD) : Option Int :=
  ((HZ a1).bind fun x1 => (some x1))
theorem Pt (a1 : ThingD) {r : Int} (h : Rz a1 = some r) : PR1 prg 40 [vs a1.text, vi .u8 10] (Dc a1 r) := by
 unfold Rz at h
 apply bn h; intro x1 h1 h
 rw [← sj h]
 exact fq [(7, .v (i6 x1))] (apc (((H0 a1 h1).cp rfl _) : CP prg 49 [vs a1.text, vi .u8 10] [] = some (i6 x1)) apn)
inductive R_F32_4 where
  | k0 (x0 : Bool) (x1 x2 : Nat) (x3 : Int) (x4 : Bool) (x5 : List Int)
def Dd (a1 : ThingD) (a2 : BoxD) (a3 : Nat) (a4 : List ThingD) (a5 : Bool) (a6 a7 a8 : Nat) (a9 : List Bool) (a10 : List Int) (a11 a12 : Int) (a13 : Bool) (a14 : List Int) (r : R_F32_4) : AV := match r with | .k0 x0 x1 x2 x3 x4 x5 => (.tup [])
def De (a1 : ThingD) (a2 : BoxD) (a3 : Nat) (a4 : List ThingD) (a5 : Bool) (a6 a7 a8 : Nat) (a9 : List Bool) (a10 : List Int) (a11 a12 : Int) (a13 : Bool) (a14 : List Int) (r : R_F32_4) : List AB := match r with | .k0 x0 x1 x2 x3 x4 x5 => [.cells 25 ((cBx a2).map .p), yT a3 a4, .cells 66 [sp x0 2 0, .sl 3 x1 1 0 x2, .sl 1 a3 7 0 a8, ls 1 Zc a9, ls 1 eI64 a10, i6 a11, i6 x3, vb x4], yU x1 x5, .row 25 4 0 (ra cBx []), .cells 60 ((Za a1).map .p)]
def IA (a1 : ThingD) (a5 : Bool) (a6 a7 : Nat) (a12 : Int) (a13 : Bool) (a14 : List Int) : Option R_F32_4 :=
  (bif (a1.text.toList == (⟨([] : List UInt8).toArray⟩ : ByteArray).toList) then (some (.k0 a5 a6 a7 a12 a13 a14)) else (bif a13 then ((getI a1.text.data.toList 0).bind fun x3 => (bif ((x3.toNat : Int) != 10) then ((F35 (⟨([32] : List UInt8).toArray⟩ : ByteArray) a1.depth).bind fun x5 => ((KV x5 a5 a6 a7 a14).bind fun r6 => match r6 with | .k0 x6_0 x6_1 x6_2 x6_3 => ((Mf a1 x6_1 x6_2 (a7 + (Zk x5).length) x6_3).bind fun r7 => match r7 with | .k0 x7_0 x7_1 x7_2 x7_3 => ((Rz a1).bind fun x8 => (bif (x8 == (IntKind.wrap .i64 ((a1.text.size : Int) - 1))) then (some (.k0 x7_1 x7_2 ((a7 + (Zk x5).length) + (Zk a1.text).length) a1.depth (x8 == (IntKind.wrap .i64 ((a1.text.size : Int) - 1))) x7_3)) else (bif (decide (x8 ≥ 0)) then (some (.k0 x7_1 x7_2 ((a7 + (Zk x5).length) + (Zk a1.text).length) (IntKind.wrap .i64 ((IntKind.wrap .i64 ((a1.text.size : Int) - 1)) - x8)) (x8 == (IntKind.wrap .i64 ((a1.text.size : Int) - 1))) x7_3)) else (some (.k0 x7_1 x7_2 ((a7 + (Zk x5).length) + (Zk a1.text).length) (IntKind.wrap .i64 (a12 + (a1.text.size : Int))) (x8 == (IntKind.wrap .i64 ((a1.text.size : Int) - 1))) x7_3)))))))) else ((Mf a1 a5 a6 a7 a14).bind fun r5 => match r5 with | .k0 x5_0 x5_1 x5_2 x5_3 => ((Rz a1).bind fun x6 => (bif (x6 == (IntKind.wrap .i64 ((a1.text.size : Int) - 1))) then (some (.k0 x5_1 x5_2 (a7 + (Zk a1.text).length) a1.depth (x6 == (IntKind.wrap .i64 ((a1.text.size : Int) - 1))) x5_3)) else (bif (decide (x6 ≥ 0)) then (some (.k0 x5_1 x5_2 (a7 + (Zk a1.text).length) (IntKind.wrap .i64 ((IntKind.wrap .i64 ((a1.text.size : Int) - 1)) - x6)) (x6 == (IntKind.wrap .i64 ((a1.text.size : Int) - 1))) x5_3)) else (some (.k0 x5_1 x5_2 (a7 + (Zk a1.text).length) (IntKind.wrap .i64 (a12 + (a1.text.size : Int))) (x6 == (IntKind.wrap .i64 ((a1.text.size : Int) - 1))) x5_3)))))))) else ((Mf a1 a5 a6 a7 a14).bind fun r3 => match r3 with | .k0 x3_0 x3_1 x3_2 x3_3 => ((Rz a1).bind fun x4 => (bif (x4 == (IntKind.wrap .i64 ((a1.text.size : Int) - 1))) then (some (.k0 x3_1 x3_2 (a7 + (Zk a1.text).length) a1.depth (x4 == (IntKind.wrap .i64 ((a1.text.size : Int) - 1))) x3_3)) else (bif (decide (x4 ≥ 0)) then (some (.k0 x3_1 x3_2 (a7 + (Zk a1.text).length) (IntKind.wrap .i64 ((IntKind.wrap .i64 ((a1.text.size : Int) - 1)) - x4)) (x4 == (IntKind.wrap .i64 ((a1.text.size : Int) - 1))) x3_3)) else (some (.k0 x3_1 x3_2 (a7 + (Zk a1.text).length) (IntKind.wrap .i64 (a12 + (a1.text.size : Int))) (x4 == (IntKind.wrap .i64 ((a1.text.size : Int) - 1))) x3_3))))))))
abbrev Tw (a2 : BoxD) (a3 : Nat) (a4 : List ThingD) (a5 : Bool) (a6 a7 a8 : Nat) (a9 : List Bool) (a10 : List Int) (a11 a12 : Int) (a13 : Bool) (a14 : List Int) (a1 : ThingD) : List AB := [.cells 25 ((cBx a2).map .p), yT a3 a4, .cells 66 [sp a5 2 0, .sl 3 a6 1 0 a7, .sl 1 a3 7 0 a8, ls 1 Zc a9, ls 1 eI64 a10, i6 a11, i6 a12, vb a13], yU a6 a14, .row 25 4 0 (ra cBx []), .cells 60 ((Za a1).map .p)]
abbrev Pu (a2 : BoxD) (a3 : Nat) (a4 : List ThingD) (x6_1 : Bool) (x6_2 a7 : Nat) (x5 : ByteArray) (a8 : Nat) (a9 : List Bool) (a10 : List Int) (a11 a12 : Int) (a13 : Bool) (x6_3 : List Int) (a1 : ThingD) : List AB := [.cells 25 ((cBx a2).map .p), yT a3 a4, .cells 66 [sp x6_1 2 0, (.sl 3 x6_2 1 0 (a7 + (Zk x5).length)), .sl 1 a3 7 0 a8, ls 1 Zc a9, ls 1 eI64 a10, i6 a11, i6 a12, vb a13], yU x6_2 x6_3, .row 25 4 0 (ra cBx []), .cells 60 ((Za a1).map .p)]
abbrev Pv (a2 : BoxD) (a3 : Nat) (a4 : List ThingD) (x7_1 : Bool) (x7_2 a7 : Nat) (x5 : ByteArray) (a1 : ThingD) (a8 : Nat) (a9 : List Bool) (a10 : List Int) (a11 a12 : Int) (a13 : Bool) (x7_3 : List Int) : List AB := [.cells 25 ((cBx a2).map .p), yT a3 a4, .cells 66 [sp x7_1 2 0, (.sl 3 x7_2 1 0 ((a7 + (Zk x5).length) + (Zk a1.text).length)), .sl 1 a3 7 0 a8, ls 1 Zc a9, ls 1 eI64 a10, i6 a11, i6 a12, vb a13], yU x7_2 x7_3, .row 25 4 0 (ra cBx []), .cells 60 ((Za a1).map .p)]
abbrev Pw (a2 : BoxD) (a3 : Nat) (a4 : List ThingD) (x5_1 : Bool) (x5_2 a7 : Nat) (a1 : ThingD) (a8 : Nat) (a9 : List Bool) (a10 : List Int) (a11 a12 : Int) (a13 : Bool) (x5_3 : List Int) : List AB := [.cells 25 ((cBx a2).map .p), yT a3 a4, .cells 66 [sp x5_1 2 0, (.sl 3 x5_2 1 0 (a7 + (Zk a1.text).length)), .sl 1 a3 7 0 a8, ls 1 Zc a9, ls 1 eI64 a10, i6 a11, i6 a12, vb a13], yU x5_2 x5_3, .row 25 4 0 (ra cBx []), .cells 60 ((Za a1).map .p)]
abbrev Px (a2 : BoxD) (a3 : Nat) (a4 : List ThingD) (x3_1 : Bool) (x3_2 a7 : Nat) (a1 : ThingD) (a8 : Nat) (a9 : List Bool) (a10 : List Int) (a11 a12 : Int) (a13 : Bool) (x3_3 : List Int) : List AB := [.cells 25 ((cBx a2).map .p), yT a3 a4, .cells 66 [sp x3_1 2 0, (.sl 3 x3_2 1 0 (a7 + (Zk a1.text).length)), .sl 1 a3 7 0 a8, ls 1 Zc a9, ls 1 eI64 a10, i6 a11, i6 a12, vb a13], yU x3_2 x3_3, .row 25 4 0 (ra cBx []), .cells 60 ((Za a1).map .p)]
theorem H1 (a1 : ThingD) (a2 : BoxD) (a3 : Nat) (a4 : List ThingD) (a5 : Bool) (a6 a7 a8 : Nat) (a9 : List Bool) (a10 : List Int) (a11 a12 : Int) (a13 : Bool) (a14 : List Int) {r : R_F32_4} (h : IA a1 a5 a6 a7 a12 a13 a14 = some r) : CS prg 32 [.ptr 2 0, vs a1.text, i6 a1.depth] [.cells 25 ((cBx a2).map .p), yT a3 a4, .cells 66 [sp a5 2 0, .sl 3 a6 1 0 a7, .sl 1 a3 7 0 a8, ls 1 Zc a9, ls 1 eI64 a10, i6 a11, i6 a12, vb a13], yU a6 a14, .row 25 4 0 (ra cBx []), .cells 60 ((Za a1).map .p)] = some (Dd a1 a2 a3 a4 a5 a6 a7 a8 a9 a10 a11 a12 a13 a14 r, De a1 a2 a3 a4 a5 a6 a7 a8 a9 a10 a11 a12 a13 a14 r) := by
 unfold IA at h
 apply bi h <;> intro h1 h
 ·
  rw [← sj h]
  exact fc [(8, .d true)] (av h1 apn)
 ·
  apply bi h <;> intro h2 h
  ·
   have k0 := ka [(8, .d false), (12, .d true)] (av h1 (av h2 apn))
   apply bn h; intro x3 h3 h
   have q1 := ((Lg h3) : ixS (vs a1.text) (i6 0) = some (vi .u8 (x3.toNat : Int)))
   apply bi h <;> intro h4 h
   ·
    have k2 := k0.a [(15, .v (vi .u8 (x3.toNat : Int))), (16, .d true)] (apc q1 (av h4 apn))
    apply bn h; intro x5 h5 h
    have q3 := (((GT (⟨([32] : List UInt8).toArray⟩ : ByteArray) a1.depth h5).cp rfl _) : CP prg 35 [(vs (⟨([32] : List UInt8).toArray⟩ : ByteArray)), i6 a1.depth] (Tw a2 a3 a4 a5 a6 a7 a8 a9 a10 a11 a12 a13 a14 a1) = some (vs x5))
    apply bn h; intro r6 h6 h
    cases r6 with
    | k0 x6_0 x6_1 x6_2 x6_3 =>
     have q4 := ((LD x5 a2 a3 a4 a5 a6 a7 a8 a9 a10 a11 a12 a13 a14 a1 h6) : CS prg 34 [.ptr 2 0, vs x5] (Tw a2 a3 a4 a5 a6 a7 a8 a9 a10 a11 a12 a13 a14 a1) = some ((.tup [i6 x6_0, (.p (.val .nilIface))]), Pu a2 a3 a4 x6_1 x6_2 a7 x5 a8 a9 a10 a11 a12 a13 x6_3 a1))
     have k5 := k2.a [(22, .v (vs x5)), (23, .r (.tup [i6 x6_0, (.p (.val .nilIface))]) (Pu a2 a3 a4 x6_1 x6_2 a7 x5 a8 a9 a10 a11 a12 a13 x6_3 a1))] (apc q3 (apc q4 apn))
     apply bn h; intro r7 h7 h
     cases r7 with
     | k0 x7_0 x7_1 x7_2 x7_3 =>
      have q6 := ((Ps a1 a2 a3 a4 x6_1 x6_2 (a7 + (Zk x5).length) a8 a9 a10 a11 a12 a13 x6_3 h7) : CS prg 34 [.ptr 2 0, vs a1.text] (Pu a2 a3 a4 x6_1 x6_2 a7 x5 a8 a9 a10 a11 a12 a13 x6_3 a1) = some ((.tup [i6 x7_0, (.p (.val .nilIface))]), Pv a2 a3 a4 x7_1 x7_2 a7 x5 a1 a8 a9 a10 a11 a12 a13 x7_3))
      have k7 := k5.a [(28, .r (.tup [i6 x7_0, (.p (.val .nilIface))]) (Pv a2 a3 a4 x7_1 x7_2 a7 x5 a1 a8 a9 a10 a11 a12 a13 x7_3))] (apc q6 apn)
      apply bn h; intro x8 h8 h
      have q8 := (((Pt a1 h8).cp rfl _) : CP prg 40 [vs a1.text, vi .u8 10] (Pv a2 a3 a4 x7_1 x7_2 a7 x5 a1 a8 a9 a10 a11 a12 a13 x7_3) = some (i6 x8))
      apply bi h <;> intro h9 h
      ·
       rw [← sj h]
       exact fc ([(30, .v (i6 x8)), (52, .d true)] ++ kH k7) (k7.b (apc q8 (av h9 apn)))
      ·
       have k9 := k7.a [(30, .v (i6 x8)), (52, .d false)] (apc q8 (av h9 apn))
       apply bi h <;> intro h10 h
       ·
        rw [← sj h]
        exact fc ([(59, .d true)] ++ kH k9) (k9.b (av h10 apn))
       ·
        rw [← sj h]
        exact fc ([(59, .d false)] ++ kH k9) (k9.b (av h10 apn))
   ·
    have k10 := k0.a [(15, .v (vi .u8 (x3.toNat : Int))), (16, .d false)] (apc q1 (av h4 apn))
    apply bn h; intro r5 h5 h
    cases r5 with
    | k0 x5_0 x5_1 x5_2 x5_3 =>
     have q11 := ((Ps a1 a2 a3 a4 a5 a6 a7 a8 a9 a10 a11 a12 a13 a14 h5) : CS prg 34 [.ptr 2 0, vs a1.text] (Tw a2 a3 a4 a5 a6 a7 a8 a9 a10 a11 a12 a13 a14 a1) = some ((.tup [i6 x5_0, (.p (.val .nilIface))]), Pw a2 a3 a4 x5_1 x5_2 a7 a1 a8 a9 a10 a11 a12 a13 x5_3))
     have k12 := k10.a [(28, .r (.tup [i6 x5_0, (.p (.val .nilIface))]) (Pw a2 a3 a4 x5_1 x5_2 a7 a1 a8 a9 a10 a11 a12 a13 x5_3))] (apc q11 apn)
     apply bn h; intro x6 h6 h
     have q13 := (((Pt a1 h6).cp rfl _) : CP prg 40 [vs a1.text, vi .u8 10] (Pw a2 a3 a4 x5_1 x5_2 a7 a1 a8 a9 a10 a11 a12 a13 x5_3) = some (i6 x6))
     apply bi h <;> intro h7 h
     ·
      rw [← sj h]
      exact fc ([(30, .v (i6 x6)), (52, .d true)] ++ kH k12) (k12.b (apc q13 (av h7 apn)))
     ·
      have k14 := k12.a [(30, .v (i6 x6)), (52, .d false)] (apc q13 (av h7 apn))
      apply bi h <;> intro h8 h
      ·
       rw [← sj h]
       exact fc ([(59, .d true)] ++ kH k14) (k14.b (av h8 apn))
      ·
       rw [← sj h]
       exact fc ([(59, .d false)] ++ kH k14) (k14.b (av h8 apn))
  ·
   have k15 := ka [(8, .d false), (12, .d false)] (av h1 (av h2 apn))
   apply bn h; intro r3 h3 h
   cases r3 with
   | k0 x3_0 x3_1 x3_2 x3_3 =>
    have q16 := ((Ps a1 a2 a3 a4 a5 a6 a7 a8 a9 a10 a11 a12 a13 a14 h3) : CS prg 34 [.ptr 2 0, vs a1.text] (Tw a2 a3 a4 a5 a6 a7 a8 a9 a10 a11 a12 a13 a14 a1) = some ((.tup [i6 x3_0, (.p (.val .nilIface))]), Px a2 a3 a4 x3_1 x3_2 a7 a1 a8 a9 a10 a11 a12 a13 x3_3))
    have k17 := k15.a [(28, .r (.tup [i6 x3_0, (.p (.val .nilIface))]) (Px a2 a3 a4 x3_1 x3_2 a7 a1 a8 a9 a10 a11 a12 a13 x3_3))] (apc q16 apn)
    apply bn h; intro x4 h4 h
    have q18 := (((Pt a1 h4).cp rfl _) : CP prg 40 [vs a1.text, vi .u8 10] (Px a2 a3 a4 x3_1 x3_2 a7 a1 a8 a9 a10 a11 a12 a13 x3_3) = some (i6 x4))
    apply bi h <;> intro h5 h
    ·
     rw [← sj h]
     exact fc ([(30, .v (i6 x4)), (52, .d true)] ++ kH k17) (k17.b (apc q18 (av h5 apn)))
    ·
     have k19 := k17.a [(30, .v (i6 x4)), (52, .d false)] (apc q18 (av h5 apn))
     apply bi h <;> intro h6 h
     ·
      rw [← sj h]
      exact fc ([(59, .d true)] ++ kH k19) (k19.b (av h6 apn))
     ·
      rw [← sj h]
      exact fc ([(59, .d false)] ++ kH k19) (k19.b (av h6 apn))
inductive E_L37_1 where
  | k0 (x0 x1 : Nat) (x2 : List ThingD)
section
variable (a1 : Nat) (a3 a4 a6 : Int) (a7 : ThingD) (a8 : Int) (a9 : BoxD) (a11 : Bool) (a12 a13 a14 : Nat) (a15 : List Bool) (a16 : List Int) (a17 a18 : Int) (a19 : Bool) (a20 : List Int) (a21 : Nat) (a22 : List BoxD) (a23 : ThingD)
def KX (v1 v2 : Nat) (v3 v4 : Int) (v5 : List ThingD) : Option (E_L37_1 ⊕ (Nat × Nat × Int × Int × (List ThingD))) :=
  (bif (decide (v4 < a8)) then ((getI a7.kids v4).bind fun x2 => (bif (apOk v2 1 v5.length 80) then (bif (decide (v2 + 1 ≤ v5.length)) then ((getI a16 v3).bind fun x5 => (some (.inr (v1, v2 + 1, (IntKind.wrap .i64 (v3 + x5)), (IntKind.wrap .i64 (v4 + 1)), (splice v5 v2 [(⟨x2.kind, x2.text, x2.n, x2.kids, a3, a4, v3⟩ : ThingD)]))))) else ((getI a16 v3).bind fun x5 => (some (.inr ((v1 + 1), v2 + 1, (IntKind.wrap .i64 (v3 + x5)), (IntKind.wrap .i64 (v4 + 1)), (v5.take v2 ++ [(⟨x2.kind, x2.text, x2.n, x2.kids, a3, a4, v3⟩ : ThingD)])))))) else none)) else (some (.inl (.k0 v1 v2 v5))))
def IB (v1 v2 : Nat) (v3 v4 : Int) (v5 : List ThingD) : St := ⟨fr 74 ug [(0, .ptr 2 0), (1, .sl 1 v1 7 0 v2), (3, i6 a3), (4, i6 a4), (11, i6 v3), (12, i6 a6), (24, (.p (.lst 4 (Zb a7.kids)))), (25, i6 a8), (26, i6 v4)], [.cells 25 ((cBx a9).map .p), yT v1 v5, .cells 66 [sp a11 2 0, .sl 3 a12 1 0 a13, .sl 1 a1 7 0 a14, ls 1 Zc a15, ls 1 eI64 a16, i6 a17, i6 a18, vb a19], yU a12 a20, .row 25 4 a21 (ra cBx a22), .cells 60 ((Za a23).map .p), .cells 60 ((Za a7).map .p), yT0]⟩
theorem Mg (v1 v2 : Nat) (v3 v4 : Int) (v5 : List ThingD) : okT 8 (IB a1 a3 a4 a6 a7 a8 a9 a11 a12 a13 a14 a15 a16 a17 a18 a19 a20 a21 a22 a23 v1 v2 v3 v4 v5).h = true := (ZD rfl (ac (ar (Zu (Z6 rfl (Ze rfl (Ze rfl (Ze rfl (Ze rfl (Ze rfl (Ze rfl (Ze rfl rfl)))))))) (ar (ar (ac (ac (ar rfl)))))))))
abbrev Ux (v1 v2 : Nat) (v3 v4 : Int) (v5 : List ThingD) := evH prg 8 [0, 1, 3, 4, 11, 12, 24, 25, 26, 1000199006007] XF (IB a1 a3 a4 a6 a7 a8 a9 a11 a12 a13 a14 a15 a16 a17 a18 a19 a20 a21 a22 a23 v1 v2 v3 v4 v5)
def Mh (e : E_L37_1) (r : Option (Out × St)) : Prop := match e with | .k0 x0 x1 x2 => ∃ g, r = some ((.brk 0), ⟨fr 74 g [(1, .sl 1 x0 7 0 x1), (12, i6 a6), (24, (.p (.lst 4 (Zb a7.kids))))], [.cells 25 ((cBx a9).map .p), yT x0 x2, .cells 66 [sp a11 2 0, .sl 3 a12 1 0 a13, .sl 1 a1 7 0 a14, ls 1 Zc a15, ls 1 eI64 a16, i6 a17, i6 a18, vb a19], yU a12 a20, .row 25 4 a21 (ra cBx a22), .cells 60 ((Za a23).map .p), .cells 60 ((Za a7).map .p), yT0]⟩)
abbrev LH (v1 : Nat) (v5 : List ThingD) (v2 : Nat) (x2 : BoxD) (v3 : Int) : List AB := [.cells 25 ((cBx a9).map .p), yT v1 (splice v5 v2 [(⟨x2.kind, x2.text, x2.n, x2.kids, a3, a4, v3⟩ : ThingD)]), .cells 66 [sp a11 2 0, .sl 3 a12 1 0 a13, .sl 1 a1 7 0 a14, ls 1 Zc a15, ls 1 eI64 a16, i6 a17, i6 a18, vb a19], yU a12 a20, .row 25 4 a21 (ra cBx a22), .cells 60 ((Za a23).map .p), .cells 60 ((Za a7).map .p), yT0, .row 25 4 0 (ra cBx []), .cells 25 ((cBx x2).map .p), .row 60 7 0 [[i6 x2.kind, vs x2.text, i6 x2.n, (.p (.lst 4 (Zb x2.kids))), i6 a3, i6 a4, i6 v3]]]
abbrev LI (v1 : Nat) (v5 : List ThingD) (x2 : BoxD) (v3 : Int) : List AB := [.cells 25 ((cBx a9).map .p), yT v1 v5, .cells 66 [sp a11 2 0, .sl 3 a12 1 0 a13, .sl 1 a1 7 0 a14, ls 1 Zc a15, ls 1 eI64 a16, i6 a17, i6 a18, vb a19], yU a12 a20, .row 25 4 a21 (ra cBx a22), .cells 60 ((Za a23).map .p), .cells 60 ((Za a7).map .p), yT0, .row 25 4 0 (ra cBx []), .cells 25 ((cBx x2).map .p), .row 60 7 0 [[i6 x2.kind, vs x2.text, i6 x2.n, (.p (.lst 4 (Zb x2.kids))), i6 a3, i6 a4, i6 v3]]]
abbrev LJ (v1 : Nat) (v5 : List ThingD) (v2 : Nat) (x2 : BoxD) (v3 : Int) : List AB := [.cells 25 ((cBx a9).map .p), yT (v1 + 1) (v5.take v2 ++ [(⟨x2.kind, x2.text, x2.n, x2.kids, a3, a4, v3⟩ : ThingD)]), .cells 66 [sp a11 2 0, .sl 3 a12 1 0 a13, .sl 1 a1 7 0 a14, ls 1 Zc a15, ls 1 eI64 a16, i6 a17, i6 a18, vb a19], yU a12 a20, .row 25 4 a21 (ra cBx a22), .cells 60 ((Za a23).map .p), .cells 60 ((Za a7).map .p), yT0, .row 25 4 0 (ra cBx []), .cells 25 ((cBx x2).map .p), .row 60 7 0 [[i6 x2.kind, vs x2.text, i6 x2.n, (.p (.lst 4 (Zb x2.kids))), i6 a3, i6 a4, i6 v3]]]
theorem H3 (v1 v2 : Nat) (v3 v4 : Int) (v5 : List ThingD) {r : E_L37_1 ⊕ (Nat × Nat × Int × Int × (List ThingD))} (h : KX a3 a4 a7 a8 a16 v1 v2 v3 v4 v5 = some r) : OkR (fun e => Mh a1 a6 a7 a9 a11 a12 a13 a14 a15 a16 a17 a18 a19 a20 a21 a22 a23 e (Ux a1 a3 a4 a6 a7 a8 a9 a11 a12 a13 a14 a15 a16 a17 a18 a19 a20 a21 a22 a23 v1 v2 v3 v4 v5)) (fun s => Ux a1 a3 a4 a6 a7 a8 a9 a11 a12 a13 a14 a15 a16 a17 a18 a19 a20 a21 a22 a23 v1 v2 v3 v4 v5 = Ux a1 a3 a4 a6 a7 a8 a9 a11 a12 a13 a14 a15 a16 a17 a18 a19 a20 a21 a22 a23 s.1 s.2.1 s.2.2.1 s.2.2.2.1 s.2.2.2.2) r := by
 unfold KX at h
 apply bi h <;> intro h1 h
 ·
  apply bn h; intro x2 h2 h
  have q0 := ((igr Zr h2) : idxA 4 (.p (.lst 4 (Zb a7.kids))) (i6 v4) = some (.ro (cBx x2)))
  have k1 := ka [(27, .d true), (28, .v (.ro (cBx x2)))] (av h1 (apc q0 apn))
  apply bi h <;> intro h3 h
  ·
   apply bi h <;> intro h4 h
   ·
    apply bn h; intro x5 h5 h
    rw [← sj h]
    exact rn ([(37, .r (.sl 1 v1 7 0 (v2 + 1)) (LH a1 a3 a4 a7 a9 a11 a12 a13 a14 a15 a16 a17 a18 a19 a20 a21 a22 a23 v1 v5 v2 x2 v3)), (44, .v (.ro [.val (.int .i64 x5)])), (6000, .d true)] ++ kH k1) (k1.b (apc ((Vr (e := Za) (xs := v5) (news := [(⟨x2.kind, x2.text, x2.n, x2.kids, a3, a4, v3⟩ : ThingD)]) rfl (ZO (e := Za) (xs := [(⟨x2.kind, x2.text, x2.n, x2.kids, a3, a4, v3⟩ : ThingD)]) rfl) rfl h3 h4) : appA (LI a1 a3 a4 a7 a9 a11 a12 a13 a14 a15 a16 a17 a18 a19 a20 a21 a22 a23 v1 v5 x2 v3) 60 7 80 (.sl 1 v1 7 0 v2) (.sl 10 0 7 0 1) = some ((.sl 1 v1 7 0 (v2 + 1)), LH a1 a3 a4 a7 a9 a11 a12 a13 a14 a15 a16 a17 a18 a19 a20 a21 a22 a23 v1 v5 v2 x2 v3)) (apc (ig eI64 1 .i64 h5) (apc (Mg a1 a3 a4 a6 a7 a8 a9 a11 a12 a13 a14 a15 a16 a17 a18 a19 a20 a21 a22 a23 v1 (v2 + 1) (w6 (v3 + x5)) (w6 (v4 + 1)) (splice v5 v2 [(⟨x2.kind, x2.text, x2.n, x2.kids, a3, a4, v3⟩ : ThingD)])) apn))))
   ·
    apply bn h; intro x5 h5 h
    rw [← sj h]
    exact rn ([(37, .r (.sl 1 (v1 + 1) 7 0 (v2 + 1)) (LJ a1 a3 a4 a7 a9 a11 a12 a13 a14 a15 a16 a17 a18 a19 a20 a21 a22 a23 v1 v5 v2 x2 v3)), (44, .v (.ro [.val (.int .i64 x5)])), (6000, .d true)] ++ kH k1) (k1.b (apc ((Xf (e := Za) (xs := v5) (news := [(⟨x2.kind, x2.text, x2.n, x2.kids, a3, a4, v3⟩ : ThingD)]) rfl (ZO (e := Za) (xs := [(⟨x2.kind, x2.text, x2.n, x2.kids, a3, a4, v3⟩ : ThingD)]) rfl) rfl h3 h4) : appA (LI a1 a3 a4 a7 a9 a11 a12 a13 a14 a15 a16 a17 a18 a19 a20 a21 a22 a23 v1 v5 x2 v3) 60 7 80 (.sl 1 v1 7 0 v2) (.sl 10 0 7 0 1) = some ((.sl 1 (v1 + 1) 7 0 (v2 + 1)), LJ a1 a3 a4 a7 a9 a11 a12 a13 a14 a15 a16 a17 a18 a19 a20 a21 a22 a23 v1 v5 v2 x2 v3)) (apc (ig eI64 1 .i64 h5) (apc (Mg a1 a3 a4 a6 a7 a8 a9 a11 a12 a13 a14 a15 a16 a17 a18 a19 a20 a21 a22 a23 (v1 + 1) (v2 + 1) (w6 (v3 + x5)) (w6 (v4 + 1)) (v5.take v2 ++ [(⟨x2.kind, x2.text, x2.n, x2.kids, a3, a4, v3⟩ : ThingD)])) apn))))
  ·
   cases h
 ·
  rw [← sj h]
  exact xb [(27, .d false), (6000, .d true)] (av h1 apn)
theorem ID (s0 : Nat × Nat × Int × Int × (List ThingD)) (e : E_L37_1) (h : runL (fun s => KX a3 a4 a7 a8 a16 s.1 s.2.1 s.2.2.1 s.2.2.2.1 s.2.2.2.2) s0 = some e) : Mh a1 a6 a7 a9 a11 a12 a13 a14 a15 a16 a17 a18 a19 a20 a21 a22 a23 e (Ux a1 a3 a4 a6 a7 a8 a9 a11 a12 a13 a14 a15 a16 a17 a18 a19 a20 a21 a22 a23 s0.1 s0.2.1 s0.2.2.1 s0.2.2.2.1 s0.2.2.2.2) := by
  have q := @Zg (Nat × Nat × Int × Int × (List ThingD)) E_L37_1 (fun s => KX a3 a4 a7 a8 a16 s.1 s.2.1 s.2.2.1 s.2.2.2.1 s.2.2.2.2) (fun s => Ux a1 a3 a4 a6 a7 a8 a9 a11 a12 a13 a14 a15 a16 a17 a18 a19 a20 a21 a22 a23 s.1 s.2.1 s.2.2.1 s.2.2.2.1 s.2.2.2.2) (Mh a1 a6 a7 a9 a11 a12 a13 a14 a15 a16 a17 a18 a19 a20 a21 a22 a23) (fun s r h => H3 a1 a3 a4 a6 a7 a8 a9 a11 a12 a13 a14 a15 a16 a17 a18 a19 a20 a21 a22 a23 s.1 s.2.1 s.2.2.1 s.2.2.2.1 s.2.2.2.2 h) s0 e h
  exact q
end
inductive E_L37_0 where
  | k0 (x0 : List ThingD)
section
variable (a1 a2 : Nat) (a5 : BoxD) (a7 : Bool) (a8 a9 a10 a11 : Nat) (a12 : List Bool) (a13 : List Int) (a14 a15 : Int) (a16 : Bool) (a17 : List Int) (a18 : Nat) (a19 : List BoxD) (a20 a21 : ThingD)
def KY (v1 v2 : Int) (v3 : List ThingD) : Option (E_L37_0 ⊕ (Int × Int × (List ThingD))) :=
  (bif (decide (v1 < v2)) then ((ixN a2 v2).bind fun x2 => ((v3[x2]?).bind fun x3 => ((ixN a2 v1).bind fun x4 => ((v3[x4]?).bind fun x5 => (((v3.set x4 (⟨x3.kind, x3.text, x3.n, x3.kids, x3.depth, x3.way, x3.at_⟩ : ThingD))[x2]?).bind fun x6 => (some (.inr ((IntKind.wrap .i64 (v1 + 1)), (IntKind.wrap .i64 (v2 - 1)), ((v3.set x4 (⟨x3.kind, x3.text, x3.n, x3.kids, x3.depth, x3.way, x3.at_⟩ : ThingD)).set x2 (⟨x5.kind, x5.text, x5.n, x5.kids, x5.depth, x5.way, x5.at_⟩ : ThingD)))))))))) else (some (.inl (.k0 v3))))
def IE (v1 v2 : Int) (v3 : List ThingD) : St := ⟨fr 74 ug [(1, .sl 1 a1 7 0 a2), (15, i6 v1), (16, i6 v2)], [.cells 25 ((cBx a5).map .p), yT a1 v3, .cells 66 [sp a7 2 0, .sl 3 a8 1 0 a9, .sl 1 a10 7 0 a11, ls 1 Zc a12, ls 1 eI64 a13, i6 a14, i6 a15, vb a16], yU a8 a17, .row 25 4 a18 (ra cBx a19), .cells 60 ((Za a20).map .p), .cells 60 ((Za a21).map .p), yT0]⟩
theorem IF (v1 v2 : Int) (v3 : List ThingD) : okT 8 (IE a1 a2 a5 a7 a8 a9 a10 a11 a12 a13 a14 a15 a16 a17 a18 a19 a20 a21 v1 v2 v3).h = true := (ZD rfl (ac (ar (Zu (Z6 rfl (Ze rfl (Ze rfl (Ze rfl (Ze rfl (Ze rfl (Ze rfl (Ze rfl rfl)))))))) (ar (ar (ac (ac (ar rfl)))))))))
abbrev Uy (v1 v2 : Int) (v3 : List ThingD) := evH prg 8 [1, 15, 16] XE (IE a1 a2 a5 a7 a8 a9 a10 a11 a12 a13 a14 a15 a16 a17 a18 a19 a20 a21 v1 v2 v3)
def Mi (e : E_L37_0) (r : Option (Out × St)) : Prop := match e with | .k0 x0 => ∃ g, r = some ((.brk 2), ⟨fr 74 g [(1, .sl 1 a1 7 0 a2)], [.cells 25 ((cBx a5).map .p), yT a1 x0, .cells 66 [sp a7 2 0, .sl 3 a8 1 0 a9, .sl 1 a10 7 0 a11, ls 1 Zc a12, ls 1 eI64 a13, i6 a14, i6 a15, vb a16], yU a8 a17, .row 25 4 a18 (ra cBx a19), .cells 60 ((Za a20).map .p), .cells 60 ((Za a21).map .p), yT0]⟩)
abbrev Py (v3 : List ThingD) (x4 : Nat) (x3 : ThingD) : List AB := [.cells 25 ((cBx a5).map .p), yT a1 (v3.set x4 (⟨x3.kind, x3.text, x3.n, x3.kids, x3.depth, x3.way, x3.at_⟩ : ThingD)), .cells 66 [sp a7 2 0, .sl 3 a8 1 0 a9, .sl 1 a10 7 0 a11, ls 1 Zc a12, ls 1 eI64 a13, i6 a14, i6 a15, vb a16], yU a8 a17, .row 25 4 a18 (ra cBx a19), .cells 60 ((Za a20).map .p), .cells 60 ((Za a21).map .p), yT0]
abbrev LK (v3 : List ThingD) (x4 : Nat) (x3 : ThingD) (x2 : Nat) (x5 : ThingD) : List AB := [.cells 25 ((cBx a5).map .p), yT a1 ((v3.set x4 (⟨x3.kind, x3.text, x3.n, x3.kids, x3.depth, x3.way, x3.at_⟩ : ThingD)).set x2 (⟨x5.kind, x5.text, x5.n, x5.kids, x5.depth, x5.way, x5.at_⟩ : ThingD)), .cells 66 [sp a7 2 0, .sl 3 a8 1 0 a9, .sl 1 a10 7 0 a11, ls 1 Zc a12, ls 1 eI64 a13, i6 a14, i6 a15, vb a16], yU a8 a17, .row 25 4 a18 (ra cBx a19), .cells 60 ((Za a20).map .p), .cells 60 ((Za a21).map .p), yT0]
abbrev Pz (v3 : List ThingD) : List AB := [.cells 25 ((cBx a5).map .p), yT a1 v3, .cells 66 [sp a7 2 0, .sl 3 a8 1 0 a9, .sl 1 a10 7 0 a11, ls 1 Zc a12, ls 1 eI64 a13, i6 a14, i6 a15, vb a16], yU a8 a17, .row 25 4 a18 (ra cBx a19), .cells 60 ((Za a20).map .p), .cells 60 ((Za a21).map .p), yT0]
theorem H4 (v1 v2 : Int) (v3 : List ThingD) {r : E_L37_0 ⊕ (Int × Int × (List ThingD))} (h : KY a2 v1 v2 v3 = some r) : OkR (fun e => Mi a1 a2 a5 a7 a8 a9 a10 a11 a12 a13 a14 a15 a16 a17 a18 a19 a20 a21 e (Uy a1 a2 a5 a7 a8 a9 a10 a11 a12 a13 a14 a15 a16 a17 a18 a19 a20 a21 v1 v2 v3)) (fun s => Uy a1 a2 a5 a7 a8 a9 a10 a11 a12 a13 a14 a15 a16 a17 a18 a19 a20 a21 v1 v2 v3 = Uy a1 a2 a5 a7 a8 a9 a10 a11 a12 a13 a14 a15 a16 a17 a18 a19 a20 a21 s.1 s.2.1 s.2.2) r := by
 unfold KY at h
 apply bi h <;> intro h1 h
 ·
  apply bn h; intro x2 h2 h
  have q0 := ((ZL h2) : idxA 7 (.sl 1 a1 7 0 a2) (i6 v2) = some (.rp 1 a1 7 x2 0))
  apply bn h; intro x3 h3 h
  apply bn h; intro x4 h4 h
  have q1 := ((ZL h4) : idxA 7 (.sl 1 a1 7 0 a2) (i6 v1) = some (.rp 1 a1 7 x4 0))
  apply bn h; intro x5 h5 h
  apply bn h; intro x6 h6 h
  rw [← sj h]
  exact rn [(54, .d true), (65, .v (.rp 1 a1 7 x2 0)), (66, .v (.agg ((Za x3).map .p))), (69, .v (.rp 1 a1 7 x4 0)), (70, .v (.agg ((Za x5).map .p))), (71, .v (.rp 1 a1 7 x4 0)), (1071, .r ud (Py a1 a5 a7 a8 a9 a10 a11 a12 a13 a14 a15 a16 a17 a18 a19 a20 a21 v3 x4 x3)), (72, .v (.rp 1 a1 7 x2 0)), (1072, .r ud (LK a1 a5 a7 a8 a9 a10 a11 a12 a13 a14 a15 a16 a17 a18 a19 a20 a21 v3 x4 x3 x2 x5)), (6000, .d true)] (av h1 (apc q0 (apc ((Z4 rfl h3 rfl) : ldA (Pz a1 a5 a7 a8 a9 a10 a11 a12 a13 a14 a15 a16 a17 a18 a19 a20 a21 v3) .true 7 (.rp 1 a1 7 x2 0) = some (.agg ((Za x3).map .p))) (apc q1 (apc ((Z4 rfl h5 rfl) : ldA (Pz a1 a5 a7 a8 a9 a10 a11 a12 a13 a14 a15 a16 a17 a18 a19 a20 a21 v3) .true 7 (.rp 1 a1 7 x4 0) = some (.agg ((Za x5).map .p))) (apc q1 (apc (⟨ZV (v' := (⟨x3.kind, x3.text, x3.n, x3.kids, x3.depth, x3.way, x3.at_⟩ : ThingD)) rfl h5 rfl rfl (Nat.le_of_ble_eq_true rfl) rfl, rfl⟩ : stA (Pz a1 a5 a7 a8 a9 a10 a11 a12 a13 a14 a15 a16 a17 a18 a19 a20 a21 v3) 7 (.rp 1 a1 7 x4 0) (.agg ((Za x3).map .p)) = some (Py a1 a5 a7 a8 a9 a10 a11 a12 a13 a14 a15 a16 a17 a18 a19 a20 a21 v3 x4 x3) ∧ ud = ud) (apc q0 (apc (⟨ZV (v' := (⟨x5.kind, x5.text, x5.n, x5.kids, x5.depth, x5.way, x5.at_⟩ : ThingD)) rfl h6 rfl rfl (Nat.le_of_ble_eq_true rfl) rfl, rfl⟩ : stA (Py a1 a5 a7 a8 a9 a10 a11 a12 a13 a14 a15 a16 a17 a18 a19 a20 a21 v3 x4 x3) 7 (.rp 1 a1 7 x2 0) (.agg ((Za x5).map .p)) = some (LK a1 a5 a7 a8 a9 a10 a11 a12 a13 a14 a15 a16 a17 a18 a19 a20 a21 v3 x4 x3 x2 x5) ∧ ud = ud) (apc (IF a1 a2 a5 a7 a8 a9 a10 a11 a12 a13 a14 a15 a16 a17 a18 a19 a20 a21 (w6 (v1 + 1)) (w6 (v2 - 1)) ((v3.set x4 (⟨x3.kind, x3.text, x3.n, x3.kids, x3.depth, x3.way, x3.at_⟩ : ThingD)).set x2 (⟨x5.kind, x5.text, x5.n, x5.kids, x5.depth, x5.way, x5.at_⟩ : ThingD))) apn))))))))))
 ·
  rw [← sj h]
  exact xb [(54, .d false), (6000, .d true)] (av h1 apn)
theorem IG (s0 : Int × Int × (List ThingD)) (e : E_L37_0) (h : runL (fun s => KY a2 s.1 s.2.1 s.2.2) s0 = some e) : Mi a1 a2 a5 a7 a8 a9 a10 a11 a12 a13 a14 a15 a16 a17 a18 a19 a20 a21 e (Uy a1 a2 a5 a7 a8 a9 a10 a11 a12 a13 a14 a15 a16 a17 a18 a19 a20 a21 s0.1 s0.2.1 s0.2.2) := by
  have q := @Zg (Int × Int × (List ThingD)) E_L37_0 (fun s => KY a2 s.1 s.2.1 s.2.2) (fun s => Uy a1 a2 a5 a7 a8 a9 a10 a11 a12 a13 a14 a15 a16 a17 a18 a19 a20 a21 s.1 s.2.1 s.2.2) (Mi a1 a2 a5 a7 a8 a9 a10 a11 a12 a13 a14 a15 a16 a17 a18 a19 a20 a21) (fun s r h => H4 a1 a2 a5 a7 a8 a9 a10 a11 a12 a13 a14 a15 a16 a17 a18 a19 a20 a21 s.1 s.2.1 s.2.2 h) s0 e h
  exact q
end
inductive R_F37 where
  | k0 (x0 x1 : Nat) (x2 : List ThingD)
def C5 (a1 a2 : Nat) (a3 : ThingD) (a4 a5 : Int) (a6 : BoxD) (a7 : List ThingD) (a8 : Bool) (a9 a10 a11 : Nat) (a12 : List Bool) (a13 : List Int) (a14 a15 : Int) (a16 : Bool) (a17 : List Int) (a18 : Nat) (a19 : List BoxD) (a20 : ThingD) (r : R_F37) : AV := match r with | .k0 x0 x1 x2 => (.sl 1 x0 7 0 x1)
def C6 (a1 a2 : Nat) (a3 : ThingD) (a4 a5 : Int) (a6 : BoxD) (a7 : List ThingD) (a8 : Bool) (a9 a10 a11 : Nat) (a12 : List Bool) (a13 : List Int) (a14 a15 : Int) (a16 : Bool) (a17 : List Int) (a18 : Nat) (a19 : List BoxD) (a20 : ThingD) (r : R_F37) : List AB := match r with | .k0 x0 x1 x2 => [.cells 25 ((cBx a6).map .p), yT x0 x2, .cells 66 [sp a8 2 0, .sl 3 a9 1 0 a10, .sl 1 a1 7 0 a11, ls 1 Zc a12, ls 1 eI64 a13, i6 a14, i6 a15, vb a16], yU a9 a17, .row 25 4 a18 (ra cBx a19), .cells 60 ((Za a20).map .p), .cells 60 ((Za a3).map .p), yT0]
def F37 (a1 a2 : Nat) (a3 : ThingD) (a4 a5 : Int) (a7 : List ThingD) (a13 : List Int) : Option R_F37 :=
  ((runL (fun s => KX a4 a5 a3 (a3.kids.length : Int) a13 s.1 s.2.1 s.2.2.1 s.2.2.2.1 s.2.2.2.2) (a1, a2, (IntKind.wrap .i64 (a3.at_ + 1)), 0, a7)).bind fun r1 => match r1 with | .k0 x1_0 x1_1 x1_2 => ((runL (fun s => KY x1_1 s.1 s.2.1 s.2.2) (((a2 : Nat) : Int), (IntKind.wrap .i64 (((x1_1 : Nat) : Int) - 1)), x1_2)).bind fun r2 => match r2 with | .k0 x2_0 => (some (.k0 x1_0 x1_1 x2_0))))
abbrev G5 (g1 : Nat → AV) (x1_0 x1_1 a2 : Nat) (a3 : ThingD) (a6 : BoxD) (x1_2 : List ThingD) (a8 : Bool) (a9 a10 a1 a11 : Nat) (a12 : List Bool) (a13 : List Int) (a14 a15 : Int) (a16 : Bool) (a17 : List Int) (a18 : Nat) (a19 : List BoxD) (a20 : ThingD) : St := ⟨fr 74 g1 [(1, .sl 1 x1_0 7 0 x1_1), (12, (i6 ((a2 : Nat) : Int))), (24, (.p (.lst 4 (Zb a3.kids))))], [.cells 25 ((cBx a6).map .p), yT x1_0 x1_2, .cells 66 [sp a8 2 0, .sl 3 a9 1 0 a10, .sl 1 a1 7 0 a11, ls 1 Zc a12, ls 1 eI64 a13, i6 a14, i6 a15, vb a16], yU a9 a17, .row 25 4 a18 (ra cBx a19), .cells 60 ((Za a20).map .p), .cells 60 ((Za a3).map .p), yT0]⟩
abbrev G6 (g2 : Nat → AV) (x1_0 x1_1 : Nat) (a6 : BoxD) (x2_0 : List ThingD) (a8 : Bool) (a9 a10 a1 a11 : Nat) (a12 : List Bool) (a13 : List Int) (a14 a15 : Int) (a16 : Bool) (a17 : List Int) (a18 : Nat) (a19 : List BoxD) (a20 a3 : ThingD) : St := ⟨fr 74 g2 [(1, .sl 1 x1_0 7 0 x1_1)], [.cells 25 ((cBx a6).map .p), yT x1_0 x2_0, .cells 66 [sp a8 2 0, .sl 3 a9 1 0 a10, .sl 1 a1 7 0 a11, ls 1 Zc a12, ls 1 eI64 a13, i6 a14, i6 a15, vb a16], yU a9 a17, .row 25 4 a18 (ra cBx a19), .cells 60 ((Za a20).map .p), .cells 60 ((Za a3).map .p), yT0]⟩
theorem Qb (a1 a2 : Nat) (a3 : ThingD) (a4 a5 : Int) (a6 : BoxD) (a7 : List ThingD) (a8 : Bool) (a9 a10 a11 : Nat) (a12 : List Bool) (a13 : List Int) (a14 a15 : Int) (a16 : Bool) (a17 : List Int) (a18 : Nat) (a19 : List BoxD) (a20 : ThingD) {r : R_F37} (h : F37 a1 a2 a3 a4 a5 a7 a13 = some r) : CS prg 37 [.ptr 2 0, .sl 1 a1 7 0 a2, (.agg ((Za a3).map .p)), i6 a4, i6 a5] [.cells 25 ((cBx a6).map .p), yT a1 a7, .cells 66 [sp a8 2 0, .sl 3 a9 1 0 a10, .sl 1 a1 7 0 a11, ls 1 Zc a12, ls 1 eI64 a13, i6 a14, i6 a15, vb a16], yU a9 a17, .row 25 4 a18 (ra cBx a19), .cells 60 ((Za a20).map .p)] = some (C5 a1 a2 a3 a4 a5 a6 a7 a8 a9 a10 a11 a12 a13 a14 a15 a16 a17 a18 a19 a20 r, C6 a1 a2 a3 a4 a5 a6 a7 a8 a9 a10 a11 a12 a13 a14 a15 a16 a17 a18 a19 a20 r) := by
 unfold F37 at h
 apply bn h; intro r1 h1 h
 cases r1 with
 | k0 x1_0 x1_1 x1_2 =>
  obtain ⟨g1, e1⟩ := ID a1 a4 a5 ((a2 : Nat) : Int) a3 (a3.kids.length : Int) a6 a8 a9 a10 a11 a12 a13 a14 a15 a16 a17 a18 a19 a20 (a1, a2, (w6 (a3.at_ + 1)), 0, a7) _ h1
  apply bn h; intro r2 h2 h
  cases r2 with
  | k0 x2_0 =>
   obtain ⟨g2, e2⟩ := IG x1_0 x1_1 a6 a8 a9 a10 a1 a11 a12 a13 a14 a15 a16 a17 a18 a19 a20 a3 (((a2 : Nat) : Int), (w6 (((x1_1 : Nat) : Int) - 1)), x1_2) _ h2
   rw [← sj h]
   exact fc [(25, .v (i6 (a3.kids.length : Int))), (2000, .l (.brk 0) (G5 g1 x1_0 x1_1 a2 a3 a6 x1_2 a8 a9 a10 a1 a11 a12 a13 a14 a15 a16 a17 a18 a19 a20)), (2002, .l (.brk 2) (G6 g2 x1_0 x1_1 a6 x2_0 a8 a9 a10 a1 a11 a12 a13 a14 a15 a16 a17 a18 a19 a20 a3)), (6000, .d true)] (apc ((lgr Zr) : lnA (.p (.lst 4 (Zb a3.kids))) = some (i6 (a3.kids.length : Int))) (apc (Mg a1 a4 a5 ((a2 : Nat) : Int) a3 (a3.kids.length : Int) a6 a8 a9 a10 a11 a12 a13 a14 a15 a16 a17 a18 a19 a20 a1 a2 (w6 (a3.at_ + 1)) 0 a7) (apc (e1 : Ux a1 a4 a5 ((a2 : Nat) : Int) a3 (a3.kids.length : Int) a6 a8 a9 a10 a11 a12 a13 a14 a15 a16 a17 a18 a19 a20 a1 a2 (w6 (a3.at_ + 1)) 0 a7 = some ((.brk 0), G5 g1 x1_0 x1_1 a2 a3 a6 x1_2 a8 a9 a10 a1 a11 a12 a13 a14 a15 a16 a17 a18 a19 a20)) (apc (IF x1_0 x1_1 a6 a8 a9 a10 a1 a11 a12 a13 a14 a15 a16 a17 a18 a19 a20 a3 ((a2 : Nat) : Int) (w6 (((x1_1 : Nat) : Int) - 1)) x1_2) (apc (e2 : Uy x1_0 x1_1 a6 a8 a9 a10 a1 a11 a12 a13 a14 a15 a16 a17 a18 a19 a20 a3 ((a2 : Nat) : Int) (w6 (((x1_1 : Nat) : Int) - 1)) x1_2 = some ((.brk 2), G6 g2 x1_0 x1_1 a6 x2_0 a8 a9 a10 a1 a11 a12 a13 a14 a15 a16 a17 a18 a19 a20 a3)) apn)))))
inductive R_F41_3 where
  | k0 (x0 : Bool) (x1 : Nat) (x2 : List Int)
def Df (a1 : BoxD) (a2 : Nat) (a3 : List ThingD) (a4 : Bool) (a5 a6 a7 : Nat) (a8 : List Bool) (a9 : List Int) (a10 a11 : Int) (a12 : Bool) (a13 : List Int) (a14 : ThingD) (r : R_F41_3) : AV := match r with | .k0 x0 x1 x2 => (.p (.val .nilIface))
def Dg (a1 : BoxD) (a2 : Nat) (a3 : List ThingD) (a4 : Bool) (a5 a6 a7 : Nat) (a8 : List Bool) (a9 : List Int) (a10 a11 : Int) (a12 : Bool) (a13 : List Int) (a14 : ThingD) (r : R_F41_3) : List AB := match r with | .k0 x0 x1 x2 => [.cells 25 ((cBx a1).map .p), yT a2 a3, .cells 66 [sp x0 2 0, (.sl 3 x1 1 0 (a6 + 1)), .sl 1 a2 7 0 a7, ls 1 Zc a8, ls 1 eI64 a9, i6 a10, i6 a11, vb a12], yU x1 x2, .row 25 4 0 (ra cBx []), .cells 60 ((Za a14).map .p), .row 5 1 0 [[vi .u8 10]]]
def H5 (a4 : Bool) (a5 a6 : Nat) (a13 : List Int) : Option R_F41_3 :=
  ((Me a4).bind fun x1 => (bif (apOk a6 1 a13.length 1) then (bif (decide (a6 + 1 ≤ a13.length)) then (some (.k0 x1 a5 (splice a13 a6 [10]))) else (some (.k0 x1 (a5 + 1) (a13.take a6 ++ [10])))) else none))
abbrev LL (a1 : BoxD) (a2 : Nat) (a3 : List ThingD) (x1 : Bool) (a5 a6 a7 : Nat) (a8 : List Bool) (a9 : List Int) (a10 a11 : Int) (a12 : Bool) (a13 : List Int) (a14 : ThingD) : List AB := [.cells 25 ((cBx a1).map .p), yT a2 a3, .cells 66 [sp x1 2 0, .sl 3 a5 1 0 a6, .sl 1 a2 7 0 a7, ls 1 Zc a8, ls 1 eI64 a9, i6 a10, i6 a11, vb a12], yU a5 a13, .row 25 4 0 (ra cBx []), .cells 60 ((Za a14).map .p)]
abbrev LM (a1 : BoxD) (a2 : Nat) (a3 : List ThingD) (x1 : Bool) (a5 a6 a7 : Nat) (a8 : List Bool) (a9 : List Int) (a10 a11 : Int) (a12 : Bool) (a13 : List Int) (a14 : ThingD) : List AB := [.cells 25 ((cBx a1).map .p), yT a2 a3, .cells 66 [sp x1 2 0, .sl 3 a5 1 0 a6, .sl 1 a2 7 0 a7, ls 1 Zc a8, ls 1 eI64 a9, i6 a10, i6 a11, vb a12], yU a5 (splice a13 a6 [10]), .row 25 4 0 (ra cBx []), .cells 60 ((Za a14).map .p), .row 5 1 0 [[vi .u8 10]]]
abbrev LN (a1 : BoxD) (a2 : Nat) (a3 : List ThingD) (x1 : Bool) (a5 a6 a7 : Nat) (a8 : List Bool) (a9 : List Int) (a10 a11 : Int) (a12 : Bool) (a13 : List Int) (a14 : ThingD) : List AB := [.cells 25 ((cBx a1).map .p), yT a2 a3, .cells 66 [sp x1 2 0, .sl 3 a5 1 0 a6, .sl 1 a2 7 0 a7, ls 1 Zc a8, ls 1 eI64 a9, i6 a10, i6 a11, vb a12], yU a5 a13, .row 25 4 0 (ra cBx []), .cells 60 ((Za a14).map .p), .row 5 1 0 [[vi .u8 10]]]
abbrev LO (a1 : BoxD) (a2 : Nat) (a3 : List ThingD) (x1 : Bool) (a5 a6 a7 : Nat) (a8 : List Bool) (a9 : List Int) (a10 a11 : Int) (a12 : Bool) (a13 : List Int) (a14 : ThingD) : List AB := [.cells 25 ((cBx a1).map .p), yT a2 a3, .cells 66 [sp x1 2 0, .sl 3 a5 1 0 a6, .sl 1 a2 7 0 a7, ls 1 Zc a8, ls 1 eI64 a9, i6 a10, i6 a11, vb a12], yU (a5 + 1) (a13.take a6 ++ [10]), .row 25 4 0 (ra cBx []), .cells 60 ((Za a14).map .p), .row 5 1 0 [[vi .u8 10]]]
theorem H6 (a1 : BoxD) (a2 : Nat) (a3 : List ThingD) (a4 : Bool) (a5 a6 a7 : Nat) (a8 : List Bool) (a9 : List Int) (a10 a11 : Int) (a12 : Bool) (a13 : List Int) (a14 : ThingD) {r : R_F41_3} (h : H5 a4 a5 a6 a13 = some r) : CS prg 41 [.ptr 2 0, vi .u8 10] [.cells 25 ((cBx a1).map .p), yT a2 a3, .cells 66 [sp a4 2 0, .sl 3 a5 1 0 a6, .sl 1 a2 7 0 a7, ls 1 Zc a8, ls 1 eI64 a9, i6 a10, i6 a11, vb a12], yU a5 a13, .row 25 4 0 (ra cBx []), .cells 60 ((Za a14).map .p)] = some (Df a1 a2 a3 a4 a5 a6 a7 a8 a9 a10 a11 a12 a13 a14 r, Dg a1 a2 a3 a4 a5 a6 a7 a8 a9 a10 a11 a12 a13 a14 r) := by
 unfold H5 at h
 apply bn h; intro x1 h1 h
 have q0 := ((Pq a1 a2 a3 a4 a5 a6 a7 a8 a9 a10 a11 a12 a13 a14 h1) : CS prg 42 [.ptr 2 0] [.cells 25 ((cBx a1).map .p), yT a2 a3, .cells 66 [sp a4 2 0, .sl 3 a5 1 0 a6, .sl 1 a2 7 0 a7, ls 1 Zc a8, ls 1 eI64 a9, i6 a10, i6 a11, vb a12], yU a5 a13, .row 25 4 0 (ra cBx []), .cells 60 ((Za a14).map .p)] = some ((.tup []), LL a1 a2 a3 x1 a5 a6 a7 a8 a9 a10 a11 a12 a13 a14))
 have k1 := ka [(6, .r (.tup []) (LL a1 a2 a3 x1 a5 a6 a7 a8 a9 a10 a11 a12 a13 a14))] (apc q0 apn)
 apply bi h <;> intro h2 h
 ·
  apply bi h <;> intro h3 h
  ·
   rw [← sj h]
   exact fc ([(14, .r (.sl 3 a5 1 0 (a6 + 1)) (LM a1 a2 a3 x1 a5 a6 a7 a8 a9 a10 a11 a12 a13 a14))] ++ kH k1) (k1.b (apc ((Vr (e := eU8) (xs := a13) (news := [10]) rfl (ZO (e := eU8) (xs := [10]) rfl) rfl h2 h3) : appA (LN a1 a2 a3 x1 a5 a6 a7 a8 a9 a10 a11 a12 a13 a14) 5 1 1 (.sl 3 a5 1 0 a6) (.sl 6 0 1 0 1) = some ((.sl 3 a5 1 0 (a6 + 1)), LM a1 a2 a3 x1 a5 a6 a7 a8 a9 a10 a11 a12 a13 a14)) apn))
  ·
   rw [← sj h]
   exact fc ([(14, .r (.sl 3 (a5 + 1) 1 0 (a6 + 1)) (LO a1 a2 a3 x1 a5 a6 a7 a8 a9 a10 a11 a12 a13 a14))] ++ kH k1) (k1.b (apc ((Xf (e := eU8) (xs := a13) (news := [10]) rfl (ZO (e := eU8) (xs := [10]) rfl) rfl h2 h3) : appA (LN a1 a2 a3 x1 a5 a6 a7 a8 a9 a10 a11 a12 a13 a14) 5 1 1 (.sl 3 a5 1 0 a6) (.sl 6 0 1 0 1) = some ((.sl 3 (a5 + 1) 1 0 (a6 + 1)), LO a1 a2 a3 x1 a5 a6 a7 a8 a9 a10 a11 a12 a13 a14)) apn))
 ·
  cases h
inductive R_F33_4 where
  | k0 (x0 : Bool) (x1 : Nat) (x2 : List Int)
def Dh (a1 : ThingD) (a2 : BoxD) (a3 : Nat) (a4 : List ThingD) (a5 : Bool) (a6 a7 a8 : Nat) (a9 : List Bool) (a10 : List Int) (a11 a12 : Int) (a13 : Bool) (a14 : List Int) (r : R_F33_4) : AV := match r with | .k0 x0 x1 x2 => (.tup [])
def Di (a1 : ThingD) (a2 : BoxD) (a3 : Nat) (a4 : List ThingD) (a5 : Bool) (a6 a7 a8 : Nat) (a9 : List Bool) (a10 : List Int) (a11 a12 : Int) (a13 : Bool) (a14 : List Int) (r : R_F33_4) : List AB := match r with | .k0 x0 x1 x2 => [.cells 25 ((cBx a2).map .p), yT a3 a4, .cells 66 [sp x0 2 0, (.sl 3 x1 1 0 (a7 + 1)), .sl 1 a3 7 0 a8, ls 1 Zc a9, ls 1 eI64 a10, i6 a11, i6 a1.depth, vb true], yU x1 x2, .row 25 4 0 (ra cBx []), .cells 60 ((Za a1).map .p), .row 5 1 0 [[vi .u8 10]]]
def KZ (a5 : Bool) (a6 a7 : Nat) (a14 : List Int) : Option R_F33_4 :=
  ((H5 a5 a6 a7 a14).bind fun r1 => match r1 with | .k0 x1_0 x1_1 x1_2 => (some (.k0 x1_0 x1_1 x1_2)))
abbrev LP (a2 : BoxD) (a3 : Nat) (a4 : List ThingD) (x1_0 : Bool) (x1_1 a7 a8 : Nat) (a9 : List Bool) (a10 : List Int) (a11 a12 : Int) (a13 : Bool) (x1_2 : List Int) (a1 : ThingD) : List AB := [.cells 25 ((cBx a2).map .p), yT a3 a4, .cells 66 [sp x1_0 2 0, (.sl 3 x1_1 1 0 (a7 + 1)), .sl 1 a3 7 0 a8, ls 1 Zc a9, ls 1 eI64 a10, i6 a11, i6 a12, vb a13], yU x1_1 x1_2, .row 25 4 0 (ra cBx []), .cells 60 ((Za a1).map .p), .row 5 1 0 [[vi .u8 10]]]
theorem LQ (a1 : ThingD) (a2 : BoxD) (a3 : Nat) (a4 : List ThingD) (a5 : Bool) (a6 a7 a8 : Nat) (a9 : List Bool) (a10 : List Int) (a11 a12 : Int) (a13 : Bool) (a14 : List Int) {r : R_F33_4} (h : KZ a5 a6 a7 a14 = some r) : CS prg 33 [.ptr 2 0, i6 a1.depth] [.cells 25 ((cBx a2).map .p), yT a3 a4, .cells 66 [sp a5 2 0, .sl 3 a6 1 0 a7, .sl 1 a3 7 0 a8, ls 1 Zc a9, ls 1 eI64 a10, i6 a11, i6 a12, vb a13], yU a6 a14, .row 25 4 0 (ra cBx []), .cells 60 ((Za a1).map .p)] = some (Dh a1 a2 a3 a4 a5 a6 a7 a8 a9 a10 a11 a12 a13 a14 r, Di a1 a2 a3 a4 a5 a6 a7 a8 a9 a10 a11 a12 a13 a14 r) := by
 unfold KZ at h
 apply bn h; intro r1 h1 h
 cases r1 with
 | k0 x1_0 x1_1 x1_2 =>
  rw [← sj h]
  exact fc [(7, .r (.p (.val .nilIface)) (LP a2 a3 a4 x1_0 x1_1 a7 a8 a9 a10 a11 a12 a13 x1_2 a1))] (apc ((H6 a2 a3 a4 a5 a6 a7 a8 a9 a10 a11 a12 a13 a14 a1 h1) : CS prg 41 [.ptr 2 0, vi .u8 10] [.cells 25 ((cBx a2).map .p), yT a3 a4, .cells 66 [sp a5 2 0, .sl 3 a6 1 0 a7, .sl 1 a3 7 0 a8, ls 1 Zc a9, ls 1 eI64 a10, i6 a11, i6 a12, vb a13], yU a6 a14, .row 25 4 0 (ra cBx []), .cells 60 ((Za a1).map .p)] = some ((.p (.val .nilIface)), LP a2 a3 a4 x1_0 x1_1 a7 a8 a9 a10 a11 a12 a13 x1_2 a1)) apn)
inductive E_L37_1_10 where
  | k0 (x0 x1 : Nat) (x2 : List ThingD)
section
variable (a1 : Nat) (a3 a4 a6 : Int) (a7 : ThingD) (a8 : Int) (a9 : BoxD) (a11 : Bool) (a12 a13 a14 : Nat) (a15 : List Bool) (a16 : List Int) (a17 a18 : Int) (a19 : List Int) (a20 : Nat) (a21 : List BoxD) (a22 : ThingD) (a23 : Nat) (a24 : Int)
def WO (v1 v2 : Nat) (v3 v4 : Int) (v5 : List ThingD) : Option (E_L37_1_10 ⊕ (Nat × Nat × Int × Int × (List ThingD))) :=
  (bif (decide (v4 < a8)) then ((getI a7.kids v4).bind fun x2 => (bif (apOk v2 1 v5.length 80) then (bif (decide (v2 + 1 ≤ v5.length)) then ((getI a16 v3).bind fun x5 => (some (.inr (v1, v2 + 1, (IntKind.wrap .i64 (v3 + x5)), (IntKind.wrap .i64 (v4 + 1)), (splice v5 v2 [(⟨x2.kind, x2.text, x2.n, x2.kids, a3, a4, v3⟩ : ThingD)]))))) else ((getI a16 v3).bind fun x5 => (some (.inr ((v1 + 1), v2 + 1, (IntKind.wrap .i64 (v3 + x5)), (IntKind.wrap .i64 (v4 + 1)), (v5.take v2 ++ [(⟨x2.kind, x2.text, x2.n, x2.kids, a3, a4, v3⟩ : ThingD)])))))) else none)) else (some (.inl (.k0 v1 v2 v5))))
def Qc (v1 v2 : Nat) (v3 v4 : Int) (v5 : List ThingD) : St := ⟨fr 74 ug [(0, .ptr 2 0), (1, .sl 1 v1 7 0 v2), (3, i6 a3), (4, i6 a4), (11, i6 v3), (12, i6 a6), (24, (.p (.lst 4 (Zb a7.kids)))), (25, i6 a8), (26, i6 v4)], [.cells 25 ((cBx a9).map .p), yT v1 v5, .cells 66 [sp a11 2 0, .sl 3 a12 1 0 a13, .sl 1 a1 7 0 a14, ls 1 Zc a15, ls 1 eI64 a16, i6 a17, i6 a18, vb true], yU a12 a19, .row 25 4 a20 (ra cBx a21), .cells 60 ((Za a22).map .p), .row 5 1 a23 [[vi .u8 a24]], .cells 60 ((Za a7).map .p), yT0]⟩
theorem Uz (v1 v2 : Nat) (v3 v4 : Int) (v5 : List ThingD) : okT 9 (Qc a1 a3 a4 a6 a7 a8 a9 a11 a12 a13 a14 a15 a16 a17 a18 a19 a20 a21 a22 a23 a24 v1 v2 v3 v4 v5).h = true := (ZD rfl (ac (ar (Zu (Z6 rfl (Ze rfl (Ze rfl (Ze rfl (Ze rfl (Ze rfl (Ze rfl (Ze rfl rfl)))))))) (ar (ar (ac (ac (ac (ar rfl))))))))))
abbrev YQ (v1 v2 : Nat) (v3 v4 : Int) (v5 : List ThingD) := evH prg 9 [0, 1, 3, 4, 11, 12, 24, 25, 26, 1000199006007] XF (Qc a1 a3 a4 a6 a7 a8 a9 a11 a12 a13 a14 a15 a16 a17 a18 a19 a20 a21 a22 a23 a24 v1 v2 v3 v4 v5)
def UA (e : E_L37_1_10) (r : Option (Out × St)) : Prop := match e with | .k0 x0 x1 x2 => ∃ g, r = some ((.brk 0), ⟨fr 74 g [(1, .sl 1 x0 7 0 x1), (12, i6 a6), (24, (.p (.lst 4 (Zb a7.kids))))], [.cells 25 ((cBx a9).map .p), yT x0 x2, .cells 66 [sp a11 2 0, .sl 3 a12 1 0 a13, .sl 1 a1 7 0 a14, ls 1 Zc a15, ls 1 eI64 a16, i6 a17, i6 a18, vb true], yU a12 a19, .row 25 4 a20 (ra cBx a21), .cells 60 ((Za a22).map .p), .row 5 1 a23 [[vi .u8 a24]], .cells 60 ((Za a7).map .p), yT0]⟩)
abbrev SI (v1 : Nat) (v5 : List ThingD) (v2 : Nat) (x2 : BoxD) (v3 : Int) : List AB := [.cells 25 ((cBx a9).map .p), yT v1 (splice v5 v2 [(⟨x2.kind, x2.text, x2.n, x2.kids, a3, a4, v3⟩ : ThingD)]), .cells 66 [sp a11 2 0, .sl 3 a12 1 0 a13, .sl 1 a1 7 0 a14, ls 1 Zc a15, ls 1 eI64 a16, i6 a17, i6 a18, vb true], yU a12 a19, .row 25 4 a20 (ra cBx a21), .cells 60 ((Za a22).map .p), .row 5 1 a23 [[vi .u8 a24]], .cells 60 ((Za a7).map .p), yT0, .row 25 4 0 (ra cBx []), .cells 25 ((cBx x2).map .p), .row 60 7 0 [[i6 x2.kind, vs x2.text, i6 x2.n, (.p (.lst 4 (Zb x2.kids))), i6 a3, i6 a4, i6 v3]]]
abbrev SJ (v1 : Nat) (v5 : List ThingD) (x2 : BoxD) (v3 : Int) : List AB := [.cells 25 ((cBx a9).map .p), yT v1 v5, .cells 66 [sp a11 2 0, .sl 3 a12 1 0 a13, .sl 1 a1 7 0 a14, ls 1 Zc a15, ls 1 eI64 a16, i6 a17, i6 a18, vb true], yU a12 a19, .row 25 4 a20 (ra cBx a21), .cells 60 ((Za a22).map .p), .row 5 1 a23 [[vi .u8 a24]], .cells 60 ((Za a7).map .p), yT0, .row 25 4 0 (ra cBx []), .cells 25 ((cBx x2).map .p), .row 60 7 0 [[i6 x2.kind, vs x2.text, i6 x2.n, (.p (.lst 4 (Zb x2.kids))), i6 a3, i6 a4, i6 v3]]]
abbrev SK (v1 : Nat) (v5 : List ThingD) (v2 : Nat) (x2 : BoxD) (v3 : Int) : List AB := [.cells 25 ((cBx a9).map .p), yT (v1 + 1) (v5.take v2 ++ [(⟨x2.kind, x2.text, x2.n, x2.kids, a3, a4, v3⟩ : ThingD)]), .cells 66 [sp a11 2 0, .sl 3 a12 1 0 a13, .sl 1 a1 7 0 a14, ls 1 Zc a15, ls 1 eI64 a16, i6 a17, i6 a18, vb true], yU a12 a19, .row 25 4 a20 (ra cBx a21), .cells 60 ((Za a22).map .p), .row 5 1 a23 [[vi .u8 a24]], .cells 60 ((Za a7).map .p), yT0, .row 25 4 0 (ra cBx []), .cells 25 ((cBx x2).map .p), .row 60 7 0 [[i6 x2.kind, vs x2.text, i6 x2.n, (.p (.lst 4 (Zb x2.kids))), i6 a3, i6 a4, i6 v3]]]
theorem Mj (v1 v2 : Nat) (v3 v4 : Int) (v5 : List ThingD) {r : E_L37_1_10 ⊕ (Nat × Nat × Int × Int × (List ThingD))} (h : WO a3 a4 a7 a8 a16 v1 v2 v3 v4 v5 = some r) : OkR (fun e => UA a1 a6 a7 a9 a11 a12 a13 a14 a15 a16 a17 a18 a19 a20 a21 a22 a23 a24 e (YQ a1 a3 a4 a6 a7 a8 a9 a11 a12 a13 a14 a15 a16 a17 a18 a19 a20 a21 a22 a23 a24 v1 v2 v3 v4 v5)) (fun s => YQ a1 a3 a4 a6 a7 a8 a9 a11 a12 a13 a14 a15 a16 a17 a18 a19 a20 a21 a22 a23 a24 v1 v2 v3 v4 v5 = YQ a1 a3 a4 a6 a7 a8 a9 a11 a12 a13 a14 a15 a16 a17 a18 a19 a20 a21 a22 a23 a24 s.1 s.2.1 s.2.2.1 s.2.2.2.1 s.2.2.2.2) r := by
 unfold WO at h
 apply bi h <;> intro h1 h
 ·
  apply bn h; intro x2 h2 h
  have q0 := ((igr Zr h2) : idxA 4 (.p (.lst 4 (Zb a7.kids))) (i6 v4) = some (.ro (cBx x2)))
  have k1 := ka [(27, .d true), (28, .v (.ro (cBx x2)))] (av h1 (apc q0 apn))
  apply bi h <;> intro h3 h
  ·
   apply bi h <;> intro h4 h
   ·
    apply bn h; intro x5 h5 h
    rw [← sj h]
    exact rn ([(37, .r (.sl 1 v1 7 0 (v2 + 1)) (SI a1 a3 a4 a7 a9 a11 a12 a13 a14 a15 a16 a17 a18 a19 a20 a21 a22 a23 a24 v1 v5 v2 x2 v3)), (44, .v (.ro [.val (.int .i64 x5)])), (6000, .d true)] ++ kH k1) (k1.b (apc ((Vr (e := Za) (xs := v5) (news := [(⟨x2.kind, x2.text, x2.n, x2.kids, a3, a4, v3⟩ : ThingD)]) rfl (ZO (e := Za) (xs := [(⟨x2.kind, x2.text, x2.n, x2.kids, a3, a4, v3⟩ : ThingD)]) rfl) rfl h3 h4) : appA (SJ a1 a3 a4 a7 a9 a11 a12 a13 a14 a15 a16 a17 a18 a19 a20 a21 a22 a23 a24 v1 v5 x2 v3) 60 7 80 (.sl 1 v1 7 0 v2) (.sl 11 0 7 0 1) = some ((.sl 1 v1 7 0 (v2 + 1)), SI a1 a3 a4 a7 a9 a11 a12 a13 a14 a15 a16 a17 a18 a19 a20 a21 a22 a23 a24 v1 v5 v2 x2 v3)) (apc (ig eI64 1 .i64 h5) (apc (Uz a1 a3 a4 a6 a7 a8 a9 a11 a12 a13 a14 a15 a16 a17 a18 a19 a20 a21 a22 a23 a24 v1 (v2 + 1) (w6 (v3 + x5)) (w6 (v4 + 1)) (splice v5 v2 [(⟨x2.kind, x2.text, x2.n, x2.kids, a3, a4, v3⟩ : ThingD)])) apn))))
   ·
    apply bn h; intro x5 h5 h
    rw [← sj h]
    exact rn ([(37, .r (.sl 1 (v1 + 1) 7 0 (v2 + 1)) (SK a1 a3 a4 a7 a9 a11 a12 a13 a14 a15 a16 a17 a18 a19 a20 a21 a22 a23 a24 v1 v5 v2 x2 v3)), (44, .v (.ro [.val (.int .i64 x5)])), (6000, .d true)] ++ kH k1) (k1.b (apc ((Xf (e := Za) (xs := v5) (news := [(⟨x2.kind, x2.text, x2.n, x2.kids, a3, a4, v3⟩ : ThingD)]) rfl (ZO (e := Za) (xs := [(⟨x2.kind, x2.text, x2.n, x2.kids, a3, a4, v3⟩ : ThingD)]) rfl) rfl h3 h4) : appA (SJ a1 a3 a4 a7 a9 a11 a12 a13 a14 a15 a16 a17 a18 a19 a20 a21 a22 a23 a24 v1 v5 x2 v3) 60 7 80 (.sl 1 v1 7 0 v2) (.sl 11 0 7 0 1) = some ((.sl 1 (v1 + 1) 7 0 (v2 + 1)), SK a1 a3 a4 a7 a9 a11 a12 a13 a14 a15 a16 a17 a18 a19 a20 a21 a22 a23 a24 v1 v5 v2 x2 v3)) (apc (ig eI64 1 .i64 h5) (apc (Uz a1 a3 a4 a6 a7 a8 a9 a11 a12 a13 a14 a15 a16 a17 a18 a19 a20 a21 a22 a23 a24 (v1 + 1) (v2 + 1) (w6 (v3 + x5)) (w6 (v4 + 1)) (v5.take v2 ++ [(⟨x2.kind, x2.text, x2.n, x2.kids, a3, a4, v3⟩ : ThingD)])) apn))))
  ·
   cases h
 ·
  rw [← sj h]
  exact xb [(27, .d false), (6000, .d true)] (av h1 apn)
theorem OE (s0 : Nat × Nat × Int × Int × (List ThingD)) (e : E_L37_1_10) (h : runL (fun s => WO a3 a4 a7 a8 a16 s.1 s.2.1 s.2.2.1 s.2.2.2.1 s.2.2.2.2) s0 = some e) : UA a1 a6 a7 a9 a11 a12 a13 a14 a15 a16 a17 a18 a19 a20 a21 a22 a23 a24 e (YQ a1 a3 a4 a6 a7 a8 a9 a11 a12 a13 a14 a15 a16 a17 a18 a19 a20 a21 a22 a23 a24 s0.1 s0.2.1 s0.2.2.1 s0.2.2.2.1 s0.2.2.2.2) := by
  have q := @Zg (Nat × Nat × Int × Int × (List ThingD)) E_L37_1_10 (fun s => WO a3 a4 a7 a8 a16 s.1 s.2.1 s.2.2.1 s.2.2.2.1 s.2.2.2.2) (fun s => YQ a1 a3 a4 a6 a7 a8 a9 a11 a12 a13 a14 a15 a16 a17 a18 a19 a20 a21 a22 a23 a24 s.1 s.2.1 s.2.2.1 s.2.2.2.1 s.2.2.2.2) (UA a1 a6 a7 a9 a11 a12 a13 a14 a15 a16 a17 a18 a19 a20 a21 a22 a23 a24) (fun s r h => Mj a1 a3 a4 a6 a7 a8 a9 a11 a12 a13 a14 a15 a16 a17 a18 a19 a20 a21 a22 a23 a24 s.1 s.2.1 s.2.2.1 s.2.2.2.1 s.2.2.2.2 h) s0 e h
  exact q
end
inductive E_L37_0_10 where
  | k0 (x0 : List ThingD)
section
variable (a1 a2 : Nat) (a5 : BoxD) (a7 : Bool) (a8 a9 a10 a11 : Nat) (a12 : List Bool) (a13 : List Int) (a14 a15 : Int) (a16 : List Int) (a17 : Nat) (a18 : List BoxD) (a19 : ThingD) (a20 : Nat) (a21 : Int) (a22 : ThingD)
def WP (v1 v2 : Int) (v3 : List ThingD) : Option (E_L37_0_10 ⊕ (Int × Int × (List ThingD))) :=
  (bif (decide (v1 < v2)) then ((ixN a2 v2).bind fun x2 => ((v3[x2]?).bind fun x3 => ((ixN a2 v1).bind fun x4 => ((v3[x4]?).bind fun x5 => (((v3.set x4 (⟨x3.kind, x3.text, x3.n, x3.kids, x3.depth, x3.way, x3.at_⟩ : ThingD))[x2]?).bind fun x6 => (some (.inr ((IntKind.wrap .i64 (v1 + 1)), (IntKind.wrap .i64 (v2 - 1)), ((v3.set x4 (⟨x3.kind, x3.text, x3.n, x3.kids, x3.depth, x3.way, x3.at_⟩ : ThingD)).set x2 (⟨x5.kind, x5.text, x5.n, x5.kids, x5.depth, x5.way, x5.at_⟩ : ThingD)))))))))) else (some (.inl (.k0 v3))))
def Qd (v1 v2 : Int) (v3 : List ThingD) : St := ⟨fr 74 ug [(1, .sl 1 a1 7 0 a2), (15, i6 v1), (16, i6 v2)], [.cells 25 ((cBx a5).map .p), yT a1 v3, .cells 66 [sp a7 2 0, .sl 3 a8 1 0 a9, .sl 1 a10 7 0 a11, ls 1 Zc a12, ls 1 eI64 a13, i6 a14, i6 a15, vb true], yU a8 a16, .row 25 4 a17 (ra cBx a18), .cells 60 ((Za a19).map .p), .row 5 1 a20 [[vi .u8 a21]], .cells 60 ((Za a22).map .p), yT0]⟩
theorem Qe (v1 v2 : Int) (v3 : List ThingD) : okT 9 (Qd a1 a2 a5 a7 a8 a9 a10 a11 a12 a13 a14 a15 a16 a17 a18 a19 a20 a21 a22 v1 v2 v3).h = true := (ZD rfl (ac (ar (Zu (Z6 rfl (Ze rfl (Ze rfl (Ze rfl (Ze rfl (Ze rfl (Ze rfl (Ze rfl rfl)))))))) (ar (ar (ac (ac (ac (ar rfl))))))))))
abbrev YR (v1 v2 : Int) (v3 : List ThingD) := evH prg 9 [1, 15, 16] XE (Qd a1 a2 a5 a7 a8 a9 a10 a11 a12 a13 a14 a15 a16 a17 a18 a19 a20 a21 a22 v1 v2 v3)
def UB (e : E_L37_0_10) (r : Option (Out × St)) : Prop := match e with | .k0 x0 => ∃ g, r = some ((.brk 2), ⟨fr 74 g [(1, .sl 1 a1 7 0 a2)], [.cells 25 ((cBx a5).map .p), yT a1 x0, .cells 66 [sp a7 2 0, .sl 3 a8 1 0 a9, .sl 1 a10 7 0 a11, ls 1 Zc a12, ls 1 eI64 a13, i6 a14, i6 a15, vb true], yU a8 a16, .row 25 4 a17 (ra cBx a18), .cells 60 ((Za a19).map .p), .row 5 1 a20 [[vi .u8 a21]], .cells 60 ((Za a22).map .p), yT0]⟩)
abbrev Vw (v3 : List ThingD) (x4 : Nat) (x3 : ThingD) : List AB := [.cells 25 ((cBx a5).map .p), yT a1 (v3.set x4 (⟨x3.kind, x3.text, x3.n, x3.kids, x3.depth, x3.way, x3.at_⟩ : ThingD)), .cells 66 [sp a7 2 0, .sl 3 a8 1 0 a9, .sl 1 a10 7 0 a11, ls 1 Zc a12, ls 1 eI64 a13, i6 a14, i6 a15, vb true], yU a8 a16, .row 25 4 a17 (ra cBx a18), .cells 60 ((Za a19).map .p), .row 5 1 a20 [[vi .u8 a21]], .cells 60 ((Za a22).map .p), yT0]
abbrev SL (v3 : List ThingD) (x4 : Nat) (x3 : ThingD) (x2 : Nat) (x5 : ThingD) : List AB := [.cells 25 ((cBx a5).map .p), yT a1 ((v3.set x4 (⟨x3.kind, x3.text, x3.n, x3.kids, x3.depth, x3.way, x3.at_⟩ : ThingD)).set x2 (⟨x5.kind, x5.text, x5.n, x5.kids, x5.depth, x5.way, x5.at_⟩ : ThingD)), .cells 66 [sp a7 2 0, .sl 3 a8 1 0 a9, .sl 1 a10 7 0 a11, ls 1 Zc a12, ls 1 eI64 a13, i6 a14, i6 a15, vb true], yU a8 a16, .row 25 4 a17 (ra cBx a18), .cells 60 ((Za a19).map .p), .row 5 1 a20 [[vi .u8 a21]], .cells 60 ((Za a22).map .p), yT0]
abbrev Vx (v3 : List ThingD) : List AB := [.cells 25 ((cBx a5).map .p), yT a1 v3, .cells 66 [sp a7 2 0, .sl 3 a8 1 0 a9, .sl 1 a10 7 0 a11, ls 1 Zc a12, ls 1 eI64 a13, i6 a14, i6 a15, vb true], yU a8 a16, .row 25 4 a17 (ra cBx a18), .cells 60 ((Za a19).map .p), .row 5 1 a20 [[vi .u8 a21]], .cells 60 ((Za a22).map .p), yT0]
theorem Mk (v1 v2 : Int) (v3 : List ThingD) {r : E_L37_0_10 ⊕ (Int × Int × (List ThingD))} (h : WP a2 v1 v2 v3 = some r) : OkR (fun e => UB a1 a2 a5 a7 a8 a9 a10 a11 a12 a13 a14 a15 a16 a17 a18 a19 a20 a21 a22 e (YR a1 a2 a5 a7 a8 a9 a10 a11 a12 a13 a14 a15 a16 a17 a18 a19 a20 a21 a22 v1 v2 v3)) (fun s => YR a1 a2 a5 a7 a8 a9 a10 a11 a12 a13 a14 a15 a16 a17 a18 a19 a20 a21 a22 v1 v2 v3 = YR a1 a2 a5 a7 a8 a9 a10 a11 a12 a13 a14 a15 a16 a17 a18 a19 a20 a21 a22 s.1 s.2.1 s.2.2) r := by
 unfold WP at h
 apply bi h <;> intro h1 h
 ·
  apply bn h; intro x2 h2 h
  have q0 := ((ZL h2) : idxA 7 (.sl 1 a1 7 0 a2) (i6 v2) = some (.rp 1 a1 7 x2 0))
  apply bn h; intro x3 h3 h
  apply bn h; intro x4 h4 h
  have q1 := ((ZL h4) : idxA 7 (.sl 1 a1 7 0 a2) (i6 v1) = some (.rp 1 a1 7 x4 0))
  apply bn h; intro x5 h5 h
  apply bn h; intro x6 h6 h
  rw [← sj h]
  exact rn [(54, .d true), (65, .v (.rp 1 a1 7 x2 0)), (66, .v (.agg ((Za x3).map .p))), (69, .v (.rp 1 a1 7 x4 0)), (70, .v (.agg ((Za x5).map .p))), (71, .v (.rp 1 a1 7 x4 0)), (1071, .r ud (Vw a1 a5 a7 a8 a9 a10 a11 a12 a13 a14 a15 a16 a17 a18 a19 a20 a21 a22 v3 x4 x3)), (72, .v (.rp 1 a1 7 x2 0)), (1072, .r ud (SL a1 a5 a7 a8 a9 a10 a11 a12 a13 a14 a15 a16 a17 a18 a19 a20 a21 a22 v3 x4 x3 x2 x5)), (6000, .d true)] (av h1 (apc q0 (apc ((Z4 rfl h3 rfl) : ldA (Vx a1 a5 a7 a8 a9 a10 a11 a12 a13 a14 a15 a16 a17 a18 a19 a20 a21 a22 v3) .true 7 (.rp 1 a1 7 x2 0) = some (.agg ((Za x3).map .p))) (apc q1 (apc ((Z4 rfl h5 rfl) : ldA (Vx a1 a5 a7 a8 a9 a10 a11 a12 a13 a14 a15 a16 a17 a18 a19 a20 a21 a22 v3) .true 7 (.rp 1 a1 7 x4 0) = some (.agg ((Za x5).map .p))) (apc q1 (apc (⟨ZV (v' := (⟨x3.kind, x3.text, x3.n, x3.kids, x3.depth, x3.way, x3.at_⟩ : ThingD)) rfl h5 rfl rfl (Nat.le_of_ble_eq_true rfl) rfl, rfl⟩ : stA (Vx a1 a5 a7 a8 a9 a10 a11 a12 a13 a14 a15 a16 a17 a18 a19 a20 a21 a22 v3) 7 (.rp 1 a1 7 x4 0) (.agg ((Za x3).map .p)) = some (Vw a1 a5 a7 a8 a9 a10 a11 a12 a13 a14 a15 a16 a17 a18 a19 a20 a21 a22 v3 x4 x3) ∧ ud = ud) (apc q0 (apc (⟨ZV (v' := (⟨x5.kind, x5.text, x5.n, x5.kids, x5.depth, x5.way, x5.at_⟩ : ThingD)) rfl h6 rfl rfl (Nat.le_of_ble_eq_true rfl) rfl, rfl⟩ : stA (Vw a1 a5 a7 a8 a9 a10 a11 a12 a13 a14 a15 a16 a17 a18 a19 a20 a21 a22 v3 x4 x3) 7 (.rp 1 a1 7 x2 0) (.agg ((Za x5).map .p)) = some (SL a1 a5 a7 a8 a9 a10 a11 a12 a13 a14 a15 a16 a17 a18 a19 a20 a21 a22 v3 x4 x3 x2 x5) ∧ ud = ud) (apc (Qe a1 a2 a5 a7 a8 a9 a10 a11 a12 a13 a14 a15 a16 a17 a18 a19 a20 a21 a22 (w6 (v1 + 1)) (w6 (v2 - 1)) ((v3.set x4 (⟨x3.kind, x3.text, x3.n, x3.kids, x3.depth, x3.way, x3.at_⟩ : ThingD)).set x2 (⟨x5.kind, x5.text, x5.n, x5.kids, x5.depth, x5.way, x5.at_⟩ : ThingD))) apn))))))))))
 ·
  rw [← sj h]
  exact xb [(54, .d false), (6000, .d true)] (av h1 apn)
theorem OF (s0 : Int × Int × (List ThingD)) (e : E_L37_0_10) (h : runL (fun s => WP a2 s.1 s.2.1 s.2.2) s0 = some e) : UB a1 a2 a5 a7 a8 a9 a10 a11 a12 a13 a14 a15 a16 a17 a18 a19 a20 a21 a22 e (YR a1 a2 a5 a7 a8 a9 a10 a11 a12 a13 a14 a15 a16 a17 a18 a19 a20 a21 a22 s0.1 s0.2.1 s0.2.2) := by
  have q := @Zg (Int × Int × (List ThingD)) E_L37_0_10 (fun s => WP a2 s.1 s.2.1 s.2.2) (fun s => YR a1 a2 a5 a7 a8 a9 a10 a11 a12 a13 a14 a15 a16 a17 a18 a19 a20 a21 a22 s.1 s.2.1 s.2.2) (UB a1 a2 a5 a7 a8 a9 a10 a11 a12 a13 a14 a15 a16 a17 a18 a19 a20 a21 a22) (fun s r h => Mk a1 a2 a5 a7 a8 a9 a10 a11 a12 a13 a14 a15 a16 a17 a18 a19 a20 a21 a22 s.1 s.2.1 s.2.2 h) s0 e h
  exact q
end
inductive R_F37_10 where
  | k0 (x0 x1 : Nat) (x2 : List ThingD)
def H7 (a1 a2 : Nat) (a3 : ThingD) (a4 a5 : Int) (a6 : BoxD) (a7 : List ThingD) (a8 : Bool) (a9 a10 a11 : Nat) (a12 : List Bool) (a13 : List Int) (a14 a15 : Int) (a16 : List Int) (a17 : Nat) (a18 : List BoxD) (a19 : ThingD) (a20 : Nat) (a21 : Int) (r : R_F37_10) : AV := match r with | .k0 x0 x1 x2 => (.sl 1 x0 7 0 x1)
def H8 (a1 a2 : Nat) (a3 : ThingD) (a4 a5 : Int) (a6 : BoxD) (a7 : List ThingD) (a8 : Bool) (a9 a10 a11 : Nat) (a12 : List Bool) (a13 : List Int) (a14 a15 : Int) (a16 : List Int) (a17 : Nat) (a18 : List BoxD) (a19 : ThingD) (a20 : Nat) (a21 : Int) (r : R_F37_10) : List AB := match r with | .k0 x0 x1 x2 => [.cells 25 ((cBx a6).map .p), yT x0 x2, .cells 66 [sp a8 2 0, .sl 3 a9 1 0 a10, .sl 1 a1 7 0 a11, ls 1 Zc a12, ls 1 eI64 a13, i6 a14, i6 a15, vb true], yU a9 a16, .row 25 4 a17 (ra cBx a18), .cells 60 ((Za a19).map .p), .row 5 1 a20 [[vi .u8 a21]], .cells 60 ((Za a3).map .p), yT0]
def OG (a1 a2 : Nat) (a3 : ThingD) (a4 a5 : Int) (a7 : List ThingD) (a13 : List Int) : Option R_F37_10 :=
  ((runL (fun s => WO a4 a5 a3 (a3.kids.length : Int) a13 s.1 s.2.1 s.2.2.1 s.2.2.2.1 s.2.2.2.2) (a1, a2, (IntKind.wrap .i64 (a3.at_ + 1)), 0, a7)).bind fun r1 => match r1 with | .k0 x1_0 x1_1 x1_2 => ((runL (fun s => WP x1_1 s.1 s.2.1 s.2.2) (((a2 : Nat) : Int), (IntKind.wrap .i64 (((x1_1 : Nat) : Int) - 1)), x1_2)).bind fun r2 => match r2 with | .k0 x2_0 => (some (.k0 x1_0 x1_1 x2_0))))
abbrev OH (g1 : Nat → AV) (x1_0 x1_1 a2 : Nat) (a3 : ThingD) (a6 : BoxD) (x1_2 : List ThingD) (a8 : Bool) (a9 a10 a1 a11 : Nat) (a12 : List Bool) (a13 : List Int) (a14 a15 : Int) (a16 : List Int) (a17 : Nat) (a18 : List BoxD) (a19 : ThingD) (a20 : Nat) (a21 : Int) : St := ⟨fr 74 g1 [(1, .sl 1 x1_0 7 0 x1_1), (12, (i6 ((a2 : Nat) : Int))), (24, (.p (.lst 4 (Zb a3.kids))))], [.cells 25 ((cBx a6).map .p), yT x1_0 x1_2, .cells 66 [sp a8 2 0, .sl 3 a9 1 0 a10, .sl 1 a1 7 0 a11, ls 1 Zc a12, ls 1 eI64 a13, i6 a14, i6 a15, vb true], yU a9 a16, .row 25 4 a17 (ra cBx a18), .cells 60 ((Za a19).map .p), .row 5 1 a20 [[vi .u8 a21]], .cells 60 ((Za a3).map .p), yT0]⟩
abbrev OI (g2 : Nat → AV) (x1_0 x1_1 : Nat) (a6 : BoxD) (x2_0 : List ThingD) (a8 : Bool) (a9 a10 a1 a11 : Nat) (a12 : List Bool) (a13 : List Int) (a14 a15 : Int) (a16 : List Int) (a17 : Nat) (a18 : List BoxD) (a19 : ThingD) (a20 : Nat) (a21 : Int) (a3 : ThingD) : St := ⟨fr 74 g2 [(1, .sl 1 x1_0 7 0 x1_1)], [.cells 25 ((cBx a6).map .p), yT x1_0 x2_0, .cells 66 [sp a8 2 0, .sl 3 a9 1 0 a10, .sl 1 a1 7 0 a11, ls 1 Zc a12, ls 1 eI64 a13, i6 a14, i6 a15, vb true], yU a9 a16, .row 25 4 a17 (ra cBx a18), .cells 60 ((Za a19).map .p), .row 5 1 a20 [[vi .u8 a21]], .cells 60 ((Za a3).map .p), yT0]⟩
theorem IH (a1 a2 : Nat) (a3 : ThingD) (a4 a5 : Int) (a6 : BoxD) (a7 : List ThingD) (a8 : Bool) (a9 a10 a11 : Nat) (a12 : List Bool) (a13 : List Int) (a14 a15 : Int) (a16 : List Int) (a17 : Nat) (a18 : List BoxD) (a19 : ThingD) (a20 : Nat) (a21 : Int) {r : R_F37_10} (h : OG a1 a2 a3 a4 a5 a7 a13 = some r) : CS prg 37 [.ptr 2 0, .sl 1 a1 7 0 a2, (.agg ((Za a3).map .p)), i6 a4, i6 a5] [.cells 25 ((cBx a6).map .p), yT a1 a7, .cells 66 [sp a8 2 0, .sl 3 a9 1 0 a10, .sl 1 a1 7 0 a11, ls 1 Zc a12, ls 1 eI64 a13, i6 a14, i6 a15, vb true], yU a9 a16, .row 25 4 a17 (ra cBx a18), .cells 60 ((Za a19).map .p), .row 5 1 a20 [[vi .u8 a21]]] = some (H7 a1 a2 a3 a4 a5 a6 a7 a8 a9 a10 a11 a12 a13 a14 a15 a16 a17 a18 a19 a20 a21 r, H8 a1 a2 a3 a4 a5 a6 a7 a8 a9 a10 a11 a12 a13 a14 a15 a16 a17 a18 a19 a20 a21 r) := by
 unfold OG at h
 apply bn h; intro r1 h1 h
 cases r1 with
 | k0 x1_0 x1_1 x1_2 =>
  obtain ⟨g1, e1⟩ := OE a1 a4 a5 ((a2 : Nat) : Int) a3 (a3.kids.length : Int) a6 a8 a9 a10 a11 a12 a13 a14 a15 a16 a17 a18 a19 a20 a21 (a1, a2, (w6 (a3.at_ + 1)), 0, a7) _ h1
  apply bn h; intro r2 h2 h
  cases r2 with
  | k0 x2_0 =>
   obtain ⟨g2, e2⟩ := OF x1_0 x1_1 a6 a8 a9 a10 a1 a11 a12 a13 a14 a15 a16 a17 a18 a19 a20 a21 a3 (((a2 : Nat) : Int), (w6 (((x1_1 : Nat) : Int) - 1)), x1_2) _ h2
   rw [← sj h]
   exact fc [(25, .v (i6 (a3.kids.length : Int))), (2000, .l (.brk 0) (OH g1 x1_0 x1_1 a2 a3 a6 x1_2 a8 a9 a10 a1 a11 a12 a13 a14 a15 a16 a17 a18 a19 a20 a21)), (2002, .l (.brk 2) (OI g2 x1_0 x1_1 a6 x2_0 a8 a9 a10 a1 a11 a12 a13 a14 a15 a16 a17 a18 a19 a20 a21 a3)), (6000, .d true)] (apc ((lgr Zr) : lnA (.p (.lst 4 (Zb a3.kids))) = some (i6 (a3.kids.length : Int))) (apc (Uz a1 a4 a5 ((a2 : Nat) : Int) a3 (a3.kids.length : Int) a6 a8 a9 a10 a11 a12 a13 a14 a15 a16 a17 a18 a19 a20 a21 a1 a2 (w6 (a3.at_ + 1)) 0 a7) (apc (e1 : YQ a1 a4 a5 ((a2 : Nat) : Int) a3 (a3.kids.length : Int) a6 a8 a9 a10 a11 a12 a13 a14 a15 a16 a17 a18 a19 a20 a21 a1 a2 (w6 (a3.at_ + 1)) 0 a7 = some ((.brk 0), OH g1 x1_0 x1_1 a2 a3 a6 x1_2 a8 a9 a10 a1 a11 a12 a13 a14 a15 a16 a17 a18 a19 a20 a21)) (apc (Qe x1_0 x1_1 a6 a8 a9 a10 a1 a11 a12 a13 a14 a15 a16 a17 a18 a19 a20 a21 a3 ((a2 : Nat) : Int) (w6 (((x1_1 : Nat) : Int) - 1)) x1_2) (apc (e2 : YR x1_0 x1_1 a6 a8 a9 a10 a1 a11 a12 a13 a14 a15 a16 a17 a18 a19 a20 a21 a3 ((a2 : Nat) : Int) (w6 (((x1_1 : Nat) : Int) - 1)) x1_2 = some ((.brk 2), OI g2 x1_0 x1_1 a6 x2_0 a8 a9 a10 a1 a11 a12 a13 a14 a15 a16 a17 a18 a19 a20 a21 a3)) apn)))))
inductive E_L37_1_11 where
  | k0 (x0 x1 : Nat) (x2 : List ThingD)
section
variable (a1 a2 : Int) (a4 : ThingD) (a5 : Int) (a6 : BoxD) (a7 : Nat) (a8 : List ThingD) (a9 : Bool) (a10 a11 a12 : Nat) (a13 : List Bool) (a14 : List Int) (a15 a16 : Int) (a17 : Bool) (a18 : List Int) (a19 : Nat) (a20 : List BoxD) (a21 a22 : ThingD)
abbrev XV (l : List AB) : List AB := .cells 25 ((cBx a6).map .p) :: yT a7 a8 :: .cells 66 [sp a9 2 0, .sl 3 a10 1 0 a11, .sl 1 a7 7 0 a12, ls 1 Zc a13, ls 1 eI64 a14, i6 a15, i6 a16, vb a17] :: yU a10 a18 :: .row 25 4 a19 (ra cBx a20) :: .cells 60 ((Za a21).map .p) :: .cells 56 [.ptr 2 0] :: .cells 60 ((Za a22).map .p) :: .cells 60 ((Za a4).map .p) :: yT0 :: l
def WQ (v1 v2 : Nat) (v3 v4 : Int) (v5 : List ThingD) : Option (E_L37_1_11 ⊕ (Nat × Nat × Int × Int × (List ThingD))) :=
  (bif (decide (v4 < a5)) then ((getI a4.kids v4).bind fun x2 => (bif (apOk v2 1 v5.length 80) then (bif (decide (v2 + 1 ≤ v5.length)) then ((getI a14 v3).bind fun x5 => (some (.inr (v1, v2 + 1, (IntKind.wrap .i64 (v3 + x5)), (IntKind.wrap .i64 (v4 + 1)), (splice v5 v2 [(⟨x2.kind, x2.text, x2.n, x2.kids, a1, a2, v3⟩ : ThingD)]))))) else ((getI a14 v3).bind fun x5 => (some (.inr ((v1 + 1), v2 + 1, (IntKind.wrap .i64 (v3 + x5)), (IntKind.wrap .i64 (v4 + 1)), (v5.take v2 ++ [(⟨x2.kind, x2.text, x2.n, x2.kids, a1, a2, v3⟩ : ThingD)])))))) else none)) else (some (.inl (.k0 v1 v2 v5))))
def Qf (v1 v2 : Nat) (v3 v4 : Int) (v5 : List ThingD) : St := ⟨fr 74 ug [(0, .ptr 2 0), (1, .sl 10 v1 7 0 v2), (3, i6 a1), (4, i6 a2), (11, i6 v3), (12, i6 0), (24, (.p (.lst 4 (Zb a4.kids)))), (25, i6 a5), (26, i6 v4)], (XV a4 a6 a7 a8 a9 a10 a11 a12 a13 a14 a15 a16 a17 a18 a19 a20 a21 a22 [yT v1 v5])⟩
theorem UC (v1 v2 : Nat) (v3 v4 : Int) (v5 : List ThingD) : okT 11 (Qf a1 a2 a4 a5 a6 a7 a8 a9 a10 a11 a12 a13 a14 a15 a16 a17 a18 a19 a20 a21 a22 v1 v2 v3 v4 v5).h = true := (ZD rfl (ac (ar (Zu (Z6 rfl (Ze rfl (Ze rfl (Ze rfl (Ze rfl (Ze rfl (Ze rfl (Ze rfl rfl)))))))) (ar (ar (ac (ac (ac (ac (ar (ar rfl))))))))))))
abbrev YS (v1 v2 : Nat) (v3 v4 : Int) (v5 : List ThingD) := evH prg 11 [0, 1, 3, 4, 11, 12, 24, 25, 26, 1000199006007] XF (Qf a1 a2 a4 a5 a6 a7 a8 a9 a10 a11 a12 a13 a14 a15 a16 a17 a18 a19 a20 a21 a22 v1 v2 v3 v4 v5)
def UD (e : E_L37_1_11) (r : Option (Out × St)) : Prop := match e with | .k0 x0 x1 x2 => ∃ g, r = some ((.brk 0), ⟨fr 74 g [(1, .sl 10 x0 7 0 x1), (12, i6 0), (24, (.p (.lst 4 (Zb a4.kids))))], (XV a4 a6 a7 a8 a9 a10 a11 a12 a13 a14 a15 a16 a17 a18 a19 a20 a21 a22 [yT x0 x2])⟩)
abbrev SM (v1 : Nat) (v5 : List ThingD) (v2 : Nat) (x2 : BoxD) (v3 : Int) : List AB := (XV a4 a6 a7 a8 a9 a10 a11 a12 a13 a14 a15 a16 a17 a18 a19 a20 a21 a22 [yT v1 (splice v5 v2 [(⟨x2.kind, x2.text, x2.n, x2.kids, a1, a2, v3⟩ : ThingD)]), .row 25 4 0 (ra cBx []), .cells 25 ((cBx x2).map .p), .row 60 7 0 [[i6 x2.kind, vs x2.text, i6 x2.n, (.p (.lst 4 (Zb x2.kids))), i6 a1, i6 a2, i6 v3]]])
abbrev SN (v1 : Nat) (v5 : List ThingD) (x2 : BoxD) (v3 : Int) : List AB := (XV a4 a6 a7 a8 a9 a10 a11 a12 a13 a14 a15 a16 a17 a18 a19 a20 a21 a22 [yT v1 v5, .row 25 4 0 (ra cBx []), .cells 25 ((cBx x2).map .p), .row 60 7 0 [[i6 x2.kind, vs x2.text, i6 x2.n, (.p (.lst 4 (Zb x2.kids))), i6 a1, i6 a2, i6 v3]]])
abbrev SO (v1 : Nat) (v5 : List ThingD) (v2 : Nat) (x2 : BoxD) (v3 : Int) : List AB := (XV a4 a6 a7 a8 a9 a10 a11 a12 a13 a14 a15 a16 a17 a18 a19 a20 a21 a22 [yT (v1 + 1) (v5.take v2 ++ [(⟨x2.kind, x2.text, x2.n, x2.kids, a1, a2, v3⟩ : ThingD)]), .row 25 4 0 (ra cBx []), .cells 25 ((cBx x2).map .p), .row 60 7 0 [[i6 x2.kind, vs x2.text, i6 x2.n, (.p (.lst 4 (Zb x2.kids))), i6 a1, i6 a2, i6 v3]]])
theorem Ml (v1 v2 : Nat) (v3 v4 : Int) (v5 : List ThingD) {r : E_L37_1_11 ⊕ (Nat × Nat × Int × Int × (List ThingD))} (h : WQ a1 a2 a4 a5 a14 v1 v2 v3 v4 v5 = some r) : OkR (fun e => UD a4 a6 a7 a8 a9 a10 a11 a12 a13 a14 a15 a16 a17 a18 a19 a20 a21 a22 e (YS a1 a2 a4 a5 a6 a7 a8 a9 a10 a11 a12 a13 a14 a15 a16 a17 a18 a19 a20 a21 a22 v1 v2 v3 v4 v5)) (fun s => YS a1 a2 a4 a5 a6 a7 a8 a9 a10 a11 a12 a13 a14 a15 a16 a17 a18 a19 a20 a21 a22 v1 v2 v3 v4 v5 = YS a1 a2 a4 a5 a6 a7 a8 a9 a10 a11 a12 a13 a14 a15 a16 a17 a18 a19 a20 a21 a22 s.1 s.2.1 s.2.2.1 s.2.2.2.1 s.2.2.2.2) r := by
 unfold WQ at h
 apply bi h <;> intro h1 h
 ·
  apply bn h; intro x2 h2 h
  have q0 := ((igr Zr h2) : idxA 4 (.p (.lst 4 (Zb a4.kids))) (i6 v4) = some (.ro (cBx x2)))
  have k1 := ka [(27, .d true), (28, .v (.ro (cBx x2)))] (av h1 (apc q0 apn))
  apply bi h <;> intro h3 h
  ·
   apply bi h <;> intro h4 h
   ·
    apply bn h; intro x5 h5 h
    rw [← sj h]
    exact rn ([(37, .r (.sl 10 v1 7 0 (v2 + 1)) (SM a1 a2 a4 a6 a7 a8 a9 a10 a11 a12 a13 a14 a15 a16 a17 a18 a19 a20 a21 a22 v1 v5 v2 x2 v3)), (44, .v (.ro [.val (.int .i64 x5)])), (6000, .d true)] ++ kH k1) (k1.b (apc ((Vr (e := Za) (xs := v5) (news := [(⟨x2.kind, x2.text, x2.n, x2.kids, a1, a2, v3⟩ : ThingD)]) rfl (ZO (e := Za) (xs := [(⟨x2.kind, x2.text, x2.n, x2.kids, a1, a2, v3⟩ : ThingD)]) rfl) rfl h3 h4) : appA (SN a1 a2 a4 a6 a7 a8 a9 a10 a11 a12 a13 a14 a15 a16 a17 a18 a19 a20 a21 a22 v1 v5 x2 v3) 60 7 80 (.sl 10 v1 7 0 v2) (.sl 13 0 7 0 1) = some ((.sl 10 v1 7 0 (v2 + 1)), SM a1 a2 a4 a6 a7 a8 a9 a10 a11 a12 a13 a14 a15 a16 a17 a18 a19 a20 a21 a22 v1 v5 v2 x2 v3)) (apc (ig eI64 1 .i64 h5) (apc (UC a1 a2 a4 a5 a6 a7 a8 a9 a10 a11 a12 a13 a14 a15 a16 a17 a18 a19 a20 a21 a22 v1 (v2 + 1) (w6 (v3 + x5)) (w6 (v4 + 1)) (splice v5 v2 [(⟨x2.kind, x2.text, x2.n, x2.kids, a1, a2, v3⟩ : ThingD)])) apn))))
   ·
    apply bn h; intro x5 h5 h
    rw [← sj h]
    exact rn ([(37, .r (.sl 10 (v1 + 1) 7 0 (v2 + 1)) (SO a1 a2 a4 a6 a7 a8 a9 a10 a11 a12 a13 a14 a15 a16 a17 a18 a19 a20 a21 a22 v1 v5 v2 x2 v3)), (44, .v (.ro [.val (.int .i64 x5)])), (6000, .d true)] ++ kH k1) (k1.b (apc ((Xf (e := Za) (xs := v5) (news := [(⟨x2.kind, x2.text, x2.n, x2.kids, a1, a2, v3⟩ : ThingD)]) rfl (ZO (e := Za) (xs := [(⟨x2.kind, x2.text, x2.n, x2.kids, a1, a2, v3⟩ : ThingD)]) rfl) rfl h3 h4) : appA (SN a1 a2 a4 a6 a7 a8 a9 a10 a11 a12 a13 a14 a15 a16 a17 a18 a19 a20 a21 a22 v1 v5 x2 v3) 60 7 80 (.sl 10 v1 7 0 v2) (.sl 13 0 7 0 1) = some ((.sl 10 (v1 + 1) 7 0 (v2 + 1)), SO a1 a2 a4 a6 a7 a8 a9 a10 a11 a12 a13 a14 a15 a16 a17 a18 a19 a20 a21 a22 v1 v5 v2 x2 v3)) (apc (ig eI64 1 .i64 h5) (apc (UC a1 a2 a4 a5 a6 a7 a8 a9 a10 a11 a12 a13 a14 a15 a16 a17 a18 a19 a20 a21 a22 (v1 + 1) (v2 + 1) (w6 (v3 + x5)) (w6 (v4 + 1)) (v5.take v2 ++ [(⟨x2.kind, x2.text, x2.n, x2.kids, a1, a2, v3⟩ : ThingD)])) apn))))
  ·
   cases h
 ·
  rw [← sj h]
  exact xb [(27, .d false), (6000, .d true)] (av h1 apn)
theorem OJ (s0 : Nat × Nat × Int × Int × (List ThingD)) (e : E_L37_1_11) (h : runL (fun s => WQ a1 a2 a4 a5 a14 s.1 s.2.1 s.2.2.1 s.2.2.2.1 s.2.2.2.2) s0 = some e) : UD a4 a6 a7 a8 a9 a10 a11 a12 a13 a14 a15 a16 a17 a18 a19 a20 a21 a22 e (YS a1 a2 a4 a5 a6 a7 a8 a9 a10 a11 a12 a13 a14 a15 a16 a17 a18 a19 a20 a21 a22 s0.1 s0.2.1 s0.2.2.1 s0.2.2.2.1 s0.2.2.2.2) := by
  have q := @Zg (Nat × Nat × Int × Int × (List ThingD)) E_L37_1_11 (fun s => WQ a1 a2 a4 a5 a14 s.1 s.2.1 s.2.2.1 s.2.2.2.1 s.2.2.2.2) (fun s => YS a1 a2 a4 a5 a6 a7 a8 a9 a10 a11 a12 a13 a14 a15 a16 a17 a18 a19 a20 a21 a22 s.1 s.2.1 s.2.2.1 s.2.2.2.1 s.2.2.2.2) (UD a4 a6 a7 a8 a9 a10 a11 a12 a13 a14 a15 a16 a17 a18 a19 a20 a21 a22) (fun s r h => Ml a1 a2 a4 a5 a6 a7 a8 a9 a10 a11 a12 a13 a14 a15 a16 a17 a18 a19 a20 a21 a22 s.1 s.2.1 s.2.2.1 s.2.2.2.1 s.2.2.2.2 h) s0 e h
  exact q
end
inductive E_L37_0_11 where
  | k0 (x0 : List ThingD)
section
variable (a1 a2 : Nat) (a4 : BoxD) (a5 : Nat) (a6 : List ThingD) (a7 : Bool) (a8 a9 a10 : Nat) (a11 : List Bool) (a12 : List Int) (a13 a14 : Int) (a15 : Bool) (a16 : List Int) (a17 : Nat) (a18 : List BoxD) (a19 a20 a21 : ThingD)
abbrev XW (l : List AB) : List AB := .cells 25 ((cBx a4).map .p) :: yT a5 a6 :: .cells 66 [sp a7 2 0, .sl 3 a8 1 0 a9, .sl 1 a5 7 0 a10, ls 1 Zc a11, ls 1 eI64 a12, i6 a13, i6 a14, vb a15] :: yU a8 a16 :: .row 25 4 a17 (ra cBx a18) :: .cells 60 ((Za a19).map .p) :: .cells 56 [.ptr 2 0] :: .cells 60 ((Za a20).map .p) :: .cells 60 ((Za a21).map .p) :: yT0 :: l
def WR (v1 v2 : Int) (v3 : List ThingD) : Option (E_L37_0_11 ⊕ (Int × Int × (List ThingD))) :=
  (bif (decide (v1 < v2)) then ((ixN a2 v2).bind fun x2 => ((v3[x2]?).bind fun x3 => ((ixN a2 v1).bind fun x4 => ((v3[x4]?).bind fun x5 => (((v3.set x4 (⟨x3.kind, x3.text, x3.n, x3.kids, x3.depth, x3.way, x3.at_⟩ : ThingD))[x2]?).bind fun x6 => (some (.inr ((IntKind.wrap .i64 (v1 + 1)), (IntKind.wrap .i64 (v2 - 1)), ((v3.set x4 (⟨x3.kind, x3.text, x3.n, x3.kids, x3.depth, x3.way, x3.at_⟩ : ThingD)).set x2 (⟨x5.kind, x5.text, x5.n, x5.kids, x5.depth, x5.way, x5.at_⟩ : ThingD)))))))))) else (some (.inl (.k0 v3))))
def Qg (v1 v2 : Int) (v3 : List ThingD) : St := ⟨fr 74 ug [(1, .sl 10 a1 7 0 a2), (15, i6 v1), (16, i6 v2)], (XW a4 a5 a6 a7 a8 a9 a10 a11 a12 a13 a14 a15 a16 a17 a18 a19 a20 a21 [yT a1 v3])⟩
theorem Qh (v1 v2 : Int) (v3 : List ThingD) : okT 11 (Qg a1 a2 a4 a5 a6 a7 a8 a9 a10 a11 a12 a13 a14 a15 a16 a17 a18 a19 a20 a21 v1 v2 v3).h = true := (ZD rfl (ac (ar (Zu (Z6 rfl (Ze rfl (Ze rfl (Ze rfl (Ze rfl (Ze rfl (Ze rfl (Ze rfl rfl)))))))) (ar (ar (ac (ac (ac (ac (ar (ar rfl))))))))))))
abbrev YT (v1 v2 : Int) (v3 : List ThingD) := evH prg 11 [1, 15, 16] XE (Qg a1 a2 a4 a5 a6 a7 a8 a9 a10 a11 a12 a13 a14 a15 a16 a17 a18 a19 a20 a21 v1 v2 v3)
def UE (e : E_L37_0_11) (r : Option (Out × St)) : Prop := match e with | .k0 x0 => ∃ g, r = some ((.brk 2), ⟨fr 74 g [(1, .sl 10 a1 7 0 a2)], (XW a4 a5 a6 a7 a8 a9 a10 a11 a12 a13 a14 a15 a16 a17 a18 a19 a20 a21 [yT a1 x0])⟩)
abbrev Vy (v3 : List ThingD) (x4 : Nat) (x3 : ThingD) : List AB := (XW a4 a5 a6 a7 a8 a9 a10 a11 a12 a13 a14 a15 a16 a17 a18 a19 a20 a21 [yT a1 (v3.set x4 (⟨x3.kind, x3.text, x3.n, x3.kids, x3.depth, x3.way, x3.at_⟩ : ThingD))])
abbrev SP (v3 : List ThingD) (x4 : Nat) (x3 : ThingD) (x2 : Nat) (x5 : ThingD) : List AB := (XW a4 a5 a6 a7 a8 a9 a10 a11 a12 a13 a14 a15 a16 a17 a18 a19 a20 a21 [yT a1 ((v3.set x4 (⟨x3.kind, x3.text, x3.n, x3.kids, x3.depth, x3.way, x3.at_⟩ : ThingD)).set x2 (⟨x5.kind, x5.text, x5.n, x5.kids, x5.depth, x5.way, x5.at_⟩ : ThingD))])
abbrev Vz (v3 : List ThingD) : List AB := (XW a4 a5 a6 a7 a8 a9 a10 a11 a12 a13 a14 a15 a16 a17 a18 a19 a20 a21 [yT a1 v3])
theorem Mm (v1 v2 : Int) (v3 : List ThingD) {r : E_L37_0_11 ⊕ (Int × Int × (List ThingD))} (h : WR a2 v1 v2 v3 = some r) : OkR (fun e => UE a1 a2 a4 a5 a6 a7 a8 a9 a10 a11 a12 a13 a14 a15 a16 a17 a18 a19 a20 a21 e (YT a1 a2 a4 a5 a6 a7 a8 a9 a10 a11 a12 a13 a14 a15 a16 a17 a18 a19 a20 a21 v1 v2 v3)) (fun s => YT a1 a2 a4 a5 a6 a7 a8 a9 a10 a11 a12 a13 a14 a15 a16 a17 a18 a19 a20 a21 v1 v2 v3 = YT a1 a2 a4 a5 a6 a7 a8 a9 a10 a11 a12 a13 a14 a15 a16 a17 a18 a19 a20 a21 s.1 s.2.1 s.2.2) r := by
 unfold WR at h
 apply bi h <;> intro h1 h
 ·
  apply bn h; intro x2 h2 h
  have q0 := ((ZL h2) : idxA 7 (.sl 10 a1 7 0 a2) (i6 v2) = some (.rp 10 a1 7 x2 0))
  apply bn h; intro x3 h3 h
  apply bn h; intro x4 h4 h
  have q1 := ((ZL h4) : idxA 7 (.sl 10 a1 7 0 a2) (i6 v1) = some (.rp 10 a1 7 x4 0))
  apply bn h; intro x5 h5 h
  apply bn h; intro x6 h6 h
  rw [← sj h]
  exact rn [(54, .d true), (65, .v (.rp 10 a1 7 x2 0)), (66, .v (.agg ((Za x3).map .p))), (69, .v (.rp 10 a1 7 x4 0)), (70, .v (.agg ((Za x5).map .p))), (71, .v (.rp 10 a1 7 x4 0)), (1071, .r ud (Vy a1 a4 a5 a6 a7 a8 a9 a10 a11 a12 a13 a14 a15 a16 a17 a18 a19 a20 a21 v3 x4 x3)), (72, .v (.rp 10 a1 7 x2 0)), (1072, .r ud (SP a1 a4 a5 a6 a7 a8 a9 a10 a11 a12 a13 a14 a15 a16 a17 a18 a19 a20 a21 v3 x4 x3 x2 x5)), (6000, .d true)] (av h1 (apc q0 (apc ((Z4 rfl h3 rfl) : ldA (Vz a1 a4 a5 a6 a7 a8 a9 a10 a11 a12 a13 a14 a15 a16 a17 a18 a19 a20 a21 v3) .true 7 (.rp 10 a1 7 x2 0) = some (.agg ((Za x3).map .p))) (apc q1 (apc ((Z4 rfl h5 rfl) : ldA (Vz a1 a4 a5 a6 a7 a8 a9 a10 a11 a12 a13 a14 a15 a16 a17 a18 a19 a20 a21 v3) .true 7 (.rp 10 a1 7 x4 0) = some (.agg ((Za x5).map .p))) (apc q1 (apc (⟨ZV (v' := (⟨x3.kind, x3.text, x3.n, x3.kids, x3.depth, x3.way, x3.at_⟩ : ThingD)) rfl h5 rfl rfl (Nat.le_of_ble_eq_true rfl) rfl, rfl⟩ : stA (Vz a1 a4 a5 a6 a7 a8 a9 a10 a11 a12 a13 a14 a15 a16 a17 a18 a19 a20 a21 v3) 7 (.rp 10 a1 7 x4 0) (.agg ((Za x3).map .p)) = some (Vy a1 a4 a5 a6 a7 a8 a9 a10 a11 a12 a13 a14 a15 a16 a17 a18 a19 a20 a21 v3 x4 x3) ∧ ud = ud) (apc q0 (apc (⟨ZV (v' := (⟨x5.kind, x5.text, x5.n, x5.kids, x5.depth, x5.way, x5.at_⟩ : ThingD)) rfl h6 rfl rfl (Nat.le_of_ble_eq_true rfl) rfl, rfl⟩ : stA (Vy a1 a4 a5 a6 a7 a8 a9 a10 a11 a12 a13 a14 a15 a16 a17 a18 a19 a20 a21 v3 x4 x3) 7 (.rp 10 a1 7 x2 0) (.agg ((Za x5).map .p)) = some (SP a1 a4 a5 a6 a7 a8 a9 a10 a11 a12 a13 a14 a15 a16 a17 a18 a19 a20 a21 v3 x4 x3 x2 x5) ∧ ud = ud) (apc (Qh a1 a2 a4 a5 a6 a7 a8 a9 a10 a11 a12 a13 a14 a15 a16 a17 a18 a19 a20 a21 (w6 (v1 + 1)) (w6 (v2 - 1)) ((v3.set x4 (⟨x3.kind, x3.text, x3.n, x3.kids, x3.depth, x3.way, x3.at_⟩ : ThingD)).set x2 (⟨x5.kind, x5.text, x5.n, x5.kids, x5.depth, x5.way, x5.at_⟩ : ThingD))) apn))))))))))
 ·
  rw [← sj h]
  exact xb [(54, .d false), (6000, .d true)] (av h1 apn)
theorem OK (s0 : Int × Int × (List ThingD)) (e : E_L37_0_11) (h : runL (fun s => WR a2 s.1 s.2.1 s.2.2) s0 = some e) : UE a1 a2 a4 a5 a6 a7 a8 a9 a10 a11 a12 a13 a14 a15 a16 a17 a18 a19 a20 a21 e (YT a1 a2 a4 a5 a6 a7 a8 a9 a10 a11 a12 a13 a14 a15 a16 a17 a18 a19 a20 a21 s0.1 s0.2.1 s0.2.2) := by
  have q := @Zg (Int × Int × (List ThingD)) E_L37_0_11 (fun s => WR a2 s.1 s.2.1 s.2.2) (fun s => YT a1 a2 a4 a5 a6 a7 a8 a9 a10 a11 a12 a13 a14 a15 a16 a17 a18 a19 a20 a21 s.1 s.2.1 s.2.2) (UE a1 a2 a4 a5 a6 a7 a8 a9 a10 a11 a12 a13 a14 a15 a16 a17 a18 a19 a20 a21) (fun s r h => Mm a1 a2 a4 a5 a6 a7 a8 a9 a10 a11 a12 a13 a14 a15 a16 a17 a18 a19 a20 a21 s.1 s.2.1 s.2.2 h) s0 e h
  exact q
end
end
end Go.Proofs.Try
