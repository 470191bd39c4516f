/- Decompiled by a program: functions as plain data see them, part 1. -/
import Derived.Test.YtefbhnhekkncpaaW3
namespace Go.Proofs.Try
set_option linter.unusedSimpArgs false
set_option linter.unusedVariables false
set_option maxHeartbeats 4000000
open Go Go.Vs
noncomputable section
def IR (a1 : BoxD) (a2 : Int) (x0 : Int) : AV := (i6 x0)
abbrev Vz := BoxD → Int → Option Int
abbrev Ps (f : Vz) : Prop := ∀ (a1 : BoxD) (a2 : Int) {r : Int}, f a1 a2 = some r → PR1 prg 12 [(.agg ((cBx a1).map .p)), i6 a2] (IR a1 a2 r)
inductive E_L12_0_2 where
  | k0 (x0 : Int)
def X9 (rF12_2 : Vz) (a1 : Int) (a3 : BoxD) (v1 v2 : Int) : Option (E_L12_0_2 ⊕ (Int × Int)) :=
  (bif (decide (v2 < (a3.kids.length : Int))) then (bif (decide (v1 ≤ a1)) then ((getI a3.kids v2).bind fun x3 => ((rF12_2 x3 (IntKind.wrap .i64 (a1 - v1))).bind fun x4 => (some (.inr ((IntKind.wrap .i64 (v1 + x4)), (IntKind.wrap .i64 (v2 + 1))))))) else (some (.inl (.k0 v1)))) else (some (.inl (.k0 v1))))
def OA (a1 : Int) (a3 : BoxD) (v1 v2 : Int) : St := ⟨fr 35 ug [(1, i6 a1), (2, .ptr 0 0), (5, i6 v1), (6, i6 v2)], [.cells 25 ((cBx a3).map .p)]⟩
theorem OB (a1 : Int) (a3 : BoxD) (v1 v2 : Int) : okT 1 (OA a1 a3 v1 v2).h = true := (ZA rfl (ac rfl))
abbrev XQ (a1 : Int) (a3 : BoxD) (v1 v2 : Int) := evH prg 1 [1, 2, 5, 6] II (OA a1 a3 v1 v2)
def Sm (a1 : Int) (a3 : BoxD) (e : E_L12_0_2) (r : Option (Out × St)) : Prop := match e with | .k0 x0 => ∃ g, r = some ((.brk 0), ⟨fr 35 g [(2, .ptr 0 0), (5, i6 x0)], [.cells 25 ((cBx a3).map .p)]⟩)
theorem Ja (rF12_2 : Vz) (hF12_2 : Ps rF12_2) (a1 : Int) (a3 : BoxD) (v1 v2 : Int) {r : E_L12_0_2 ⊕ (Int × Int)} (h : X9 rF12_2 a1 a3 v1 v2 = some r) : OkR (fun e => Sm a1 a3 e (XQ a1 a3 v1 v2)) (fun s => XQ a1 a3 v1 v2 = XQ a1 a3 s.1 s.2) r := by
 unfold X9 at h
 have q0 := ((lgr Zy) : lnA (.p (.lst 4 (Zb a3.kids))) = some (i6 (a3.kids.length : Int)))
 apply bi h <;> intro h1 h
 ·
  have k1 := ka [(14, .v (i6 (a3.kids.length : Int))), (15, .d true)] (apc q0 (av h1 apn))
  apply bi h <;> intro h2 h
  ·
   apply bn h; intro x3 h3 h
   apply bn h; intro x4 h4 h
   rw [← sj h]
   exact rn ([(19, .d true), (27, .v (.ro (cBx x3))), (32, .v (i6 x4)), (6000, .d true)] ++ kH k1) (k1.b (av h2 (apc ((igr Zy h3) : idxA 4 (.p (.lst 4 (Zb a3.kids))) (i6 v2) = some (.ro (cBx x3))) (apc (((hF12_2 x3 (w6 (a1 - v1)) h4).cp rfl _) : CP prg 12 [(.agg ((cBx x3).map .p)), (i6 (w6 (a1 - v1)))] [.cells 25 ((cBx a3).map .p)] = some (i6 x4)) (apc (OB a1 a3 (w6 (v1 + x4)) (w6 (v2 + 1))) apn)))))
  ·
   rw [← sj h]
   exact xb ([(19, .d false), (6000, .d true)] ++ kH k1) (k1.b (av h2 apn))
 ·
  rw [← sj h]
  exact xb [(14, .v (i6 (a3.kids.length : Int))), (15, .d false), (6000, .d true)] (apc q0 (av h1 apn))
theorem Mp (rF12_2 : Vz) (hF12_2 : Ps rF12_2) (a1 : Int) (a3 : BoxD) (s0 : Int × Int) (e : E_L12_0_2) (h : runL (fun s => X9 rF12_2 a1 a3 s.1 s.2) s0 = some e) : Sm a1 a3 e (XQ a1 a3 s0.1 s0.2) := by
  have q := @Zg (Int × Int) E_L12_0_2 (fun s => X9 rF12_2 a1 a3 s.1 s.2) (fun s => XQ a1 a3 s.1 s.2) (Sm a1 a3) (fun s r h => Ja rF12_2 hF12_2 a1 a3 s.1 s.2 h) s0 e h
  exact q
def So (rF12_2 : Vz) (a1 : BoxD) (a2 : Int) : Option Int :=
  ((runL (fun s => X9 rF12_2 a2 a1 s.1 s.2) ((IntKind.wrap .i64 (1 + (a1.text.size : Int))), 0)).bind fun r1 => match r1 with | .k0 x1_0 => (some x1_0))
abbrev LI (g1 : Nat → AV) (x1_0 : Int) (a1 : BoxD) : St := ⟨fr 35 g1 [(2, .ptr 0 0), (5, i6 x1_0)], [.cells 25 ((cBx a1).map .p)]⟩
theorem IS (rF12_2 : Vz) (hF12_2 : Ps rF12_2) (a1 : BoxD) (a2 : Int) {r : Int} (h : So rF12_2 a1 a2 = some r) : PR1 prg 12 [(.agg ((cBx a1).map .p)), i6 a2] (IR a1 a2 r) := by
 unfold So at h
 apply bn h; intro r1 h1 h
 cases r1 with
 | k0 x1_0 =>
  obtain ⟨g1, e1⟩ := Mp rF12_2 hF12_2 a2 a1 ((w6 (1 + (a1.text.size : Int))), 0) _ h1
  rw [← sj h]
  exact fq [(2000, .l (.brk 0) (LI g1 x1_0 a1)), (6000, .d true)] (apc (OB a2 a1 (w6 (1 + (a1.text.size : Int))) 0) (apc (e1 : XQ a2 a1 (w6 (1 + (a1.text.size : Int))) 0 = some ((.brk 0), LI g1 x1_0 a1)) apn))
def Mq : Nat → Vz
  | 0 => fun _ _ => none
  | Nf + 1 => So (Mq Nf)
theorem Gu (Nf : Nat) : Ps (Mq Nf) := by
  induction Nf with
  | zero => intro a1 a2 r h; have h : (none : Option Int) = some r := h; cases h
  | succ Nf ih => intro a1 a2 r h; exact IS (Mq Nf) ih a1 a2 h
def F5_v (a1 : BoxD) (x0 : Bool) : AV := (vb x0)
def F5 (Nf : Nat) (a1 : BoxD) : Option Bool :=
  ((Mq Nf a1 3000).bind fun x1 => (some (decide (x1 ≤ 3000))))
theorem CG (Nf : Nat) (a1 : BoxD) {r : Bool} (h : F5 Nf a1 = some r) : PR1 prg 5 [(.agg ((cBx a1).map .p))] (F5_v a1 r) := by
 unfold F5 at h
 apply bn h; intro x1 h1 h
 rw [← sj h]
 exact fq [(4, .v (i6 x1))] (apc (((Gu Nf a1 3000 h1).cp rfl _) : CP prg 12 [(.agg ((cBx a1).map .p)), i6 3000] [.cells 25 ((cBx a1).map .p)] = some (i6 x1)) apn)
def CH (a1 : BoxD) (x0 : Bool) : AV := (vb x0)
abbrev Wa := BoxD → Option Bool
abbrev Tf (f : Wa) : Prop := ∀ (a1 : BoxD) {r : Bool}, f a1 = some r → PR1 prg 25 [(.agg ((cBx a1).map .p))] (CH a1 r)
inductive E_L25_0 where
  | k0
  | k1
def Pt (rF25 : Wa) (a1 : BoxD) (a2 : Int) (v1 : Int) : Option (E_L25_0 ⊕ (Int)) :=
  (bif (decide (v1 < a2)) then ((getI a1.kids v1).bind fun x2 => ((rF25 x2).bind fun x3 => (bif x3 then (some (.inr ((IntKind.wrap .i64 (v1 + 1))))) else (some (.inl (.k0)))))) else (some (.inl (.k1))))
def IT (a1 : BoxD) (a2 : Int) (v1 : Int) : St := ⟨fr 76 ug [(66, (.p (.lst 4 (Zb a1.kids)))), (67, i6 a2), (68, i6 v1)], [.cells 25 ((cBx a1).map .p), .row 25 4 0 (ra cBx []), .cells 25 [i6 a1.kind, vs a1.text, i6 0, n0]]⟩
theorem Mr (a1 : BoxD) (a2 : Int) (v1 : Int) : okT 3 (IT a1 a2 v1).h = true := (ZA rfl (ac (ar (ac rfl))))
abbrev VA (a1 : BoxD) (a2 : Int) (v1 : Int) := evH prg 3 [66, 67, 68] Ux (IT a1 a2 v1)
def Ms (a1 : BoxD) (a2 : Int) (e : E_L25_0) (r : Option (Out × St)) : Prop := match e with | .k0 => ∃ g y, r = some (.ret, ⟨fr 76 g [(2, vb false)], y⟩) | .k1 => ∃ g, r = some ((.brk 7), ⟨fr 76 g [(66, (.p (.lst 4 (Zb a1.kids))))], [.cells 25 ((cBx a1).map .p), .row 25 4 0 (ra cBx []), .cells 25 [i6 a1.kind, vs a1.text, i6 0, n0]]⟩)
abbrev LJ (a1 x2 : BoxD) : List AB := [.cells 25 ((cBx a1).map .p), .row 25 4 0 (ra cBx []), .cells 25 [i6 a1.kind, vs a1.text, i6 0, n0], .row 25 4 0 (ra cBx []), .cells 25 ((cBx x2).map .p)]
theorem Gv (rF25 : Wa) (hF25 : Tf rF25) (a1 : BoxD) (a2 : Int) (v1 : Int) {r : E_L25_0 ⊕ (Int)} (h : Pt rF25 a1 a2 v1 = some r) : OkR (fun e => Ms a1 a2 e (VA a1 a2 v1)) (fun s => VA a1 a2 v1 = VA a1 a2 s) r := by
 unfold Pt at h
 apply bi h <;> intro h1 h
 ·
  apply bn h; intro x2 h2 h
  have q0 := ((igr Zy h2) : idxA 4 (.p (.lst 4 (Zb a1.kids))) (i6 v1) = some (.ro (cBx x2)))
  have k1 := ka [(69, .d true), (70, .v (.ro (cBx x2)))] (av h1 (apc q0 apn))
  apply bn h; intro x3 h3 h
  apply bi h <;> intro h4 h
  ·
   rw [← sj h]
   exact rn ([(73, .v (vb true)), (6000, .d true)] ++ kH k1) (k1.b (apc ((((hF25 x2 h3).cp rfl _).trans (congrArg (fun z => some (vb z)) h4)) : CP prg 25 [(.agg ((cBx x2).map .p))] (LJ a1 x2) = some (vb true)) (apc (Mr a1 a2 (w6 (v1 + 1))) apn)))
  ·
   rw [← sj h]
   exact xy ([(73, .v (vb false)), (6000, .d true)] ++ kH k1) (k1.b (apc ((((hF25 x2 h3).cp rfl _).trans (congrArg (fun z => some (vb z)) h4)) : CP prg 25 [(.agg ((cBx x2).map .p))] (LJ a1 x2) = some (vb false)) apn))
 ·
  rw [← sj h]
  exact xb [(69, .d false), (6000, .d true)] (av h1 apn)
theorem OC (rF25 : Wa) (hF25 : Tf rF25) (a1 : BoxD) (a2 : Int) (s0 : Int) (e : E_L25_0) (h : runL (fun s => Pt rF25 a1 a2 s) s0 = some e) : Ms a1 a2 e (VA a1 a2 s0) := by
  have q := @Zg (Int) E_L25_0 (fun s => Pt rF25 a1 a2 s) (fun s => VA a1 a2 s) (Ms a1 a2) (fun s r h => Gv rF25 hF25 a1 a2 s h) s0 e h
  exact q
inductive E_L25_0_2 where
  | k0
  | k1
def Wb (rF25 : Wa) (a1 : BoxD) (a2 : Int) (v1 : Int) : Option (E_L25_0_2 ⊕ (Int)) :=
  (bif (decide (v1 < a2)) then ((getI a1.kids v1).bind fun x2 => ((rF25 x2).bind fun x3 => (bif x3 then (some (.inr ((IntKind.wrap .i64 (v1 + 1))))) else (some (.inl (.k0)))))) else (some (.inl (.k1))))
def OD (a1 : BoxD) (a2 : Int) (v1 : Int) : St := ⟨fr 76 ug [(66, (.p (.lst 4 (Zb a1.kids)))), (67, i6 a2), (68, i6 v1)], [.cells 25 ((cBx a1).map .p), .row 25 4 0 (ra cBx []), .cells 25 [i6 a1.kind, (vs (⟨([] : List UInt8).toArray⟩ : ByteArray)), i6 a1.n, (.p (.lst 4 (Zb a1.kids)))]]⟩
theorem Sp (a1 : BoxD) (a2 : Int) (v1 : Int) : okT 3 (OD a1 a2 v1).h = true := (ZA rfl (ac (ar (ac rfl))))
abbrev Xb (a1 : BoxD) (a2 : Int) (v1 : Int) := evH prg 3 [66, 67, 68] Ux (OD a1 a2 v1)
def Sq (a1 : BoxD) (a2 : Int) (e : E_L25_0_2) (r : Option (Out × St)) : Prop := match e with | .k0 => ∃ g y, r = some (.ret, ⟨fr 76 g [(2, vb false)], y⟩) | .k1 => ∃ g, r = some ((.brk 7), ⟨fr 76 g [(66, (.p (.lst 4 (Zb a1.kids))))], [.cells 25 ((cBx a1).map .p), .row 25 4 0 (ra cBx []), .cells 25 [i6 a1.kind, (vs (⟨([] : List UInt8).toArray⟩ : ByteArray)), i6 a1.n, (.p (.lst 4 (Zb a1.kids)))]]⟩)
abbrev R8 (a1 x2 : BoxD) : List AB := [.cells 25 ((cBx a1).map .p), .row 25 4 0 (ra cBx []), .cells 25 [i6 a1.kind, (vs (⟨([] : List UInt8).toArray⟩ : ByteArray)), i6 a1.n, (.p (.lst 4 (Zb a1.kids)))], .row 25 4 0 (ra cBx []), .cells 25 ((cBx x2).map .p)]
theorem Jb (rF25 : Wa) (hF25 : Tf rF25) (a1 : BoxD) (a2 : Int) (v1 : Int) {r : E_L25_0_2 ⊕ (Int)} (h : Wb rF25 a1 a2 v1 = some r) : OkR (fun e => Sq a1 a2 e (Xb a1 a2 v1)) (fun s => Xb a1 a2 v1 = Xb a1 a2 s) r := by
 unfold Wb at h
 apply bi h <;> intro h1 h
 ·
  apply bn h; intro x2 h2 h
  have q0 := ((igr Zy h2) : idxA 4 (.p (.lst 4 (Zb a1.kids))) (i6 v1) = some (.ro (cBx x2)))
  have k1 := ka [(69, .d true), (70, .v (.ro (cBx x2)))] (av h1 (apc q0 apn))
  apply bn h; intro x3 h3 h
  apply bi h <;> intro h4 h
  ·
   rw [← sj h]
   exact rn ([(73, .v (vb true)), (6000, .d true)] ++ kH k1) (k1.b (apc ((((hF25 x2 h3).cp rfl _).trans (congrArg (fun z => some (vb z)) h4)) : CP prg 25 [(.agg ((cBx x2).map .p))] (R8 a1 x2) = some (vb true)) (apc (Sp a1 a2 (w6 (v1 + 1))) apn)))
  ·
   rw [← sj h]
   exact xy ([(73, .v (vb false)), (6000, .d true)] ++ kH k1) (k1.b (apc ((((hF25 x2 h3).cp rfl _).trans (congrArg (fun z => some (vb z)) h4)) : CP prg 25 [(.agg ((cBx x2).map .p))] (R8 a1 x2) = some (vb false)) apn))
 ·
  rw [← sj h]
  exact xb [(69, .d false), (6000, .d true)] (av h1 apn)
theorem Sr (rF25 : Wa) (hF25 : Tf rF25) (a1 : BoxD) (a2 : Int) (s0 : Int) (e : E_L25_0_2) (h : runL (fun s => Wb rF25 a1 a2 s) s0 = some e) : Sq a1 a2 e (Xb a1 a2 s0) := by
  have q := @Zg (Int) E_L25_0_2 (fun s => Wb rF25 a1 a2 s) (fun s => Xb a1 a2 s) (Sq a1 a2) (fun s r h => Jb rF25 hF25 a1 a2 s h) s0 e h
  exact q
inductive E_L25_0_3 where
  | k0
  | k1
def Wc (rF25 : Wa) (a1 : BoxD) (a2 : Int) (v1 : Int) : Option (E_L25_0_3 ⊕ (Int)) :=
  (bif (decide (v1 < a2)) then ((getI a1.kids v1).bind fun x2 => ((rF25 x2).bind fun x3 => (bif x3 then (some (.inr ((IntKind.wrap .i64 (v1 + 1))))) else (some (.inl (.k0)))))) else (some (.inl (.k1))))
def OE (a1 : BoxD) (a2 : Int) (v1 : Int) : St := ⟨fr 76 ug [(66, (.p (.lst 4 (Zb a1.kids)))), (67, i6 a2), (68, i6 v1)], [.cells 25 ((cBx a1).map .p), .row 25 4 0 (ra cBx []), .cells 25 [i6 a1.kind, (vs (⟨([] : List UInt8).toArray⟩ : ByteArray)), i6 a1.n, n0]]⟩
theorem Ss (a1 : BoxD) (a2 : Int) (v1 : Int) : okT 3 (OE a1 a2 v1).h = true := (ZA rfl (ac (ar (ac rfl))))
abbrev Xc (a1 : BoxD) (a2 : Int) (v1 : Int) := evH prg 3 [66, 67, 68] Ux (OE a1 a2 v1)
def Su (a1 : BoxD) (a2 : Int) (e : E_L25_0_3) (r : Option (Out × St)) : Prop := match e with | .k0 => ∃ g y, r = some (.ret, ⟨fr 76 g [(2, vb false)], y⟩) | .k1 => ∃ g, r = some ((.brk 7), ⟨fr 76 g [(66, (.p (.lst 4 (Zb a1.kids))))], [.cells 25 ((cBx a1).map .p), .row 25 4 0 (ra cBx []), .cells 25 [i6 a1.kind, (vs (⟨([] : List UInt8).toArray⟩ : ByteArray)), i6 a1.n, n0]]⟩)
abbrev R9 (a1 x2 : BoxD) : List AB := [.cells 25 ((cBx a1).map .p), .row 25 4 0 (ra cBx []), .cells 25 [i6 a1.kind, (vs (⟨([] : List UInt8).toArray⟩ : ByteArray)), i6 a1.n, n0], .row 25 4 0 (ra cBx []), .cells 25 ((cBx x2).map .p)]
theorem Jc (rF25 : Wa) (hF25 : Tf rF25) (a1 : BoxD) (a2 : Int) (v1 : Int) {r : E_L25_0_3 ⊕ (Int)} (h : Wc rF25 a1 a2 v1 = some r) : OkR (fun e => Su a1 a2 e (Xc a1 a2 v1)) (fun s => Xc a1 a2 v1 = Xc a1 a2 s) r := by
 unfold Wc at h
 apply bi h <;> intro h1 h
 ·
  apply bn h; intro x2 h2 h
  have q0 := ((igr Zy h2) : idxA 4 (.p (.lst 4 (Zb a1.kids))) (i6 v1) = some (.ro (cBx x2)))
  have k1 := ka [(69, .d true), (70, .v (.ro (cBx x2)))] (av h1 (apc q0 apn))
  apply bn h; intro x3 h3 h
  apply bi h <;> intro h4 h
  ·
   rw [← sj h]
   exact rn ([(73, .v (vb true)), (6000, .d true)] ++ kH k1) (k1.b (apc ((((hF25 x2 h3).cp rfl _).trans (congrArg (fun z => some (vb z)) h4)) : CP prg 25 [(.agg ((cBx x2).map .p))] (R9 a1 x2) = some (vb true)) (apc (Ss a1 a2 (w6 (v1 + 1))) apn)))
  ·
   rw [← sj h]
   exact xy ([(73, .v (vb false)), (6000, .d true)] ++ kH k1) (k1.b (apc ((((hF25 x2 h3).cp rfl _).trans (congrArg (fun z => some (vb z)) h4)) : CP prg 25 [(.agg ((cBx x2).map .p))] (R9 a1 x2) = some (vb false)) apn))
 ·
  rw [← sj h]
  exact xb [(69, .d false), (6000, .d true)] (av h1 apn)
theorem Sv (rF25 : Wa) (hF25 : Tf rF25) (a1 : BoxD) (a2 : Int) (s0 : Int) (e : E_L25_0_3) (h : runL (fun s => Wc rF25 a1 a2 s) s0 = some e) : Su a1 a2 e (Xc a1 a2 s0) := by
  have q := @Zg (Int) E_L25_0_3 (fun s => Wc rF25 a1 a2 s) (fun s => Xc a1 a2 s) (Su a1 a2) (fun s r h => Jc rF25 hF25 a1 a2 s h) s0 e h
  exact q
inductive E_L25_0_4 where
  | k0
  | k1
def XA (rF25 : Wa) (a1 : BoxD) (a2 : Int) (v1 : Int) : Option (E_L25_0_4 ⊕ (Int)) :=
  (bif (decide (v1 < a2)) then ((getI a1.kids v1).bind fun x2 => ((rF25 x2).bind fun x3 => (bif x3 then (some (.inr ((IntKind.wrap .i64 (v1 + 1))))) else (some (.inl (.k0)))))) else (some (.inl (.k1))))
def OF (a1 : BoxD) (a2 : Int) (v1 : Int) : St := ⟨fr 76 ug [(66, (.p (.lst 4 (Zb a1.kids)))), (67, i6 a2), (68, i6 v1)], [.cells 25 ((cBx a1).map .p), .row 25 4 0 (ra cBx []), .cells 25 [i6 a1.kind, (vs (⟨([] : List UInt8).toArray⟩ : ByteArray)), i6 0, (.p (.lst 4 (Zb a1.kids)))]]⟩
theorem WA (a1 : BoxD) (a2 : Int) (v1 : Int) : okT 3 (OF a1 a2 v1).h = true := (ZA rfl (ac (ar (ac rfl))))
abbrev Yh (a1 : BoxD) (a2 : Int) (v1 : Int) := evH prg 3 [66, 67, 68] Ux (OF a1 a2 v1)
def Sw (a1 : BoxD) (a2 : Int) (e : E_L25_0_4) (r : Option (Out × St)) : Prop := match e with | .k0 => ∃ g y, r = some (.ret, ⟨fr 76 g [(2, vb false)], y⟩) | .k1 => ∃ g, r = some ((.brk 7), ⟨fr 76 g [(66, (.p (.lst 4 (Zb a1.kids))))], [.cells 25 ((cBx a1).map .p), .row 25 4 0 (ra cBx []), .cells 25 [i6 a1.kind, (vs (⟨([] : List UInt8).toArray⟩ : ByteArray)), i6 0, (.p (.lst 4 (Zb a1.kids)))]]⟩)
abbrev Qa (a1 x2 : BoxD) : List AB := [.cells 25 ((cBx a1).map .p), .row 25 4 0 (ra cBx []), .cells 25 [i6 a1.kind, (vs (⟨([] : List UInt8).toArray⟩ : ByteArray)), i6 0, (.p (.lst 4 (Zb a1.kids)))], .row 25 4 0 (ra cBx []), .cells 25 ((cBx x2).map .p)]
theorem Jd (rF25 : Wa) (hF25 : Tf rF25) (a1 : BoxD) (a2 : Int) (v1 : Int) {r : E_L25_0_4 ⊕ (Int)} (h : XA rF25 a1 a2 v1 = some r) : OkR (fun e => Sw a1 a2 e (Yh a1 a2 v1)) (fun s => Yh a1 a2 v1 = Yh a1 a2 s) r := by
 unfold XA at h
 apply bi h <;> intro h1 h
 ·
  apply bn h; intro x2 h2 h
  have q0 := ((igr Zy h2) : idxA 4 (.p (.lst 4 (Zb a1.kids))) (i6 v1) = some (.ro (cBx x2)))
  have k1 := ka [(69, .d true), (70, .v (.ro (cBx x2)))] (av h1 (apc q0 apn))
  apply bn h; intro x3 h3 h
  apply bi h <;> intro h4 h
  ·
   rw [← sj h]
   exact rn ([(73, .v (vb true)), (6000, .d true)] ++ kH k1) (k1.b (apc ((((hF25 x2 h3).cp rfl _).trans (congrArg (fun z => some (vb z)) h4)) : CP prg 25 [(.agg ((cBx x2).map .p))] (Qa a1 x2) = some (vb true)) (apc (WA a1 a2 (w6 (v1 + 1))) apn)))
  ·
   rw [← sj h]
   exact xy ([(73, .v (vb false)), (6000, .d true)] ++ kH k1) (k1.b (apc ((((hF25 x2 h3).cp rfl _).trans (congrArg (fun z => some (vb z)) h4)) : CP prg 25 [(.agg ((cBx x2).map .p))] (Qa a1 x2) = some (vb false)) apn))
 ·
  rw [← sj h]
  exact xb [(69, .d false), (6000, .d true)] (av h1 apn)
theorem Wd (rF25 : Wa) (hF25 : Tf rF25) (a1 : BoxD) (a2 : Int) (s0 : Int) (e : E_L25_0_4) (h : runL (fun s => XA rF25 a1 a2 s) s0 = some e) : Sw a1 a2 e (Yh a1 a2 s0) := by
  have q := @Zg (Int) E_L25_0_4 (fun s => XA rF25 a1 a2 s) (fun s => Yh a1 a2 s) (Sw a1 a2) (fun s r h => Jd rF25 hF25 a1 a2 s h) s0 e h
  exact q
inductive E_L25_0_5 where
  | k0
  | k1
def We (rF25 : Wa) (a1 : BoxD) (a2 : Int) (v1 : Int) : Option (E_L25_0_5 ⊕ (Int)) :=
  (bif (decide (v1 < a2)) then ((getI a1.kids v1).bind fun x2 => ((rF25 x2).bind fun x3 => (bif x3 then (some (.inr ((IntKind.wrap .i64 (v1 + 1))))) else (some (.inl (.k0)))))) else (some (.inl (.k1))))
def OG (a1 : BoxD) (a2 : Int) (v1 : Int) : St := ⟨fr 76 ug [(66, (.p (.lst 4 (Zb a1.kids)))), (67, i6 a2), (68, i6 v1)], [.cells 25 ((cBx a1).map .p), .row 25 4 0 (ra cBx []), .cells 25 [i6 a1.kind, (vs (⟨([] : List UInt8).toArray⟩ : ByteArray)), i6 0, n0]]⟩
theorem Sy (a1 : BoxD) (a2 : Int) (v1 : Int) : okT 3 (OG a1 a2 v1).h = true := (ZA rfl (ac (ar (ac rfl))))
abbrev Xd (a1 : BoxD) (a2 : Int) (v1 : Int) := evH prg 3 [66, 67, 68] Ux (OG a1 a2 v1)
def Sz (a1 : BoxD) (a2 : Int) (e : E_L25_0_5) (r : Option (Out × St)) : Prop := match e with | .k0 => ∃ g y, r = some (.ret, ⟨fr 76 g [(2, vb false)], y⟩) | .k1 => ∃ g, r = some ((.brk 7), ⟨fr 76 g [(66, (.p (.lst 4 (Zb a1.kids))))], [.cells 25 ((cBx a1).map .p), .row 25 4 0 (ra cBx []), .cells 25 [i6 a1.kind, (vs (⟨([] : List UInt8).toArray⟩ : ByteArray)), i6 0, n0]]⟩)
abbrev Qb (a1 x2 : BoxD) : List AB := [.cells 25 ((cBx a1).map .p), .row 25 4 0 (ra cBx []), .cells 25 [i6 a1.kind, (vs (⟨([] : List UInt8).toArray⟩ : ByteArray)), i6 0, n0], .row 25 4 0 (ra cBx []), .cells 25 ((cBx x2).map .p)]
theorem Je (rF25 : Wa) (hF25 : Tf rF25) (a1 : BoxD) (a2 : Int) (v1 : Int) {r : E_L25_0_5 ⊕ (Int)} (h : We rF25 a1 a2 v1 = some r) : OkR (fun e => Sz a1 a2 e (Xd a1 a2 v1)) (fun s => Xd a1 a2 v1 = Xd a1 a2 s) r := by
 unfold We at h
 apply bi h <;> intro h1 h
 ·
  apply bn h; intro x2 h2 h
  have q0 := ((igr Zy h2) : idxA 4 (.p (.lst 4 (Zb a1.kids))) (i6 v1) = some (.ro (cBx x2)))
  have k1 := ka [(69, .d true), (70, .v (.ro (cBx x2)))] (av h1 (apc q0 apn))
  apply bn h; intro x3 h3 h
  apply bi h <;> intro h4 h
  ·
   rw [← sj h]
   exact rn ([(73, .v (vb true)), (6000, .d true)] ++ kH k1) (k1.b (apc ((((hF25 x2 h3).cp rfl _).trans (congrArg (fun z => some (vb z)) h4)) : CP prg 25 [(.agg ((cBx x2).map .p))] (Qb a1 x2) = some (vb true)) (apc (Sy a1 a2 (w6 (v1 + 1))) apn)))
  ·
   rw [← sj h]
   exact xy ([(73, .v (vb false)), (6000, .d true)] ++ kH k1) (k1.b (apc ((((hF25 x2 h3).cp rfl _).trans (congrArg (fun z => some (vb z)) h4)) : CP prg 25 [(.agg ((cBx x2).map .p))] (Qb a1 x2) = some (vb false)) apn))
 ·
  rw [← sj h]
  exact xb [(69, .d false), (6000, .d true)] (av h1 apn)
theorem SA (rF25 : Wa) (hF25 : Tf rF25) (a1 : BoxD) (a2 : Int) (s0 : Int) (e : E_L25_0_5) (h : runL (fun s => We rF25 a1 a2 s) s0 = some e) : Sz a1 a2 e (Xd a1 a2 s0) := by
  have q := @Zg (Int) E_L25_0_5 (fun s => We rF25 a1 a2 s) (fun s => Xd a1 a2 s) (Sz a1 a2) (fun s r h => Je rF25 hF25 a1 a2 s h) s0 e h
  exact q
def IU (rF25 : Wa) (a1 : BoxD) : Option Bool :=
  (bif (a1.kind == 0) then (bif (!(a1.text.toList == a1.text.toList)) then (some false) else (bif (a1.n != 0) then (some false) else (bif ((a1.kids.length : Int) != 0) then (some false) else (bif (decide (a1.n < 0)) then (some false) else (bif (decide (a1.n > 100)) then (some false) else ((runL (fun s => Pt rF25 a1 (a1.kids.length : Int) s) 0).bind fun r7 => match r7 with | .k0 => (some false) | .k1 => (some true))))))) else (bif (a1.kind == 5) then (bif (!(a1.text.toList == (⟨([] : List UInt8).toArray⟩ : ByteArray).toList)) then (some false) else (bif (a1.n != a1.n) then (some false) else (bif ((a1.kids.length : Int) != (a1.kids.length : Int)) then (some false) else (bif (decide (a1.n < 0)) then (some false) else (bif (decide (a1.n > 100)) then (some false) else ((runL (fun s => Wb rF25 a1 (a1.kids.length : Int) s) 0).bind fun r8 => match r8 with | .k0 => (some false) | .k1 => (some true))))))) else (bif (a1.kind == 1) then (bif (!(a1.text.toList == (⟨([] : List UInt8).toArray⟩ : ByteArray).toList)) then (some false) else (bif (a1.n != a1.n) then (some false) else (bif ((a1.kids.length : Int) != 0) then (some false) else (bif (decide (a1.n < 0)) then (some false) else (bif (decide (a1.n > 100)) then (some false) else ((runL (fun s => Wc rF25 a1 (a1.kids.length : Int) s) 0).bind fun r9 => match r9 with | .k0 => (some false) | .k1 => (some true))))))) else (bif (a1.kind == 3) then (bif (!(a1.text.toList == (⟨([] : List UInt8).toArray⟩ : ByteArray).toList)) then (some false) else (bif (a1.n != 0) then (some false) else (bif ((a1.kids.length : Int) != (a1.kids.length : Int)) then (some false) else (bif (decide (a1.n < 0)) then (some false) else (bif (decide (a1.n > 100)) then (some false) else ((runL (fun s => XA rF25 a1 (a1.kids.length : Int) s) 0).bind fun r10 => match r10 with | .k0 => (some false) | .k1 => (some true))))))) else (bif (a1.kind == 4) then (bif (!(a1.text.toList == (⟨([] : List UInt8).toArray⟩ : ByteArray).toList)) then (some false) else (bif (a1.n != 0) then (some false) else (bif ((a1.kids.length : Int) != (a1.kids.length : Int)) then (some false) else (bif (decide (a1.n < 0)) then (some false) else (bif (decide (a1.n > 100)) then (some false) else ((runL (fun s => XA rF25 a1 (a1.kids.length : Int) s) 0).bind fun r11 => match r11 with | .k0 => (some false) | .k1 => (some true))))))) else (bif (a1.kind == 2) then (bif (!(a1.text.toList == (⟨([] : List UInt8).toArray⟩ : ByteArray).toList)) then (some false) else (bif (a1.n != 0) then (some false) else (bif ((a1.kids.length : Int) != 0) then (some false) else (bif (decide (a1.n < 0)) then (some false) else (bif (decide (a1.n > 100)) then (some false) else ((runL (fun s => We rF25 a1 (a1.kids.length : Int) s) 0).bind fun r12 => match r12 with | .k0 => (some false) | .k1 => (some true))))))) else (some false)))))))
abbrev Fx (g7 : Nat → AV) (a1 : BoxD) : St := ⟨fr 76 g7 [(66, (.p (.lst 4 (Zb a1.kids))))], [.cells 25 ((cBx a1).map .p), .row 25 4 0 (ra cBx []), .cells 25 [i6 a1.kind, vs a1.text, i6 0, n0]]⟩
abbrev Fy (g8 : Nat → AV) (a1 : BoxD) : St := ⟨fr 76 g8 [(66, (.p (.lst 4 (Zb a1.kids))))], [.cells 25 ((cBx a1).map .p), .row 25 4 0 (ra cBx []), .cells 25 [i6 a1.kind, (vs (⟨([] : List UInt8).toArray⟩ : ByteArray)), i6 a1.n, (.p (.lst 4 (Zb a1.kids)))]]⟩
abbrev FA (g9 : Nat → AV) (a1 : BoxD) : St := ⟨fr 76 g9 [(66, (.p (.lst 4 (Zb a1.kids))))], [.cells 25 ((cBx a1).map .p), .row 25 4 0 (ra cBx []), .cells 25 [i6 a1.kind, (vs (⟨([] : List UInt8).toArray⟩ : ByteArray)), i6 a1.n, n0]]⟩
abbrev FB (g10 : Nat → AV) (a1 : BoxD) : St := ⟨fr 76 g10 [(66, (.p (.lst 4 (Zb a1.kids))))], [.cells 25 ((cBx a1).map .p), .row 25 4 0 (ra cBx []), .cells 25 [i6 a1.kind, (vs (⟨([] : List UInt8).toArray⟩ : ByteArray)), i6 0, (.p (.lst 4 (Zb a1.kids)))]]⟩
abbrev FC (g11 : Nat → AV) (a1 : BoxD) : St := ⟨fr 76 g11 [(66, (.p (.lst 4 (Zb a1.kids))))], [.cells 25 ((cBx a1).map .p), .row 25 4 0 (ra cBx []), .cells 25 [i6 a1.kind, (vs (⟨([] : List UInt8).toArray⟩ : ByteArray)), i6 0, (.p (.lst 4 (Zb a1.kids)))]]⟩
abbrev FD (g12 : Nat → AV) (a1 : BoxD) : St := ⟨fr 76 g12 [(66, (.p (.lst 4 (Zb a1.kids))))], [.cells 25 ((cBx a1).map .p), .row 25 4 0 (ra cBx []), .cells 25 [i6 a1.kind, (vs (⟨([] : List UInt8).toArray⟩ : ByteArray)), i6 0, n0]]⟩
theorem DD (rF25 : Wa) (hF25 : Tf rF25) (a1 : BoxD) {r : Bool} (h : IU rF25 a1 = some r) : PR1 prg 25 [(.agg ((cBx a1).map .p))] (CH a1 r) := by
 unfold IU at h
 have q0 := ((lgr Zy) : lnA (.p (.lst 4 (Zb a1.kids))) = some (i6 (a1.kids.length : Int)))
 apply bi h <;> intro h1 h
 ·
  apply bi h <;> intro h2 h
  ·
   rw [← sj h]
   exact fq [(12, .d true), (38, .d true)] (av h1 (av h2 apn))
  ·
   have k1 := ka [(12, .d true), (38, .d false)] (av h1 (av h2 apn))
   apply bi h <;> intro h3 h
   ·
    rw [← sj h]
    exact fq ([(44, .d true)] ++ kH k1) (k1.b (av h3 apn))
   ·
    have k2 := k1.a [(44, .d false), (49, .v (i6 (a1.kids.length : Int)))] (av h3 (apc q0 apn))
    apply bi h <;> intro h4 h
    ·
     rw [← sj h]
     exact fq ([(53, .d true)] ++ kH k2) (k2.b (av h4 apn))
    ·
     apply bi h <;> intro h5 h
     ·
      rw [← sj h]
      exact fq ([(53, .d false), (58, .d true)] ++ kH k2) (k2.b (av h4 (av h5 apn)))
     ·
      have k3 := k2.a [(53, .d false), (58, .d false)] (av h4 (av h5 apn))
      apply bi h <;> intro h6 h
      ·
       rw [← sj h]
       exact fq ([(63, .d true)] ++ kH k3) (k3.b (av h6 apn))
      ·
       have k4 := k3.a [(63, .d false), (67, .v (i6 (a1.kids.length : Int)))] (av h6 (apc q0 apn))
       apply bn h; intro r7 h7 h
       cases r7 with
       | k0 =>
        obtain ⟨g7, y7, e7⟩ := OC rF25 hF25 a1 (a1.kids.length : Int) 0 _ h7
        rw [← sj h]
        exact fq ([(2007, .l .ret ⟨fr 76 g7 [(2, vb false)], y7⟩), (6000, .d true)] ++ kH k4) (k4.b (apc (Mr a1 (a1.kids.length : Int) 0) (apc (e7 : VA a1 (a1.kids.length : Int) 0 = some (.ret, ⟨fr 76 g7 [(2, vb false)], y7⟩)) apn)))
       | k1 =>
        obtain ⟨g7, e7⟩ := OC rF25 hF25 a1 (a1.kids.length : Int) 0 _ h7
        rw [← sj h]
        exact fq ([(2007, .l (.brk 7) (Fx g7 a1)), (6000, .d true)] ++ kH k4) (k4.b (apc (Mr a1 (a1.kids.length : Int) 0) (apc (e7 : VA a1 (a1.kids.length : Int) 0 = some ((.brk 7), Fx g7 a1)) apn)))
 ·
  apply bi h <;> intro h2 h
  ·
   have k5 := ka [(12, .d false), (14, .d true)] (av h1 (av h2 apn))
   apply bi h <;> intro h3 h
   ·
    rw [← sj h]
    exact fq ([(38, .d true)] ++ kH k5) (k5.b (av h3 apn))
   ·
    apply bi h <;> intro h4 h
    ·
     rw [← sj h]
     exact fq ([(38, .d false), (44, .d true)] ++ kH k5) (k5.b (av h3 (av h4 apn)))
    ·
     have k6 := k5.a [(38, .d false), (44, .d false), (49, .v (i6 (a1.kids.length : Int))), (52, .v (i6 (a1.kids.length : Int)))] (av h3 (av h4 (apc q0 (apc q0 apn))))
     apply bi h <;> intro h5 h
     ·
      rw [← sj h]
      exact fq ([(53, .d true)] ++ kH k6) (k6.b (av h5 apn))
     ·
      apply bi h <;> intro h6 h
      ·
       rw [← sj h]
       exact fq ([(53, .d false), (58, .d true)] ++ kH k6) (k6.b (av h5 (av h6 apn)))
      ·
       have k7 := k6.a [(53, .d false), (58, .d false)] (av h5 (av h6 apn))
       apply bi h <;> intro h7 h
       ·
        rw [← sj h]
        exact fq ([(63, .d true)] ++ kH k7) (k7.b (av h7 apn))
       ·
        have k8 := k7.a [(63, .d false), (67, .v (i6 (a1.kids.length : Int)))] (av h7 (apc q0 apn))
        apply bn h; intro r8 h8 h
        cases r8 with
        | k0 =>
         obtain ⟨g8, y8, e8⟩ := Sr rF25 hF25 a1 (a1.kids.length : Int) 0 _ h8
         rw [← sj h]
         exact fq ([(2007, .l .ret ⟨fr 76 g8 [(2, vb false)], y8⟩), (6000, .d true)] ++ kH k8) (k8.b (apc (Sp a1 (a1.kids.length : Int) 0) (apc (e8 : Xb a1 (a1.kids.length : Int) 0 = some (.ret, ⟨fr 76 g8 [(2, vb false)], y8⟩)) apn)))
        | k1 =>
         obtain ⟨g8, e8⟩ := Sr rF25 hF25 a1 (a1.kids.length : Int) 0 _ h8
         rw [← sj h]
         exact fq ([(2007, .l (.brk 7) (Fy g8 a1)), (6000, .d true)] ++ kH k8) (k8.b (apc (Sp a1 (a1.kids.length : Int) 0) (apc (e8 : Xb a1 (a1.kids.length : Int) 0 = some ((.brk 7), Fy g8 a1)) apn)))
  ·
   have k9 := ka [(12, .d false), (14, .d false)] (av h1 (av h2 apn))
   apply bi h <;> intro h3 h
   ·
    apply bi h <;> intro h4 h
    ·
     rw [← sj h]
     exact fq ([(16, .d true), (38, .d true)] ++ kH k9) (k9.b (av h3 (av h4 apn)))
    ·
     have k10 := k9.a [(16, .d true), (38, .d false)] (av h3 (av h4 apn))
     apply bi h <;> intro h5 h
     ·
      rw [← sj h]
      exact fq ([(44, .d true)] ++ kH k10) (k10.b (av h5 apn))
     ·
      have k11 := k10.a [(44, .d false), (49, .v (i6 (a1.kids.length : Int)))] (av h5 (apc q0 apn))
      apply bi h <;> intro h6 h
      ·
       rw [← sj h]
       exact fq ([(53, .d true)] ++ kH k11) (k11.b (av h6 apn))
      ·
       apply bi h <;> intro h7 h
       ·
        rw [← sj h]
        exact fq ([(53, .d false), (58, .d true)] ++ kH k11) (k11.b (av h6 (av h7 apn)))
       ·
        have k12 := k11.a [(53, .d false), (58, .d false)] (av h6 (av h7 apn))
        apply bi h <;> intro h8 h
        ·
         rw [← sj h]
         exact fq ([(63, .d true)] ++ kH k12) (k12.b (av h8 apn))
        ·
         have k13 := k12.a [(63, .d false), (67, .v (i6 (a1.kids.length : Int)))] (av h8 (apc q0 apn))
         apply bn h; intro r9 h9 h
         cases r9 with
         | k0 =>
          obtain ⟨g9, y9, e9⟩ := Sv rF25 hF25 a1 (a1.kids.length : Int) 0 _ h9
          rw [← sj h]
          exact fq ([(2007, .l .ret ⟨fr 76 g9 [(2, vb false)], y9⟩), (6000, .d true)] ++ kH k13) (k13.b (apc (Ss a1 (a1.kids.length : Int) 0) (apc (e9 : Xc a1 (a1.kids.length : Int) 0 = some (.ret, ⟨fr 76 g9 [(2, vb false)], y9⟩)) apn)))
         | k1 =>
          obtain ⟨g9, e9⟩ := Sv rF25 hF25 a1 (a1.kids.length : Int) 0 _ h9
          rw [← sj h]
          exact fq ([(2007, .l (.brk 7) (FA g9 a1)), (6000, .d true)] ++ kH k13) (k13.b (apc (Ss a1 (a1.kids.length : Int) 0) (apc (e9 : Xc a1 (a1.kids.length : Int) 0 = some ((.brk 7), FA g9 a1)) apn)))
   ·
    apply bi h <;> intro h4 h
    ·
     have k14 := k9.a [(16, .d false), (18, .d true)] (av h3 (av h4 apn))
     apply bi h <;> intro h5 h
     ·
      rw [← sj h]
      exact fq ([(38, .d true)] ++ kH k14) (k14.b (av h5 apn))
     ·
      apply bi h <;> intro h6 h
      ·
       rw [← sj h]
       exact fq ([(38, .d false), (44, .d true)] ++ kH k14) (k14.b (av h5 (av h6 apn)))
      ·
       have k15 := k14.a [(38, .d false), (44, .d false), (49, .v (i6 (a1.kids.length : Int))), (52, .v (i6 (a1.kids.length : Int)))] (av h5 (av h6 (apc q0 (apc q0 apn))))
       apply bi h <;> intro h7 h
       ·
        rw [← sj h]
        exact fq ([(53, .d true)] ++ kH k15) (k15.b (av h7 apn))
       ·
        apply bi h <;> intro h8 h
        ·
         rw [← sj h]
         exact fq ([(53, .d false), (58, .d true)] ++ kH k15) (k15.b (av h7 (av h8 apn)))
        ·
         have k16 := k15.a [(53, .d false), (58, .d false)] (av h7 (av h8 apn))
         apply bi h <;> intro h9 h
         ·
          rw [← sj h]
          exact fq ([(63, .d true)] ++ kH k16) (k16.b (av h9 apn))
         ·
          have k17 := k16.a [(63, .d false), (67, .v (i6 (a1.kids.length : Int)))] (av h9 (apc q0 apn))
          apply bn h; intro r10 h10 h
          cases r10 with
          | k0 =>
           obtain ⟨g10, y10, e10⟩ := Wd rF25 hF25 a1 (a1.kids.length : Int) 0 _ h10
           rw [← sj h]
           exact fq ([(2007, .l .ret ⟨fr 76 g10 [(2, vb false)], y10⟩), (6000, .d true)] ++ kH k17) (k17.b (apc (WA a1 (a1.kids.length : Int) 0) (apc (e10 : Yh a1 (a1.kids.length : Int) 0 = some (.ret, ⟨fr 76 g10 [(2, vb false)], y10⟩)) apn)))
          | k1 =>
           obtain ⟨g10, e10⟩ := Wd rF25 hF25 a1 (a1.kids.length : Int) 0 _ h10
           rw [← sj h]
           exact fq ([(2007, .l (.brk 7) (FB g10 a1)), (6000, .d true)] ++ kH k17) (k17.b (apc (WA a1 (a1.kids.length : Int) 0) (apc (e10 : Yh a1 (a1.kids.length : Int) 0 = some ((.brk 7), FB g10 a1)) apn)))
    ·
     have k18 := k9.a [(16, .d false), (18, .d false)] (av h3 (av h4 apn))
     apply bi h <;> intro h5 h
     ·
      apply bi h <;> intro h6 h
      ·
       rw [← sj h]
       exact fq ([(19, .d true), (38, .d true)] ++ kH k18) (k18.b (av h5 (av h6 apn)))
      ·
       have k19 := k18.a [(19, .d true), (38, .d false)] (av h5 (av h6 apn))
       apply bi h <;> intro h7 h
       ·
        rw [← sj h]
        exact fq ([(44, .d true)] ++ kH k19) (k19.b (av h7 apn))
       ·
        have k20 := k19.a [(44, .d false), (49, .v (i6 (a1.kids.length : Int))), (52, .v (i6 (a1.kids.length : Int)))] (av h7 (apc q0 (apc q0 apn)))
        apply bi h <;> intro h8 h
        ·
         rw [← sj h]
         exact fq ([(53, .d true)] ++ kH k20) (k20.b (av h8 apn))
        ·
         apply bi h <;> intro h9 h
         ·
          rw [← sj h]
          exact fq ([(53, .d false), (58, .d true)] ++ kH k20) (k20.b (av h8 (av h9 apn)))
         ·
          have k21 := k20.a [(53, .d false), (58, .d false)] (av h8 (av h9 apn))
          apply bi h <;> intro h10 h
          ·
           rw [← sj h]
           exact fq ([(63, .d true)] ++ kH k21) (k21.b (av h10 apn))
          ·
           have k22 := k21.a [(63, .d false), (67, .v (i6 (a1.kids.length : Int)))] (av h10 (apc q0 apn))
           apply bn h; intro r11 h11 h
           cases r11 with
           | k0 =>
            obtain ⟨g11, y11, e11⟩ := Wd rF25 hF25 a1 (a1.kids.length : Int) 0 _ h11
            rw [← sj h]
            exact fq ([(2007, .l .ret ⟨fr 76 g11 [(2, vb false)], y11⟩), (6000, .d true)] ++ kH k22) (k22.b (apc (WA a1 (a1.kids.length : Int) 0) (apc (e11 : Yh a1 (a1.kids.length : Int) 0 = some (.ret, ⟨fr 76 g11 [(2, vb false)], y11⟩)) apn)))
           | k1 =>
            obtain ⟨g11, e11⟩ := Wd rF25 hF25 a1 (a1.kids.length : Int) 0 _ h11
            rw [← sj h]
            exact fq ([(2007, .l (.brk 7) (FC g11 a1)), (6000, .d true)] ++ kH k22) (k22.b (apc (WA a1 (a1.kids.length : Int) 0) (apc (e11 : Yh a1 (a1.kids.length : Int) 0 = some ((.brk 7), FC g11 a1)) apn)))
     ·
      apply bi h <;> intro h6 h
      ·
       have k23 := k18.a [(19, .d false), (21, .d true)] (av h5 (av h6 apn))
       apply bi h <;> intro h7 h
       ·
        rw [← sj h]
        exact fq ([(38, .d true)] ++ kH k23) (k23.b (av h7 apn))
       ·
        apply bi h <;> intro h8 h
        ·
         rw [← sj h]
         exact fq ([(38, .d false), (44, .d true)] ++ kH k23) (k23.b (av h7 (av h8 apn)))
        ·
         have k24 := k23.a [(38, .d false), (44, .d false), (49, .v (i6 (a1.kids.length : Int)))] (av h7 (av h8 (apc q0 apn)))
         apply bi h <;> intro h9 h
         ·
          rw [← sj h]
          exact fq ([(53, .d true)] ++ kH k24) (k24.b (av h9 apn))
         ·
          apply bi h <;> intro h10 h
          ·
           rw [← sj h]
           exact fq ([(53, .d false), (58, .d true)] ++ kH k24) (k24.b (av h9 (av h10 apn)))
          ·
           have k25 := k24.a [(53, .d false), (58, .d false)] (av h9 (av h10 apn))
           apply bi h <;> intro h11 h
           ·
            rw [← sj h]
            exact fq ([(63, .d true)] ++ kH k25) (k25.b (av h11 apn))
           ·
            have k26 := k25.a [(63, .d false), (67, .v (i6 (a1.kids.length : Int)))] (av h11 (apc q0 apn))
            apply bn h; intro r12 h12 h
            cases r12 with
            | k0 =>
             obtain ⟨g12, y12, e12⟩ := SA rF25 hF25 a1 (a1.kids.length : Int) 0 _ h12
             rw [← sj h]
             exact fq ([(2007, .l .ret ⟨fr 76 g12 [(2, vb false)], y12⟩), (6000, .d true)] ++ kH k26) (k26.b (apc (Sy a1 (a1.kids.length : Int) 0) (apc (e12 : Xd a1 (a1.kids.length : Int) 0 = some (.ret, ⟨fr 76 g12 [(2, vb false)], y12⟩)) apn)))
            | k1 =>
             obtain ⟨g12, e12⟩ := SA rF25 hF25 a1 (a1.kids.length : Int) 0 _ h12
             rw [← sj h]
             exact fq ([(2007, .l (.brk 7) (FD g12 a1)), (6000, .d true)] ++ kH k26) (k26.b (apc (Sy a1 (a1.kids.length : Int) 0) (apc (e12 : Xd a1 (a1.kids.length : Int) 0 = some ((.brk 7), FD g12 a1)) apn)))
      ·
       rw [← sj h]
       exact fq ([(19, .d false), (21, .d false)] ++ kH k18) (k18.b (av h5 (av h6 apn)))
def F25 : Nat → Wa
  | 0 => fun _ => none
  | Nf + 1 => IU (F25 Nf)
theorem FE (Nf : Nat) : Tf (F25 Nf) := by
  induction Nf with
  | zero => intro a1 r h; have h : (none : Option Bool) = some r := h; cases h
  | succ Nf ih => intro a1 r h; exact DD (F25 Nf) ih a1 h
inductive R_F21 where
  | k0 (x0 x1 : Int)
def CI (a1 : BoxD) (r : R_F21) : AV := match r with | .k0 x0 x1 => (.tup [i6 x0, i6 x1])
abbrev Mt := BoxD → Option R_F21
abbrev Gw (f : Mt) : Prop := ∀ (a1 : BoxD) {r : R_F21}, f a1 = some r → PR1 prg 21 [(.agg ((cBx a1).map .p))] (CI a1 r)
inductive E_L21_0 where
  | k0 (x0 x1 : Int)
def Pu (rF21 : Mt) (a1 : BoxD) (a2 : Int) (v1 v2 v3 : Int) : Option (E_L21_0 ⊕ (Int × Int × Int)) :=
  (bif (decide (v3 < a2)) then ((getI a1.kids v3).bind fun x2 => ((rF21 x2).bind fun r3 => match r3 with | .k0 x3_0 x3_1 => (some (.inr ((IntKind.wrap .i64 (v1 + x3_0)), (if v2 < x3_1 then x3_1 else v2), (IntKind.wrap .i64 (v3 + 1))))))) else (some (.inl (.k0 v1 v2))))
def IV (a1 : BoxD) (a2 : Int) (v1 v2 v3 : Int) : St := ⟨fr 32 ug [(4, i6 v1), (5, i6 v2), (11, (.p (.lst 4 (Zb a1.kids)))), (12, i6 a2), (13, i6 v3)], [.cells 25 ((cBx a1).map .p)]⟩
theorem IW (a1 : BoxD) (a2 : Int) (v1 v2 v3 : Int) : okT 1 (IV a1 a2 v1 v2 v3).h = true := (ZA rfl (ac rfl))
abbrev Uy (a1 : BoxD) (a2 : Int) (v1 v2 v3 : Int) := evH prg 1 [4, 5, 11, 12, 13] IJ (IV a1 a2 v1 v2 v3)
def Mu (a1 : BoxD) (a2 : Int) (e : E_L21_0) (r : Option (Out × St)) : Prop := match e with | .k0 x0 x1 => ∃ g, r = some ((.brk 0), ⟨fr 32 g [(4, i6 x0), (5, i6 x1), (11, (.p (.lst 4 (Zb a1.kids))))], [.cells 25 ((cBx a1).map .p)]⟩)
theorem Gx (rF21 : Mt) (hF21 : Gw rF21) (a1 : BoxD) (a2 : Int) (v1 v2 v3 : Int) {r : E_L21_0 ⊕ (Int × Int × Int)} (h : Pu rF21 a1 a2 v1 v2 v3 = some r) : OkR (fun e => Mu a1 a2 e (Uy a1 a2 v1 v2 v3)) (fun s => Uy a1 a2 v1 v2 v3 = Uy a1 a2 s.1 s.2.1 s.2.2) r := by
 unfold Pu at h
 apply bi h <;> intro h1 h
 ·
  apply bn h; intro x2 h2 h
  apply bn h; intro r3 h3 h
  cases r3 with
  | k0 x3_0 x3_1 =>
   rw [← sj h]
   exact rn [(14, .d true), (15, .v (.ro (cBx x2))), (19, .v (.tup [i6 x3_0, i6 x3_1])), (6000, .d true)] (av h1 (apc ((igr Zy h2) : idxA 4 (.p (.lst 4 (Zb a1.kids))) (i6 v3) = some (.ro (cBx x2))) (apc (((hF21 x2 h3).cp rfl _) : CP prg 21 [(.agg ((cBx x2).map .p))] [.cells 25 ((cBx a1).map .p), .row 25 4 0 (ra cBx []), .cells 25 ((cBx x2).map .p)] = some (.tup [i6 x3_0, i6 x3_1])) (apc (IW a1 a2 (w6 (v1 + x3_0)) (if v2 < x3_1 then x3_1 else v2) (w6 (v3 + 1))) apn))))
 ·
  rw [← sj h]
  exact xb [(14, .d false), (6000, .d true)] (av h1 apn)
theorem IX (rF21 : Mt) (hF21 : Gw rF21) (a1 : BoxD) (a2 : Int) (s0 : Int × Int × Int) (e : E_L21_0) (h : runL (fun s => Pu rF21 a1 a2 s.1 s.2.1 s.2.2) s0 = some e) : Mu a1 a2 e (Uy a1 a2 s0.1 s0.2.1 s0.2.2) := by
  have q := @Zg (Int × Int × Int) E_L21_0 (fun s => Pu rF21 a1 a2 s.1 s.2.1 s.2.2) (fun s => Uy a1 a2 s.1 s.2.1 s.2.2) (Mu a1 a2) (fun s r h => Gx rF21 hF21 a1 a2 s.1 s.2.1 s.2.2 h) s0 e h
  exact q
def IY (rF21 : Mt) (a1 : BoxD) : Option R_F21 :=
  ((runL (fun s => Pu rF21 a1 (a1.kids.length : Int) s.1 s.2.1 s.2.2) (1, 0, 0)).bind fun r1 => match r1 with | .k0 x1_0 x1_1 => (some (.k0 x1_0 (IntKind.wrap .i64 (x1_1 + 1)))))
abbrev FF (g1 : Nat → AV) (x1_0 x1_1 : Int) (a1 : BoxD) : St := ⟨fr 32 g1 [(4, i6 x1_0), (5, i6 x1_1), (11, (.p (.lst 4 (Zb a1.kids))))], [.cells 25 ((cBx a1).map .p)]⟩
theorem DE (rF21 : Mt) (hF21 : Gw rF21) (a1 : BoxD) {r : R_F21} (h : IY rF21 a1 = some r) : PR1 prg 21 [(.agg ((cBx a1).map .p))] (CI a1 r) := by
 unfold IY at h
 apply bn h; intro r1 h1 h
 cases r1 with
 | k0 x1_0 x1_1 =>
  obtain ⟨g1, e1⟩ := IX rF21 hF21 a1 (a1.kids.length : Int) (1, 0, 0) _ h1
  rw [← sj h]
  exact fq [(12, .v (i6 (a1.kids.length : Int))), (2000, .l (.brk 0) (FF g1 x1_0 x1_1 a1)), (6000, .d true)] (apc ((lgr Zy) : lnA (.p (.lst 4 (Zb a1.kids))) = some (i6 (a1.kids.length : Int))) (apc (IW a1 (a1.kids.length : Int) 1 0 0) (apc (e1 : Uy a1 (a1.kids.length : Int) 1 0 0 = some ((.brk 0), FF g1 x1_0 x1_1 a1)) apn)))
def F21 : Nat → Mt
  | 0 => fun _ => none
  | Nf + 1 => IY (F21 Nf)
theorem CJ (Nf : Nat) : Gw (F21 Nf) := by
  induction Nf with
  | zero => intro a1 r h; have h : (none : Option R_F21) = some r := h; cases h
  | succ Nf ih => intro a1 r h; exact DE (F21 Nf) ih a1 h
def Bv (a1 : BoxD) (x0 : Int) : AV := (i6 x0)
def F16 (Nf : Nat) (a1 : BoxD) : Option Int :=
  ((F25 Nf a1).bind fun x1 => (bif x1 then ((F21 Nf a1).bind fun r3 => match r3 with | .k0 x3_0 x3_1 => (bif (decide (x3_0 > 65536)) then (some 3) else (bif (decide (x3_1 > 16384)) then (some 3) else (some 0)))) else (some 260)))
theorem IZ (Nf : Nat) (a1 : BoxD) {r : Int} (h : F16 Nf a1 = some r) : PR1 prg 16 [(.agg ((cBx a1).map .p))] (Bv a1 r) := by
 unfold F16 at h
 apply bn h; intro x1 h1 h
 apply bi h <;> intro h2 h
 ·
  have q0 := ((((FE Nf a1 h1).cp rfl _).trans (congrArg (fun z => some (vb z)) h2)) : CP prg 25 [(.agg ((cBx a1).map .p))] [.cells 25 ((cBx a1).map .p)] = some (vb true))
  apply bn h; intro r3 h3 h
  cases r3 with
  | k0 x3_0 x3_1 =>
   have q1 := (((CJ Nf a1 h3).cp rfl _) : CP prg 21 [(.agg ((cBx a1).map .p))] [.cells 25 ((cBx a1).map .p)] = some (.tup [i6 x3_0, i6 x3_1]))
   have k2 := ka [(6, .v (vb true)), (10, .v (.tup [i6 x3_0, i6 x3_1]))] (apc q0 (apc q1 apn))
   apply bi h <;> intro h4 h
   ·
    rw [← sj h]
    exact fq ([(14, .d true)] ++ kH k2) (k2.b (av h4 apn))
   ·
    apply bi h <;> intro h5 h
    ·
     rw [← sj h]
     exact fq ([(14, .d false), (17, .d true)] ++ kH k2) (k2.b (av h4 (av h5 apn)))
    ·
     rw [← sj h]
     exact fq ([(14, .d false), (17, .d false)] ++ kH k2) (k2.b (av h4 (av h5 apn)))
 ·
  rw [← sj h]
  exact fq [(6, .v (vb false))] (apc ((((FE Nf a1 h1).cp rfl _).trans (congrArg (fun z => some (vb z)) h2)) : CP prg 25 [(.agg ((cBx a1).map .p))] [.cells 25 ((cBx a1).map .p)] = some (vb false)) apn)
inductive R_F28_2 where
  | k0 (x0 : Bool) (x1 : Nat) (x2 : List Bool) (x3 : Nat)
def I0 (a1 a2 : BoxD) (a3 : Nat) (a4 : List Bool) (a5 : Nat) (a6 : List Bool) (a7 : Nat) (r : R_F28_2) : AV := match r with | .k0 x0 x1 x2 x3 => (vb x0)
def I1 (a1 a2 : BoxD) (a3 : Nat) (a4 : List Bool) (a5 : Nat) (a6 : List Bool) (a7 : Nat) (r : R_F28_2) : List AB := match r with | .k0 x0 x1 x2 x3 => [.cells 25 ((cBx a2).map .p), yB a3 a4, yB x1 x2, .cells 48 [.sl 2 x1 1 0 x3], .cells 26 [(.fn 28 [.ptr 3 0, .ptr 4 0])]]
abbrev XB := BoxD → BoxD → Nat → (List Bool) → Nat → (List Bool) → Nat → Option R_F28_2
abbrev Uz (f : XB) : Prop := ∀ (a1 a2 : BoxD) (a3 : Nat) (a4 : List Bool) (a5 : Nat) (a6 : List Bool) (a7 : Nat) {r : R_F28_2}, f a1 a2 a3 a4 a5 a6 a7 = some r → ∀ hx : List AB, CS prg 28 [(.agg ((cBx a1).map .p)), .ptr 3 0, .ptr 4 0] ([.cells 25 ((cBx a2).map .p), yB a3 a4, yB a5 a6, .cells 48 [.sl 2 a5 1 0 a7], .cells 26 [(.fn 28 [.ptr 3 0, .ptr 4 0])]] ++ hx) = some (I0 a1 a2 a3 a4 a5 a6 a7 r, I1 a1 a2 a3 a4 a5 a6 a7 r ++ hx)
inductive E_L28_0_2 where
  | k0 (x0 : Nat) (x1 : List Bool) (x2 : Nat)
def Wf (rF28_2 : XB) (a2 : BoxD) (a3 : Int) (a4 : BoxD) (a5 : Nat) (a6 : List Bool) (v1 : Int) (v2 : Nat) (v3 : List Bool) (v4 : Nat) : Option (E_L28_0_2 ⊕ (Int × Nat × (List Bool) × Nat)) :=
  (bif (decide (v1 < a3)) then ((getI a2.kids v1).bind fun x2 => ((rF28_2 x2 a4 a5 a6 v2 v3 v4).bind fun r3 => match r3 with | .k0 x3_0 x3_1 x3_2 x3_3 => (bif x3_0 then (some (.inr ((IntKind.wrap .i64 (v1 + 1)), x3_1, x3_2, x3_3))) else (some (.inr ((IntKind.wrap .i64 (v1 + 1)), x3_1, x3_2, x3_3)))))) else (some (.inl (.k0 v2 v3 v4))))
def OH (a1 : Int) (a2 : BoxD) (a3 : Int) (a4 : BoxD) (a5 : Nat) (a6 : List Bool) (v1 : Int) (v2 : Nat) (v3 : List Bool) (v4 : Nat) : St := ⟨fr 39 ug [(1, .ptr 3 0), (2, .ptr 4 0), (5, i6 a1), (6, vb true), (24, (.p (.lst 4 (Zb a2.kids)))), (25, i6 a3), (26, i6 v1)], [.cells 25 ((cBx a4).map .p), yB a5 a6, yB v2 v3, .cells 48 [.sl 2 v2 1 0 v4], .cells 26 [(.fn 28 [.ptr 3 0, .ptr 4 0])], .cells 25 ((cBx a2).map .p), .row 4 1 0 [[vb true]]]⟩
theorem SB (a1 : Int) (a2 : BoxD) (a3 : Int) (a4 : BoxD) (a5 : Nat) (a6 : List Bool) (v1 : Int) (v2 : Nat) (v3 : List Bool) (v4 : Nat) : okT 7 (OH a1 a2 a3 a4 a5 a6 v1 v2 v3 v4).h = true := (ZA rfl (ac (ar (ar (ac (ac (ac (ac rfl))))))))
abbrev Xe (a1 : Int) (a2 : BoxD) (a3 : Int) (a4 : BoxD) (a5 : Nat) (a6 : List Bool) (v1 : Int) (v2 : Nat) (v3 : List Bool) (v4 : Nat) := evH prg 7 [1, 2, 5, 6, 24, 25, 26] Mn (OH a1 a2 a3 a4 a5 a6 v1 v2 v3 v4)
def SC (a1 : Int) (a2 : BoxD) (a3 : Int) (a4 : BoxD) (a5 : Nat) (a6 : List Bool) (e : E_L28_0_2) (r : Option (Out × St)) : Prop := match e with | .k0 x0 x1 x2 => ∃ g, r = some ((.brk 0), ⟨fr 39 g [(1, .ptr 3 0), (5, i6 a1), (6, vb true), (24, (.p (.lst 4 (Zb a2.kids))))], [.cells 25 ((cBx a4).map .p), yB a5 a6, yB x0 x1, .cells 48 [.sl 2 x0 1 0 x2], .cells 26 [(.fn 28 [.ptr 3 0, .ptr 4 0])], .cells 25 ((cBx a2).map .p), .row 4 1 0 [[vb true]]]⟩)
abbrev YJ (a4 : BoxD) (a5 : Nat) (a6 : List Bool) (x3_1 : Nat) (x3_2 : List Bool) (x3_3 : Nat) (a2 x2 : BoxD) : List AB := [.cells 25 ((cBx a4).map .p), yB a5 a6, yB x3_1 x3_2, .cells 48 [.sl 2 x3_1 1 0 x3_3], .cells 26 [(.fn 28 [.ptr 3 0, .ptr 4 0])], .cells 25 ((cBx a2).map .p), .row 4 1 0 [[vb true]], .row 25 4 0 (ra cBx []), .cells 25 ((cBx x2).map .p)]
abbrev Qc (a2 x2 : BoxD) : List AB := [.cells 25 ((cBx a2).map .p), .row 4 1 0 [[vb true]], .row 25 4 0 (ra cBx []), .cells 25 ((cBx x2).map .p)]
abbrev Qd (a4 : BoxD) (a5 : Nat) (a6 : List Bool) (v2 : Nat) (v3 : List Bool) (v4 : Nat) (a2 x2 : BoxD) : List AB := [.cells 25 ((cBx a4).map .p), yB a5 a6, yB v2 v3, .cells 48 [.sl 2 v2 1 0 v4], .cells 26 [(.fn 28 [.ptr 3 0, .ptr 4 0])], .cells 25 ((cBx a2).map .p), .row 4 1 0 [[vb true]], .row 25 4 0 (ra cBx []), .cells 25 ((cBx x2).map .p)]
theorem Jf (rF28_2 : XB) (hF28_2 : Uz rF28_2) (a1 : Int) (a2 : BoxD) (a3 : Int) (a4 : BoxD) (a5 : Nat) (a6 : List Bool) (v1 : Int) (v2 : Nat) (v3 : List Bool) (v4 : Nat) {r : E_L28_0_2 ⊕ (Int × Nat × (List Bool) × Nat)} (h : Wf rF28_2 a2 a3 a4 a5 a6 v1 v2 v3 v4 = some r) : OkR (fun e => SC a1 a2 a3 a4 a5 a6 e (Xe a1 a2 a3 a4 a5 a6 v1 v2 v3 v4)) (fun s => Xe a1 a2 a3 a4 a5 a6 v1 v2 v3 v4 = Xe a1 a2 a3 a4 a5 a6 s.1 s.2.1 s.2.2.1 s.2.2.2) r := by
 unfold Wf at h
 apply bi h <;> intro h1 h
 ·
  apply bn h; intro x2 h2 h
  have q0 := ((igr Zy h2) : idxA 4 (.p (.lst 4 (Zb a2.kids))) (i6 v1) = some (.ro (cBx x2)))
  have k1 := ka [(27, .d true), (28, .v (.ro (cBx x2)))] (av h1 (apc q0 apn))
  apply bn h; intro r3 h3 h
  cases r3 with
  | k0 x3_0 x3_1 x3_2 x3_3 =>
   have q2 := (SB a1 a2 a3 a4 a5 a6 (w6 (v1 + 1)) x3_1 x3_2 x3_3)
   apply bi h <;> intro h4 h
   ·
    rw [← sj h]
    exact rn ([(32, .r (vb true) (YJ a4 a5 a6 x3_1 x3_2 x3_3 a2 x2)), (6000, .d true)] ++ kH k1) (k1.b (apc (((hF28_2 x2 a4 a5 a6 v2 v3 v4 h3 (Qc a2 x2)).trans (congrArg (fun z => some (vb z, ((YJ a4 a5 a6 x3_1 x3_2 x3_3 a2 x2) : List AB))) h4)) : CS prg 28 [(.agg ((cBx x2).map .p)), .ptr 3 0, .ptr 4 0] (Qd a4 a5 a6 v2 v3 v4 a2 x2) = some (vb true, YJ a4 a5 a6 x3_1 x3_2 x3_3 a2 x2)) (apc q2 apn)))
   ·
    rw [← sj h]
    exact rn ([(32, .r (vb false) (YJ a4 a5 a6 x3_1 x3_2 x3_3 a2 x2)), (6000, .d true)] ++ kH k1) (k1.b (apc (((hF28_2 x2 a4 a5 a6 v2 v3 v4 h3 (Qc a2 x2)).trans (congrArg (fun z => some (vb z, ((YJ a4 a5 a6 x3_1 x3_2 x3_3 a2 x2) : List AB))) h4)) : CS prg 28 [(.agg ((cBx x2).map .p)), .ptr 3 0, .ptr 4 0] (Qd a4 a5 a6 v2 v3 v4 a2 x2) = some (vb false, YJ a4 a5 a6 x3_1 x3_2 x3_3 a2 x2)) (apc q2 apn)))
 ·
  rw [← sj h]
  exact xb [(27, .d false), (6000, .d true)] (av h1 apn)
theorem SD (rF28_2 : XB) (hF28_2 : Uz rF28_2) (a1 : Int) (a2 : BoxD) (a3 : Int) (a4 : BoxD) (a5 : Nat) (a6 : List Bool) (s0 : Int × Nat × (List Bool) × Nat) (e : E_L28_0_2) (h : runL (fun s => Wf rF28_2 a2 a3 a4 a5 a6 s.1 s.2.1 s.2.2.1 s.2.2.2) s0 = some e) : SC a1 a2 a3 a4 a5 a6 e (Xe a1 a2 a3 a4 a5 a6 s0.1 s0.2.1 s0.2.2.1 s0.2.2.2) := by
  have q := @Zg (Int × Nat × (List Bool) × Nat) E_L28_0_2 (fun s => Wf rF28_2 a2 a3 a4 a5 a6 s.1 s.2.1 s.2.2.1 s.2.2.2) (fun s => Xe a1 a2 a3 a4 a5 a6 s.1 s.2.1 s.2.2.1 s.2.2.2) (SC a1 a2 a3 a4 a5 a6) (fun s r h => Jf rF28_2 hF28_2 a1 a2 a3 a4 a5 a6 s.1 s.2.1 s.2.2.1 s.2.2.2 h) s0 e h
  exact q
def Bw (a1 : BoxD) (a2 : Int) (x0 : Int) : AV := (i6 x0)
def F56 (a1 : BoxD) (a2 : Int) : Option Int :=
  (some (firstIdx a1.text (Int.toNat a2).toUInt8))
theorem CK (a1 : BoxD) (a2 : Int) {r : Int} (h : F56 a1 a2 = some r) : PR1 prg 56 [vs a1.text, vi .u8 a2] (Bw a1 a2 r) := by
 unfold F56 at h
 rw [← sj h]
 exact fq [] apn
def Bx (a1 : BoxD) (x0 : Int) : AV := (i6 x0)
def F48 (a1 : BoxD) : Option Int :=
  (bif ((⟨([10] : List UInt8).toArray⟩ : ByteArray).toList == a1.text.toList) then (some 0) else ((getI (⟨([10] : List UInt8).toArray⟩ : ByteArray).data.toList 0).bind fun x2 => ((F56 a1 (x2.toNat : Int)).bind fun x3 => (some x3))))
theorem CL (a1 : BoxD) {r : Int} (h : F48 a1 = some r) : PR1 prg 48 [vs a1.text, (vs (⟨([10] : List UInt8).toArray⟩ : ByteArray))] (Bx a1 r) := by
 unfold F48 at h
 apply bi h <;> intro h1 h
 ·
  rw [← sj h]
  exact fq [(22, .d true)] (av h1 apn)
 ·
  apply bn h; intro x2 h2 h
  apply bn h; intro x3 h3 h
  rw [← sj h]
  exact fq [(22, .d false), (29, .v (vi .u8 (x2.toNat : Int))), (30, .v (i6 x3))] (av h1 (apc ((Or h2) : ixS (vs (⟨([10] : List UInt8).toArray⟩ : ByteArray)) (i6 0) = some (vi .u8 (x2.toNat : Int))) (apc (((CK a1 (x2.toNat : Int) h3).cp rfl _) : CP prg 56 [vs a1.text, (vi .u8 (x2.toNat : Int))] [] = some (i6 x3)) apn)))
def By (a1 : BoxD) (x0 : Int) : AV := (i6 x0)
def F39 (a1 : BoxD) : Option Int :=
  ((F48 a1).bind fun x1 => (some x1))
theorem CM (a1 : BoxD) {r : Int} (h : F39 a1 = some r) : PR1 prg 39 [vs a1.text, (vs (⟨([10] : List UInt8).toArray⟩ : ByteArray))] (By a1 r) := by
 unfold F39 at h
 apply bn h; intro x1 h1 h
 rw [← sj h]
 exact fq [(7, .v (i6 x1))] (apc (((CL a1 h1).cp rfl _) : CP prg 48 [vs a1.text, (vs (⟨([10] : List UInt8).toArray⟩ : ByteArray))] [] = some (i6 x1)) apn)
def Bz (a1 : BoxD) (x0 : Bool) : AV := (vb x0)
def F29 (a1 : BoxD) : Option Bool :=
  ((F39 a1).bind fun x1 => (some (decide (x1 ≥ 0))))
theorem CN (a1 : BoxD) {r : Bool} (h : F29 a1 = some r) : PR1 prg 29 [vs a1.text, (vs (⟨([10] : List UInt8).toArray⟩ : ByteArray))] (Bz a1 r) := by
 unfold F29 at h
 apply bn h; intro x1 h1 h
 rw [← sj h]
 exact fq [(7, .v (i6 x1))] (apc (((CM a1 h1).cp rfl _) : CP prg 39 [vs a1.text, (vs (⟨([10] : List UInt8).toArray⟩ : ByteArray))] [] = some (i6 x1)) apn)
inductive E_L28_0_3 where
  | k0 (x0 : Bool) (x1 : Nat) (x2 : List Bool) (x3 : Nat)
def Wg (rF28_2 : XB) (a3 : BoxD) (a4 : Int) (a5 : BoxD) (a6 : Nat) (a7 : List Bool) (v1 : Bool) (v2 : Int) (v3 : Nat) (v4 : List Bool) (v5 : Nat) : Option (E_L28_0_3 ⊕ (Bool × Int × Nat × (List Bool) × Nat)) :=
  (bif (decide (v2 < a4)) then ((getI a3.kids v2).bind fun x2 => ((rF28_2 x2 a5 a6 a7 v3 v4 v5).bind fun r3 => match r3 with | .k0 x3_0 x3_1 x3_2 x3_3 => (bif x3_0 then (some (.inr (true, (IntKind.wrap .i64 (v2 + 1)), x3_1, x3_2, x3_3))) else (some (.inr (v1, (IntKind.wrap .i64 (v2 + 1)), x3_1, x3_2, x3_3)))))) else (some (.inl (.k0 v1 v3 v4 v5))))
def OI (a1 : Int) (a2 : Bool) (a3 : BoxD) (a4 : Int) (a5 : BoxD) (a6 : Nat) (a7 : List Bool) (v1 : Bool) (v2 : Int) (v3 : Nat) (v4 : List Bool) (v5 : Nat) : St := ⟨fr 39 ug [(1, .ptr 3 0), (2, .ptr 4 0), (5, i6 a1), (6, vb v1), (24, (.p (.lst 4 (Zb a3.kids)))), (25, i6 a4), (26, i6 v2)], [.cells 25 ((cBx a5).map .p), yB a6 a7, yB v3 v4, .cells 48 [.sl 2 v3 1 0 v5], .cells 26 [(.fn 28 [.ptr 3 0, .ptr 4 0])], .cells 25 ((cBx a3).map .p), .row 4 1 0 [[vb a2]]]⟩
theorem Ul (a1 : Int) (a2 : Bool) (a3 : BoxD) (a4 : Int) (a5 : BoxD) (a6 : Nat) (a7 : List Bool) (v1 : Bool) (v2 : Int) (v3 : Nat) (v4 : List Bool) (v5 : Nat) : okT 7 (OI a1 a2 a3 a4 a5 a6 a7 v1 v2 v3 v4 v5).h = true := (ZA rfl (ac (ar (ar (ac (ac (ac (ac rfl))))))))
abbrev Xf (a1 : Int) (a2 : Bool) (a3 : BoxD) (a4 : Int) (a5 : BoxD) (a6 : Nat) (a7 : List Bool) (v1 : Bool) (v2 : Int) (v3 : Nat) (v4 : List Bool) (v5 : Nat) := evH prg 7 [1, 2, 5, 6, 24, 25, 26] Mn (OI a1 a2 a3 a4 a5 a6 a7 v1 v2 v3 v4 v5)
def SE (a1 : Int) (a2 : Bool) (a3 : BoxD) (a4 : Int) (a5 : BoxD) (a6 : Nat) (a7 : List Bool) (e : E_L28_0_3) (r : Option (Out × St)) : Prop := match e with | .k0 x0 x1 x2 x3 => ∃ g, r = some ((.brk 0), ⟨fr 39 g [(1, .ptr 3 0), (5, i6 a1), (6, vb x0), (24, (.p (.lst 4 (Zb a3.kids))))], [.cells 25 ((cBx a5).map .p), yB a6 a7, yB x1 x2, .cells 48 [.sl 2 x1 1 0 x3], .cells 26 [(.fn 28 [.ptr 3 0, .ptr 4 0])], .cells 25 ((cBx a3).map .p), .row 4 1 0 [[vb a2]]]⟩)
abbrev YK (a5 : BoxD) (a6 : Nat) (a7 : List Bool) (x3_1 : Nat) (x3_2 : List Bool) (x3_3 : Nat) (a3 : BoxD) (a2 : Bool) (x2 : BoxD) : List AB := [.cells 25 ((cBx a5).map .p), yB a6 a7, yB x3_1 x3_2, .cells 48 [.sl 2 x3_1 1 0 x3_3], .cells 26 [(.fn 28 [.ptr 3 0, .ptr 4 0])], .cells 25 ((cBx a3).map .p), .row 4 1 0 [[vb a2]], .row 25 4 0 (ra cBx []), .cells 25 ((cBx x2).map .p)]
abbrev Qe (a3 : BoxD) (a2 : Bool) (x2 : BoxD) : List AB := [.cells 25 ((cBx a3).map .p), .row 4 1 0 [[vb a2]], .row 25 4 0 (ra cBx []), .cells 25 ((cBx x2).map .p)]
abbrev Qf (a5 : BoxD) (a6 : Nat) (a7 : List Bool) (v3 : Nat) (v4 : List Bool) (v5 : Nat) (a3 : BoxD) (a2 : Bool) (x2 : BoxD) : List AB := [.cells 25 ((cBx a5).map .p), yB a6 a7, yB v3 v4, .cells 48 [.sl 2 v3 1 0 v5], .cells 26 [(.fn 28 [.ptr 3 0, .ptr 4 0])], .cells 25 ((cBx a3).map .p), .row 4 1 0 [[vb a2]], .row 25 4 0 (ra cBx []), .cells 25 ((cBx x2).map .p)]
theorem Jg (rF28_2 : XB) (hF28_2 : Uz rF28_2) (a1 : Int) (a2 : Bool) (a3 : BoxD) (a4 : Int) (a5 : BoxD) (a6 : Nat) (a7 : List Bool) (v1 : Bool) (v2 : Int) (v3 : Nat) (v4 : List Bool) (v5 : Nat) {r : E_L28_0_3 ⊕ (Bool × Int × Nat × (List Bool) × Nat)} (h : Wg rF28_2 a3 a4 a5 a6 a7 v1 v2 v3 v4 v5 = some r) : OkR (fun e => SE a1 a2 a3 a4 a5 a6 a7 e (Xf a1 a2 a3 a4 a5 a6 a7 v1 v2 v3 v4 v5)) (fun s => Xf a1 a2 a3 a4 a5 a6 a7 v1 v2 v3 v4 v5 = Xf a1 a2 a3 a4 a5 a6 a7 s.1 s.2.1 s.2.2.1 s.2.2.2.1 s.2.2.2.2) r := by
 unfold Wg at h
 apply bi h <;> intro h1 h
 ·
  apply bn h; intro x2 h2 h
  have q0 := ((igr Zy h2) : idxA 4 (.p (.lst 4 (Zb a3.kids))) (i6 v2) = some (.ro (cBx x2)))
  have k1 := ka [(27, .d true), (28, .v (.ro (cBx x2)))] (av h1 (apc q0 apn))
  apply bn h; intro r3 h3 h
  cases r3 with
  | k0 x3_0 x3_1 x3_2 x3_3 =>
   apply bi h <;> intro h4 h
   ·
    rw [← sj h]
    exact rn ([(32, .r (vb true) (YK a5 a6 a7 x3_1 x3_2 x3_3 a3 a2 x2)), (6000, .d true)] ++ kH k1) (k1.b (apc (((hF28_2 x2 a5 a6 a7 v3 v4 v5 h3 (Qe a3 a2 x2)).trans (congrArg (fun z => some (vb z, ((YK a5 a6 a7 x3_1 x3_2 x3_3 a3 a2 x2) : List AB))) h4)) : CS prg 28 [(.agg ((cBx x2).map .p)), .ptr 3 0, .ptr 4 0] (Qf a5 a6 a7 v3 v4 v5 a3 a2 x2) = some (vb true, YK a5 a6 a7 x3_1 x3_2 x3_3 a3 a2 x2)) (apc (Ul a1 a2 a3 a4 a5 a6 a7 true (w6 (v2 + 1)) x3_1 x3_2 x3_3) apn)))
   ·
    rw [← sj h]
    exact rn ([(32, .r (vb false) (YK a5 a6 a7 x3_1 x3_2 x3_3 a3 a2 x2)), (6000, .d true)] ++ kH k1) (k1.b (apc (((hF28_2 x2 a5 a6 a7 v3 v4 v5 h3 (Qe a3 a2 x2)).trans (congrArg (fun z => some (vb z, ((YK a5 a6 a7 x3_1 x3_2 x3_3 a3 a2 x2) : List AB))) h4)) : CS prg 28 [(.agg ((cBx x2).map .p)), .ptr 3 0, .ptr 4 0] (Qf a5 a6 a7 v3 v4 v5 a3 a2 x2) = some (vb false, YK a5 a6 a7 x3_1 x3_2 x3_3 a3 a2 x2)) (apc (Ul a1 a2 a3 a4 a5 a6 a7 v1 (w6 (v2 + 1)) x3_1 x3_2 x3_3) apn)))
 ·
  rw [← sj h]
  exact xb [(27, .d false), (6000, .d true)] (av h1 apn)
theorem SF (rF28_2 : XB) (hF28_2 : Uz rF28_2) (a1 : Int) (a2 : Bool) (a3 : BoxD) (a4 : Int) (a5 : BoxD) (a6 : Nat) (a7 : List Bool) (s0 : Bool × Int × Nat × (List Bool) × Nat) (e : E_L28_0_3) (h : runL (fun s => Wg rF28_2 a3 a4 a5 a6 a7 s.1 s.2.1 s.2.2.1 s.2.2.2.1 s.2.2.2.2) s0 = some e) : SE a1 a2 a3 a4 a5 a6 a7 e (Xf a1 a2 a3 a4 a5 a6 a7 s0.1 s0.2.1 s0.2.2.1 s0.2.2.2.1 s0.2.2.2.2) := by
  have q := @Zg (Bool × Int × Nat × (List Bool) × Nat) E_L28_0_3 (fun s => Wg rF28_2 a3 a4 a5 a6 a7 s.1 s.2.1 s.2.2.1 s.2.2.2.1 s.2.2.2.2) (fun s => Xf a1 a2 a3 a4 a5 a6 a7 s.1 s.2.1 s.2.2.1 s.2.2.2.1 s.2.2.2.2) (SE a1 a2 a3 a4 a5 a6 a7) (fun s r h => Jg rF28_2 hF28_2 a1 a2 a3 a4 a5 a6 a7 s.1 s.2.1 s.2.2.1 s.2.2.2.1 s.2.2.2.2 h) s0 e h
  exact q
def WB (rF28_2 : XB) (a1 a2 : BoxD) (a3 : Nat) (a4 : List Bool) (a5 : Nat) (a6 : List Bool) (a7 : Nat) : Option R_F28_2 :=
  (bif (a1.kind == 2) then (bif (apOk a7 1 a6.length 1) then (bif (decide (a7 + 1 ≤ a6.length)) then ((runL (fun s => Wf rF28_2 a1 (a1.kids.length : Int) a2 a3 a4 s.1 s.2.1 s.2.2.1 s.2.2.2) (0, a5, (splice a6 a7 [true]), a7 + 1)).bind fun r4 => match r4 with | .k0 x4_0 x4_1 x4_2 => ((ixN x4_2 ((a7 : Nat) : Int)).bind fun x5 => ((x4_1[x5]?).bind fun x6 => (some (.k0 true x4_0 (x4_1.set x5 true) x4_2))))) else ((runL (fun s => Wf rF28_2 a1 (a1.kids.length : Int) a2 a3 a4 s.1 s.2.1 s.2.2.1 s.2.2.2) (0, a5 + 1, (a6.take a7 ++ [true]), a7 + 1)).bind fun r4 => match r4 with | .k0 x4_0 x4_1 x4_2 => ((ixN x4_2 ((a7 : Nat) : Int)).bind fun x5 => ((x4_1[x5]?).bind fun x6 => (some (.k0 true x4_0 (x4_1.set x5 true) x4_2)))))) else none) else ((F29 a1).bind fun x2 => (bif (apOk a7 1 a6.length 1) then (bif (decide (a7 + 1 ≤ a6.length)) then ((runL (fun s => Wg rF28_2 a1 (a1.kids.length : Int) a2 a3 a4 s.1 s.2.1 s.2.2.1 s.2.2.2.1 s.2.2.2.2) (x2, 0, a5, (splice a6 a7 [x2]), a7 + 1)).bind fun r5 => match r5 with | .k0 x5_0 x5_1 x5_2 x5_3 => ((ixN x5_3 ((a7 : Nat) : Int)).bind fun x6 => ((x5_2[x6]?).bind fun x7 => (some (.k0 x5_0 x5_1 (x5_2.set x6 x5_0) x5_3))))) else ((runL (fun s => Wg rF28_2 a1 (a1.kids.length : Int) a2 a3 a4 s.1 s.2.1 s.2.2.1 s.2.2.2.1 s.2.2.2.2) (x2, 0, a5 + 1, (a6.take a7 ++ [x2]), a7 + 1)).bind fun r5 => match r5 with | .k0 x5_0 x5_1 x5_2 x5_3 => ((ixN x5_3 ((a7 : Nat) : Int)).bind fun x6 => ((x5_2[x6]?).bind fun x7 => (some (.k0 x5_0 x5_1 (x5_2.set x6 x5_0) x5_3)))))) else none)))
abbrev WR (a2 : BoxD) (a3 : Nat) (a4 : List Bool) (x4_0 : Nat) (x4_1 : List Bool) (x5 x4_2 : Nat) (a1 : BoxD) : List AB := [.cells 25 ((cBx a2).map .p), yB a3 a4, yB x4_0 (x4_1.set x5 true), .cells 48 [.sl 2 x4_0 1 0 x4_2], .cells 26 [(.fn 28 [.ptr 3 0, .ptr 4 0])], .cells 25 ((cBx a1).map .p), .row 4 1 0 [[vb true]]]
abbrev LK (a2 : BoxD) (a3 : Nat) (a4 : List Bool) (a5 : Nat) (a6 : List Bool) (a7 : Nat) (a1 : BoxD) : List AB := [.cells 25 ((cBx a2).map .p), yB a3 a4, yB a5 (splice a6 a7 [true]), .cells 48 [.sl 2 a5 1 0 a7], .cells 26 [(.fn 28 [.ptr 3 0, .ptr 4 0])], .cells 25 ((cBx a1).map .p), .row 4 1 0 [[vb true]]]
abbrev Ts (g4 : Nat → AV) (a7 : Nat) (a1 a2 : BoxD) (a3 : Nat) (a4 : List Bool) (x4_0 : Nat) (x4_1 : List Bool) (x4_2 : Nat) : St := ⟨fr 39 g4 [(1, .ptr 3 0), (5, (i6 ((a7 : Nat) : Int))), (6, vb true), (24, (.p (.lst 4 (Zb a1.kids))))], [.cells 25 ((cBx a2).map .p), yB a3 a4, yB x4_0 x4_1, .cells 48 [.sl 2 x4_0 1 0 x4_2], .cells 26 [(.fn 28 [.ptr 3 0, .ptr 4 0])], .cells 25 ((cBx a1).map .p), .row 4 1 0 [[vb true]]]⟩
abbrev LL (a2 : BoxD) (a3 : Nat) (a4 : List Bool) (a5 : Nat) (a6 : List Bool) (a7 : Nat) (a1 : BoxD) : List AB := [.cells 25 ((cBx a2).map .p), yB a3 a4, yB a5 a6, .cells 48 [.sl 2 a5 1 0 a7], .cells 26 [(.fn 28 [.ptr 3 0, .ptr 4 0])], .cells 25 ((cBx a1).map .p), .row 4 1 0 [[vb true]]]
abbrev LM (a2 : BoxD) (a3 : Nat) (a4 : List Bool) (x4_0 : Nat) (x4_1 : List Bool) (x4_2 : Nat) (a1 : BoxD) : List AB := [.cells 25 ((cBx a2).map .p), yB a3 a4, yB x4_0 x4_1, .cells 48 [.sl 2 x4_0 1 0 x4_2], .cells 26 [(.fn 28 [.ptr 3 0, .ptr 4 0])], .cells 25 ((cBx a1).map .p), .row 4 1 0 [[vb true]]]
abbrev LN (a2 : BoxD) (a3 : Nat) (a4 : List Bool) (a5 : Nat) (a6 : List Bool) (a7 : Nat) (a1 : BoxD) : List AB := [.cells 25 ((cBx a2).map .p), yB a3 a4, yB (a5 + 1) (a6.take a7 ++ [true]), .cells 48 [.sl 2 a5 1 0 a7], .cells 26 [(.fn 28 [.ptr 3 0, .ptr 4 0])], .cells 25 ((cBx a1).map .p), .row 4 1 0 [[vb true]]]
abbrev LO (a2 : BoxD) (a3 : Nat) (a4 : List Bool) (a5 : Nat) (a6 : List Bool) (a7 : Nat) (x2 : Bool) (a1 : BoxD) : List AB := [.cells 25 ((cBx a2).map .p), yB a3 a4, yB a5 (splice a6 a7 [x2]), .cells 48 [.sl 2 a5 1 0 a7], .cells 26 [(.fn 28 [.ptr 3 0, .ptr 4 0])], .cells 25 ((cBx a1).map .p), .row 4 1 0 [[vb x2]]]
abbrev Tt (g5 : Nat → AV) (a7 : Nat) (x5_0 : Bool) (a1 a2 : BoxD) (a3 : Nat) (a4 : List Bool) (x5_1 : Nat) (x5_2 : List Bool) (x5_3 : Nat) (x2 : Bool) : St := ⟨fr 39 g5 [(1, .ptr 3 0), (5, (i6 ((a7 : Nat) : Int))), (6, vb x5_0), (24, (.p (.lst 4 (Zb a1.kids))))], [.cells 25 ((cBx a2).map .p), yB a3 a4, yB x5_1 x5_2, .cells 48 [.sl 2 x5_1 1 0 x5_3], .cells 26 [(.fn 28 [.ptr 3 0, .ptr 4 0])], .cells 25 ((cBx a1).map .p), .row 4 1 0 [[vb x2]]]⟩
abbrev LP (a2 : BoxD) (a3 : Nat) (a4 : List Bool) (a5 : Nat) (a6 : List Bool) (a7 : Nat) (a1 : BoxD) (x2 : Bool) : List AB := [.cells 25 ((cBx a2).map .p), yB a3 a4, yB a5 a6, .cells 48 [.sl 2 a5 1 0 a7], .cells 26 [(.fn 28 [.ptr 3 0, .ptr 4 0])], .cells 25 ((cBx a1).map .p), .row 4 1 0 [[vb x2]]]
abbrev OJ (a2 : BoxD) (a3 : Nat) (a4 : List Bool) (x5_1 : Nat) (x5_2 : List Bool) (x5_3 : Nat) (a1 : BoxD) (x2 : Bool) : List AB := [.cells 25 ((cBx a2).map .p), yB a3 a4, yB x5_1 x5_2, .cells 48 [.sl 2 x5_1 1 0 x5_3], .cells 26 [(.fn 28 [.ptr 3 0, .ptr 4 0])], .cells 25 ((cBx a1).map .p), .row 4 1 0 [[vb x2]]]
abbrev OK (a2 : BoxD) (a3 : Nat) (a4 : List Bool) (a5 : Nat) (a6 : List Bool) (a7 : Nat) (x2 : Bool) (a1 : BoxD) : List AB := [.cells 25 ((cBx a2).map .p), yB a3 a4, yB (a5 + 1) (a6.take a7 ++ [x2]), .cells 48 [.sl 2 a5 1 0 a7], .cells 26 [(.fn 28 [.ptr 3 0, .ptr 4 0])], .cells 25 ((cBx a1).map .p), .row 4 1 0 [[vb x2]]]
theorem I2 (rF28_2 : XB) (hF28_2 : Uz rF28_2) (a1 a2 : BoxD) (a3 : Nat) (a4 : List Bool) (a5 : Nat) (a6 : List Bool) (a7 : Nat) {r : R_F28_2} (h : WB rF28_2 a1 a2 a3 a4 a5 a6 a7 = some r) : ∀ hx : List AB, CS prg 28 [(.agg ((cBx a1).map .p)), .ptr 3 0, .ptr 4 0] ([.cells 25 ((cBx a2).map .p), yB a3 a4, yB a5 a6, .cells 48 [.sl 2 a5 1 0 a7], .cells 26 [(.fn 28 [.ptr 3 0, .ptr 4 0])]] ++ hx) = some (I0 a1 a2 a3 a4 a5 a6 a7 r, I1 a1 a2 a3 a4 a5 a6 a7 r ++ hx) := by
 unfold WB at h
 have q0 := ((lgr Zy) : lnA (.p (.lst 4 (Zb a1.kids))) = some (i6 (a1.kids.length : Int)))
 apply bi h <;> intro h1 h
 ·
  apply bi h <;> intro h2 h
  ·
   apply bi h <;> intro h3 h
   ·
    apply bn h; intro r4 h4 h
    cases r4 with
    | k0 x4_0 x4_1 x4_2 =>
     obtain ⟨g4, e4⟩ := SD rF28_2 hF28_2 ((a7 : Nat) : Int) a1 (a1.kids.length : Int) a2 a3 a4 (0, a5, (splice a6 a7 [true]), a7 + 1) _ h4
     apply bn h; intro x5 h5 h
     apply bn h; intro x6 h6 h
     rw [← sj h]
     exact fcF (m := 5) (v := (vb true)) (h' := (WR a2 a3 a4 x4_0 x4_1 x5 x4_2 a1)) [(13, .d true), (22, .r (.sl 2 a5 1 0 (a7 + 1)) (LK a2 a3 a4 a5 a6 a7 a1)), (25, .v (i6 (a1.kids.length : Int))), (2000, .l (.brk 0) (Ts g4 a7 a1 a2 a3 a4 x4_0 x4_1 x4_2)), (37, .v (.rp 2 x4_0 1 x5 0)), (1037, .r ud (WR a2 a3 a4 x4_0 x4_1 x5 x4_2 a1)), (6000, .d true)] (av h1 (apc ((Wy (e := Zc) (xs := a6) (news := [true]) rfl (ZI (e := Zc) (xs := [true]) rfl) rfl h2 h3) : appA (LL a2 a3 a4 a5 a6 a7 a1) 4 1 1 (.sl 2 a5 1 0 a7) (.sl 6 0 1 0 1) = some ((.sl 2 a5 1 0 (a7 + 1)), LK a2 a3 a4 a5 a6 a7 a1)) (apc q0 (apc (SB ((a7 : Nat) : Int) a1 (a1.kids.length : Int) a2 a3 a4 0 a5 (splice a6 a7 [true]) (a7 + 1)) (apc (e4 : Xe ((a7 : Nat) : Int) a1 (a1.kids.length : Int) a2 a3 a4 0 a5 (splice a6 a7 [true]) (a7 + 1) = some ((.brk 0), Ts g4 a7 a1 a2 a3 a4 x4_0 x4_1 x4_2)) (apc ((ZN h5) : idxA 1 (.sl 2 x4_0 1 0 x4_2) (i6 ((a7 : Nat) : Int)) = some (.rp 2 x4_0 1 x5 0)) (apc (⟨ZV (v' := true) rfl h6 rfl rfl (Nat.le_of_ble_eq_true rfl) rfl, rfl⟩ : stA (LM a2 a3 a4 x4_0 x4_1 x4_2 a1) 1 (.rp 2 x4_0 1 x5 0) (vb true) = some (WR a2 a3 a4 x4_0 x4_1 x5 x4_2 a1) ∧ ud = ud) apn))))))) rfl (ac (ar (ar (ac (ac rfl))))) rfl (ac (ar (ar (ac (ac rfl))))) rfl (by kernel_rfl)
   ·
    apply bn h; intro r4 h4 h
    cases r4 with
    | k0 x4_0 x4_1 x4_2 =>
     obtain ⟨g4, e4⟩ := SD rF28_2 hF28_2 ((a7 : Nat) : Int) a1 (a1.kids.length : Int) a2 a3 a4 (0, a5 + 1, (a6.take a7 ++ [true]), a7 + 1) _ h4
     apply bn h; intro x5 h5 h
     apply bn h; intro x6 h6 h
     rw [← sj h]
     exact fcF (m := 5) (v := (vb true)) (h' := (WR a2 a3 a4 x4_0 x4_1 x5 x4_2 a1)) [(13, .d true), (22, .r (.sl 2 (a5 + 1) 1 0 (a7 + 1)) (LN a2 a3 a4 a5 a6 a7 a1)), (25, .v (i6 (a1.kids.length : Int))), (2000, .l (.brk 0) (Ts g4 a7 a1 a2 a3 a4 x4_0 x4_1 x4_2)), (37, .v (.rp 2 x4_0 1 x5 0)), (1037, .r ud (WR a2 a3 a4 x4_0 x4_1 x5 x4_2 a1)), (6000, .d true)] (av h1 (apc ((Yy (e := Zc) (xs := a6) (news := [true]) rfl (ZI (e := Zc) (xs := [true]) rfl) rfl h2 h3) : appA (LL a2 a3 a4 a5 a6 a7 a1) 4 1 1 (.sl 2 a5 1 0 a7) (.sl 6 0 1 0 1) = some ((.sl 2 (a5 + 1) 1 0 (a7 + 1)), LN a2 a3 a4 a5 a6 a7 a1)) (apc q0 (apc (SB ((a7 : Nat) : Int) a1 (a1.kids.length : Int) a2 a3 a4 0 (a5 + 1) (a6.take a7 ++ [true]) (a7 + 1)) (apc (e4 : Xe ((a7 : Nat) : Int) a1 (a1.kids.length : Int) a2 a3 a4 0 (a5 + 1) (a6.take a7 ++ [true]) (a7 + 1) = some ((.brk 0), Ts g4 a7 a1 a2 a3 a4 x4_0 x4_1 x4_2)) (apc ((ZN h5) : idxA 1 (.sl 2 x4_0 1 0 x4_2) (i6 ((a7 : Nat) : Int)) = some (.rp 2 x4_0 1 x5 0)) (apc (⟨ZV (v' := true) rfl h6 rfl rfl (Nat.le_of_ble_eq_true rfl) rfl, rfl⟩ : stA (LM a2 a3 a4 x4_0 x4_1 x4_2 a1) 1 (.rp 2 x4_0 1 x5 0) (vb true) = some (WR a2 a3 a4 x4_0 x4_1 x5 x4_2 a1) ∧ ud = ud) apn))))))) rfl (ac (ar (ar (ac (ac rfl))))) rfl (ac (ar (ar (ac (ac rfl))))) rfl (by kernel_rfl)
  ·
   cases h
 ·
  apply bn h; intro x2 h2 h
  have q1 := (((CN a1 h2).cp rfl _) : CP prg 29 [vs a1.text, (vs (⟨([10] : List UInt8).toArray⟩ : ByteArray))] [.cells 25 ((cBx a2).map .p), yB a3 a4, yB a5 a6, .cells 48 [.sl 2 a5 1 0 a7], .cells 26 [(.fn 28 [.ptr 3 0, .ptr 4 0])], .cells 25 ((cBx a1).map .p)] = some (vb x2))
  have k2 := ka [(13, .d false), (17, .v (vb x2))] (av h1 (apc q1 apn))
  apply bi h <;> intro h3 h
  ·
   apply bi h <;> intro h4 h
   ·
    apply bn h; intro r5 h5 h
    cases r5 with
    | k0 x5_0 x5_1 x5_2 x5_3 =>
     obtain ⟨g5, e5⟩ := SF rF28_2 hF28_2 ((a7 : Nat) : Int) x2 a1 (a1.kids.length : Int) a2 a3 a4 (x2, 0, a5, (splice a6 a7 [x2]), a7 + 1) _ h5
     apply bn h; intro x6 h6 h
     apply bn h; intro x7 h7 h
     rw [← sj h]
     exact fcF (m := 5) (v := (vb x5_0)) (h' := [.cells 25 ((cBx a2).map .p), yB a3 a4, yB x5_1 (x5_2.set x6 x5_0), .cells 48 [.sl 2 x5_1 1 0 x5_3], .cells 26 [(.fn 28 [.ptr 3 0, .ptr 4 0])], .cells 25 ((cBx a1).map .p), .row 4 1 0 [[vb x2]]]) ([(22, .r (.sl 2 a5 1 0 (a7 + 1)) (LO a2 a3 a4 a5 a6 a7 x2 a1)), (25, .v (i6 (a1.kids.length : Int))), (2000, .l (.brk 0) (Tt g5 a7 x5_0 a1 a2 a3 a4 x5_1 x5_2 x5_3 x2)), (37, .v (.rp 2 x5_1 1 x6 0)), (1037, .r ud [.cells 25 ((cBx a2).map .p), yB a3 a4, yB x5_1 (x5_2.set x6 x5_0), .cells 48 [.sl 2 x5_1 1 0 x5_3], .cells 26 [(.fn 28 [.ptr 3 0, .ptr 4 0])], .cells 25 ((cBx a1).map .p), .row 4 1 0 [[vb x2]]]), (6000, .d true)] ++ kH k2) (k2.b (apc ((Wy (e := Zc) (xs := a6) (news := [x2]) rfl (ZI (e := Zc) (xs := [x2]) rfl) rfl h3 h4) : appA (LP a2 a3 a4 a5 a6 a7 a1 x2) 4 1 1 (.sl 2 a5 1 0 a7) (.sl 6 0 1 0 1) = some ((.sl 2 a5 1 0 (a7 + 1)), LO a2 a3 a4 a5 a6 a7 x2 a1)) (apc q0 (apc (Ul ((a7 : Nat) : Int) x2 a1 (a1.kids.length : Int) a2 a3 a4 x2 0 a5 (splice a6 a7 [x2]) (a7 + 1)) (apc (e5 : Xf ((a7 : Nat) : Int) x2 a1 (a1.kids.length : Int) a2 a3 a4 x2 0 a5 (splice a6 a7 [x2]) (a7 + 1) = some ((.brk 0), Tt g5 a7 x5_0 a1 a2 a3 a4 x5_1 x5_2 x5_3 x2)) (apc ((ZN h6) : idxA 1 (.sl 2 x5_1 1 0 x5_3) (i6 ((a7 : Nat) : Int)) = some (.rp 2 x5_1 1 x6 0)) (apc (⟨ZV (v' := x5_0) rfl h7 rfl rfl (Nat.le_of_ble_eq_true rfl) rfl, rfl⟩ : stA (OJ a2 a3 a4 x5_1 x5_2 x5_3 a1 x2) 1 (.rp 2 x5_1 1 x6 0) (vb x5_0) = some [.cells 25 ((cBx a2).map .p), yB a3 a4, yB x5_1 (x5_2.set x6 x5_0), .cells 48 [.sl 2 x5_1 1 0 x5_3], .cells 26 [(.fn 28 [.ptr 3 0, .ptr 4 0])], .cells 25 ((cBx a1).map .p), .row 4 1 0 [[vb x2]]] ∧ ud = ud) apn))))))) rfl (ac (ar (ar (ac (ac rfl))))) rfl (ac (ar (ar (ac (ac rfl))))) rfl (by kernel_rfl)
   ·
    apply bn h; intro r5 h5 h
    cases r5 with
    | k0 x5_0 x5_1 x5_2 x5_3 =>
     obtain ⟨g5, e5⟩ := SF rF28_2 hF28_2 ((a7 : Nat) : Int) x2 a1 (a1.kids.length : Int) a2 a3 a4 (x2, 0, a5 + 1, (a6.take a7 ++ [x2]), a7 + 1) _ h5
     apply bn h; intro x6 h6 h
     apply bn h; intro x7 h7 h
     rw [← sj h]
     exact fcF (m := 5) (v := (vb x5_0)) (h' := [.cells 25 ((cBx a2).map .p), yB a3 a4, yB x5_1 (x5_2.set x6 x5_0), .cells 48 [.sl 2 x5_1 1 0 x5_3], .cells 26 [(.fn 28 [.ptr 3 0, .ptr 4 0])], .cells 25 ((cBx a1).map .p), .row 4 1 0 [[vb x2]]]) ([(22, .r (.sl 2 (a5 + 1) 1 0 (a7 + 1)) (OK a2 a3 a4 a5 a6 a7 x2 a1)), (25, .v (i6 (a1.kids.length : Int))), (2000, .l (.brk 0) (Tt g5 a7 x5_0 a1 a2 a3 a4 x5_1 x5_2 x5_3 x2)), (37, .v (.rp 2 x5_1 1 x6 0)), (1037, .r ud [.cells 25 ((cBx a2).map .p), yB a3 a4, yB x5_1 (x5_2.set x6 x5_0), .cells 48 [.sl 2 x5_1 1 0 x5_3], .cells 26 [(.fn 28 [.ptr 3 0, .ptr 4 0])], .cells 25 ((cBx a1).map .p), .row 4 1 0 [[vb x2]]]), (6000, .d true)] ++ kH k2) (k2.b (apc ((Yy (e := Zc) (xs := a6) (news := [x2]) rfl (ZI (e := Zc) (xs := [x2]) rfl) rfl h3 h4) : appA (LP a2 a3 a4 a5 a6 a7 a1 x2) 4 1 1 (.sl 2 a5 1 0 a7) (.sl 6 0 1 0 1) = some ((.sl 2 (a5 + 1) 1 0 (a7 + 1)), OK a2 a3 a4 a5 a6 a7 x2 a1)) (apc q0 (apc (Ul ((a7 : Nat) : Int) x2 a1 (a1.kids.length : Int) a2 a3 a4 x2 0 (a5 + 1) (a6.take a7 ++ [x2]) (a7 + 1)) (apc (e5 : Xf ((a7 : Nat) : Int) x2 a1 (a1.kids.length : Int) a2 a3 a4 x2 0 (a5 + 1) (a6.take a7 ++ [x2]) (a7 + 1) = some ((.brk 0), Tt g5 a7 x5_0 a1 a2 a3 a4 x5_1 x5_2 x5_3 x2)) (apc ((ZN h6) : idxA 1 (.sl 2 x5_1 1 0 x5_3) (i6 ((a7 : Nat) : Int)) = some (.rp 2 x5_1 1 x6 0)) (apc (⟨ZV (v' := x5_0) rfl h7 rfl rfl (Nat.le_of_ble_eq_true rfl) rfl, rfl⟩ : stA (OJ a2 a3 a4 x5_1 x5_2 x5_3 a1 x2) 1 (.rp 2 x5_1 1 x6 0) (vb x5_0) = some [.cells 25 ((cBx a2).map .p), yB a3 a4, yB x5_1 (x5_2.set x6 x5_0), .cells 48 [.sl 2 x5_1 1 0 x5_3], .cells 26 [(.fn 28 [.ptr 3 0, .ptr 4 0])], .cells 25 ((cBx a1).map .p), .row 4 1 0 [[vb x2]]] ∧ ud = ud) apn))))))) rfl (ac (ar (ar (ac (ac rfl))))) rfl (ac (ar (ar (ac (ac rfl))))) rfl (by kernel_rfl)
  ·
   cases h
def SG : Nat → XB
  | 0 => fun _ _ _ _ _ _ _ => none
  | Nf + 1 => WB (SG Nf)
theorem Gy (Nf : Nat) : Uz (SG Nf) := by
  induction Nf with
  | zero => intro a1 a2 a3 a4 a5 a6 a7 r h; have h : (none : Option R_F28_2) = some r := h; cases h
  | succ Nf ih => intro a1 a2 a3 a4 a5 a6 a7 r h; exact I2 (SG Nf) ih a1 a2 a3 a4 a5 a6 a7 h
def BA (a1 : BoxD) (x0 : (List Bool)) : AV := (ls 1 Zc x0)
def F18 (Nf : Nat) (a1 : BoxD) : Option (List Bool) :=
  ((SG Nf a1 a1 0 ([]) 0 ([]) 0).bind fun r1 => match r1 with | .k0 x1_0 x1_1 x1_2 x1_3 => (bif (decide (x1_3 ≤ x1_2.length)) then (some (x1_2.take x1_3)) else none))
abbrev I3 (a1 : BoxD) (x1_1 : Nat) (x1_2 : List Bool) (x1_3 : Nat) : List AB := [.cells 25 ((cBx a1).map .p), yB 0 ([]), yB x1_1 x1_2, .cells 48 [.sl 2 x1_1 1 0 x1_3], .cells 26 [(.fn 28 [.ptr 3 0, .ptr 4 0])]]
theorem FG (Nf : Nat) (a1 : BoxD) {r : (List Bool)} (h : F18 Nf a1 = some r) : PR2 prg 18 [(.agg ((cBx a1).map .p))] (BA a1 r) := by
 unfold F18 at h
 apply bn h; intro r1 h1 h
 cases r1 with
 | k0 x1_0 x1_1 x1_2 x1_3 =>
  have q0 := ((Gy Nf a1 a1 0 ([]) 0 ([]) 0 h1 []) : CS prg 28 [(.agg ((cBx a1).map .p)), .ptr 3 0, .ptr 4 0] [.cells 25 ((cBx a1).map .p), yB0, yB0, .cells 48 [.sl 2 0 1 0 0], .cells 26 [(.fn 28 [.ptr 3 0, .ptr 4 0])]] = some ((vb x1_0), I3 a1 x1_1 x1_2 x1_3))
  have k1 := ka [(8, .r (vb x1_0) (I3 a1 x1_1 x1_2 x1_3))] (apc q0 apn)
  apply bi h <;> intro h2 h
  ·
   rw [← sj h]
   exact fpn (v := (.sl 2 x1_1 1 0 x1_3)) (h' := (I3 a1 x1_1 x1_2 x1_3)) (kH k1) (k1.b apn) (Po (e := Zc) rfl h2) rfl (Po (e := Zc) (getq rfl (ID (fun _ => rfl))) h2) (by kernel_rfl)
  ·
   cases h
inductive R_F30_2 where
  | k0 (x0 : Nat) (x1 : List Int) (x2 : Nat)
def I4 (a1 a2 : BoxD) (a3 : Nat) (a4 : List Int) (a5 : Nat) (a6 : List Int) (a7 : Nat) (r : R_F30_2) : AV := match r with | .k0 x0 x1 x2 => (.tup [])
def I5 (a1 a2 : BoxD) (a3 : Nat) (a4 : List Int) (a5 : Nat) (a6 : List Int) (a7 : Nat) (r : R_F30_2) : List AB := match r with | .k0 x0 x1 x2 => [.cells 25 ((cBx a2).map .p), yI a3 a4, yI x0 x1, .cells 57 [.sl 2 x0 1 0 x2], .cells 69 [(.fn 30 [.ptr 3 0, .ptr 4 0])]]
abbrev VB := BoxD → BoxD → Nat → (List Int) → Nat → (List Int) → Nat → Option R_F30_2
abbrev Pv (f : VB) : Prop := ∀ (a1 a2 : BoxD) (a3 : Nat) (a4 : List Int) (a5 : Nat) (a6 : List Int) (a7 : Nat) {r : R_F30_2}, f a1 a2 a3 a4 a5 a6 a7 = some r → ∀ hx : List AB, CS prg 30 [(.agg ((cBx a1).map .p)), .ptr 3 0, .ptr 4 0] ([.cells 25 ((cBx a2).map .p), yI a3 a4, yI a5 a6, .cells 57 [.sl 2 a5 1 0 a7], .cells 69 [(.fn 30 [.ptr 3 0, .ptr 4 0])]] ++ hx) = some (I4 a1 a2 a3 a4 a5 a6 a7 r, I5 a1 a2 a3 a4 a5 a6 a7 r ++ hx)
inductive E_L30_0_2 where
  | k0 (x0 : Nat) (x1 : List Int) (x2 : Nat)
def XC (rF30_2 : VB) (a2 : BoxD) (a3 : Int) (a4 : BoxD) (a5 : Nat) (a6 : List Int) (v1 : Int) (v2 : Nat) (v3 : List Int) (v4 : Nat) : Option (E_L30_0_2 ⊕ (Int × Nat × (List Int) × Nat)) :=
  (bif (decide (v1 < a3)) then ((getI a2.kids v1).bind fun x2 => ((rF30_2 x2 a4 a5 a6 v2 v3 v4).bind fun r3 => match r3 with | .k0 x3_0 x3_1 x3_2 => (some (.inr ((IntKind.wrap .i64 (v1 + 1)), x3_0, x3_1, x3_2))))) else (some (.inl (.k0 v2 v3 v4))))
def OL (a1 : Int) (a2 : BoxD) (a3 : Int) (a4 : BoxD) (a5 : Nat) (a6 : List Int) (v1 : Int) (v2 : Nat) (v3 : List Int) (v4 : Nat) : St := ⟨fr 30 ug [(1, .ptr 3 0), (2, .ptr 4 0), (4, i6 a1), (13, (.p (.lst 4 (Zb a2.kids)))), (14, i6 a3), (15, i6 v1)], [.cells 25 ((cBx a4).map .p), yI a5 a6, yI v2 v3, .cells 57 [.sl 2 v2 1 0 v4], .cells 69 [(.fn 30 [.ptr 3 0, .ptr 4 0])], .cells 25 ((cBx a2).map .p), .row 3 1 0 [[i6 0]]]⟩
theorem SH (a1 : Int) (a2 : BoxD) (a3 : Int) (a4 : BoxD) (a5 : Nat) (a6 : List Int) (v1 : Int) (v2 : Nat) (v3 : List Int) (v4 : Nat) : okT 7 (OL a1 a2 a3 a4 a5 a6 v1 v2 v3 v4).h = true := (ZA rfl (ac (ar (ar (ac (ac (ac (ac rfl))))))))
abbrev Xg (a1 : Int) (a2 : BoxD) (a3 : Int) (a4 : BoxD) (a5 : Nat) (a6 : List Int) (v1 : Int) (v2 : Nat) (v3 : List Int) (v4 : Nat) := evH prg 7 [1, 2, 4, 13, 14, 15] IN (OL a1 a2 a3 a4 a5 a6 v1 v2 v3 v4)
def SI (a1 : Int) (a2 : BoxD) (a3 : Int) (a4 : BoxD) (a5 : Nat) (a6 : List Int) (e : E_L30_0_2) (r : Option (Out × St)) : Prop := match e with | .k0 x0 x1 x2 => ∃ g, r = some ((.brk 0), ⟨fr 30 g [(1, .ptr 3 0), (4, i6 a1), (13, (.p (.lst 4 (Zb a2.kids))))], [.cells 25 ((cBx a4).map .p), yI a5 a6, yI x0 x1, .cells 57 [.sl 2 x0 1 0 x2], .cells 69 [(.fn 30 [.ptr 3 0, .ptr 4 0])], .cells 25 ((cBx a2).map .p), .row 3 1 0 [[i6 0]]]⟩)
abbrev Qg (a4 : BoxD) (a5 : Nat) (a6 : List Int) (x3_0 : Nat) (x3_1 : List Int) (x3_2 : Nat) (a2 x2 : BoxD) : List AB := [.cells 25 ((cBx a4).map .p), yI a5 a6, yI x3_0 x3_1, .cells 57 [.sl 2 x3_0 1 0 x3_2], .cells 69 [(.fn 30 [.ptr 3 0, .ptr 4 0])], .cells 25 ((cBx a2).map .p), .row 3 1 0 [[i6 0]], .row 25 4 0 (ra cBx []), .cells 25 ((cBx x2).map .p)]
theorem Jh (rF30_2 : VB) (hF30_2 : Pv rF30_2) (a1 : Int) (a2 : BoxD) (a3 : Int) (a4 : BoxD) (a5 : Nat) (a6 : List Int) (v1 : Int) (v2 : Nat) (v3 : List Int) (v4 : Nat) {r : E_L30_0_2 ⊕ (Int × Nat × (List Int) × Nat)} (h : XC rF30_2 a2 a3 a4 a5 a6 v1 v2 v3 v4 = some r) : OkR (fun e => SI a1 a2 a3 a4 a5 a6 e (Xg a1 a2 a3 a4 a5 a6 v1 v2 v3 v4)) (fun s => Xg a1 a2 a3 a4 a5 a6 v1 v2 v3 v4 = Xg a1 a2 a3 a4 a5 a6 s.1 s.2.1 s.2.2.1 s.2.2.2) r := by
 unfold XC at h
 apply bi h <;> intro h1 h
 ·
  apply bn h; intro x2 h2 h
  apply bn h; intro r3 h3 h
  cases r3 with
  | k0 x3_0 x3_1 x3_2 =>
   rw [← sj h]
   exact rn [(16, .d true), (17, .v (.ro (cBx x2))), (21, .r (.tup []) (Qg a4 a5 a6 x3_0 x3_1 x3_2 a2 x2)), (6000, .d true)] (av h1 (apc ((igr Zy h2) : idxA 4 (.p (.lst 4 (Zb a2.kids))) (i6 v1) = some (.ro (cBx x2))) (apc ((hF30_2 x2 a4 a5 a6 v2 v3 v4 h3 [.cells 25 ((cBx a2).map .p), .row 3 1 0 [[i6 0]], .row 25 4 0 (ra cBx []), .cells 25 ((cBx x2).map .p)]) : CS prg 30 [(.agg ((cBx x2).map .p)), .ptr 3 0, .ptr 4 0] [.cells 25 ((cBx a4).map .p), yI a5 a6, yI v2 v3, .cells 57 [.sl 2 v2 1 0 v4], .cells 69 [(.fn 30 [.ptr 3 0, .ptr 4 0])], .cells 25 ((cBx a2).map .p), .row 3 1 0 [[i6 0]], .row 25 4 0 (ra cBx []), .cells 25 ((cBx x2).map .p)] = some ((.tup []), Qg a4 a5 a6 x3_0 x3_1 x3_2 a2 x2)) (apc (SH a1 a2 a3 a4 a5 a6 (w6 (v1 + 1)) x3_0 x3_1 x3_2) apn))))
 ·
  rw [← sj h]
  exact xb [(16, .d false), (6000, .d true)] (av h1 apn)
theorem SJ (rF30_2 : VB) (hF30_2 : Pv rF30_2) (a1 : Int) (a2 : BoxD) (a3 : Int) (a4 : BoxD) (a5 : Nat) (a6 : List Int) (s0 : Int × Nat × (List Int) × Nat) (e : E_L30_0_2) (h : runL (fun s => XC rF30_2 a2 a3 a4 a5 a6 s.1 s.2.1 s.2.2.1 s.2.2.2) s0 = some e) : SI a1 a2 a3 a4 a5 a6 e (Xg a1 a2 a3 a4 a5 a6 s0.1 s0.2.1 s0.2.2.1 s0.2.2.2) := by
  have q := @Zg (Int × Nat × (List Int) × Nat) E_L30_0_2 (fun s => XC rF30_2 a2 a3 a4 a5 a6 s.1 s.2.1 s.2.2.1 s.2.2.2) (fun s => Xg a1 a2 a3 a4 a5 a6 s.1 s.2.1 s.2.2.1 s.2.2.2) (SI a1 a2 a3 a4 a5 a6) (fun s r h => Jh rF30_2 hF30_2 a1 a2 a3 a4 a5 a6 s.1 s.2.1 s.2.2.1 s.2.2.2 h) s0 e h
  exact q
def UA (rF30_2 : VB) (a1 a2 : BoxD) (a3 : Nat) (a4 : List Int) (a5 : Nat) (a6 : List Int) (a7 : Nat) : Option R_F30_2 :=
  (bif (apOk a7 1 a6.length 8) then (bif (decide (a7 + 1 ≤ a6.length)) then ((runL (fun s => XC rF30_2 a1 (a1.kids.length : Int) a2 a3 a4 s.1 s.2.1 s.2.2.1 s.2.2.2) (0, a5, (splice a6 a7 [0]), a7 + 1)).bind fun r3 => match r3 with | .k0 x3_0 x3_1 x3_2 => ((ixN x3_2 ((a7 : Nat) : Int)).bind fun x4 => ((x3_1[x4]?).bind fun x5 => (some (.k0 x3_0 (x3_1.set x4 (IntKind.wrap .i64 (((x3_2 : Nat) : Int) - ((a7 : Nat) : Int)))) x3_2))))) else ((runL (fun s => XC rF30_2 a1 (a1.kids.length : Int) a2 a3 a4 s.1 s.2.1 s.2.2.1 s.2.2.2) (0, a5 + 1, (a6.take a7 ++ [0]), a7 + 1)).bind fun r3 => match r3 with | .k0 x3_0 x3_1 x3_2 => ((ixN x3_2 ((a7 : Nat) : Int)).bind fun x4 => ((x3_1[x4]?).bind fun x5 => (some (.k0 x3_0 (x3_1.set x4 (IntKind.wrap .i64 (((x3_2 : Nat) : Int) - ((a7 : Nat) : Int)))) x3_2)))))) else none)
abbrev WS (a2 : BoxD) (a3 : Nat) (a4 : List Int) (x3_0 : Nat) (x3_1 : List Int) (x4 x3_2 a7 : Nat) (a1 : BoxD) : List AB := [.cells 25 ((cBx a2).map .p), yI a3 a4, .row 3 1 x3_0 (ra eI64 (x3_1.set x4 (w6 (((x3_2 : Nat) : Int) - ((a7 : Nat) : Int))))), .cells 57 [.sl 2 x3_0 1 0 x3_2], .cells 69 [(.fn 30 [.ptr 3 0, .ptr 4 0])], .cells 25 ((cBx a1).map .p), .row 3 1 0 [[i6 0]]]
abbrev LQ (a2 : BoxD) (a3 : Nat) (a4 : List Int) (a5 : Nat) (a6 : List Int) (a7 : Nat) (a1 : BoxD) : List AB := [.cells 25 ((cBx a2).map .p), yI a3 a4, yI a5 (splice a6 a7 [0]), .cells 57 [.sl 2 a5 1 0 a7], .cells 69 [(.fn 30 [.ptr 3 0, .ptr 4 0])], .cells 25 ((cBx a1).map .p), .row 3 1 0 [[i6 0]]]
abbrev Tu (g3 : Nat → AV) (a7 : Nat) (a1 a2 : BoxD) (a3 : Nat) (a4 : List Int) (x3_0 : Nat) (x3_1 : List Int) (x3_2 : Nat) : St := ⟨fr 30 g3 [(1, .ptr 3 0), (4, (i6 ((a7 : Nat) : Int))), (13, (.p (.lst 4 (Zb a1.kids))))], [.cells 25 ((cBx a2).map .p), yI a3 a4, yI x3_0 x3_1, .cells 57 [.sl 2 x3_0 1 0 x3_2], .cells 69 [(.fn 30 [.ptr 3 0, .ptr 4 0])], .cells 25 ((cBx a1).map .p), .row 3 1 0 [[i6 0]]]⟩
abbrev LR (a2 : BoxD) (a3 : Nat) (a4 : List Int) (a5 : Nat) (a6 : List Int) (a7 : Nat) (a1 : BoxD) : List AB := [.cells 25 ((cBx a2).map .p), yI a3 a4, yI a5 a6, .cells 57 [.sl 2 a5 1 0 a7], .cells 69 [(.fn 30 [.ptr 3 0, .ptr 4 0])], .cells 25 ((cBx a1).map .p), .row 3 1 0 [[i6 0]]]
abbrev LS (a2 : BoxD) (a3 : Nat) (a4 : List Int) (x3_0 : Nat) (x3_1 : List Int) (x3_2 : Nat) (a1 : BoxD) : List AB := [.cells 25 ((cBx a2).map .p), yI a3 a4, yI x3_0 x3_1, .cells 57 [.sl 2 x3_0 1 0 x3_2], .cells 69 [(.fn 30 [.ptr 3 0, .ptr 4 0])], .cells 25 ((cBx a1).map .p), .row 3 1 0 [[i6 0]]]
abbrev LT (a2 : BoxD) (a3 : Nat) (a4 : List Int) (a5 : Nat) (a6 : List Int) (a7 : Nat) (a1 : BoxD) : List AB := [.cells 25 ((cBx a2).map .p), yI a3 a4, yI (a5 + 1) (a6.take a7 ++ [0]), .cells 57 [.sl 2 a5 1 0 a7], .cells 69 [(.fn 30 [.ptr 3 0, .ptr 4 0])], .cells 25 ((cBx a1).map .p), .row 3 1 0 [[i6 0]]]
theorem I6 (rF30_2 : VB) (hF30_2 : Pv rF30_2) (a1 a2 : BoxD) (a3 : Nat) (a4 : List Int) (a5 : Nat) (a6 : List Int) (a7 : Nat) {r : R_F30_2} (h : UA rF30_2 a1 a2 a3 a4 a5 a6 a7 = some r) : ∀ hx : List AB, CS prg 30 [(.agg ((cBx a1).map .p)), .ptr 3 0, .ptr 4 0] ([.cells 25 ((cBx a2).map .p), yI a3 a4, yI a5 a6, .cells 57 [.sl 2 a5 1 0 a7], .cells 69 [(.fn 30 [.ptr 3 0, .ptr 4 0])]] ++ hx) = some (I4 a1 a2 a3 a4 a5 a6 a7 r, I5 a1 a2 a3 a4 a5 a6 a7 r ++ hx) := by
 unfold UA at h
 have q0 := ((lgr Zy) : lnA (.p (.lst 4 (Zb a1.kids))) = some (i6 (a1.kids.length : Int)))
 apply bi h <;> intro h1 h
 ·
  apply bi h <;> intro h2 h
  ·
   apply bn h; intro r3 h3 h
   cases r3 with
   | k0 x3_0 x3_1 x3_2 =>
    obtain ⟨g3, e3⟩ := SJ rF30_2 hF30_2 ((a7 : Nat) : Int) a1 (a1.kids.length : Int) a2 a3 a4 (0, a5, (splice a6 a7 [0]), a7 + 1) _ h3
    apply bn h; intro x4 h4 h
    apply bn h; intro x5 h5 h
    rw [← sj h]
    exact fcF (m := 5) (v := (.tup [])) (h' := (WS a2 a3 a4 x3_0 x3_1 x4 x3_2 a7 a1)) [(11, .r (.sl 2 a5 1 0 (a7 + 1)) (LQ a2 a3 a4 a5 a6 a7 a1)), (14, .v (i6 (a1.kids.length : Int))), (2000, .l (.brk 0) (Tu g3 a7 a1 a2 a3 a4 x3_0 x3_1 x3_2)), (29, .v (.rp 2 x3_0 1 x4 0)), (1029, .r ud (WS a2 a3 a4 x3_0 x3_1 x4 x3_2 a7 a1)), (6000, .d true)] (apc ((Wy (e := eI64) (xs := a6) (news := [0]) rfl (ZI (e := eI64) (xs := [0]) rfl) rfl h1 h2) : appA (LR a2 a3 a4 a5 a6 a7 a1) 3 1 8 (.sl 2 a5 1 0 a7) (.sl 6 0 1 0 1) = some ((.sl 2 a5 1 0 (a7 + 1)), LQ a2 a3 a4 a5 a6 a7 a1)) (apc q0 (apc (SH ((a7 : Nat) : Int) a1 (a1.kids.length : Int) a2 a3 a4 0 a5 (splice a6 a7 [0]) (a7 + 1)) (apc (e3 : Xg ((a7 : Nat) : Int) a1 (a1.kids.length : Int) a2 a3 a4 0 a5 (splice a6 a7 [0]) (a7 + 1) = some ((.brk 0), Tu g3 a7 a1 a2 a3 a4 x3_0 x3_1 x3_2)) (apc ((ZN h4) : idxA 1 (.sl 2 x3_0 1 0 x3_2) (i6 ((a7 : Nat) : Int)) = some (.rp 2 x3_0 1 x4 0)) (apc (⟨ZV (v' := (w6 (((x3_2 : Nat) : Int) - ((a7 : Nat) : Int)))) rfl h5 rfl rfl (Nat.le_of_ble_eq_true rfl) rfl, rfl⟩ : stA (LS a2 a3 a4 x3_0 x3_1 x3_2 a1) 1 (.rp 2 x3_0 1 x4 0) (i6 (w6 (((x3_2 : Nat) : Int) - ((a7 : Nat) : Int)))) = some (WS a2 a3 a4 x3_0 x3_1 x4 x3_2 a7 a1) ∧ ud = ud) apn)))))) rfl (ac (ar (ar (ac (ac rfl))))) rfl (ac (ar (ar (ac (ac rfl))))) rfl (by kernel_rfl)
  ·
   apply bn h; intro r3 h3 h
   cases r3 with
   | k0 x3_0 x3_1 x3_2 =>
    obtain ⟨g3, e3⟩ := SJ rF30_2 hF30_2 ((a7 : Nat) : Int) a1 (a1.kids.length : Int) a2 a3 a4 (0, a5 + 1, (a6.take a7 ++ [0]), a7 + 1) _ h3
    apply bn h; intro x4 h4 h
    apply bn h; intro x5 h5 h
    rw [← sj h]
    exact fcF (m := 5) (v := (.tup [])) (h' := (WS a2 a3 a4 x3_0 x3_1 x4 x3_2 a7 a1)) [(11, .r (.sl 2 (a5 + 1) 1 0 (a7 + 1)) (LT a2 a3 a4 a5 a6 a7 a1)), (14, .v (i6 (a1.kids.length : Int))), (2000, .l (.brk 0) (Tu g3 a7 a1 a2 a3 a4 x3_0 x3_1 x3_2)), (29, .v (.rp 2 x3_0 1 x4 0)), (1029, .r ud (WS a2 a3 a4 x3_0 x3_1 x4 x3_2 a7 a1)), (6000, .d true)] (apc ((Yy (e := eI64) (xs := a6) (news := [0]) rfl (ZI (e := eI64) (xs := [0]) rfl) rfl h1 h2) : appA (LR a2 a3 a4 a5 a6 a7 a1) 3 1 8 (.sl 2 a5 1 0 a7) (.sl 6 0 1 0 1) = some ((.sl 2 (a5 + 1) 1 0 (a7 + 1)), LT a2 a3 a4 a5 a6 a7 a1)) (apc q0 (apc (SH ((a7 : Nat) : Int) a1 (a1.kids.length : Int) a2 a3 a4 0 (a5 + 1) (a6.take a7 ++ [0]) (a7 + 1)) (apc (e3 : Xg ((a7 : Nat) : Int) a1 (a1.kids.length : Int) a2 a3 a4 0 (a5 + 1) (a6.take a7 ++ [0]) (a7 + 1) = some ((.brk 0), Tu g3 a7 a1 a2 a3 a4 x3_0 x3_1 x3_2)) (apc ((ZN h4) : idxA 1 (.sl 2 x3_0 1 0 x3_2) (i6 ((a7 : Nat) : Int)) = some (.rp 2 x3_0 1 x4 0)) (apc (⟨ZV (v' := (w6 (((x3_2 : Nat) : Int) - ((a7 : Nat) : Int)))) rfl h5 rfl rfl (Nat.le_of_ble_eq_true rfl) rfl, rfl⟩ : stA (LS a2 a3 a4 x3_0 x3_1 x3_2 a1) 1 (.rp 2 x3_0 1 x4 0) (i6 (w6 (((x3_2 : Nat) : Int) - ((a7 : Nat) : Int)))) = some (WS a2 a3 a4 x3_0 x3_1 x4 x3_2 a7 a1) ∧ ud = ud) apn)))))) rfl (ac (ar (ar (ac (ac rfl))))) rfl (ac (ar (ar (ac (ac rfl))))) rfl (by kernel_rfl)
 ·
  cases h
def RC : Nat → VB
  | 0 => fun _ _ _ _ _ _ _ => none
  | Nf + 1 => UA (RC Nf)
theorem Gz (Nf : Nat) : Pv (RC Nf) := by
  induction Nf with
  | zero => intro a1 a2 a3 a4 a5 a6 a7 r h; have h : (none : Option R_F30_2) = some r := h; cases h
  | succ Nf ih => intro a1 a2 a3 a4 a5 a6 a7 r h; exact I6 (RC Nf) ih a1 a2 a3 a4 a5 a6 a7 h
def BB (a1 : BoxD) (x0 : (List Int)) : AV := (ls 1 eI64 x0)
def F26 (Nf : Nat) (a1 : BoxD) : Option (List Int) :=
  ((RC Nf a1 a1 0 ([]) 0 ([]) 0).bind fun r1 => match r1 with | .k0 x1_0 x1_1 x1_2 => (bif (decide (x1_2 ≤ x1_1.length)) then (some (x1_1.take x1_2)) else none))
abbrev I7 (a1 : BoxD) (x1_0 : Nat) (x1_1 : List Int) (x1_2 : Nat) : List AB := [.cells 25 ((cBx a1).map .p), yI 0 ([]), yI x1_0 x1_1, .cells 57 [.sl 2 x1_0 1 0 x1_2], .cells 69 [(.fn 30 [.ptr 3 0, .ptr 4 0])]]
theorem CO (Nf : Nat) (a1 : BoxD) {r : (List Int)} (h : F26 Nf a1 = some r) : PR2 prg 26 [(.agg ((cBx a1).map .p))] (BB a1 r) := by
 unfold F26 at h
 apply bn h; intro r1 h1 h
 cases r1 with
 | k0 x1_0 x1_1 x1_2 =>
  have q0 := ((Gz Nf a1 a1 0 ([]) 0 ([]) 0 h1 []) : CS prg 30 [(.agg ((cBx a1).map .p)), .ptr 3 0, .ptr 4 0] [.cells 25 ((cBx a1).map .p), yI0, yI0, .cells 57 [.sl 2 0 1 0 0], .cells 69 [(.fn 30 [.ptr 3 0, .ptr 4 0])]] = some ((.tup []), I7 a1 x1_0 x1_1 x1_2))
  have k1 := ka [(8, .r (.tup []) (I7 a1 x1_0 x1_1 x1_2))] (apc q0 apn)
  apply bi h <;> intro h2 h
  ·
   rw [← sj h]
   exact fpn (v := (.sl 2 x1_0 1 0 x1_2)) (h' := (I7 a1 x1_0 x1_1 x1_2)) (kH k1) (k1.b apn) (Po (e := eI64) rfl h2) rfl (Po (e := eI64) (getq rfl (ID (fun _ => rfl))) h2) (by kernel_rfl)
  ·
   cases h
def DF (a1 : BoxD) (a2 : Nat) (a3 : List ThingD) (a4 : Bool) (a5 a6 a7 : Nat) (a8 : List Bool) (a9 : List Int) (a10 a11 : Int) (a12 : Bool) (a13 : List Int) (x0 : Int) : AV := (i6 x0)
def DG (a1 : BoxD) (a2 : Nat) (a3 : List ThingD) (a4 : Bool) (a5 a6 a7 : Nat) (a8 : List Bool) (a9 : List Int) (a10 a11 : Int) (a12 : Bool) (a13 : List Int) (x0 : Int) : List AB := [.cells 25 ((cBx a1).map .p), yT a2 a3, .cells 66 [sp a4 2 0, .sl 3 a5 1 0 a6, .sl 1 a2 7 0 a7, ls 1 Zc a8, ls 1 eI64 a9, i6 a10, i6 a11, vb a12], yU a5 a13]
def GA (a6 : Nat) : Option Int :=
  (some ((a6 : Nat) : Int))
theorem GB (a1 : BoxD) (a2 : Nat) (a3 : List ThingD) (a4 : Bool) (a5 a6 a7 : Nat) (a8 : List Bool) (a9 : List Int) (a10 a11 : Int) (a12 : Bool) (a13 : List Int) {r : Int} (h : GA a6 = some r) : CS prg 31 [.ptr 2 0] [.cells 25 ((cBx a1).map .p), yT a2 a3, .cells 66 [sp a4 2 0, .sl 3 a5 1 0 a6, .sl 1 a2 7 0 a7, ls 1 Zc a8, ls 1 eI64 a9, i6 a10, i6 a11, vb a12], yU a5 a13] = some (DF a1 a2 a3 a4 a5 a6 a7 a8 a9 a10 a11 a12 a13 r, DG a1 a2 a3 a4 a5 a6 a7 a8 a9 a10 a11 a12 a13 r) := by
 unfold GA at h
 rw [← sj h]
 exact fc [] apn
def DH (a1 : BoxD) (a2 : Nat) (a3 : List ThingD) (a4 : Bool) (a5 a6 a7 : Nat) (a8 : List Bool) (a9 : List Int) (a10 a11 : Int) (a12 : Bool) (a13 : List Int) (a14 : ThingD) (x0 : Bool) : AV := (.tup [])
def DI (a1 : BoxD) (a2 : Nat) (a3 : List ThingD) (a4 : Bool) (a5 a6 a7 : Nat) (a8 : List Bool) (a9 : List Int) (a10 a11 : Int) (a12 : Bool) (a13 : List Int) (a14 : ThingD) (x0 : Bool) : List AB := [.cells 25 ((cBx a1).map .p), yT a2 a3, .cells 66 [sp x0 2 0, .sl 3 a5 1 0 a6, .sl 1 a2 7 0 a7, ls 1 Zc a8, ls 1 eI64 a9, i6 a10, i6 a11, vb a12], yU a5 a13, .row 25 4 0 (ra cBx []), .cells 60 ((Za a14).map .p)]
def Mv (a4 : Bool) : Option Bool :=
  (bif a4 then (some a4) else (some true))
abbrev Tv (a1 : BoxD) (a2 : Nat) (a3 : List ThingD) (a4 : Bool) (a5 a6 a7 : Nat) (a8 : List Bool) (a9 : List Int) (a10 a11 : Int) (a12 : Bool) (a13 : List Int) (a14 : ThingD) : List AB := [.cells 25 ((cBx a1).map .p), yT a2 a3, .cells 66 [sp a4 2 0, .sl 3 a5 1 0 a6, .sl 1 a2 7 0 a7, ls 1 Zc a8, ls 1 eI64 a9, i6 a10, i6 a11, vb a12], yU a5 a13, .row 25 4 0 (ra cBx []), .cells 60 ((Za a14).map .p)]
theorem Pw (a1 : BoxD) (a2 : Nat) (a3 : List ThingD) (a4 : Bool) (a5 a6 a7 : Nat) (a8 : List Bool) (a9 : List Int) (a10 a11 : Int) (a12 : Bool) (a13 : List Int) (a14 : ThingD) {r : Bool} (h : Mv a4 = some r) : CS prg 42 [.ptr 2 0] [.cells 25 ((cBx a1).map .p), yT a2 a3, .cells 66 [sp a4 2 0, .sl 3 a5 1 0 a6, .sl 1 a2 7 0 a7, ls 1 Zc a8, ls 1 eI64 a9, i6 a10, i6 a11, vb a12], yU a5 a13, .row 25 4 0 (ra cBx []), .cells 60 ((Za a14).map .p)] = some (DH a1 a2 a3 a4 a5 a6 a7 a8 a9 a10 a11 a12 a13 a14 r, DI a1 a2 a3 a4 a5 a6 a7 a8 a9 a10 a11 a12 a13 a14 r) := by
 unfold Mv at h
 apply bi h <;> intro h1 h
 ·
  have q0 := (((rfl : ldA (Tv a1 a2 a3 a4 a5 a6 a7 a8 a9 a10 a11 a12 a13 a14) .false 1 (.ptr 2 0) = some (sp a4 2 0)).trans (congrArg some (sp_t h1))) : ldA (Tv a1 a2 a3 a4 a5 a6 a7 a8 a9 a10 a11 a12 a13 a14) .false 1 (.ptr 2 0) = some (.ptr 2 0))
  rw [← sj h]
  exact fc [(5, .v (.ptr 2 0)), (17, .v (.ptr 2 0))] (apc q0 (apc q0 apn))
 ·
  rw [← sj h]
  exact fc [(5, .v (.p (.val (.pointer .none))))] (apc (((rfl : ldA (Tv a1 a2 a3 a4 a5 a6 a7 a8 a9 a10 a11 a12 a13 a14) .false 1 (.ptr 2 0) = some (sp a4 2 0)).trans (congrArg some (sp_f h1))) : ldA (Tv a1 a2 a3 a4 a5 a6 a7 a8 a9 a10 a11 a12 a13 a14) .false 1 (.ptr 2 0) = some (.p (.val (.pointer .none)))) apn)
inductive R_F34_7 where
  | k0 (x0 : Int) (x1 : Bool) (x2 : Nat) (x3 : List Int)
def DJ (a1 : ByteArray) (a2 : BoxD) (a3 : Nat) (a4 : List ThingD) (a5 : Bool) (a6 a7 a8 : Nat) (a9 : List Bool) (a10 : List Int) (a11 a12 : Int) (a13 : Bool) (a14 : List Int) (a15 : ThingD) (r : R_F34_7) : AV := match r with | .k0 x0 x1 x2 x3 => (.tup [i6 x0, (.p (.val .nilIface))])
def DK (a1 : ByteArray) (a2 : BoxD) (a3 : Nat) (a4 : List ThingD) (a5 : Bool) (a6 a7 a8 : Nat) (a9 : List Bool) (a10 : List Int) (a11 a12 : Int) (a13 : Bool) (a14 : List Int) (a15 : ThingD) (r : R_F34_7) : List AB := match r with | .k0 x0 x1 x2 x3 => [.cells 25 ((cBx a2).map .p), yT a3 a4, .cells 66 [sp x1 2 0, (.sl 3 x2 1 0 (a7 + (Zj a1).length)), .sl 1 a3 7 0 a8, ls 1 Zc a9, ls 1 eI64 a10, i6 a11, i6 a12, vb a13], yU x2 x3, .row 25 4 0 (ra cBx []), .cells 60 ((Za a15).map .p)]
def Ji (a1 : ByteArray) (a5 : Bool) (a6 a7 : Nat) (a14 : List Int) : Option R_F34_7 :=
  ((Mv a5).bind fun x1 => (bif (apOk a7 (Zj a1).length a14.length 1) then (bif (decide (a7 + (Zj a1).length ≤ a14.length)) then (some (.k0 (a1.size : Int) x1 a6 (splice a14 a7 (Zj a1)))) else (some (.k0 (a1.size : Int) x1 (a6 + 1) (a14.take a7 ++ (Zj a1))))) else none))
abbrev Tw (a2 : BoxD) (a3 : Nat) (a4 : List ThingD) (x1 : Bool) (a6 a7 a8 : Nat) (a9 : List Bool) (a10 : List Int) (a11 a12 : Int) (a13 : Bool) (a14 : List Int) (a15 : ThingD) : List AB := [.cells 25 ((cBx a2).map .p), yT a3 a4, .cells 66 [sp x1 2 0, .sl 3 a6 1 0 a7, .sl 1 a3 7 0 a8, ls 1 Zc a9, ls 1 eI64 a10, i6 a11, i6 a12, vb a13], yU a6 a14, .row 25 4 0 (ra cBx []), .cells 60 ((Za a15).map .p)]
abbrev LU (a2 : BoxD) (a3 : Nat) (a4 : List ThingD) (x1 : Bool) (a6 a7 a8 : Nat) (a9 : List Bool) (a10 : List Int) (a11 a12 : Int) (a13 : Bool) (a14 : List Int) (a1 : ByteArray) (a15 : ThingD) : List AB := [.cells 25 ((cBx a2).map .p), yT a3 a4, .cells 66 [sp x1 2 0, .sl 3 a6 1 0 a7, .sl 1 a3 7 0 a8, ls 1 Zc a9, ls 1 eI64 a10, i6 a11, i6 a12, vb a13], yU a6 (splice a14 a7 (Zj a1)), .row 25 4 0 (ra cBx []), .cells 60 ((Za a15).map .p)]
abbrev LV (a2 : BoxD) (a3 : Nat) (a4 : List ThingD) (x1 : Bool) (a6 a7 a8 : Nat) (a9 : List Bool) (a10 : List Int) (a11 a12 : Int) (a13 : Bool) (a14 : List Int) (a1 : ByteArray) (a15 : ThingD) : List AB := [.cells 25 ((cBx a2).map .p), yT a3 a4, .cells 66 [sp x1 2 0, .sl 3 a6 1 0 a7, .sl 1 a3 7 0 a8, ls 1 Zc a9, ls 1 eI64 a10, i6 a11, i6 a12, vb a13], yU (a6 + 1) (a14.take a7 ++ (Zj a1)), .row 25 4 0 (ra cBx []), .cells 60 ((Za a15).map .p)]
theorem LW (a1 : ByteArray) (a2 : BoxD) (a3 : Nat) (a4 : List ThingD) (a5 : Bool) (a6 a7 a8 : Nat) (a9 : List Bool) (a10 : List Int) (a11 a12 : Int) (a13 : Bool) (a14 : List Int) (a15 : ThingD) {r : R_F34_7} (h : Ji a1 a5 a6 a7 a14 = some r) : CS prg 34 [.ptr 2 0, vs a1] [.cells 25 ((cBx a2).map .p), yT a3 a4, .cells 66 [sp a5 2 0, .sl 3 a6 1 0 a7, .sl 1 a3 7 0 a8, ls 1 Zc a9, ls 1 eI64 a10, i6 a11, i6 a12, vb a13], yU a6 a14, .row 25 4 0 (ra cBx []), .cells 60 ((Za a15).map .p)] = some (DJ a1 a2 a3 a4 a5 a6 a7 a8 a9 a10 a11 a12 a13 a14 a15 r, DK a1 a2 a3 a4 a5 a6 a7 a8 a9 a10 a11 a12 a13 a14 a15 r) := by
 unfold Ji at h
 apply bn h; intro x1 h1 h
 have q0 := ((Pw a2 a3 a4 a5 a6 a7 a8 a9 a10 a11 a12 a13 a14 a15 h1) : CS prg 42 [.ptr 2 0] [.cells 25 ((cBx a2).map .p), yT a3 a4, .cells 66 [sp a5 2 0, .sl 3 a6 1 0 a7, .sl 1 a3 7 0 a8, ls 1 Zc a9, ls 1 eI64 a10, i6 a11, i6 a12, vb a13], yU a6 a14, .row 25 4 0 (ra cBx []), .cells 60 ((Za a15).map .p)] = some ((.tup []), Tw a2 a3 a4 x1 a6 a7 a8 a9 a10 a11 a12 a13 a14 a15))
 have k1 := ka [(7, .r (.tup []) (Tw a2 a3 a4 x1 a6 a7 a8 a9 a10 a11 a12 a13 a14 a15))] (apc q0 apn)
 apply bi h <;> intro h2 h
 ·
  apply bi h <;> intro h3 h
  ·
   rw [← sj h]
   exact fc ([(14, .r (.sl 3 a6 1 0 (a7 + (Zj a1).length)) (LU a2 a3 a4 x1 a6 a7 a8 a9 a10 a11 a12 a13 a14 a1 a15))] ++ kH k1) (k1.b (apc ((Wy (e := eU8) (xs := a14) (news := (Zj a1)) rfl LD rfl h2 h3) : appA (Tw a2 a3 a4 x1 a6 a7 a8 a9 a10 a11 a12 a13 a14 a15) 5 1 1 (.sl 3 a6 1 0 a7) (vs a1) = some ((.sl 3 a6 1 0 (a7 + (Zj a1).length)), LU a2 a3 a4 x1 a6 a7 a8 a9 a10 a11 a12 a13 a14 a1 a15)) apn))
  ·
   rw [← sj h]
   exact fc ([(14, .r (.sl 3 (a6 + 1) 1 0 (a7 + (Zj a1).length)) (LV a2 a3 a4 x1 a6 a7 a8 a9 a10 a11 a12 a13 a14 a1 a15))] ++ kH k1) (k1.b (apc ((Yy (e := eU8) (xs := a14) (news := (Zj a1)) rfl LD rfl h2 h3) : appA (Tw a2 a3 a4 x1 a6 a7 a8 a9 a10 a11 a12 a13 a14 a15) 5 1 1 (.sl 3 a6 1 0 a7) (vs a1) = some ((.sl 3 (a6 + 1) 1 0 (a7 + (Zj a1).length)), LV a2 a3 a4 x1 a6 a7 a8 a9 a10 a11 a12 a13 a14 a1 a15)) apn))
 ·
  cases h
inductive R_F34_5 where
  | k0 (x0 : Int) (x1 : Bool) (x2 : Nat) (x3 : List Int)
def DL (a1 : ThingD) (a2 : BoxD) (a3 : Nat) (a4 : List ThingD) (a5 : Bool) (a6 a7 a8 : Nat) (a9 : List Bool) (a10 : List Int) (a11 a12 : Int) (a13 : Bool) (a14 : List Int) (r : R_F34_5) : AV := match r with | .k0 x0 x1 x2 x3 => (.tup [i6 x0, (.p (.val .nilIface))])
def DM (a1 : ThingD) (a2 : BoxD) (a3 : Nat) (a4 : List ThingD) (a5 : Bool) (a6 a7 a8 : Nat) (a9 : List Bool) (a10 : List Int) (a11 a12 : Int) (a13 : Bool) (a14 : List Int) (r : R_F34_5) : List AB := match r with | .k0 x0 x1 x2 x3 => [.cells 25 ((cBx a2).map .p), yT a3 a4, .cells 66 [sp x1 2 0, (.sl 3 x2 1 0 (a7 + (Zj a1.text).length)), .sl 1 a3 7 0 a8, ls 1 Zc a9, ls 1 eI64 a10, i6 a11, i6 a12, vb a13], yU x2 x3, .row 25 4 0 (ra cBx []), .cells 60 ((Za a1).map .p)]
def Mw (a1 : ThingD) (a5 : Bool) (a6 a7 : Nat) (a14 : List Int) : Option R_F34_5 :=
  ((Mv a5).bind fun x1 => (bif (apOk a7 (Zj a1.text).length a14.length 1) then (bif (decide (a7 + (Zj a1.text).length ≤ a14.length)) then (some (.k0 (a1.text.size : Int) x1 a6 (splice a14 a7 (Zj a1.text)))) else (some (.k0 (a1.text.size : Int) x1 (a6 + 1) (a14.take a7 ++ (Zj a1.text))))) else none))
abbrev Tx (a2 : BoxD) (a3 : Nat) (a4 : List ThingD) (x1 : Bool) (a6 a7 a8 : Nat) (a9 : List Bool) (a10 : List Int) (a11 a12 : Int) (a13 : Bool) (a14 : List Int) (a1 : ThingD) : List AB := [.cells 25 ((cBx a2).map .p), yT a3 a4, .cells 66 [sp x1 2 0, .sl 3 a6 1 0 a7, .sl 1 a3 7 0 a8, ls 1 Zc a9, ls 1 eI64 a10, i6 a11, i6 a12, vb a13], yU a6 a14, .row 25 4 0 (ra cBx []), .cells 60 ((Za a1).map .p)]
abbrev LX (a2 : BoxD) (a3 : Nat) (a4 : List ThingD) (x1 : Bool) (a6 a7 a8 : Nat) (a9 : List Bool) (a10 : List Int) (a11 a12 : Int) (a13 : Bool) (a14 : List Int) (a1 : ThingD) : List AB := [.cells 25 ((cBx a2).map .p), yT a3 a4, .cells 66 [sp x1 2 0, .sl 3 a6 1 0 a7, .sl 1 a3 7 0 a8, ls 1 Zc a9, ls 1 eI64 a10, i6 a11, i6 a12, vb a13], yU a6 (splice a14 a7 (Zj a1.text)), .row 25 4 0 (ra cBx []), .cells 60 ((Za a1).map .p)]
abbrev LY (a2 : BoxD) (a3 : Nat) (a4 : List ThingD) (x1 : Bool) (a6 a7 a8 : Nat) (a9 : List Bool) (a10 : List Int) (a11 a12 : Int) (a13 : Bool) (a14 : List Int) (a1 : ThingD) : List AB := [.cells 25 ((cBx a2).map .p), yT a3 a4, .cells 66 [sp x1 2 0, .sl 3 a6 1 0 a7, .sl 1 a3 7 0 a8, ls 1 Zc a9, ls 1 eI64 a10, i6 a11, i6 a12, vb a13], yU (a6 + 1) (a14.take a7 ++ (Zj a1.text)), .row 25 4 0 (ra cBx []), .cells 60 ((Za a1).map .p)]
theorem Px (a1 : ThingD) (a2 : BoxD) (a3 : Nat) (a4 : List ThingD) (a5 : Bool) (a6 a7 a8 : Nat) (a9 : List Bool) (a10 : List Int) (a11 a12 : Int) (a13 : Bool) (a14 : List Int) {r : R_F34_5} (h : Mw a1 a5 a6 a7 a14 = some r) : CS prg 34 [.ptr 2 0, vs a1.text] [.cells 25 ((cBx a2).map .p), yT a3 a4, .cells 66 [sp a5 2 0, .sl 3 a6 1 0 a7, .sl 1 a3 7 0 a8, ls 1 Zc a9, ls 1 eI64 a10, i6 a11, i6 a12, vb a13], yU a6 a14, .row 25 4 0 (ra cBx []), .cells 60 ((Za a1).map .p)] = some (DL a1 a2 a3 a4 a5 a6 a7 a8 a9 a10 a11 a12 a13 a14 r, DM a1 a2 a3 a4 a5 a6 a7 a8 a9 a10 a11 a12 a13 a14 r) := by
 unfold Mw at h
 apply bn h; intro x1 h1 h
 have q0 := ((Pw a2 a3 a4 a5 a6 a7 a8 a9 a10 a11 a12 a13 a14 a1 h1) : CS prg 42 [.ptr 2 0] [.cells 25 ((cBx a2).map .p), yT a3 a4, .cells 66 [sp a5 2 0, .sl 3 a6 1 0 a7, .sl 1 a3 7 0 a8, ls 1 Zc a9, ls 1 eI64 a10, i6 a11, i6 a12, vb a13], yU a6 a14, .row 25 4 0 (ra cBx []), .cells 60 ((Za a1).map .p)] = some ((.tup []), Tx a2 a3 a4 x1 a6 a7 a8 a9 a10 a11 a12 a13 a14 a1))
 have k1 := ka [(7, .r (.tup []) (Tx a2 a3 a4 x1 a6 a7 a8 a9 a10 a11 a12 a13 a14 a1))] (apc q0 apn)
 apply bi h <;> intro h2 h
 ·
  apply bi h <;> intro h3 h
  ·
   rw [← sj h]
   exact fc ([(14, .r (.sl 3 a6 1 0 (a7 + (Zj a1.text).length)) (LX a2 a3 a4 x1 a6 a7 a8 a9 a10 a11 a12 a13 a14 a1))] ++ kH k1) (k1.b (apc ((Wy (e := eU8) (xs := a14) (news := (Zj a1.text)) rfl LD rfl h2 h3) : appA (Tx a2 a3 a4 x1 a6 a7 a8 a9 a10 a11 a12 a13 a14 a1) 5 1 1 (.sl 3 a6 1 0 a7) (vs a1.text) = some ((.sl 3 a6 1 0 (a7 + (Zj a1.text).length)), LX a2 a3 a4 x1 a6 a7 a8 a9 a10 a11 a12 a13 a14 a1)) apn))
  ·
   rw [← sj h]
   exact fc ([(14, .r (.sl 3 (a6 + 1) 1 0 (a7 + (Zj a1.text).length)) (LY a2 a3 a4 x1 a6 a7 a8 a9 a10 a11 a12 a13 a14 a1))] ++ kH k1) (k1.b (apc ((Yy (e := eU8) (xs := a14) (news := (Zj a1.text)) rfl LD rfl h2 h3) : appA (Tx a2 a3 a4 x1 a6 a7 a8 a9 a10 a11 a12 a13 a14 a1) 5 1 1 (.sl 3 a6 1 0 a7) (vs a1.text) = some ((.sl 3 (a6 + 1) 1 0 (a7 + (Zj a1.text).length)), LY a2 a3 a4 x1 a6 a7 a8 a9 a10 a11 a12 a13 a14 a1)) apn))
 ·
  cases h
inductive E_L49_0_2 where
  | k0 (x0 : Int)
  | k1
section
variable (a1 : ThingD)
def WC (v1 : Int) : Option (E_L49_0_2 ⊕ (Int)) :=
  (bif (decide (v1 ≥ 0)) then ((getI a1.text.data.toList v1).bind fun x2 => (bif ((x2.toNat : Int) == 10) then (some (.inl (.k0 v1))) else (some (.inr ((IntKind.wrap .i64 (v1 - 1))))))) else (some (.inl (.k1))))
def OM (v1 : Int) : St := ⟨fr 19 ug [(0, vs a1.text), (1, vi .u8 10), (5, i6 v1)], []⟩
theorem ON (v1 : Int) : okT 0 (OM a1 v1).h = true := (ZA rfl rfl)
abbrev Xh (v1 : Int) := evH prg 0 [0, 1, 5] IQ (OM a1 v1)
def SK (e : E_L49_0_2) (r : Option (Out × St)) : Prop := match e with | .k0 x0 => ∃ g y, r = some (.ret, ⟨fr 19 g [(4, i6 x0)], y⟩) | .k1 => ∃ g, r = some ((.brk 0), ⟨fr 19 g [(0, vs a1.text)], []⟩)
theorem Jj (v1 : Int) {r : E_L49_0_2 ⊕ (Int)} (h : WC a1 v1 = some r) : OkR (fun e => SK a1 e (Xh a1 v1)) (fun s => Xh a1 v1 = Xh a1 s) r := by
 unfold WC at h
 apply bi h <;> intro h1 h
 ·
  apply bn h; intro x2 h2 h
  have q0 := ((Or h2) : ixS (vs a1.text) (i6 v1) = some (vi .u8 (x2.toNat : Int)))
  have k1 := ka [(10, .d true), (15, .v (vi .u8 (x2.toNat : Int)))] (av h1 (apc q0 apn))
  apply bi h <;> intro h3 h
  ·
   rw [← sj h]
   exact xy ([(17, .d true), (6000, .d true)] ++ kH k1) (k1.b (av h3 apn))
  ·
   rw [← sj h]
   exact rn ([(17, .d false), (6000, .d true)] ++ kH k1) (k1.b (av h3 (apc (ON a1 (w6 (v1 - 1))) apn)))
 ·
  rw [← sj h]
  exact xb [(10, .d false), (6000, .d true)] (av h1 apn)
theorem SL (s0 : Int) (e : E_L49_0_2) (h : runL (fun s => WC a1 s) s0 = some e) : SK a1 e (Xh a1 s0) := by
  have q := @Zg (Int) E_L49_0_2 (fun s => WC a1 s) (fun s => Xh a1 s) (SK a1) (fun s r h => Jj a1 s h) s0 e h
  exact q
end
def DN (a1 : ThingD) (x0 : Int) : AV := (i6 x0)
def GC (a1 : ThingD) : Option Int :=
  ((runL (fun s => WC a1 s) ((IntKind.wrap .i64 ((a1.text.size : Int) - 1)))).bind fun r1 => match r1 with | .k0 x1_0 => (some x1_0) | .k1 => (some (-1)))
theorem GD (a1 : ThingD) {r : Int} (h : GC a1 = some r) : PR1 prg 49 [vs a1.text, vi .u8 10] (DN a1 r) := by
 unfold GC at h
 have q0 := (ON a1 (w6 ((a1.text.size : Int) - 1)))
 apply bn h; intro r1 h1 h
 cases r1 with
 | k0 x1_0 =>
  obtain ⟨g1, y1, e1⟩ := SL a1 ((w6 ((a1.text.size : Int) - 1))) _ h1
  rw [← sj h]
  exact fq [(2000, .l .ret ⟨fr 19 g1 [(4, i6 x1_0)], y1⟩), (6000, .d true)] (apc q0 (apc (e1 : Xh a1 (w6 ((a1.text.size : Int) - 1)) = some (.ret, ⟨fr 19 g1 [(4, i6 x1_0)], y1⟩)) apn))
 | k1 =>
  obtain ⟨g1, e1⟩ := SL a1 ((w6 ((a1.text.size : Int) - 1))) _ h1
  rw [← sj h]
  exact fq [(2000, .l (.brk 0) ⟨fr 19 g1 [(0, vs a1.text)], []⟩), (6000, .d true)] (apc q0 (apc (e1 : Xh a1 (w6 ((a1.text.size : Int) - 1)) = some ((.brk 0), ⟨fr 19 g1 [(0, vs a1.text)], []⟩)) apn))
def DO (a1 : ThingD) (x0 : Int) : AV := (i6 x0)
def Mx (a1 : ThingD) : Option Int :=
  ((GC a1).bind fun x1 => (some x1))
theorem Py (a1 : ThingD) {r : Int} (h : Mx a1 = some r) : PR1 prg 40 [vs a1.text, vi .u8 10] (DO a1 r) := by
 unfold Mx at h
 apply bn h; intro x1 h1 h
 rw [← sj h]
 exact fq [(7, .v (i6 x1))] (apc (((GD a1 h1).cp rfl _) : CP prg 49 [vs a1.text, vi .u8 10] [] = some (i6 x1)) apn)
inductive R_F32_4 where
  | k0 (x0 : Bool) (x1 x2 : Nat) (x3 : Int) (x4 : Bool) (x5 : List Int)
def DP (a1 : ThingD) (a2 : BoxD) (a3 : Nat) (a4 : List ThingD) (a5 : Bool) (a6 a7 a8 : Nat) (a9 : List Bool) (a10 : List Int) (a11 a12 : Int) (a13 : Bool) (a14 : List Int) (r : R_F32_4) : AV := match r with | .k0 x0 x1 x2 x3 x4 x5 => (.tup [])
def DQ (a1 : ThingD) (a2 : BoxD) (a3 : Nat) (a4 : List ThingD) (a5 : Bool) (a6 a7 a8 : Nat) (a9 : List Bool) (a10 : List Int) (a11 a12 : Int) (a13 : Bool) (a14 : List Int) (r : R_F32_4) : List AB := match r with | .k0 x0 x1 x2 x3 x4 x5 => [.cells 25 ((cBx a2).map .p), yT a3 a4, .cells 66 [sp x0 2 0, .sl 3 x1 1 0 x2, .sl 1 a3 7 0 a8, ls 1 Zc a9, ls 1 eI64 a10, i6 a11, i6 x3, vb x4], yU x1 x5, .row 25 4 0 (ra cBx []), .cells 60 ((Za a1).map .p)]
def I8 (a1 : ThingD) (a5 : Bool) (a6 a7 : Nat) (a12 : Int) (a13 : Bool) (a14 : List Int) : Option R_F32_4 :=
  (bif (a1.text.toList == (⟨([] : List UInt8).toArray⟩ : ByteArray).toList) then (some (.k0 a5 a6 a7 a12 a13 a14)) else (bif a13 then ((getI a1.text.data.toList 0).bind fun x3 => (bif ((x3.toNat : Int) != 10) then ((F35 (⟨([32] : List UInt8).toArray⟩ : ByteArray) a1.depth).bind fun x5 => ((Ji x5 a5 a6 a7 a14).bind fun r6 => match r6 with | .k0 x6_0 x6_1 x6_2 x6_3 => ((Mw a1 x6_1 x6_2 (a7 + (Zj x5).length) x6_3).bind fun r7 => match r7 with | .k0 x7_0 x7_1 x7_2 x7_3 => ((Mx a1).bind fun x8 => (bif (x8 == (IntKind.wrap .i64 ((a1.text.size : Int) - 1))) then (some (.k0 x7_1 x7_2 ((a7 + (Zj x5).length) + (Zj a1.text).length) a1.depth (x8 == (IntKind.wrap .i64 ((a1.text.size : Int) - 1))) x7_3)) else (bif (decide (x8 ≥ 0)) then (some (.k0 x7_1 x7_2 ((a7 + (Zj x5).length) + (Zj a1.text).length) (IntKind.wrap .i64 ((IntKind.wrap .i64 ((a1.text.size : Int) - 1)) - x8)) (x8 == (IntKind.wrap .i64 ((a1.text.size : Int) - 1))) x7_3)) else (some (.k0 x7_1 x7_2 ((a7 + (Zj x5).length) + (Zj a1.text).length) (IntKind.wrap .i64 (a12 + (a1.text.size : Int))) (x8 == (IntKind.wrap .i64 ((a1.text.size : Int) - 1))) x7_3)))))))) else ((Mw a1 a5 a6 a7 a14).bind fun r5 => match r5 with | .k0 x5_0 x5_1 x5_2 x5_3 => ((Mx a1).bind fun x6 => (bif (x6 == (IntKind.wrap .i64 ((a1.text.size : Int) - 1))) then (some (.k0 x5_1 x5_2 (a7 + (Zj a1.text).length) a1.depth (x6 == (IntKind.wrap .i64 ((a1.text.size : Int) - 1))) x5_3)) else (bif (decide (x6 ≥ 0)) then (some (.k0 x5_1 x5_2 (a7 + (Zj a1.text).length) (IntKind.wrap .i64 ((IntKind.wrap .i64 ((a1.text.size : Int) - 1)) - x6)) (x6 == (IntKind.wrap .i64 ((a1.text.size : Int) - 1))) x5_3)) else (some (.k0 x5_1 x5_2 (a7 + (Zj a1.text).length) (IntKind.wrap .i64 (a12 + (a1.text.size : Int))) (x6 == (IntKind.wrap .i64 ((a1.text.size : Int) - 1))) x5_3)))))))) else ((Mw a1 a5 a6 a7 a14).bind fun r3 => match r3 with | .k0 x3_0 x3_1 x3_2 x3_3 => ((Mx a1).bind fun x4 => (bif (x4 == (IntKind.wrap .i64 ((a1.text.size : Int) - 1))) then (some (.k0 x3_1 x3_2 (a7 + (Zj a1.text).length) a1.depth (x4 == (IntKind.wrap .i64 ((a1.text.size : Int) - 1))) x3_3)) else (bif (decide (x4 ≥ 0)) then (some (.k0 x3_1 x3_2 (a7 + (Zj a1.text).length) (IntKind.wrap .i64 ((IntKind.wrap .i64 ((a1.text.size : Int) - 1)) - x4)) (x4 == (IntKind.wrap .i64 ((a1.text.size : Int) - 1))) x3_3)) else (some (.k0 x3_1 x3_2 (a7 + (Zj a1.text).length) (IntKind.wrap .i64 (a12 + (a1.text.size : Int))) (x4 == (IntKind.wrap .i64 ((a1.text.size : Int) - 1))) x3_3))))))))
abbrev Ty (a2 : BoxD) (a3 : Nat) (a4 : List ThingD) (a5 : Bool) (a6 a7 a8 : Nat) (a9 : List Bool) (a10 : List Int) (a11 a12 : Int) (a13 : Bool) (a14 : List Int) (a1 : ThingD) : List AB := [.cells 25 ((cBx a2).map .p), yT a3 a4, .cells 66 [sp a5 2 0, .sl 3 a6 1 0 a7, .sl 1 a3 7 0 a8, ls 1 Zc a9, ls 1 eI64 a10, i6 a11, i6 a12, vb a13], yU a6 a14, .row 25 4 0 (ra cBx []), .cells 60 ((Za a1).map .p)]
abbrev Pz (a2 : BoxD) (a3 : Nat) (a4 : List ThingD) (x6_1 : Bool) (x6_2 a7 : Nat) (x5 : ByteArray) (a8 : Nat) (a9 : List Bool) (a10 : List Int) (a11 a12 : Int) (a13 : Bool) (x6_3 : List Int) (a1 : ThingD) : List AB := [.cells 25 ((cBx a2).map .p), yT a3 a4, .cells 66 [sp x6_1 2 0, (.sl 3 x6_2 1 0 (a7 + (Zj x5).length)), .sl 1 a3 7 0 a8, ls 1 Zc a9, ls 1 eI64 a10, i6 a11, i6 a12, vb a13], yU x6_2 x6_3, .row 25 4 0 (ra cBx []), .cells 60 ((Za a1).map .p)]
abbrev PA (a2 : BoxD) (a3 : Nat) (a4 : List ThingD) (x7_1 : Bool) (x7_2 a7 : Nat) (x5 : ByteArray) (a1 : ThingD) (a8 : Nat) (a9 : List Bool) (a10 : List Int) (a11 a12 : Int) (a13 : Bool) (x7_3 : List Int) : List AB := [.cells 25 ((cBx a2).map .p), yT a3 a4, .cells 66 [sp x7_1 2 0, (.sl 3 x7_2 1 0 ((a7 + (Zj x5).length) + (Zj a1.text).length)), .sl 1 a3 7 0 a8, ls 1 Zc a9, ls 1 eI64 a10, i6 a11, i6 a12, vb a13], yU x7_2 x7_3, .row 25 4 0 (ra cBx []), .cells 60 ((Za a1).map .p)]
abbrev PB (a2 : BoxD) (a3 : Nat) (a4 : List ThingD) (x5_1 : Bool) (x5_2 a7 : Nat) (a1 : ThingD) (a8 : Nat) (a9 : List Bool) (a10 : List Int) (a11 a12 : Int) (a13 : Bool) (x5_3 : List Int) : List AB := [.cells 25 ((cBx a2).map .p), yT a3 a4, .cells 66 [sp x5_1 2 0, (.sl 3 x5_2 1 0 (a7 + (Zj a1.text).length)), .sl 1 a3 7 0 a8, ls 1 Zc a9, ls 1 eI64 a10, i6 a11, i6 a12, vb a13], yU x5_2 x5_3, .row 25 4 0 (ra cBx []), .cells 60 ((Za a1).map .p)]
abbrev PC (a2 : BoxD) (a3 : Nat) (a4 : List ThingD) (x3_1 : Bool) (x3_2 a7 : Nat) (a1 : ThingD) (a8 : Nat) (a9 : List Bool) (a10 : List Int) (a11 a12 : Int) (a13 : Bool) (x3_3 : List Int) : List AB := [.cells 25 ((cBx a2).map .p), yT a3 a4, .cells 66 [sp x3_1 2 0, (.sl 3 x3_2 1 0 (a7 + (Zj a1.text).length)), .sl 1 a3 7 0 a8, ls 1 Zc a9, ls 1 eI64 a10, i6 a11, i6 a12, vb a13], yU x3_2 x3_3, .row 25 4 0 (ra cBx []), .cells 60 ((Za a1).map .p)]
theorem GE (a1 : ThingD) (a2 : BoxD) (a3 : Nat) (a4 : List ThingD) (a5 : Bool) (a6 a7 a8 : Nat) (a9 : List Bool) (a10 : List Int) (a11 a12 : Int) (a13 : Bool) (a14 : List Int) {r : R_F32_4} (h : I8 a1 a5 a6 a7 a12 a13 a14 = some r) : CS prg 32 [.ptr 2 0, vs a1.text, i6 a1.depth] [.cells 25 ((cBx a2).map .p), yT a3 a4, .cells 66 [sp a5 2 0, .sl 3 a6 1 0 a7, .sl 1 a3 7 0 a8, ls 1 Zc a9, ls 1 eI64 a10, i6 a11, i6 a12, vb a13], yU a6 a14, .row 25 4 0 (ra cBx []), .cells 60 ((Za a1).map .p)] = some (DP a1 a2 a3 a4 a5 a6 a7 a8 a9 a10 a11 a12 a13 a14 r, DQ a1 a2 a3 a4 a5 a6 a7 a8 a9 a10 a11 a12 a13 a14 r) := by
 unfold I8 at h
 apply bi h <;> intro h1 h
 ·
  rw [← sj h]
  exact fc [(8, .d true)] (av h1 apn)
 ·
  apply bi h <;> intro h2 h
  ·
   have k0 := ka [(8, .d false), (12, .d true)] (av h1 (av h2 apn))
   apply bn h; intro x3 h3 h
   have q1 := ((Or h3) : ixS (vs a1.text) (i6 0) = some (vi .u8 (x3.toNat : Int)))
   apply bi h <;> intro h4 h
   ·
    have k2 := k0.a [(15, .v (vi .u8 (x3.toNat : Int))), (16, .d true)] (apc q1 (av h4 apn))
    apply bn h; intro x5 h5 h
    have q3 := (((Fw (⟨([32] : List UInt8).toArray⟩ : ByteArray) a1.depth h5).cp rfl _) : CP prg 35 [(vs (⟨([32] : List UInt8).toArray⟩ : ByteArray)), i6 a1.depth] (Ty a2 a3 a4 a5 a6 a7 a8 a9 a10 a11 a12 a13 a14 a1) = some (vs x5))
    apply bn h; intro r6 h6 h
    cases r6 with
    | k0 x6_0 x6_1 x6_2 x6_3 =>
     have q4 := ((LW x5 a2 a3 a4 a5 a6 a7 a8 a9 a10 a11 a12 a13 a14 a1 h6) : CS prg 34 [.ptr 2 0, vs x5] (Ty a2 a3 a4 a5 a6 a7 a8 a9 a10 a11 a12 a13 a14 a1) = some ((.tup [i6 x6_0, (.p (.val .nilIface))]), Pz a2 a3 a4 x6_1 x6_2 a7 x5 a8 a9 a10 a11 a12 a13 x6_3 a1))
     have k5 := k2.a [(22, .v (vs x5)), (23, .r (.tup [i6 x6_0, (.p (.val .nilIface))]) (Pz a2 a3 a4 x6_1 x6_2 a7 x5 a8 a9 a10 a11 a12 a13 x6_3 a1))] (apc q3 (apc q4 apn))
     apply bn h; intro r7 h7 h
     cases r7 with
     | k0 x7_0 x7_1 x7_2 x7_3 =>
      have q6 := ((Px a1 a2 a3 a4 x6_1 x6_2 (a7 + (Zj x5).length) a8 a9 a10 a11 a12 a13 x6_3 h7) : CS prg 34 [.ptr 2 0, vs a1.text] (Pz a2 a3 a4 x6_1 x6_2 a7 x5 a8 a9 a10 a11 a12 a13 x6_3 a1) = some ((.tup [i6 x7_0, (.p (.val .nilIface))]), PA a2 a3 a4 x7_1 x7_2 a7 x5 a1 a8 a9 a10 a11 a12 a13 x7_3))
      have k7 := k5.a [(28, .r (.tup [i6 x7_0, (.p (.val .nilIface))]) (PA a2 a3 a4 x7_1 x7_2 a7 x5 a1 a8 a9 a10 a11 a12 a13 x7_3))] (apc q6 apn)
      apply bn h; intro x8 h8 h
      have q8 := (((Py a1 h8).cp rfl _) : CP prg 40 [vs a1.text, vi .u8 10] (PA a2 a3 a4 x7_1 x7_2 a7 x5 a1 a8 a9 a10 a11 a12 a13 x7_3) = some (i6 x8))
      apply bi h <;> intro h9 h
      ·
       rw [← sj h]
       exact fc ([(30, .v (i6 x8)), (52, .d true)] ++ kH k7) (k7.b (apc q8 (av h9 apn)))
      ·
       have k9 := k7.a [(30, .v (i6 x8)), (52, .d false)] (apc q8 (av h9 apn))
       apply bi h <;> intro h10 h
       ·
        rw [← sj h]
        exact fc ([(59, .d true)] ++ kH k9) (k9.b (av h10 apn))
       ·
        rw [← sj h]
        exact fc ([(59, .d false)] ++ kH k9) (k9.b (av h10 apn))
   ·
    have k10 := k0.a [(15, .v (vi .u8 (x3.toNat : Int))), (16, .d false)] (apc q1 (av h4 apn))
    apply bn h; intro r5 h5 h
    cases r5 with
    | k0 x5_0 x5_1 x5_2 x5_3 =>
     have q11 := ((Px a1 a2 a3 a4 a5 a6 a7 a8 a9 a10 a11 a12 a13 a14 h5) : CS prg 34 [.ptr 2 0, vs a1.text] (Ty a2 a3 a4 a5 a6 a7 a8 a9 a10 a11 a12 a13 a14 a1) = some ((.tup [i6 x5_0, (.p (.val .nilIface))]), PB a2 a3 a4 x5_1 x5_2 a7 a1 a8 a9 a10 a11 a12 a13 x5_3))
     have k12 := k10.a [(28, .r (.tup [i6 x5_0, (.p (.val .nilIface))]) (PB a2 a3 a4 x5_1 x5_2 a7 a1 a8 a9 a10 a11 a12 a13 x5_3))] (apc q11 apn)
     apply bn h; intro x6 h6 h
     have q13 := (((Py a1 h6).cp rfl _) : CP prg 40 [vs a1.text, vi .u8 10] (PB a2 a3 a4 x5_1 x5_2 a7 a1 a8 a9 a10 a11 a12 a13 x5_3) = some (i6 x6))
     apply bi h <;> intro h7 h
     ·
      rw [← sj h]
      exact fc ([(30, .v (i6 x6)), (52, .d true)] ++ kH k12) (k12.b (apc q13 (av h7 apn)))
     ·
      have k14 := k12.a [(30, .v (i6 x6)), (52, .d false)] (apc q13 (av h7 apn))
      apply bi h <;> intro h8 h
      ·
       rw [← sj h]
       exact fc ([(59, .d true)] ++ kH k14) (k14.b (av h8 apn))
      ·
       rw [← sj h]
       exact fc ([(59, .d false)] ++ kH k14) (k14.b (av h8 apn))
  ·
   have k15 := ka [(8, .d false), (12, .d false)] (av h1 (av h2 apn))
   apply bn h; intro r3 h3 h
   cases r3 with
   | k0 x3_0 x3_1 x3_2 x3_3 =>
    have q16 := ((Px a1 a2 a3 a4 a5 a6 a7 a8 a9 a10 a11 a12 a13 a14 h3) : CS prg 34 [.ptr 2 0, vs a1.text] (Ty a2 a3 a4 a5 a6 a7 a8 a9 a10 a11 a12 a13 a14 a1) = some ((.tup [i6 x3_0, (.p (.val .nilIface))]), PC a2 a3 a4 x3_1 x3_2 a7 a1 a8 a9 a10 a11 a12 a13 x3_3))
    have k17 := k15.a [(28, .r (.tup [i6 x3_0, (.p (.val .nilIface))]) (PC a2 a3 a4 x3_1 x3_2 a7 a1 a8 a9 a10 a11 a12 a13 x3_3))] (apc q16 apn)
    apply bn h; intro x4 h4 h
    have q18 := (((Py a1 h4).cp rfl _) : CP prg 40 [vs a1.text, vi .u8 10] (PC a2 a3 a4 x3_1 x3_2 a7 a1 a8 a9 a10 a11 a12 a13 x3_3) = some (i6 x4))
    apply bi h <;> intro h5 h
    ·
     rw [← sj h]
     exact fc ([(30, .v (i6 x4)), (52, .d true)] ++ kH k17) (k17.b (apc q18 (av h5 apn)))
    ·
     have k19 := k17.a [(30, .v (i6 x4)), (52, .d false)] (apc q18 (av h5 apn))
     apply bi h <;> intro h6 h
     ·
      rw [← sj h]
      exact fc ([(59, .d true)] ++ kH k19) (k19.b (av h6 apn))
     ·
      rw [← sj h]
      exact fc ([(59, .d false)] ++ kH k19) (k19.b (av h6 apn))
inductive E_L37_1 where
  | k0 (x0 x1 : Nat) (x2 : List ThingD)
section
variable (a1 : Nat) (a3 a4 a6 : Int) (a7 : ThingD) (a8 : Int) (a9 : BoxD) (a11 : Bool) (a12 a13 a14 : Nat) (a15 : List Bool) (a16 : List Int) (a17 a18 : Int) (a19 : Bool) (a20 : List Int) (a21 : Nat) (a22 : List BoxD) (a23 : ThingD)
def Jk (v1 v2 : Nat) (v3 v4 : Int) (v5 : List ThingD) : Option (E_L37_1 ⊕ (Nat × Nat × Int × Int × (List ThingD))) :=
  (bif (decide (v4 < a8)) then ((getI a7.kids v4).bind fun x2 => (bif (apOk v2 1 v5.length 80) then (bif (decide (v2 + 1 ≤ v5.length)) then ((getI a16 v3).bind fun x5 => (some (.inr (v1, v2 + 1, (IntKind.wrap .i64 (v3 + x5)), (IntKind.wrap .i64 (v4 + 1)), (splice v5 v2 [(⟨x2.kind, x2.text, x2.n, x2.kids, a3, a4, v3⟩ : ThingD)]))))) else ((getI a16 v3).bind fun x5 => (some (.inr ((v1 + 1), v2 + 1, (IntKind.wrap .i64 (v3 + x5)), (IntKind.wrap .i64 (v4 + 1)), (v5.take v2 ++ [(⟨x2.kind, x2.text, x2.n, x2.kids, a3, a4, v3⟩ : ThingD)])))))) else none)) else (some (.inl (.k0 v1 v2 v5))))
def I9 (v1 v2 : Nat) (v3 v4 : Int) (v5 : List ThingD) : St := ⟨fr 74 ug [(0, .ptr 2 0), (1, .sl 1 v1 7 0 v2), (3, i6 a3), (4, i6 a4), (11, i6 v3), (12, i6 a6), (24, (.p (.lst 4 (Zb a7.kids)))), (25, i6 a8), (26, i6 v4)], [.cells 25 ((cBx a9).map .p), yT v1 v5, .cells 66 [sp a11 2 0, .sl 3 a12 1 0 a13, .sl 1 a1 7 0 a14, ls 1 Zc a15, ls 1 eI64 a16, i6 a17, i6 a18, vb a19], yU a12 a20, .row 25 4 a21 (ra cBx a22), .cells 60 ((Za a23).map .p), .cells 60 ((Za a7).map .p), yT0]⟩
theorem My (v1 v2 : Nat) (v3 v4 : Int) (v5 : List ThingD) : okT 8 (I9 a1 a3 a4 a6 a7 a8 a9 a11 a12 a13 a14 a15 a16 a17 a18 a19 a20 a21 a22 a23 v1 v2 v3 v4 v5).h = true := (ZA rfl (ac (ar (Zt (Z2 rfl (Ze rfl (Ze rfl (Ze rfl (Ze rfl (Ze rfl (Ze rfl (Ze rfl rfl)))))))) (ar (ar (ac (ac (ar rfl)))))))))
abbrev UB (v1 v2 : Nat) (v3 v4 : Int) (v5 : List ThingD) := evH prg 8 [0, 1, 3, 4, 11, 12, 24, 25, 26, 1000199006007] Xz (I9 a1 a3 a4 a6 a7 a8 a9 a11 a12 a13 a14 a15 a16 a17 a18 a19 a20 a21 a22 a23 v1 v2 v3 v4 v5)
def Mz (e : E_L37_1) (r : Option (Out × St)) : Prop := match e with | .k0 x0 x1 x2 => ∃ g, r = some ((.brk 0), ⟨fr 74 g [(1, .sl 1 x0 7 0 x1), (12, i6 a6), (24, (.p (.lst 4 (Zb a7.kids))))], [.cells 25 ((cBx a9).map .p), yT x0 x2, .cells 66 [sp a11 2 0, .sl 3 a12 1 0 a13, .sl 1 a1 7 0 a14, ls 1 Zc a15, ls 1 eI64 a16, i6 a17, i6 a18, vb a19], yU a12 a20, .row 25 4 a21 (ra cBx a22), .cells 60 ((Za a23).map .p), .cells 60 ((Za a7).map .p), yT0]⟩)
abbrev LZ (v1 : Nat) (v5 : List ThingD) (v2 : Nat) (x2 : BoxD) (v3 : Int) : List AB := [.cells 25 ((cBx a9).map .p), yT v1 (splice v5 v2 [(⟨x2.kind, x2.text, x2.n, x2.kids, a3, a4, v3⟩ : ThingD)]), .cells 66 [sp a11 2 0, .sl 3 a12 1 0 a13, .sl 1 a1 7 0 a14, ls 1 Zc a15, ls 1 eI64 a16, i6 a17, i6 a18, vb a19], yU a12 a20, .row 25 4 a21 (ra cBx a22), .cells 60 ((Za a23).map .p), .cells 60 ((Za a7).map .p), yT0, .row 25 4 0 (ra cBx []), .cells 25 ((cBx x2).map .p), .row 60 7 0 [[i6 x2.kind, vs x2.text, i6 x2.n, (.p (.lst 4 (Zb x2.kids))), i6 a3, i6 a4, i6 v3]]]
abbrev L0 (v1 : Nat) (v5 : List ThingD) (x2 : BoxD) (v3 : Int) : List AB := [.cells 25 ((cBx a9).map .p), yT v1 v5, .cells 66 [sp a11 2 0, .sl 3 a12 1 0 a13, .sl 1 a1 7 0 a14, ls 1 Zc a15, ls 1 eI64 a16, i6 a17, i6 a18, vb a19], yU a12 a20, .row 25 4 a21 (ra cBx a22), .cells 60 ((Za a23).map .p), .cells 60 ((Za a7).map .p), yT0, .row 25 4 0 (ra cBx []), .cells 25 ((cBx x2).map .p), .row 60 7 0 [[i6 x2.kind, vs x2.text, i6 x2.n, (.p (.lst 4 (Zb x2.kids))), i6 a3, i6 a4, i6 v3]]]
abbrev L1 (v1 : Nat) (v5 : List ThingD) (v2 : Nat) (x2 : BoxD) (v3 : Int) : List AB := [.cells 25 ((cBx a9).map .p), yT (v1 + 1) (v5.take v2 ++ [(⟨x2.kind, x2.text, x2.n, x2.kids, a3, a4, v3⟩ : ThingD)]), .cells 66 [sp a11 2 0, .sl 3 a12 1 0 a13, .sl 1 a1 7 0 a14, ls 1 Zc a15, ls 1 eI64 a16, i6 a17, i6 a18, vb a19], yU a12 a20, .row 25 4 a21 (ra cBx a22), .cells 60 ((Za a23).map .p), .cells 60 ((Za a7).map .p), yT0, .row 25 4 0 (ra cBx []), .cells 25 ((cBx x2).map .p), .row 60 7 0 [[i6 x2.kind, vs x2.text, i6 x2.n, (.p (.lst 4 (Zb x2.kids))), i6 a3, i6 a4, i6 v3]]]
theorem GF (v1 v2 : Nat) (v3 v4 : Int) (v5 : List ThingD) {r : E_L37_1 ⊕ (Nat × Nat × Int × Int × (List ThingD))} (h : Jk a3 a4 a7 a8 a16 v1 v2 v3 v4 v5 = some r) : OkR (fun e => Mz a1 a6 a7 a9 a11 a12 a13 a14 a15 a16 a17 a18 a19 a20 a21 a22 a23 e (UB a1 a3 a4 a6 a7 a8 a9 a11 a12 a13 a14 a15 a16 a17 a18 a19 a20 a21 a22 a23 v1 v2 v3 v4 v5)) (fun s => UB a1 a3 a4 a6 a7 a8 a9 a11 a12 a13 a14 a15 a16 a17 a18 a19 a20 a21 a22 a23 v1 v2 v3 v4 v5 = UB a1 a3 a4 a6 a7 a8 a9 a11 a12 a13 a14 a15 a16 a17 a18 a19 a20 a21 a22 a23 s.1 s.2.1 s.2.2.1 s.2.2.2.1 s.2.2.2.2) r := by
 unfold Jk at h
 apply bi h <;> intro h1 h
 ·
  apply bn h; intro x2 h2 h
  have q0 := ((igr Zy h2) : idxA 4 (.p (.lst 4 (Zb a7.kids))) (i6 v4) = some (.ro (cBx x2)))
  have k1 := ka [(27, .d true), (28, .v (.ro (cBx x2)))] (av h1 (apc q0 apn))
  apply bi h <;> intro h3 h
  ·
   apply bi h <;> intro h4 h
   ·
    apply bn h; intro x5 h5 h
    rw [← sj h]
    exact rn ([(37, .r (.sl 1 v1 7 0 (v2 + 1)) (LZ a1 a3 a4 a7 a9 a11 a12 a13 a14 a15 a16 a17 a18 a19 a20 a21 a22 a23 v1 v5 v2 x2 v3)), (44, .v (.ro [.val (.int .i64 x5)])), (6000, .d true)] ++ kH k1) (k1.b (apc ((Wy (e := Za) (xs := v5) (news := [(⟨x2.kind, x2.text, x2.n, x2.kids, a3, a4, v3⟩ : ThingD)]) rfl (ZI (e := Za) (xs := [(⟨x2.kind, x2.text, x2.n, x2.kids, a3, a4, v3⟩ : ThingD)]) rfl) rfl h3 h4) : appA (L0 a1 a3 a4 a7 a9 a11 a12 a13 a14 a15 a16 a17 a18 a19 a20 a21 a22 a23 v1 v5 x2 v3) 60 7 80 (.sl 1 v1 7 0 v2) (.sl 10 0 7 0 1) = some ((.sl 1 v1 7 0 (v2 + 1)), LZ a1 a3 a4 a7 a9 a11 a12 a13 a14 a15 a16 a17 a18 a19 a20 a21 a22 a23 v1 v5 v2 x2 v3)) (apc (ig eI64 1 .i64 h5) (apc (My a1 a3 a4 a6 a7 a8 a9 a11 a12 a13 a14 a15 a16 a17 a18 a19 a20 a21 a22 a23 v1 (v2 + 1) (w6 (v3 + x5)) (w6 (v4 + 1)) (splice v5 v2 [(⟨x2.kind, x2.text, x2.n, x2.kids, a3, a4, v3⟩ : ThingD)])) apn))))
   ·
    apply bn h; intro x5 h5 h
    rw [← sj h]
    exact rn ([(37, .r (.sl 1 (v1 + 1) 7 0 (v2 + 1)) (L1 a1 a3 a4 a7 a9 a11 a12 a13 a14 a15 a16 a17 a18 a19 a20 a21 a22 a23 v1 v5 v2 x2 v3)), (44, .v (.ro [.val (.int .i64 x5)])), (6000, .d true)] ++ kH k1) (k1.b (apc ((Yy (e := Za) (xs := v5) (news := [(⟨x2.kind, x2.text, x2.n, x2.kids, a3, a4, v3⟩ : ThingD)]) rfl (ZI (e := Za) (xs := [(⟨x2.kind, x2.text, x2.n, x2.kids, a3, a4, v3⟩ : ThingD)]) rfl) rfl h3 h4) : appA (L0 a1 a3 a4 a7 a9 a11 a12 a13 a14 a15 a16 a17 a18 a19 a20 a21 a22 a23 v1 v5 x2 v3) 60 7 80 (.sl 1 v1 7 0 v2) (.sl 10 0 7 0 1) = some ((.sl 1 (v1 + 1) 7 0 (v2 + 1)), L1 a1 a3 a4 a7 a9 a11 a12 a13 a14 a15 a16 a17 a18 a19 a20 a21 a22 a23 v1 v5 v2 x2 v3)) (apc (ig eI64 1 .i64 h5) (apc (My a1 a3 a4 a6 a7 a8 a9 a11 a12 a13 a14 a15 a16 a17 a18 a19 a20 a21 a22 a23 (v1 + 1) (v2 + 1) (w6 (v3 + x5)) (w6 (v4 + 1)) (v5.take v2 ++ [(⟨x2.kind, x2.text, x2.n, x2.kids, a3, a4, v3⟩ : ThingD)])) apn))))
  ·
   cases h
 ·
  rw [← sj h]
  exact xb [(27, .d false), (6000, .d true)] (av h1 apn)
theorem Ha (s0 : Nat × Nat × Int × Int × (List ThingD)) (e : E_L37_1) (h : runL (fun s => Jk a3 a4 a7 a8 a16 s.1 s.2.1 s.2.2.1 s.2.2.2.1 s.2.2.2.2) s0 = some e) : Mz a1 a6 a7 a9 a11 a12 a13 a14 a15 a16 a17 a18 a19 a20 a21 a22 a23 e (UB a1 a3 a4 a6 a7 a8 a9 a11 a12 a13 a14 a15 a16 a17 a18 a19 a20 a21 a22 a23 s0.1 s0.2.1 s0.2.2.1 s0.2.2.2.1 s0.2.2.2.2) := by
  have q := @Zg (Nat × Nat × Int × Int × (List ThingD)) E_L37_1 (fun s => Jk a3 a4 a7 a8 a16 s.1 s.2.1 s.2.2.1 s.2.2.2.1 s.2.2.2.2) (fun s => UB a1 a3 a4 a6 a7 a8 a9 a11 a12 a13 a14 a15 a16 a17 a18 a19 a20 a21 a22 a23 s.1 s.2.1 s.2.2.1 s.2.2.2.1 s.2.2.2.2) (Mz a1 a6 a7 a9 a11 a12 a13 a14 a15 a16 a17 a18 a19 a20 a21 a22 a23) (fun s r h => GF a1 a3 a4 a6 a7 a8 a9 a11 a12 a13 a14 a15 a16 a17 a18 a19 a20 a21 a22 a23 s.1 s.2.1 s.2.2.1 s.2.2.2.1 s.2.2.2.2 h) s0 e h
  exact q
end
inductive E_L37_0 where
  | k0 (x0 : List ThingD)
section
variable (a1 a2 : Nat) (a5 : BoxD) (a7 : Bool) (a8 a9 a10 a11 : Nat) (a12 : List Bool) (a13 : List Int) (a14 a15 : Int) (a16 : Bool) (a17 : List Int) (a18 : Nat) (a19 : List BoxD) (a20 a21 : ThingD)
def Jl (v1 v2 : Int) (v3 : List ThingD) : Option (E_L37_0 ⊕ (Int × Int × (List ThingD))) :=
  (bif (decide (v1 < v2)) then ((ixN a2 v2).bind fun x2 => ((v3[x2]?).bind fun x3 => ((ixN a2 v1).bind fun x4 => ((v3[x4]?).bind fun x5 => (((v3.set x4 (⟨x3.kind, x3.text, x3.n, x3.kids, x3.depth, x3.way, x3.at_⟩ : ThingD))[x2]?).bind fun x6 => (some (.inr ((IntKind.wrap .i64 (v1 + 1)), (IntKind.wrap .i64 (v2 - 1)), ((v3.set x4 (⟨x3.kind, x3.text, x3.n, x3.kids, x3.depth, x3.way, x3.at_⟩ : ThingD)).set x2 (⟨x5.kind, x5.text, x5.n, x5.kids, x5.depth, x5.way, x5.at_⟩ : ThingD)))))))))) else (some (.inl (.k0 v3))))
def Hb (v1 v2 : Int) (v3 : List ThingD) : St := ⟨fr 74 ug [(1, .sl 1 a1 7 0 a2), (15, i6 v1), (16, i6 v2)], [.cells 25 ((cBx a5).map .p), yT a1 v3, .cells 66 [sp a7 2 0, .sl 3 a8 1 0 a9, .sl 1 a10 7 0 a11, ls 1 Zc a12, ls 1 eI64 a13, i6 a14, i6 a15, vb a16], yU a8 a17, .row 25 4 a18 (ra cBx a19), .cells 60 ((Za a20).map .p), .cells 60 ((Za a21).map .p), yT0]⟩
theorem Hc (v1 v2 : Int) (v3 : List ThingD) : okT 8 (Hb a1 a2 a5 a7 a8 a9 a10 a11 a12 a13 a14 a15 a16 a17 a18 a19 a20 a21 v1 v2 v3).h = true := (ZA rfl (ac (ar (Zt (Z2 rfl (Ze rfl (Ze rfl (Ze rfl (Ze rfl (Ze rfl (Ze rfl (Ze rfl rfl)))))))) (ar (ar (ac (ac (ar rfl)))))))))
abbrev UC (v1 v2 : Int) (v3 : List ThingD) := evH prg 8 [1, 15, 16] Xy (Hb a1 a2 a5 a7 a8 a9 a10 a11 a12 a13 a14 a15 a16 a17 a18 a19 a20 a21 v1 v2 v3)
def MA (e : E_L37_0) (r : Option (Out × St)) : Prop := match e with | .k0 x0 => ∃ g, r = some ((.brk 2), ⟨fr 74 g [(1, .sl 1 a1 7 0 a2)], [.cells 25 ((cBx a5).map .p), yT a1 x0, .cells 66 [sp a7 2 0, .sl 3 a8 1 0 a9, .sl 1 a10 7 0 a11, ls 1 Zc a12, ls 1 eI64 a13, i6 a14, i6 a15, vb a16], yU a8 a17, .row 25 4 a18 (ra cBx a19), .cells 60 ((Za a20).map .p), .cells 60 ((Za a21).map .p), yT0]⟩)
abbrev PD (v3 : List ThingD) (x4 : Nat) (x3 : ThingD) : List AB := [.cells 25 ((cBx a5).map .p), yT a1 (v3.set x4 (⟨x3.kind, x3.text, x3.n, x3.kids, x3.depth, x3.way, x3.at_⟩ : ThingD)), .cells 66 [sp a7 2 0, .sl 3 a8 1 0 a9, .sl 1 a10 7 0 a11, ls 1 Zc a12, ls 1 eI64 a13, i6 a14, i6 a15, vb a16], yU a8 a17, .row 25 4 a18 (ra cBx a19), .cells 60 ((Za a20).map .p), .cells 60 ((Za a21).map .p), yT0]
abbrev L2 (v3 : List ThingD) (x4 : Nat) (x3 : ThingD) (x2 : Nat) (x5 : ThingD) : List AB := [.cells 25 ((cBx a5).map .p), yT a1 ((v3.set x4 (⟨x3.kind, x3.text, x3.n, x3.kids, x3.depth, x3.way, x3.at_⟩ : ThingD)).set x2 (⟨x5.kind, x5.text, x5.n, x5.kids, x5.depth, x5.way, x5.at_⟩ : ThingD)), .cells 66 [sp a7 2 0, .sl 3 a8 1 0 a9, .sl 1 a10 7 0 a11, ls 1 Zc a12, ls 1 eI64 a13, i6 a14, i6 a15, vb a16], yU a8 a17, .row 25 4 a18 (ra cBx a19), .cells 60 ((Za a20).map .p), .cells 60 ((Za a21).map .p), yT0]
abbrev PE (v3 : List ThingD) : List AB := [.cells 25 ((cBx a5).map .p), yT a1 v3, .cells 66 [sp a7 2 0, .sl 3 a8 1 0 a9, .sl 1 a10 7 0 a11, ls 1 Zc a12, ls 1 eI64 a13, i6 a14, i6 a15, vb a16], yU a8 a17, .row 25 4 a18 (ra cBx a19), .cells 60 ((Za a20).map .p), .cells 60 ((Za a21).map .p), yT0]
theorem GG (v1 v2 : Int) (v3 : List ThingD) {r : E_L37_0 ⊕ (Int × Int × (List ThingD))} (h : Jl a2 v1 v2 v3 = some r) : OkR (fun e => MA a1 a2 a5 a7 a8 a9 a10 a11 a12 a13 a14 a15 a16 a17 a18 a19 a20 a21 e (UC a1 a2 a5 a7 a8 a9 a10 a11 a12 a13 a14 a15 a16 a17 a18 a19 a20 a21 v1 v2 v3)) (fun s => UC a1 a2 a5 a7 a8 a9 a10 a11 a12 a13 a14 a15 a16 a17 a18 a19 a20 a21 v1 v2 v3 = UC a1 a2 a5 a7 a8 a9 a10 a11 a12 a13 a14 a15 a16 a17 a18 a19 a20 a21 s.1 s.2.1 s.2.2) r := by
 unfold Jl at h
 apply bi h <;> intro h1 h
 ·
  apply bn h; intro x2 h2 h
  have q0 := ((ZN h2) : idxA 7 (.sl 1 a1 7 0 a2) (i6 v2) = some (.rp 1 a1 7 x2 0))
  apply bn h; intro x3 h3 h
  apply bn h; intro x4 h4 h
  have q1 := ((ZN h4) : idxA 7 (.sl 1 a1 7 0 a2) (i6 v1) = some (.rp 1 a1 7 x4 0))
  apply bn h; intro x5 h5 h
  apply bn h; intro x6 h6 h
  rw [← sj h]
  exact rn [(54, .d true), (65, .v (.rp 1 a1 7 x2 0)), (66, .v (.agg ((Za x3).map .p))), (69, .v (.rp 1 a1 7 x4 0)), (70, .v (.agg ((Za x5).map .p))), (71, .v (.rp 1 a1 7 x4 0)), (1071, .r ud (PD a1 a5 a7 a8 a9 a10 a11 a12 a13 a14 a15 a16 a17 a18 a19 a20 a21 v3 x4 x3)), (72, .v (.rp 1 a1 7 x2 0)), (1072, .r ud (L2 a1 a5 a7 a8 a9 a10 a11 a12 a13 a14 a15 a16 a17 a18 a19 a20 a21 v3 x4 x3 x2 x5)), (6000, .d true)] (av h1 (apc q0 (apc ((Z1 rfl h3 rfl) : ldA (PE a1 a5 a7 a8 a9 a10 a11 a12 a13 a14 a15 a16 a17 a18 a19 a20 a21 v3) .true 7 (.rp 1 a1 7 x2 0) = some (.agg ((Za x3).map .p))) (apc q1 (apc ((Z1 rfl h5 rfl) : ldA (PE a1 a5 a7 a8 a9 a10 a11 a12 a13 a14 a15 a16 a17 a18 a19 a20 a21 v3) .true 7 (.rp 1 a1 7 x4 0) = some (.agg ((Za x5).map .p))) (apc q1 (apc (⟨ZV (v' := (⟨x3.kind, x3.text, x3.n, x3.kids, x3.depth, x3.way, x3.at_⟩ : ThingD)) rfl h5 rfl rfl (Nat.le_of_ble_eq_true rfl) rfl, rfl⟩ : stA (PE a1 a5 a7 a8 a9 a10 a11 a12 a13 a14 a15 a16 a17 a18 a19 a20 a21 v3) 7 (.rp 1 a1 7 x4 0) (.agg ((Za x3).map .p)) = some (PD a1 a5 a7 a8 a9 a10 a11 a12 a13 a14 a15 a16 a17 a18 a19 a20 a21 v3 x4 x3) ∧ ud = ud) (apc q0 (apc (⟨ZV (v' := (⟨x5.kind, x5.text, x5.n, x5.kids, x5.depth, x5.way, x5.at_⟩ : ThingD)) rfl h6 rfl rfl (Nat.le_of_ble_eq_true rfl) rfl, rfl⟩ : stA (PD a1 a5 a7 a8 a9 a10 a11 a12 a13 a14 a15 a16 a17 a18 a19 a20 a21 v3 x4 x3) 7 (.rp 1 a1 7 x2 0) (.agg ((Za x5).map .p)) = some (L2 a1 a5 a7 a8 a9 a10 a11 a12 a13 a14 a15 a16 a17 a18 a19 a20 a21 v3 x4 x3 x2 x5) ∧ ud = ud) (apc (Hc a1 a2 a5 a7 a8 a9 a10 a11 a12 a13 a14 a15 a16 a17 a18 a19 a20 a21 (w6 (v1 + 1)) (w6 (v2 - 1)) ((v3.set x4 (⟨x3.kind, x3.text, x3.n, x3.kids, x3.depth, x3.way, x3.at_⟩ : ThingD)).set x2 (⟨x5.kind, x5.text, x5.n, x5.kids, x5.depth, x5.way, x5.at_⟩ : ThingD))) apn))))))))))
 ·
  rw [← sj h]
  exact xb [(54, .d false), (6000, .d true)] (av h1 apn)
theorem Hd (s0 : Int × Int × (List ThingD)) (e : E_L37_0) (h : runL (fun s => Jl a2 s.1 s.2.1 s.2.2) s0 = some e) : MA a1 a2 a5 a7 a8 a9 a10 a11 a12 a13 a14 a15 a16 a17 a18 a19 a20 a21 e (UC a1 a2 a5 a7 a8 a9 a10 a11 a12 a13 a14 a15 a16 a17 a18 a19 a20 a21 s0.1 s0.2.1 s0.2.2) := by
  have q := @Zg (Int × Int × (List ThingD)) E_L37_0 (fun s => Jl a2 s.1 s.2.1 s.2.2) (fun s => UC a1 a2 a5 a7 a8 a9 a10 a11 a12 a13 a14 a15 a16 a17 a18 a19 a20 a21 s.1 s.2.1 s.2.2) (MA a1 a2 a5 a7 a8 a9 a10 a11 a12 a13 a14 a15 a16 a17 a18 a19 a20 a21) (fun s r h => GG a1 a2 a5 a7 a8 a9 a10 a11 a12 a13 a14 a15 a16 a17 a18 a19 a20 a21 s.1 s.2.1 s.2.2 h) s0 e h
  exact q
end
inductive R_F37 where
  | k0 (x0 x1 : Nat) (x2 : List ThingD)
def BC (a1 a2 : Nat) (a3 : ThingD) (a4 a5 : Int) (a6 : BoxD) (a7 : List ThingD) (a8 : Bool) (a9 a10 a11 : Nat) (a12 : List Bool) (a13 : List Int) (a14 a15 : Int) (a16 : Bool) (a17 : List Int) (a18 : Nat) (a19 : List BoxD) (a20 : ThingD) (r : R_F37) : AV := match r with | .k0 x0 x1 x2 => (.sl 1 x0 7 0 x1)
def BD (a1 a2 : Nat) (a3 : ThingD) (a4 a5 : Int) (a6 : BoxD) (a7 : List ThingD) (a8 : Bool) (a9 a10 a11 : Nat) (a12 : List Bool) (a13 : List Int) (a14 a15 : Int) (a16 : Bool) (a17 : List Int) (a18 : Nat) (a19 : List BoxD) (a20 : ThingD) (r : R_F37) : List AB := match r with | .k0 x0 x1 x2 => [.cells 25 ((cBx a6).map .p), yT x0 x2, .cells 66 [sp a8 2 0, .sl 3 a9 1 0 a10, .sl 1 a1 7 0 a11, ls 1 Zc a12, ls 1 eI64 a13, i6 a14, i6 a15, vb a16], yU a9 a17, .row 25 4 a18 (ra cBx a19), .cells 60 ((Za a20).map .p), .cells 60 ((Za a3).map .p), yT0]
def F37 (a1 a2 : Nat) (a3 : ThingD) (a4 a5 : Int) (a7 : List ThingD) (a13 : List Int) : Option R_F37 :=
  ((runL (fun s => Jk a4 a5 a3 (a3.kids.length : Int) a13 s.1 s.2.1 s.2.2.1 s.2.2.2.1 s.2.2.2.2) (a1, a2, (IntKind.wrap .i64 (a3.at_ + 1)), 0, a7)).bind fun r1 => match r1 with | .k0 x1_0 x1_1 x1_2 => ((runL (fun s => Jl x1_1 s.1 s.2.1 s.2.2) (((a2 : Nat) : Int), (IntKind.wrap .i64 (((x1_1 : Nat) : Int) - 1)), x1_2)).bind fun r2 => match r2 with | .k0 x2_0 => (some (.k0 x1_0 x1_1 x2_0))))
abbrev FH (g1 : Nat → AV) (x1_0 x1_1 a2 : Nat) (a3 : ThingD) (a6 : BoxD) (x1_2 : List ThingD) (a8 : Bool) (a9 a10 a1 a11 : Nat) (a12 : List Bool) (a13 : List Int) (a14 a15 : Int) (a16 : Bool) (a17 : List Int) (a18 : Nat) (a19 : List BoxD) (a20 : ThingD) : St := ⟨fr 74 g1 [(1, .sl 1 x1_0 7 0 x1_1), (12, (i6 ((a2 : Nat) : Int))), (24, (.p (.lst 4 (Zb a3.kids))))], [.cells 25 ((cBx a6).map .p), yT x1_0 x1_2, .cells 66 [sp a8 2 0, .sl 3 a9 1 0 a10, .sl 1 a1 7 0 a11, ls 1 Zc a12, ls 1 eI64 a13, i6 a14, i6 a15, vb a16], yU a9 a17, .row 25 4 a18 (ra cBx a19), .cells 60 ((Za a20).map .p), .cells 60 ((Za a3).map .p), yT0]⟩
abbrev FI (g2 : Nat → AV) (x1_0 x1_1 : Nat) (a6 : BoxD) (x2_0 : List ThingD) (a8 : Bool) (a9 a10 a1 a11 : Nat) (a12 : List Bool) (a13 : List Int) (a14 a15 : Int) (a16 : Bool) (a17 : List Int) (a18 : Nat) (a19 : List BoxD) (a20 a3 : ThingD) : St := ⟨fr 74 g2 [(1, .sl 1 x1_0 7 0 x1_1)], [.cells 25 ((cBx a6).map .p), yT x1_0 x2_0, .cells 66 [sp a8 2 0, .sl 3 a9 1 0 a10, .sl 1 a1 7 0 a11, ls 1 Zc a12, ls 1 eI64 a13, i6 a14, i6 a15, vb a16], yU a9 a17, .row 25 4 a18 (ra cBx a19), .cells 60 ((Za a20).map .p), .cells 60 ((Za a3).map .p), yT0]⟩
theorem Qh (a1 a2 : Nat) (a3 : ThingD) (a4 a5 : Int) (a6 : BoxD) (a7 : List ThingD) (a8 : Bool) (a9 a10 a11 : Nat) (a12 : List Bool) (a13 : List Int) (a14 a15 : Int) (a16 : Bool) (a17 : List Int) (a18 : Nat) (a19 : List BoxD) (a20 : ThingD) {r : R_F37} (h : F37 a1 a2 a3 a4 a5 a7 a13 = some r) : CS prg 37 [.ptr 2 0, .sl 1 a1 7 0 a2, (.agg ((Za a3).map .p)), i6 a4, i6 a5] [.cells 25 ((cBx a6).map .p), yT a1 a7, .cells 66 [sp a8 2 0, .sl 3 a9 1 0 a10, .sl 1 a1 7 0 a11, ls 1 Zc a12, ls 1 eI64 a13, i6 a14, i6 a15, vb a16], yU a9 a17, .row 25 4 a18 (ra cBx a19), .cells 60 ((Za a20).map .p)] = some (BC a1 a2 a3 a4 a5 a6 a7 a8 a9 a10 a11 a12 a13 a14 a15 a16 a17 a18 a19 a20 r, BD a1 a2 a3 a4 a5 a6 a7 a8 a9 a10 a11 a12 a13 a14 a15 a16 a17 a18 a19 a20 r) := by
 unfold F37 at h
 apply bn h; intro r1 h1 h
 cases r1 with
 | k0 x1_0 x1_1 x1_2 =>
  obtain ⟨g1, e1⟩ := Ha a1 a4 a5 ((a2 : Nat) : Int) a3 (a3.kids.length : Int) a6 a8 a9 a10 a11 a12 a13 a14 a15 a16 a17 a18 a19 a20 (a1, a2, (w6 (a3.at_ + 1)), 0, a7) _ h1
  apply bn h; intro r2 h2 h
  cases r2 with
  | k0 x2_0 =>
   obtain ⟨g2, e2⟩ := Hd x1_0 x1_1 a6 a8 a9 a10 a1 a11 a12 a13 a14 a15 a16 a17 a18 a19 a20 a3 (((a2 : Nat) : Int), (w6 (((x1_1 : Nat) : Int) - 1)), x1_2) _ h2
   rw [← sj h]
   exact fc [(25, .v (i6 (a3.kids.length : Int))), (2000, .l (.brk 0) (FH g1 x1_0 x1_1 a2 a3 a6 x1_2 a8 a9 a10 a1 a11 a12 a13 a14 a15 a16 a17 a18 a19 a20)), (2002, .l (.brk 2) (FI g2 x1_0 x1_1 a6 x2_0 a8 a9 a10 a1 a11 a12 a13 a14 a15 a16 a17 a18 a19 a20 a3)), (6000, .d true)] (apc ((lgr Zy) : lnA (.p (.lst 4 (Zb a3.kids))) = some (i6 (a3.kids.length : Int))) (apc (My a1 a4 a5 ((a2 : Nat) : Int) a3 (a3.kids.length : Int) a6 a8 a9 a10 a11 a12 a13 a14 a15 a16 a17 a18 a19 a20 a1 a2 (w6 (a3.at_ + 1)) 0 a7) (apc (e1 : UB a1 a4 a5 ((a2 : Nat) : Int) a3 (a3.kids.length : Int) a6 a8 a9 a10 a11 a12 a13 a14 a15 a16 a17 a18 a19 a20 a1 a2 (w6 (a3.at_ + 1)) 0 a7 = some ((.brk 0), FH g1 x1_0 x1_1 a2 a3 a6 x1_2 a8 a9 a10 a1 a11 a12 a13 a14 a15 a16 a17 a18 a19 a20)) (apc (Hc x1_0 x1_1 a6 a8 a9 a10 a1 a11 a12 a13 a14 a15 a16 a17 a18 a19 a20 a3 ((a2 : Nat) : Int) (w6 (((x1_1 : Nat) : Int) - 1)) x1_2) (apc (e2 : UC x1_0 x1_1 a6 a8 a9 a10 a1 a11 a12 a13 a14 a15 a16 a17 a18 a19 a20 a3 ((a2 : Nat) : Int) (w6 (((x1_1 : Nat) : Int) - 1)) x1_2 = some ((.brk 2), FI g2 x1_0 x1_1 a6 x2_0 a8 a9 a10 a1 a11 a12 a13 a14 a15 a16 a17 a18 a19 a20 a3)) apn)))))
inductive R_F41_3 where
  | k0 (x0 : Bool) (x1 : Nat) (x2 : List Int)
def DR (a1 : BoxD) (a2 : Nat) (a3 : List ThingD) (a4 : Bool) (a5 a6 a7 : Nat) (a8 : List Bool) (a9 : List Int) (a10 a11 : Int) (a12 : Bool) (a13 : List Int) (a14 : ThingD) (r : R_F41_3) : AV := match r with | .k0 x0 x1 x2 => (.p (.val .nilIface))
def DS (a1 : BoxD) (a2 : Nat) (a3 : List ThingD) (a4 : Bool) (a5 a6 a7 : Nat) (a8 : List Bool) (a9 : List Int) (a10 a11 : Int) (a12 : Bool) (a13 : List Int) (a14 : ThingD) (r : R_F41_3) : List AB := match r with | .k0 x0 x1 x2 => [.cells 25 ((cBx a1).map .p), yT a2 a3, .cells 66 [sp x0 2 0, (.sl 3 x1 1 0 (a6 + 1)), .sl 1 a2 7 0 a7, ls 1 Zc a8, ls 1 eI64 a9, i6 a10, i6 a11, vb a12], yU x1 x2, .row 25 4 0 (ra cBx []), .cells 60 ((Za a14).map .p), .row 5 1 0 [[vi .u8 10]]]
def GH (a4 : Bool) (a5 a6 : Nat) (a13 : List Int) : Option R_F41_3 :=
  ((Mv a4).bind fun x1 => (bif (apOk a6 1 a13.length 1) then (bif (decide (a6 + 1 ≤ a13.length)) then (some (.k0 x1 a5 (splice a13 a6 [10]))) else (some (.k0 x1 (a5 + 1) (a13.take a6 ++ [10])))) else none))
abbrev L3 (a1 : BoxD) (a2 : Nat) (a3 : List ThingD) (x1 : Bool) (a5 a6 a7 : Nat) (a8 : List Bool) (a9 : List Int) (a10 a11 : Int) (a12 : Bool) (a13 : List Int) (a14 : ThingD) : List AB := [.cells 25 ((cBx a1).map .p), yT a2 a3, .cells 66 [sp x1 2 0, .sl 3 a5 1 0 a6, .sl 1 a2 7 0 a7, ls 1 Zc a8, ls 1 eI64 a9, i6 a10, i6 a11, vb a12], yU a5 a13, .row 25 4 0 (ra cBx []), .cells 60 ((Za a14).map .p)]
abbrev L4 (a1 : BoxD) (a2 : Nat) (a3 : List ThingD) (x1 : Bool) (a5 a6 a7 : Nat) (a8 : List Bool) (a9 : List Int) (a10 a11 : Int) (a12 : Bool) (a13 : List Int) (a14 : ThingD) : List AB := [.cells 25 ((cBx a1).map .p), yT a2 a3, .cells 66 [sp x1 2 0, .sl 3 a5 1 0 a6, .sl 1 a2 7 0 a7, ls 1 Zc a8, ls 1 eI64 a9, i6 a10, i6 a11, vb a12], yU a5 (splice a13 a6 [10]), .row 25 4 0 (ra cBx []), .cells 60 ((Za a14).map .p), .row 5 1 0 [[vi .u8 10]]]
abbrev L5 (a1 : BoxD) (a2 : Nat) (a3 : List ThingD) (x1 : Bool) (a5 a6 a7 : Nat) (a8 : List Bool) (a9 : List Int) (a10 a11 : Int) (a12 : Bool) (a13 : List Int) (a14 : ThingD) : List AB := [.cells 25 ((cBx a1).map .p), yT a2 a3, .cells 66 [sp x1 2 0, .sl 3 a5 1 0 a6, .sl 1 a2 7 0 a7, ls 1 Zc a8, ls 1 eI64 a9, i6 a10, i6 a11, vb a12], yU a5 a13, .row 25 4 0 (ra cBx []), .cells 60 ((Za a14).map .p), .row 5 1 0 [[vi .u8 10]]]
abbrev L6 (a1 : BoxD) (a2 : Nat) (a3 : List ThingD) (x1 : Bool) (a5 a6 a7 : Nat) (a8 : List Bool) (a9 : List Int) (a10 a11 : Int) (a12 : Bool) (a13 : List Int) (a14 : ThingD) : List AB := [.cells 25 ((cBx a1).map .p), yT a2 a3, .cells 66 [sp x1 2 0, .sl 3 a5 1 0 a6, .sl 1 a2 7 0 a7, ls 1 Zc a8, ls 1 eI64 a9, i6 a10, i6 a11, vb a12], yU (a5 + 1) (a13.take a6 ++ [10]), .row 25 4 0 (ra cBx []), .cells 60 ((Za a14).map .p), .row 5 1 0 [[vi .u8 10]]]
theorem GI (a1 : BoxD) (a2 : Nat) (a3 : List ThingD) (a4 : Bool) (a5 a6 a7 : Nat) (a8 : List Bool) (a9 : List Int) (a10 a11 : Int) (a12 : Bool) (a13 : List Int) (a14 : ThingD) {r : R_F41_3} (h : GH a4 a5 a6 a13 = some r) : CS prg 41 [.ptr 2 0, vi .u8 10] [.cells 25 ((cBx a1).map .p), yT a2 a3, .cells 66 [sp a4 2 0, .sl 3 a5 1 0 a6, .sl 1 a2 7 0 a7, ls 1 Zc a8, ls 1 eI64 a9, i6 a10, i6 a11, vb a12], yU a5 a13, .row 25 4 0 (ra cBx []), .cells 60 ((Za a14).map .p)] = some (DR a1 a2 a3 a4 a5 a6 a7 a8 a9 a10 a11 a12 a13 a14 r, DS a1 a2 a3 a4 a5 a6 a7 a8 a9 a10 a11 a12 a13 a14 r) := by
 unfold GH at h
 apply bn h; intro x1 h1 h
 have q0 := ((Pw a1 a2 a3 a4 a5 a6 a7 a8 a9 a10 a11 a12 a13 a14 h1) : CS prg 42 [.ptr 2 0] [.cells 25 ((cBx a1).map .p), yT a2 a3, .cells 66 [sp a4 2 0, .sl 3 a5 1 0 a6, .sl 1 a2 7 0 a7, ls 1 Zc a8, ls 1 eI64 a9, i6 a10, i6 a11, vb a12], yU a5 a13, .row 25 4 0 (ra cBx []), .cells 60 ((Za a14).map .p)] = some ((.tup []), L3 a1 a2 a3 x1 a5 a6 a7 a8 a9 a10 a11 a12 a13 a14))
 have k1 := ka [(6, .r (.tup []) (L3 a1 a2 a3 x1 a5 a6 a7 a8 a9 a10 a11 a12 a13 a14))] (apc q0 apn)
 apply bi h <;> intro h2 h
 ·
  apply bi h <;> intro h3 h
  ·
   rw [← sj h]
   exact fc ([(14, .r (.sl 3 a5 1 0 (a6 + 1)) (L4 a1 a2 a3 x1 a5 a6 a7 a8 a9 a10 a11 a12 a13 a14))] ++ kH k1) (k1.b (apc ((Wy (e := eU8) (xs := a13) (news := [10]) rfl (ZI (e := eU8) (xs := [10]) rfl) rfl h2 h3) : appA (L5 a1 a2 a3 x1 a5 a6 a7 a8 a9 a10 a11 a12 a13 a14) 5 1 1 (.sl 3 a5 1 0 a6) (.sl 6 0 1 0 1) = some ((.sl 3 a5 1 0 (a6 + 1)), L4 a1 a2 a3 x1 a5 a6 a7 a8 a9 a10 a11 a12 a13 a14)) apn))
  ·
   rw [← sj h]
   exact fc ([(14, .r (.sl 3 (a5 + 1) 1 0 (a6 + 1)) (L6 a1 a2 a3 x1 a5 a6 a7 a8 a9 a10 a11 a12 a13 a14))] ++ kH k1) (k1.b (apc ((Yy (e := eU8) (xs := a13) (news := [10]) rfl (ZI (e := eU8) (xs := [10]) rfl) rfl h2 h3) : appA (L5 a1 a2 a3 x1 a5 a6 a7 a8 a9 a10 a11 a12 a13 a14) 5 1 1 (.sl 3 a5 1 0 a6) (.sl 6 0 1 0 1) = some ((.sl 3 (a5 + 1) 1 0 (a6 + 1)), L6 a1 a2 a3 x1 a5 a6 a7 a8 a9 a10 a11 a12 a13 a14)) apn))
 ·
  cases h
inductive R_F33_4 where
  | k0 (x0 : Bool) (x1 : Nat) (x2 : List Int)
def DT (a1 : ThingD) (a2 : BoxD) (a3 : Nat) (a4 : List ThingD) (a5 : Bool) (a6 a7 a8 : Nat) (a9 : List Bool) (a10 : List Int) (a11 a12 : Int) (a13 : Bool) (a14 : List Int) (r : R_F33_4) : AV := match r with | .k0 x0 x1 x2 => (.tup [])
def DU (a1 : ThingD) (a2 : BoxD) (a3 : Nat) (a4 : List ThingD) (a5 : Bool) (a6 a7 a8 : Nat) (a9 : List Bool) (a10 : List Int) (a11 a12 : Int) (a13 : Bool) (a14 : List Int) (r : R_F33_4) : List AB := match r with | .k0 x0 x1 x2 => [.cells 25 ((cBx a2).map .p), yT a3 a4, .cells 66 [sp x0 2 0, (.sl 3 x1 1 0 (a7 + 1)), .sl 1 a3 7 0 a8, ls 1 Zc a9, ls 1 eI64 a10, i6 a11, i6 a1.depth, vb true], yU x1 x2, .row 25 4 0 (ra cBx []), .cells 60 ((Za a1).map .p), .row 5 1 0 [[vi .u8 10]]]
def Jm (a5 : Bool) (a6 a7 : Nat) (a14 : List Int) : Option R_F33_4 :=
  ((GH a5 a6 a7 a14).bind fun r1 => match r1 with | .k0 x1_0 x1_1 x1_2 => (some (.k0 x1_0 x1_1 x1_2)))
abbrev L7 (a2 : BoxD) (a3 : Nat) (a4 : List ThingD) (x1_0 : Bool) (x1_1 a7 a8 : Nat) (a9 : List Bool) (a10 : List Int) (a11 a12 : Int) (a13 : Bool) (x1_2 : List Int) (a1 : ThingD) : List AB := [.cells 25 ((cBx a2).map .p), yT a3 a4, .cells 66 [sp x1_0 2 0, (.sl 3 x1_1 1 0 (a7 + 1)), .sl 1 a3 7 0 a8, ls 1 Zc a9, ls 1 eI64 a10, i6 a11, i6 a12, vb a13], yU x1_1 x1_2, .row 25 4 0 (ra cBx []), .cells 60 ((Za a1).map .p), .row 5 1 0 [[vi .u8 10]]]
theorem L8 (a1 : ThingD) (a2 : BoxD) (a3 : Nat) (a4 : List ThingD) (a5 : Bool) (a6 a7 a8 : Nat) (a9 : List Bool) (a10 : List Int) (a11 a12 : Int) (a13 : Bool) (a14 : List Int) {r : R_F33_4} (h : Jm a5 a6 a7 a14 = some r) : CS prg 33 [.ptr 2 0, i6 a1.depth] [.cells 25 ((cBx a2).map .p), yT a3 a4, .cells 66 [sp a5 2 0, .sl 3 a6 1 0 a7, .sl 1 a3 7 0 a8, ls 1 Zc a9, ls 1 eI64 a10, i6 a11, i6 a12, vb a13], yU a6 a14, .row 25 4 0 (ra cBx []), .cells 60 ((Za a1).map .p)] = some (DT a1 a2 a3 a4 a5 a6 a7 a8 a9 a10 a11 a12 a13 a14 r, DU a1 a2 a3 a4 a5 a6 a7 a8 a9 a10 a11 a12 a13 a14 r) := by
 unfold Jm at h
 apply bn h; intro r1 h1 h
 cases r1 with
 | k0 x1_0 x1_1 x1_2 =>
  rw [← sj h]
  exact fc [(7, .r (.p (.val .nilIface)) (L7 a2 a3 a4 x1_0 x1_1 a7 a8 a9 a10 a11 a12 a13 x1_2 a1))] (apc ((GI a2 a3 a4 a5 a6 a7 a8 a9 a10 a11 a12 a13 a14 a1 h1) : CS prg 41 [.ptr 2 0, vi .u8 10] [.cells 25 ((cBx a2).map .p), yT a3 a4, .cells 66 [sp a5 2 0, .sl 3 a6 1 0 a7, .sl 1 a3 7 0 a8, ls 1 Zc a9, ls 1 eI64 a10, i6 a11, i6 a12, vb a13], yU a6 a14, .row 25 4 0 (ra cBx []), .cells 60 ((Za a1).map .p)] = some ((.p (.val .nilIface)), L7 a2 a3 a4 x1_0 x1_1 a7 a8 a9 a10 a11 a12 a13 x1_2 a1)) apn)
inductive E_L37_1_10 where
  | k0 (x0 x1 : Nat) (x2 : List ThingD)
section
variable (a1 : Nat) (a3 a4 a6 : Int) (a7 : ThingD) (a8 : Int) (a9 : BoxD) (a11 : Bool) (a12 a13 a14 : Nat) (a15 : List Bool) (a16 : List Int) (a17 a18 : Int) (a19 : List Int) (a20 : Nat) (a21 : List BoxD) (a22 : ThingD) (a23 : Nat) (a24 : Int)
def WT (v1 v2 : Nat) (v3 v4 : Int) (v5 : List ThingD) : Option (E_L37_1_10 ⊕ (Nat × Nat × Int × Int × (List ThingD))) :=
  (bif (decide (v4 < a8)) then ((getI a7.kids v4).bind fun x2 => (bif (apOk v2 1 v5.length 80) then (bif (decide (v2 + 1 ≤ v5.length)) then ((getI a16 v3).bind fun x5 => (some (.inr (v1, v2 + 1, (IntKind.wrap .i64 (v3 + x5)), (IntKind.wrap .i64 (v4 + 1)), (splice v5 v2 [(⟨x2.kind, x2.text, x2.n, x2.kids, a3, a4, v3⟩ : ThingD)]))))) else ((getI a16 v3).bind fun x5 => (some (.inr ((v1 + 1), v2 + 1, (IntKind.wrap .i64 (v3 + x5)), (IntKind.wrap .i64 (v4 + 1)), (v5.take v2 ++ [(⟨x2.kind, x2.text, x2.n, x2.kids, a3, a4, v3⟩ : ThingD)])))))) else none)) else (some (.inl (.k0 v1 v2 v5))))
def Qi (v1 v2 : Nat) (v3 v4 : Int) (v5 : List ThingD) : St := ⟨fr 74 ug [(0, .ptr 2 0), (1, .sl 1 v1 7 0 v2), (3, i6 a3), (4, i6 a4), (11, i6 v3), (12, i6 a6), (24, (.p (.lst 4 (Zb a7.kids)))), (25, i6 a8), (26, i6 v4)], [.cells 25 ((cBx a9).map .p), yT v1 v5, .cells 66 [sp a11 2 0, .sl 3 a12 1 0 a13, .sl 1 a1 7 0 a14, ls 1 Zc a15, ls 1 eI64 a16, i6 a17, i6 a18, vb true], yU a12 a19, .row 25 4 a20 (ra cBx a21), .cells 60 ((Za a22).map .p), .row 5 1 a23 [[vi .u8 a24]], .cells 60 ((Za a7).map .p), yT0]⟩
theorem UD (v1 v2 : Nat) (v3 v4 : Int) (v5 : List ThingD) : okT 9 (Qi a1 a3 a4 a6 a7 a8 a9 a11 a12 a13 a14 a15 a16 a17 a18 a19 a20 a21 a22 a23 a24 v1 v2 v3 v4 v5).h = true := (ZA rfl (ac (ar (Zt (Z2 rfl (Ze rfl (Ze rfl (Ze rfl (Ze rfl (Ze rfl (Ze rfl (Ze rfl rfl)))))))) (ar (ar (ac (ac (ac (ar rfl))))))))))
abbrev YL (v1 v2 : Nat) (v3 v4 : Int) (v5 : List ThingD) := evH prg 9 [0, 1, 3, 4, 11, 12, 24, 25, 26, 1000199006007] Xz (Qi a1 a3 a4 a6 a7 a8 a9 a11 a12 a13 a14 a15 a16 a17 a18 a19 a20 a21 a22 a23 a24 v1 v2 v3 v4 v5)
def UE (e : E_L37_1_10) (r : Option (Out × St)) : Prop := match e with | .k0 x0 x1 x2 => ∃ g, r = some ((.brk 0), ⟨fr 74 g [(1, .sl 1 x0 7 0 x1), (12, i6 a6), (24, (.p (.lst 4 (Zb a7.kids))))], [.cells 25 ((cBx a9).map .p), yT x0 x2, .cells 66 [sp a11 2 0, .sl 3 a12 1 0 a13, .sl 1 a1 7 0 a14, ls 1 Zc a15, ls 1 eI64 a16, i6 a17, i6 a18, vb true], yU a12 a19, .row 25 4 a20 (ra cBx a21), .cells 60 ((Za a22).map .p), .row 5 1 a23 [[vi .u8 a24]], .cells 60 ((Za a7).map .p), yT0]⟩)
abbrev SM (v1 : Nat) (v5 : List ThingD) (v2 : Nat) (x2 : BoxD) (v3 : Int) : List AB := [.cells 25 ((cBx a9).map .p), yT v1 (splice v5 v2 [(⟨x2.kind, x2.text, x2.n, x2.kids, a3, a4, v3⟩ : ThingD)]), .cells 66 [sp a11 2 0, .sl 3 a12 1 0 a13, .sl 1 a1 7 0 a14, ls 1 Zc a15, ls 1 eI64 a16, i6 a17, i6 a18, vb true], yU a12 a19, .row 25 4 a20 (ra cBx a21), .cells 60 ((Za a22).map .p), .row 5 1 a23 [[vi .u8 a24]], .cells 60 ((Za a7).map .p), yT0, .row 25 4 0 (ra cBx []), .cells 25 ((cBx x2).map .p), .row 60 7 0 [[i6 x2.kind, vs x2.text, i6 x2.n, (.p (.lst 4 (Zb x2.kids))), i6 a3, i6 a4, i6 v3]]]
abbrev SN (v1 : Nat) (v5 : List ThingD) (x2 : BoxD) (v3 : Int) : List AB := [.cells 25 ((cBx a9).map .p), yT v1 v5, .cells 66 [sp a11 2 0, .sl 3 a12 1 0 a13, .sl 1 a1 7 0 a14, ls 1 Zc a15, ls 1 eI64 a16, i6 a17, i6 a18, vb true], yU a12 a19, .row 25 4 a20 (ra cBx a21), .cells 60 ((Za a22).map .p), .row 5 1 a23 [[vi .u8 a24]], .cells 60 ((Za a7).map .p), yT0, .row 25 4 0 (ra cBx []), .cells 25 ((cBx x2).map .p), .row 60 7 0 [[i6 x2.kind, vs x2.text, i6 x2.n, (.p (.lst 4 (Zb x2.kids))), i6 a3, i6 a4, i6 v3]]]
abbrev SO (v1 : Nat) (v5 : List ThingD) (v2 : Nat) (x2 : BoxD) (v3 : Int) : List AB := [.cells 25 ((cBx a9).map .p), yT (v1 + 1) (v5.take v2 ++ [(⟨x2.kind, x2.text, x2.n, x2.kids, a3, a4, v3⟩ : ThingD)]), .cells 66 [sp a11 2 0, .sl 3 a12 1 0 a13, .sl 1 a1 7 0 a14, ls 1 Zc a15, ls 1 eI64 a16, i6 a17, i6 a18, vb true], yU a12 a19, .row 25 4 a20 (ra cBx a21), .cells 60 ((Za a22).map .p), .row 5 1 a23 [[vi .u8 a24]], .cells 60 ((Za a7).map .p), yT0, .row 25 4 0 (ra cBx []), .cells 25 ((cBx x2).map .p), .row 60 7 0 [[i6 x2.kind, vs x2.text, i6 x2.n, (.p (.lst 4 (Zb x2.kids))), i6 a3, i6 a4, i6 v3]]]
theorem MB (v1 v2 : Nat) (v3 v4 : Int) (v5 : List ThingD) {r : E_L37_1_10 ⊕ (Nat × Nat × Int × Int × (List ThingD))} (h : WT a3 a4 a7 a8 a16 v1 v2 v3 v4 v5 = some r) : OkR (fun e => UE a1 a6 a7 a9 a11 a12 a13 a14 a15 a16 a17 a18 a19 a20 a21 a22 a23 a24 e (YL a1 a3 a4 a6 a7 a8 a9 a11 a12 a13 a14 a15 a16 a17 a18 a19 a20 a21 a22 a23 a24 v1 v2 v3 v4 v5)) (fun s => YL a1 a3 a4 a6 a7 a8 a9 a11 a12 a13 a14 a15 a16 a17 a18 a19 a20 a21 a22 a23 a24 v1 v2 v3 v4 v5 = YL a1 a3 a4 a6 a7 a8 a9 a11 a12 a13 a14 a15 a16 a17 a18 a19 a20 a21 a22 a23 a24 s.1 s.2.1 s.2.2.1 s.2.2.2.1 s.2.2.2.2) r := by
 unfold WT at h
 apply bi h <;> intro h1 h
 ·
  apply bn h; intro x2 h2 h
  have q0 := ((igr Zy h2) : idxA 4 (.p (.lst 4 (Zb a7.kids))) (i6 v4) = some (.ro (cBx x2)))
  have k1 := ka [(27, .d true), (28, .v (.ro (cBx x2)))] (av h1 (apc q0 apn))
  apply bi h <;> intro h3 h
  ·
   apply bi h <;> intro h4 h
   ·
    apply bn h; intro x5 h5 h
    rw [← sj h]
    exact rn ([(37, .r (.sl 1 v1 7 0 (v2 + 1)) (SM a1 a3 a4 a7 a9 a11 a12 a13 a14 a15 a16 a17 a18 a19 a20 a21 a22 a23 a24 v1 v5 v2 x2 v3)), (44, .v (.ro [.val (.int .i64 x5)])), (6000, .d true)] ++ kH k1) (k1.b (apc ((Wy (e := Za) (xs := v5) (news := [(⟨x2.kind, x2.text, x2.n, x2.kids, a3, a4, v3⟩ : ThingD)]) rfl (ZI (e := Za) (xs := [(⟨x2.kind, x2.text, x2.n, x2.kids, a3, a4, v3⟩ : ThingD)]) rfl) rfl h3 h4) : appA (SN a1 a3 a4 a7 a9 a11 a12 a13 a14 a15 a16 a17 a18 a19 a20 a21 a22 a23 a24 v1 v5 x2 v3) 60 7 80 (.sl 1 v1 7 0 v2) (.sl 11 0 7 0 1) = some ((.sl 1 v1 7 0 (v2 + 1)), SM a1 a3 a4 a7 a9 a11 a12 a13 a14 a15 a16 a17 a18 a19 a20 a21 a22 a23 a24 v1 v5 v2 x2 v3)) (apc (ig eI64 1 .i64 h5) (apc (UD a1 a3 a4 a6 a7 a8 a9 a11 a12 a13 a14 a15 a16 a17 a18 a19 a20 a21 a22 a23 a24 v1 (v2 + 1) (w6 (v3 + x5)) (w6 (v4 + 1)) (splice v5 v2 [(⟨x2.kind, x2.text, x2.n, x2.kids, a3, a4, v3⟩ : ThingD)])) apn))))
   ·
    apply bn h; intro x5 h5 h
    rw [← sj h]
    exact rn ([(37, .r (.sl 1 (v1 + 1) 7 0 (v2 + 1)) (SO a1 a3 a4 a7 a9 a11 a12 a13 a14 a15 a16 a17 a18 a19 a20 a21 a22 a23 a24 v1 v5 v2 x2 v3)), (44, .v (.ro [.val (.int .i64 x5)])), (6000, .d true)] ++ kH k1) (k1.b (apc ((Yy (e := Za) (xs := v5) (news := [(⟨x2.kind, x2.text, x2.n, x2.kids, a3, a4, v3⟩ : ThingD)]) rfl (ZI (e := Za) (xs := [(⟨x2.kind, x2.text, x2.n, x2.kids, a3, a4, v3⟩ : ThingD)]) rfl) rfl h3 h4) : appA (SN a1 a3 a4 a7 a9 a11 a12 a13 a14 a15 a16 a17 a18 a19 a20 a21 a22 a23 a24 v1 v5 x2 v3) 60 7 80 (.sl 1 v1 7 0 v2) (.sl 11 0 7 0 1) = some ((.sl 1 (v1 + 1) 7 0 (v2 + 1)), SO a1 a3 a4 a7 a9 a11 a12 a13 a14 a15 a16 a17 a18 a19 a20 a21 a22 a23 a24 v1 v5 v2 x2 v3)) (apc (ig eI64 1 .i64 h5) (apc (UD a1 a3 a4 a6 a7 a8 a9 a11 a12 a13 a14 a15 a16 a17 a18 a19 a20 a21 a22 a23 a24 (v1 + 1) (v2 + 1) (w6 (v3 + x5)) (w6 (v4 + 1)) (v5.take v2 ++ [(⟨x2.kind, x2.text, x2.n, x2.kids, a3, a4, v3⟩ : ThingD)])) apn))))
  ·
   cases h
 ·
  rw [← sj h]
  exact xb [(27, .d false), (6000, .d true)] (av h1 apn)
theorem OO (s0 : Nat × Nat × Int × Int × (List ThingD)) (e : E_L37_1_10) (h : runL (fun s => WT a3 a4 a7 a8 a16 s.1 s.2.1 s.2.2.1 s.2.2.2.1 s.2.2.2.2) s0 = some e) : UE a1 a6 a7 a9 a11 a12 a13 a14 a15 a16 a17 a18 a19 a20 a21 a22 a23 a24 e (YL a1 a3 a4 a6 a7 a8 a9 a11 a12 a13 a14 a15 a16 a17 a18 a19 a20 a21 a22 a23 a24 s0.1 s0.2.1 s0.2.2.1 s0.2.2.2.1 s0.2.2.2.2) := by
  have q := @Zg (Nat × Nat × Int × Int × (List ThingD)) E_L37_1_10 (fun s => WT a3 a4 a7 a8 a16 s.1 s.2.1 s.2.2.1 s.2.2.2.1 s.2.2.2.2) (fun s => YL a1 a3 a4 a6 a7 a8 a9 a11 a12 a13 a14 a15 a16 a17 a18 a19 a20 a21 a22 a23 a24 s.1 s.2.1 s.2.2.1 s.2.2.2.1 s.2.2.2.2) (UE a1 a6 a7 a9 a11 a12 a13 a14 a15 a16 a17 a18 a19 a20 a21 a22 a23 a24) (fun s r h => MB a1 a3 a4 a6 a7 a8 a9 a11 a12 a13 a14 a15 a16 a17 a18 a19 a20 a21 a22 a23 a24 s.1 s.2.1 s.2.2.1 s.2.2.2.1 s.2.2.2.2 h) s0 e h
  exact q
end
inductive E_L37_0_10 where
  | k0 (x0 : List ThingD)
section
variable (a1 a2 : Nat) (a5 : BoxD) (a7 : Bool) (a8 a9 a10 a11 : Nat) (a12 : List Bool) (a13 : List Int) (a14 a15 : Int) (a16 : List Int) (a17 : Nat) (a18 : List BoxD) (a19 : ThingD) (a20 : Nat) (a21 : Int) (a22 : ThingD)
def WU (v1 v2 : Int) (v3 : List ThingD) : Option (E_L37_0_10 ⊕ (Int × Int × (List ThingD))) :=
  (bif (decide (v1 < v2)) then ((ixN a2 v2).bind fun x2 => ((v3[x2]?).bind fun x3 => ((ixN a2 v1).bind fun x4 => ((v3[x4]?).bind fun x5 => (((v3.set x4 (⟨x3.kind, x3.text, x3.n, x3.kids, x3.depth, x3.way, x3.at_⟩ : ThingD))[x2]?).bind fun x6 => (some (.inr ((IntKind.wrap .i64 (v1 + 1)), (IntKind.wrap .i64 (v2 - 1)), ((v3.set x4 (⟨x3.kind, x3.text, x3.n, x3.kids, x3.depth, x3.way, x3.at_⟩ : ThingD)).set x2 (⟨x5.kind, x5.text, x5.n, x5.kids, x5.depth, x5.way, x5.at_⟩ : ThingD)))))))))) else (some (.inl (.k0 v3))))
def Qj (v1 v2 : Int) (v3 : List ThingD) : St := ⟨fr 74 ug [(1, .sl 1 a1 7 0 a2), (15, i6 v1), (16, i6 v2)], [.cells 25 ((cBx a5).map .p), yT a1 v3, .cells 66 [sp a7 2 0, .sl 3 a8 1 0 a9, .sl 1 a10 7 0 a11, ls 1 Zc a12, ls 1 eI64 a13, i6 a14, i6 a15, vb true], yU a8 a16, .row 25 4 a17 (ra cBx a18), .cells 60 ((Za a19).map .p), .row 5 1 a20 [[vi .u8 a21]], .cells 60 ((Za a22).map .p), yT0]⟩
theorem Qk (v1 v2 : Int) (v3 : List ThingD) : okT 9 (Qj a1 a2 a5 a7 a8 a9 a10 a11 a12 a13 a14 a15 a16 a17 a18 a19 a20 a21 a22 v1 v2 v3).h = true := (ZA rfl (ac (ar (Zt (Z2 rfl (Ze rfl (Ze rfl (Ze rfl (Ze rfl (Ze rfl (Ze rfl (Ze rfl rfl)))))))) (ar (ar (ac (ac (ac (ar rfl))))))))))
abbrev YM (v1 v2 : Int) (v3 : List ThingD) := evH prg 9 [1, 15, 16] Xy (Qj a1 a2 a5 a7 a8 a9 a10 a11 a12 a13 a14 a15 a16 a17 a18 a19 a20 a21 a22 v1 v2 v3)
def UF (e : E_L37_0_10) (r : Option (Out × St)) : Prop := match e with | .k0 x0 => ∃ g, r = some ((.brk 2), ⟨fr 74 g [(1, .sl 1 a1 7 0 a2)], [.cells 25 ((cBx a5).map .p), yT a1 x0, .cells 66 [sp a7 2 0, .sl 3 a8 1 0 a9, .sl 1 a10 7 0 a11, ls 1 Zc a12, ls 1 eI64 a13, i6 a14, i6 a15, vb true], yU a8 a16, .row 25 4 a17 (ra cBx a18), .cells 60 ((Za a19).map .p), .row 5 1 a20 [[vi .u8 a21]], .cells 60 ((Za a22).map .p), yT0]⟩)
abbrev VC (v3 : List ThingD) (x4 : Nat) (x3 : ThingD) : List AB := [.cells 25 ((cBx a5).map .p), yT a1 (v3.set x4 (⟨x3.kind, x3.text, x3.n, x3.kids, x3.depth, x3.way, x3.at_⟩ : ThingD)), .cells 66 [sp a7 2 0, .sl 3 a8 1 0 a9, .sl 1 a10 7 0 a11, ls 1 Zc a12, ls 1 eI64 a13, i6 a14, i6 a15, vb true], yU a8 a16, .row 25 4 a17 (ra cBx a18), .cells 60 ((Za a19).map .p), .row 5 1 a20 [[vi .u8 a21]], .cells 60 ((Za a22).map .p), yT0]
abbrev SP (v3 : List ThingD) (x4 : Nat) (x3 : ThingD) (x2 : Nat) (x5 : ThingD) : List AB := [.cells 25 ((cBx a5).map .p), yT a1 ((v3.set x4 (⟨x3.kind, x3.text, x3.n, x3.kids, x3.depth, x3.way, x3.at_⟩ : ThingD)).set x2 (⟨x5.kind, x5.text, x5.n, x5.kids, x5.depth, x5.way, x5.at_⟩ : ThingD)), .cells 66 [sp a7 2 0, .sl 3 a8 1 0 a9, .sl 1 a10 7 0 a11, ls 1 Zc a12, ls 1 eI64 a13, i6 a14, i6 a15, vb true], yU a8 a16, .row 25 4 a17 (ra cBx a18), .cells 60 ((Za a19).map .p), .row 5 1 a20 [[vi .u8 a21]], .cells 60 ((Za a22).map .p), yT0]
abbrev VD (v3 : List ThingD) : List AB := [.cells 25 ((cBx a5).map .p), yT a1 v3, .cells 66 [sp a7 2 0, .sl 3 a8 1 0 a9, .sl 1 a10 7 0 a11, ls 1 Zc a12, ls 1 eI64 a13, i6 a14, i6 a15, vb true], yU a8 a16, .row 25 4 a17 (ra cBx a18), .cells 60 ((Za a19).map .p), .row 5 1 a20 [[vi .u8 a21]], .cells 60 ((Za a22).map .p), yT0]
theorem MC (v1 v2 : Int) (v3 : List ThingD) {r : E_L37_0_10 ⊕ (Int × Int × (List ThingD))} (h : WU a2 v1 v2 v3 = some r) : OkR (fun e => UF a1 a2 a5 a7 a8 a9 a10 a11 a12 a13 a14 a15 a16 a17 a18 a19 a20 a21 a22 e (YM a1 a2 a5 a7 a8 a9 a10 a11 a12 a13 a14 a15 a16 a17 a18 a19 a20 a21 a22 v1 v2 v3)) (fun s => YM a1 a2 a5 a7 a8 a9 a10 a11 a12 a13 a14 a15 a16 a17 a18 a19 a20 a21 a22 v1 v2 v3 = YM a1 a2 a5 a7 a8 a9 a10 a11 a12 a13 a14 a15 a16 a17 a18 a19 a20 a21 a22 s.1 s.2.1 s.2.2) r := by
 unfold WU at h
 apply bi h <;> intro h1 h
 ·
  apply bn h; intro x2 h2 h
  have q0 := ((ZN h2) : idxA 7 (.sl 1 a1 7 0 a2) (i6 v2) = some (.rp 1 a1 7 x2 0))
  apply bn h; intro x3 h3 h
  apply bn h; intro x4 h4 h
  have q1 := ((ZN h4) : idxA 7 (.sl 1 a1 7 0 a2) (i6 v1) = some (.rp 1 a1 7 x4 0))
  apply bn h; intro x5 h5 h
  apply bn h; intro x6 h6 h
  rw [← sj h]
  exact rn [(54, .d true), (65, .v (.rp 1 a1 7 x2 0)), (66, .v (.agg ((Za x3).map .p))), (69, .v (.rp 1 a1 7 x4 0)), (70, .v (.agg ((Za x5).map .p))), (71, .v (.rp 1 a1 7 x4 0)), (1071, .r ud (VC a1 a5 a7 a8 a9 a10 a11 a12 a13 a14 a15 a16 a17 a18 a19 a20 a21 a22 v3 x4 x3)), (72, .v (.rp 1 a1 7 x2 0)), (1072, .r ud (SP a1 a5 a7 a8 a9 a10 a11 a12 a13 a14 a15 a16 a17 a18 a19 a20 a21 a22 v3 x4 x3 x2 x5)), (6000, .d true)] (av h1 (apc q0 (apc ((Z1 rfl h3 rfl) : ldA (VD a1 a5 a7 a8 a9 a10 a11 a12 a13 a14 a15 a16 a17 a18 a19 a20 a21 a22 v3) .true 7 (.rp 1 a1 7 x2 0) = some (.agg ((Za x3).map .p))) (apc q1 (apc ((Z1 rfl h5 rfl) : ldA (VD a1 a5 a7 a8 a9 a10 a11 a12 a13 a14 a15 a16 a17 a18 a19 a20 a21 a22 v3) .true 7 (.rp 1 a1 7 x4 0) = some (.agg ((Za x5).map .p))) (apc q1 (apc (⟨ZV (v' := (⟨x3.kind, x3.text, x3.n, x3.kids, x3.depth, x3.way, x3.at_⟩ : ThingD)) rfl h5 rfl rfl (Nat.le_of_ble_eq_true rfl) rfl, rfl⟩ : stA (VD a1 a5 a7 a8 a9 a10 a11 a12 a13 a14 a15 a16 a17 a18 a19 a20 a21 a22 v3) 7 (.rp 1 a1 7 x4 0) (.agg ((Za x3).map .p)) = some (VC a1 a5 a7 a8 a9 a10 a11 a12 a13 a14 a15 a16 a17 a18 a19 a20 a21 a22 v3 x4 x3) ∧ ud = ud) (apc q0 (apc (⟨ZV (v' := (⟨x5.kind, x5.text, x5.n, x5.kids, x5.depth, x5.way, x5.at_⟩ : ThingD)) rfl h6 rfl rfl (Nat.le_of_ble_eq_true rfl) rfl, rfl⟩ : stA (VC a1 a5 a7 a8 a9 a10 a11 a12 a13 a14 a15 a16 a17 a18 a19 a20 a21 a22 v3 x4 x3) 7 (.rp 1 a1 7 x2 0) (.agg ((Za x5).map .p)) = some (SP a1 a5 a7 a8 a9 a10 a11 a12 a13 a14 a15 a16 a17 a18 a19 a20 a21 a22 v3 x4 x3 x2 x5) ∧ ud = ud) (apc (Qk a1 a2 a5 a7 a8 a9 a10 a11 a12 a13 a14 a15 a16 a17 a18 a19 a20 a21 a22 (w6 (v1 + 1)) (w6 (v2 - 1)) ((v3.set x4 (⟨x3.kind, x3.text, x3.n, x3.kids, x3.depth, x3.way, x3.at_⟩ : ThingD)).set x2 (⟨x5.kind, x5.text, x5.n, x5.kids, x5.depth, x5.way, x5.at_⟩ : ThingD))) apn))))))))))
 ·
  rw [← sj h]
  exact xb [(54, .d false), (6000, .d true)] (av h1 apn)
theorem OP (s0 : Int × Int × (List ThingD)) (e : E_L37_0_10) (h : runL (fun s => WU a2 s.1 s.2.1 s.2.2) s0 = some e) : UF a1 a2 a5 a7 a8 a9 a10 a11 a12 a13 a14 a15 a16 a17 a18 a19 a20 a21 a22 e (YM a1 a2 a5 a7 a8 a9 a10 a11 a12 a13 a14 a15 a16 a17 a18 a19 a20 a21 a22 s0.1 s0.2.1 s0.2.2) := by
  have q := @Zg (Int × Int × (List ThingD)) E_L37_0_10 (fun s => WU a2 s.1 s.2.1 s.2.2) (fun s => YM a1 a2 a5 a7 a8 a9 a10 a11 a12 a13 a14 a15 a16 a17 a18 a19 a20 a21 a22 s.1 s.2.1 s.2.2) (UF a1 a2 a5 a7 a8 a9 a10 a11 a12 a13 a14 a15 a16 a17 a18 a19 a20 a21 a22) (fun s r h => MC a1 a2 a5 a7 a8 a9 a10 a11 a12 a13 a14 a15 a16 a17 a18 a19 a20 a21 a22 s.1 s.2.1 s.2.2 h) s0 e h
  exact q
end
inductive R_F37_10 where
  | k0 (x0 x1 : Nat) (x2 : List ThingD)
def GJ (a1 a2 : Nat) (a3 : ThingD) (a4 a5 : Int) (a6 : BoxD) (a7 : List ThingD) (a8 : Bool) (a9 a10 a11 : Nat) (a12 : List Bool) (a13 : List Int) (a14 a15 : Int) (a16 : List Int) (a17 : Nat) (a18 : List BoxD) (a19 : ThingD) (a20 : Nat) (a21 : Int) (r : R_F37_10) : AV := match r with | .k0 x0 x1 x2 => (.sl 1 x0 7 0 x1)
def GK (a1 a2 : Nat) (a3 : ThingD) (a4 a5 : Int) (a6 : BoxD) (a7 : List ThingD) (a8 : Bool) (a9 a10 a11 : Nat) (a12 : List Bool) (a13 : List Int) (a14 a15 : Int) (a16 : List Int) (a17 : Nat) (a18 : List BoxD) (a19 : ThingD) (a20 : Nat) (a21 : Int) (r : R_F37_10) : List AB := match r with | .k0 x0 x1 x2 => [.cells 25 ((cBx a6).map .p), yT x0 x2, .cells 66 [sp a8 2 0, .sl 3 a9 1 0 a10, .sl 1 a1 7 0 a11, ls 1 Zc a12, ls 1 eI64 a13, i6 a14, i6 a15, vb true], yU a9 a16, .row 25 4 a17 (ra cBx a18), .cells 60 ((Za a19).map .p), .row 5 1 a20 [[vi .u8 a21]], .cells 60 ((Za a3).map .p), yT0]
def OQ (a1 a2 : Nat) (a3 : ThingD) (a4 a5 : Int) (a7 : List ThingD) (a13 : List Int) : Option R_F37_10 :=
  ((runL (fun s => WT a4 a5 a3 (a3.kids.length : Int) a13 s.1 s.2.1 s.2.2.1 s.2.2.2.1 s.2.2.2.2) (a1, a2, (IntKind.wrap .i64 (a3.at_ + 1)), 0, a7)).bind fun r1 => match r1 with | .k0 x1_0 x1_1 x1_2 => ((runL (fun s => WU x1_1 s.1 s.2.1 s.2.2) (((a2 : Nat) : Int), (IntKind.wrap .i64 (((x1_1 : Nat) : Int) - 1)), x1_2)).bind fun r2 => match r2 with | .k0 x2_0 => (some (.k0 x1_0 x1_1 x2_0))))
abbrev OR (g1 : Nat → AV) (x1_0 x1_1 a2 : Nat) (a3 : ThingD) (a6 : BoxD) (x1_2 : List ThingD) (a8 : Bool) (a9 a10 a1 a11 : Nat) (a12 : List Bool) (a13 : List Int) (a14 a15 : Int) (a16 : List Int) (a17 : Nat) (a18 : List BoxD) (a19 : ThingD) (a20 : Nat) (a21 : Int) : St := ⟨fr 74 g1 [(1, .sl 1 x1_0 7 0 x1_1), (12, (i6 ((a2 : Nat) : Int))), (24, (.p (.lst 4 (Zb a3.kids))))], [.cells 25 ((cBx a6).map .p), yT x1_0 x1_2, .cells 66 [sp a8 2 0, .sl 3 a9 1 0 a10, .sl 1 a1 7 0 a11, ls 1 Zc a12, ls 1 eI64 a13, i6 a14, i6 a15, vb true], yU a9 a16, .row 25 4 a17 (ra cBx a18), .cells 60 ((Za a19).map .p), .row 5 1 a20 [[vi .u8 a21]], .cells 60 ((Za a3).map .p), yT0]⟩
abbrev OS (g2 : Nat → AV) (x1_0 x1_1 : Nat) (a6 : BoxD) (x2_0 : List ThingD) (a8 : Bool) (a9 a10 a1 a11 : Nat) (a12 : List Bool) (a13 : List Int) (a14 a15 : Int) (a16 : List Int) (a17 : Nat) (a18 : List BoxD) (a19 : ThingD) (a20 : Nat) (a21 : Int) (a3 : ThingD) : St := ⟨fr 74 g2 [(1, .sl 1 x1_0 7 0 x1_1)], [.cells 25 ((cBx a6).map .p), yT x1_0 x2_0, .cells 66 [sp a8 2 0, .sl 3 a9 1 0 a10, .sl 1 a1 7 0 a11, ls 1 Zc a12, ls 1 eI64 a13, i6 a14, i6 a15, vb true], yU a9 a16, .row 25 4 a17 (ra cBx a18), .cells 60 ((Za a19).map .p), .row 5 1 a20 [[vi .u8 a21]], .cells 60 ((Za a3).map .p), yT0]⟩
theorem He (a1 a2 : Nat) (a3 : ThingD) (a4 a5 : Int) (a6 : BoxD) (a7 : List ThingD) (a8 : Bool) (a9 a10 a11 : Nat) (a12 : List Bool) (a13 : List Int) (a14 a15 : Int) (a16 : List Int) (a17 : Nat) (a18 : List BoxD) (a19 : ThingD) (a20 : Nat) (a21 : Int) {r : R_F37_10} (h : OQ a1 a2 a3 a4 a5 a7 a13 = some r) : CS prg 37 [.ptr 2 0, .sl 1 a1 7 0 a2, (.agg ((Za a3).map .p)), i6 a4, i6 a5] [.cells 25 ((cBx a6).map .p), yT a1 a7, .cells 66 [sp a8 2 0, .sl 3 a9 1 0 a10, .sl 1 a1 7 0 a11, ls 1 Zc a12, ls 1 eI64 a13, i6 a14, i6 a15, vb true], yU a9 a16, .row 25 4 a17 (ra cBx a18), .cells 60 ((Za a19).map .p), .row 5 1 a20 [[vi .u8 a21]]] = some (GJ a1 a2 a3 a4 a5 a6 a7 a8 a9 a10 a11 a12 a13 a14 a15 a16 a17 a18 a19 a20 a21 r, GK a1 a2 a3 a4 a5 a6 a7 a8 a9 a10 a11 a12 a13 a14 a15 a16 a17 a18 a19 a20 a21 r) := by
 unfold OQ at h
 apply bn h; intro r1 h1 h
 cases r1 with
 | k0 x1_0 x1_1 x1_2 =>
  obtain ⟨g1, e1⟩ := OO a1 a4 a5 ((a2 : Nat) : Int) a3 (a3.kids.length : Int) a6 a8 a9 a10 a11 a12 a13 a14 a15 a16 a17 a18 a19 a20 a21 (a1, a2, (w6 (a3.at_ + 1)), 0, a7) _ h1
  apply bn h; intro r2 h2 h
  cases r2 with
  | k0 x2_0 =>
   obtain ⟨g2, e2⟩ := OP x1_0 x1_1 a6 a8 a9 a10 a1 a11 a12 a13 a14 a15 a16 a17 a18 a19 a20 a21 a3 (((a2 : Nat) : Int), (w6 (((x1_1 : Nat) : Int) - 1)), x1_2) _ h2
   rw [← sj h]
   exact fc [(25, .v (i6 (a3.kids.length : Int))), (2000, .l (.brk 0) (OR g1 x1_0 x1_1 a2 a3 a6 x1_2 a8 a9 a10 a1 a11 a12 a13 a14 a15 a16 a17 a18 a19 a20 a21)), (2002, .l (.brk 2) (OS g2 x1_0 x1_1 a6 x2_0 a8 a9 a10 a1 a11 a12 a13 a14 a15 a16 a17 a18 a19 a20 a21 a3)), (6000, .d true)] (apc ((lgr Zy) : lnA (.p (.lst 4 (Zb a3.kids))) = some (i6 (a3.kids.length : Int))) (apc (UD a1 a4 a5 ((a2 : Nat) : Int) a3 (a3.kids.length : Int) a6 a8 a9 a10 a11 a12 a13 a14 a15 a16 a17 a18 a19 a20 a21 a1 a2 (w6 (a3.at_ + 1)) 0 a7) (apc (e1 : YL a1 a4 a5 ((a2 : Nat) : Int) a3 (a3.kids.length : Int) a6 a8 a9 a10 a11 a12 a13 a14 a15 a16 a17 a18 a19 a20 a21 a1 a2 (w6 (a3.at_ + 1)) 0 a7 = some ((.brk 0), OR g1 x1_0 x1_1 a2 a3 a6 x1_2 a8 a9 a10 a1 a11 a12 a13 a14 a15 a16 a17 a18 a19 a20 a21)) (apc (Qk x1_0 x1_1 a6 a8 a9 a10 a1 a11 a12 a13 a14 a15 a16 a17 a18 a19 a20 a21 a3 ((a2 : Nat) : Int) (w6 (((x1_1 : Nat) : Int) - 1)) x1_2) (apc (e2 : YM x1_0 x1_1 a6 a8 a9 a10 a1 a11 a12 a13 a14 a15 a16 a17 a18 a19 a20 a21 a3 ((a2 : Nat) : Int) (w6 (((x1_1 : Nat) : Int) - 1)) x1_2 = some ((.brk 2), OS g2 x1_0 x1_1 a6 x2_0 a8 a9 a10 a1 a11 a12 a13 a14 a15 a16 a17 a18 a19 a20 a21 a3)) apn)))))
inductive E_L37_1_11 where
  | k0 (x0 x1 : Nat) (x2 : List ThingD)
section
variable (a1 a2 : Int) (a4 : ThingD) (a5 : Int) (a6 : BoxD) (a7 : Nat) (a8 : List ThingD) (a9 : Bool) (a10 a11 a12 : Nat) (a13 : List Bool) (a14 : List Int) (a15 a16 : Int) (a17 : Bool) (a18 : List Int) (a19 : Nat) (a20 : List BoxD) (a21 a22 : ThingD)
abbrev XR (l : List AB) : List AB := .cells 25 ((cBx a6).map .p) :: yT a7 a8 :: .cells 66 [sp a9 2 0, .sl 3 a10 1 0 a11, .sl 1 a7 7 0 a12, ls 1 Zc a13, ls 1 eI64 a14, i6 a15, i6 a16, vb a17] :: yU a10 a18 :: .row 25 4 a19 (ra cBx a20) :: .cells 60 ((Za a21).map .p) :: .cells 56 [.ptr 2 0] :: .cells 60 ((Za a22).map .p) :: .cells 60 ((Za a4).map .p) :: yT0 :: l
def WV (v1 v2 : Nat) (v3 v4 : Int) (v5 : List ThingD) : Option (E_L37_1_11 ⊕ (Nat × Nat × Int × Int × (List ThingD))) :=
  (bif (decide (v4 < a5)) then ((getI a4.kids v4).bind fun x2 => (bif (apOk v2 1 v5.length 80) then (bif (decide (v2 + 1 ≤ v5.length)) then ((getI a14 v3).bind fun x5 => (some (.inr (v1, v2 + 1, (IntKind.wrap .i64 (v3 + x5)), (IntKind.wrap .i64 (v4 + 1)), (splice v5 v2 [(⟨x2.kind, x2.text, x2.n, x2.kids, a1, a2, v3⟩ : ThingD)]))))) else ((getI a14 v3).bind fun x5 => (some (.inr ((v1 + 1), v2 + 1, (IntKind.wrap .i64 (v3 + x5)), (IntKind.wrap .i64 (v4 + 1)), (v5.take v2 ++ [(⟨x2.kind, x2.text, x2.n, x2.kids, a1, a2, v3⟩ : ThingD)])))))) else none)) else (some (.inl (.k0 v1 v2 v5))))
def Ql (v1 v2 : Nat) (v3 v4 : Int) (v5 : List ThingD) : St := ⟨fr 74 ug [(0, .ptr 2 0), (1, .sl 10 v1 7 0 v2), (3, i6 a1), (4, i6 a2), (11, i6 v3), (12, i6 0), (24, (.p (.lst 4 (Zb a4.kids)))), (25, i6 a5), (26, i6 v4)], (XR a4 a6 a7 a8 a9 a10 a11 a12 a13 a14 a15 a16 a17 a18 a19 a20 a21 a22 [yT v1 v5])⟩
theorem UG (v1 v2 : Nat) (v3 v4 : Int) (v5 : List ThingD) : okT 11 (Ql a1 a2 a4 a5 a6 a7 a8 a9 a10 a11 a12 a13 a14 a15 a16 a17 a18 a19 a20 a21 a22 v1 v2 v3 v4 v5).h = true := (ZA rfl (ac (ar (Zt (Z2 rfl (Ze rfl (Ze rfl (Ze rfl (Ze rfl (Ze rfl (Ze rfl (Ze rfl rfl)))))))) (ar (ar (ac (ac (ac (ac (ar (ar rfl))))))))))))
abbrev YN (v1 v2 : Nat) (v3 v4 : Int) (v5 : List ThingD) := evH prg 11 [0, 1, 3, 4, 11, 12, 24, 25, 26, 1000199006007] Xz (Ql a1 a2 a4 a5 a6 a7 a8 a9 a10 a11 a12 a13 a14 a15 a16 a17 a18 a19 a20 a21 a22 v1 v2 v3 v4 v5)
def UH (e : E_L37_1_11) (r : Option (Out × St)) : Prop := match e with | .k0 x0 x1 x2 => ∃ g, r = some ((.brk 0), ⟨fr 74 g [(1, .sl 10 x0 7 0 x1), (12, i6 0), (24, (.p (.lst 4 (Zb a4.kids))))], (XR a4 a6 a7 a8 a9 a10 a11 a12 a13 a14 a15 a16 a17 a18 a19 a20 a21 a22 [yT x0 x2])⟩)
abbrev SQ (v1 : Nat) (v5 : List ThingD) (v2 : Nat) (x2 : BoxD) (v3 : Int) : List AB := (XR a4 a6 a7 a8 a9 a10 a11 a12 a13 a14 a15 a16 a17 a18 a19 a20 a21 a22 [yT v1 (splice v5 v2 [(⟨x2.kind, x2.text, x2.n, x2.kids, a1, a2, v3⟩ : ThingD)]), .row 25 4 0 (ra cBx []), .cells 25 ((cBx x2).map .p), .row 60 7 0 [[i6 x2.kind, vs x2.text, i6 x2.n, (.p (.lst 4 (Zb x2.kids))), i6 a1, i6 a2, i6 v3]]])
abbrev SS (v1 : Nat) (v5 : List ThingD) (x2 : BoxD) (v3 : Int) : List AB := (XR a4 a6 a7 a8 a9 a10 a11 a12 a13 a14 a15 a16 a17 a18 a19 a20 a21 a22 [yT v1 v5, .row 25 4 0 (ra cBx []), .cells 25 ((cBx x2).map .p), .row 60 7 0 [[i6 x2.kind, vs x2.text, i6 x2.n, (.p (.lst 4 (Zb x2.kids))), i6 a1, i6 a2, i6 v3]]])
abbrev ST (v1 : Nat) (v5 : List ThingD) (v2 : Nat) (x2 : BoxD) (v3 : Int) : List AB := (XR a4 a6 a7 a8 a9 a10 a11 a12 a13 a14 a15 a16 a17 a18 a19 a20 a21 a22 [yT (v1 + 1) (v5.take v2 ++ [(⟨x2.kind, x2.text, x2.n, x2.kids, a1, a2, v3⟩ : ThingD)]), .row 25 4 0 (ra cBx []), .cells 25 ((cBx x2).map .p), .row 60 7 0 [[i6 x2.kind, vs x2.text, i6 x2.n, (.p (.lst 4 (Zb x2.kids))), i6 a1, i6 a2, i6 v3]]])
theorem MD (v1 v2 : Nat) (v3 v4 : Int) (v5 : List ThingD) {r : E_L37_1_11 ⊕ (Nat × Nat × Int × Int × (List ThingD))} (h : WV a1 a2 a4 a5 a14 v1 v2 v3 v4 v5 = some r) : OkR (fun e => UH a4 a6 a7 a8 a9 a10 a11 a12 a13 a14 a15 a16 a17 a18 a19 a20 a21 a22 e (YN a1 a2 a4 a5 a6 a7 a8 a9 a10 a11 a12 a13 a14 a15 a16 a17 a18 a19 a20 a21 a22 v1 v2 v3 v4 v5)) (fun s => YN a1 a2 a4 a5 a6 a7 a8 a9 a10 a11 a12 a13 a14 a15 a16 a17 a18 a19 a20 a21 a22 v1 v2 v3 v4 v5 = YN a1 a2 a4 a5 a6 a7 a8 a9 a10 a11 a12 a13 a14 a15 a16 a17 a18 a19 a20 a21 a22 s.1 s.2.1 s.2.2.1 s.2.2.2.1 s.2.2.2.2) r := by
 unfold WV at h
 apply bi h <;> intro h1 h
 ·
  apply bn h; intro x2 h2 h
  have q0 := ((igr Zy h2) : idxA 4 (.p (.lst 4 (Zb a4.kids))) (i6 v4) = some (.ro (cBx x2)))
  have k1 := ka [(27, .d true), (28, .v (.ro (cBx x2)))] (av h1 (apc q0 apn))
  apply bi h <;> intro h3 h
  ·
   apply bi h <;> intro h4 h
   ·
    apply bn h; intro x5 h5 h
    rw [← sj h]
    exact rn ([(37, .r (.sl 10 v1 7 0 (v2 + 1)) (SQ a1 a2 a4 a6 a7 a8 a9 a10 a11 a12 a13 a14 a15 a16 a17 a18 a19 a20 a21 a22 v1 v5 v2 x2 v3)), (44, .v (.ro [.val (.int .i64 x5)])), (6000, .d true)] ++ kH k1) (k1.b (apc ((Wy (e := Za) (xs := v5) (news := [(⟨x2.kind, x2.text, x2.n, x2.kids, a1, a2, v3⟩ : ThingD)]) rfl (ZI (e := Za) (xs := [(⟨x2.kind, x2.text, x2.n, x2.kids, a1, a2, v3⟩ : ThingD)]) rfl) rfl h3 h4) : appA (SS a1 a2 a4 a6 a7 a8 a9 a10 a11 a12 a13 a14 a15 a16 a17 a18 a19 a20 a21 a22 v1 v5 x2 v3) 60 7 80 (.sl 10 v1 7 0 v2) (.sl 13 0 7 0 1) = some ((.sl 10 v1 7 0 (v2 + 1)), SQ a1 a2 a4 a6 a7 a8 a9 a10 a11 a12 a13 a14 a15 a16 a17 a18 a19 a20 a21 a22 v1 v5 v2 x2 v3)) (apc (ig eI64 1 .i64 h5) (apc (UG a1 a2 a4 a5 a6 a7 a8 a9 a10 a11 a12 a13 a14 a15 a16 a17 a18 a19 a20 a21 a22 v1 (v2 + 1) (w6 (v3 + x5)) (w6 (v4 + 1)) (splice v5 v2 [(⟨x2.kind, x2.text, x2.n, x2.kids, a1, a2, v3⟩ : ThingD)])) apn))))
   ·
    apply bn h; intro x5 h5 h
    rw [← sj h]
    exact rn ([(37, .r (.sl 10 (v1 + 1) 7 0 (v2 + 1)) (ST a1 a2 a4 a6 a7 a8 a9 a10 a11 a12 a13 a14 a15 a16 a17 a18 a19 a20 a21 a22 v1 v5 v2 x2 v3)), (44, .v (.ro [.val (.int .i64 x5)])), (6000, .d true)] ++ kH k1) (k1.b (apc ((Yy (e := Za) (xs := v5) (news := [(⟨x2.kind, x2.text, x2.n, x2.kids, a1, a2, v3⟩ : ThingD)]) rfl (ZI (e := Za) (xs := [(⟨x2.kind, x2.text, x2.n, x2.kids, a1, a2, v3⟩ : ThingD)]) rfl) rfl h3 h4) : appA (SS a1 a2 a4 a6 a7 a8 a9 a10 a11 a12 a13 a14 a15 a16 a17 a18 a19 a20 a21 a22 v1 v5 x2 v3) 60 7 80 (.sl 10 v1 7 0 v2) (.sl 13 0 7 0 1) = some ((.sl 10 (v1 + 1) 7 0 (v2 + 1)), ST a1 a2 a4 a6 a7 a8 a9 a10 a11 a12 a13 a14 a15 a16 a17 a18 a19 a20 a21 a22 v1 v5 v2 x2 v3)) (apc (ig eI64 1 .i64 h5) (apc (UG a1 a2 a4 a5 a6 a7 a8 a9 a10 a11 a12 a13 a14 a15 a16 a17 a18 a19 a20 a21 a22 (v1 + 1) (v2 + 1) (w6 (v3 + x5)) (w6 (v4 + 1)) (v5.take v2 ++ [(⟨x2.kind, x2.text, x2.n, x2.kids, a1, a2, v3⟩ : ThingD)])) apn))))
  ·
   cases h
 ·
  rw [← sj h]
  exact xb [(27, .d false), (6000, .d true)] (av h1 apn)
theorem OT (s0 : Nat × Nat × Int × Int × (List ThingD)) (e : E_L37_1_11) (h : runL (fun s => WV a1 a2 a4 a5 a14 s.1 s.2.1 s.2.2.1 s.2.2.2.1 s.2.2.2.2) s0 = some e) : UH a4 a6 a7 a8 a9 a10 a11 a12 a13 a14 a15 a16 a17 a18 a19 a20 a21 a22 e (YN a1 a2 a4 a5 a6 a7 a8 a9 a10 a11 a12 a13 a14 a15 a16 a17 a18 a19 a20 a21 a22 s0.1 s0.2.1 s0.2.2.1 s0.2.2.2.1 s0.2.2.2.2) := by
  have q := @Zg (Nat × Nat × Int × Int × (List ThingD)) E_L37_1_11 (fun s => WV a1 a2 a4 a5 a14 s.1 s.2.1 s.2.2.1 s.2.2.2.1 s.2.2.2.2) (fun s => YN a1 a2 a4 a5 a6 a7 a8 a9 a10 a11 a12 a13 a14 a15 a16 a17 a18 a19 a20 a21 a22 s.1 s.2.1 s.2.2.1 s.2.2.2.1 s.2.2.2.2) (UH a4 a6 a7 a8 a9 a10 a11 a12 a13 a14 a15 a16 a17 a18 a19 a20 a21 a22) (fun s r h => MD a1 a2 a4 a5 a6 a7 a8 a9 a10 a11 a12 a13 a14 a15 a16 a17 a18 a19 a20 a21 a22 s.1 s.2.1 s.2.2.1 s.2.2.2.1 s.2.2.2.2 h) s0 e h
  exact q
end
inductive E_L37_0_11 where
  | k0 (x0 : List ThingD)
section
variable (a1 a2 : Nat) (a4 : BoxD) (a5 : Nat) (a6 : List ThingD) (a7 : Bool) (a8 a9 a10 : Nat) (a11 : List Bool) (a12 : List Int) (a13 a14 : Int) (a15 : Bool) (a16 : List Int) (a17 : Nat) (a18 : List BoxD) (a19 a20 a21 : ThingD)
abbrev XS (l : List AB) : List AB := .cells 25 ((cBx a4).map .p) :: yT a5 a6 :: .cells 66 [sp a7 2 0, .sl 3 a8 1 0 a9, .sl 1 a5 7 0 a10, ls 1 Zc a11, ls 1 eI64 a12, i6 a13, i6 a14, vb a15] :: yU a8 a16 :: .row 25 4 a17 (ra cBx a18) :: .cells 60 ((Za a19).map .p) :: .cells 56 [.ptr 2 0] :: .cells 60 ((Za a20).map .p) :: .cells 60 ((Za a21).map .p) :: yT0 :: l
def WW (v1 v2 : Int) (v3 : List ThingD) : Option (E_L37_0_11 ⊕ (Int × Int × (List ThingD))) :=
  (bif (decide (v1 < v2)) then ((ixN a2 v2).bind fun x2 => ((v3[x2]?).bind fun x3 => ((ixN a2 v1).bind fun x4 => ((v3[x4]?).bind fun x5 => (((v3.set x4 (⟨x3.kind, x3.text, x3.n, x3.kids, x3.depth, x3.way, x3.at_⟩ : ThingD))[x2]?).bind fun x6 => (some (.inr ((IntKind.wrap .i64 (v1 + 1)), (IntKind.wrap .i64 (v2 - 1)), ((v3.set x4 (⟨x3.kind, x3.text, x3.n, x3.kids, x3.depth, x3.way, x3.at_⟩ : ThingD)).set x2 (⟨x5.kind, x5.text, x5.n, x5.kids, x5.depth, x5.way, x5.at_⟩ : ThingD)))))))))) else (some (.inl (.k0 v3))))
def Qm (v1 v2 : Int) (v3 : List ThingD) : St := ⟨fr 74 ug [(1, .sl 10 a1 7 0 a2), (15, i6 v1), (16, i6 v2)], (XS a4 a5 a6 a7 a8 a9 a10 a11 a12 a13 a14 a15 a16 a17 a18 a19 a20 a21 [yT a1 v3])⟩
theorem Qn (v1 v2 : Int) (v3 : List ThingD) : okT 11 (Qm a1 a2 a4 a5 a6 a7 a8 a9 a10 a11 a12 a13 a14 a15 a16 a17 a18 a19 a20 a21 v1 v2 v3).h = true := (ZA rfl (ac (ar (Zt (Z2 rfl (Ze rfl (Ze rfl (Ze rfl (Ze rfl (Ze rfl (Ze rfl (Ze rfl rfl)))))))) (ar (ar (ac (ac (ac (ac (ar (ar rfl))))))))))))
abbrev YO (v1 v2 : Int) (v3 : List ThingD) := evH prg 11 [1, 15, 16] Xy (Qm a1 a2 a4 a5 a6 a7 a8 a9 a10 a11 a12 a13 a14 a15 a16 a17 a18 a19 a20 a21 v1 v2 v3)
def UI (e : E_L37_0_11) (r : Option (Out × St)) : Prop := match e with | .k0 x0 => ∃ g, r = some ((.brk 2), ⟨fr 74 g [(1, .sl 10 a1 7 0 a2)], (XS a4 a5 a6 a7 a8 a9 a10 a11 a12 a13 a14 a15 a16 a17 a18 a19 a20 a21 [yT a1 x0])⟩)
abbrev VE (v3 : List ThingD) (x4 : Nat) (x3 : ThingD) : List AB := (XS a4 a5 a6 a7 a8 a9 a10 a11 a12 a13 a14 a15 a16 a17 a18 a19 a20 a21 [yT a1 (v3.set x4 (⟨x3.kind, x3.text, x3.n, x3.kids, x3.depth, x3.way, x3.at_⟩ : ThingD))])
abbrev SU (v3 : List ThingD) (x4 : Nat) (x3 : ThingD) (x2 : Nat) (x5 : ThingD) : List AB := (XS a4 a5 a6 a7 a8 a9 a10 a11 a12 a13 a14 a15 a16 a17 a18 a19 a20 a21 [yT a1 ((v3.set x4 (⟨x3.kind, x3.text, x3.n, x3.kids, x3.depth, x3.way, x3.at_⟩ : ThingD)).set x2 (⟨x5.kind, x5.text, x5.n, x5.kids, x5.depth, x5.way, x5.at_⟩ : ThingD))])
abbrev VF (v3 : List ThingD) : List AB := (XS a4 a5 a6 a7 a8 a9 a10 a11 a12 a13 a14 a15 a16 a17 a18 a19 a20 a21 [yT a1 v3])
theorem ME (v1 v2 : Int) (v3 : List ThingD) {r : E_L37_0_11 ⊕ (Int × Int × (List ThingD))} (h : WW a2 v1 v2 v3 = some r) : OkR (fun e => UI a1 a2 a4 a5 a6 a7 a8 a9 a10 a11 a12 a13 a14 a15 a16 a17 a18 a19 a20 a21 e (YO a1 a2 a4 a5 a6 a7 a8 a9 a10 a11 a12 a13 a14 a15 a16 a17 a18 a19 a20 a21 v1 v2 v3)) (fun s => YO a1 a2 a4 a5 a6 a7 a8 a9 a10 a11 a12 a13 a14 a15 a16 a17 a18 a19 a20 a21 v1 v2 v3 = YO a1 a2 a4 a5 a6 a7 a8 a9 a10 a11 a12 a13 a14 a15 a16 a17 a18 a19 a20 a21 s.1 s.2.1 s.2.2) r := by
 unfold WW at h
 apply bi h <;> intro h1 h
 ·
  apply bn h; intro x2 h2 h
  have q0 := ((ZN h2) : idxA 7 (.sl 10 a1 7 0 a2) (i6 v2) = some (.rp 10 a1 7 x2 0))
  apply bn h; intro x3 h3 h
  apply bn h; intro x4 h4 h
  have q1 := ((ZN h4) : idxA 7 (.sl 10 a1 7 0 a2) (i6 v1) = some (.rp 10 a1 7 x4 0))
  apply bn h; intro x5 h5 h
  apply bn h; intro x6 h6 h
  rw [← sj h]
  exact rn [(54, .d true), (65, .v (.rp 10 a1 7 x2 0)), (66, .v (.agg ((Za x3).map .p))), (69, .v (.rp 10 a1 7 x4 0)), (70, .v (.agg ((Za x5).map .p))), (71, .v (.rp 10 a1 7 x4 0)), (1071, .r ud (VE a1 a4 a5 a6 a7 a8 a9 a10 a11 a12 a13 a14 a15 a16 a17 a18 a19 a20 a21 v3 x4 x3)), (72, .v (.rp 10 a1 7 x2 0)), (1072, .r ud (SU a1 a4 a5 a6 a7 a8 a9 a10 a11 a12 a13 a14 a15 a16 a17 a18 a19 a20 a21 v3 x4 x3 x2 x5)), (6000, .d true)] (av h1 (apc q0 (apc ((Z1 rfl h3 rfl) : ldA (VF a1 a4 a5 a6 a7 a8 a9 a10 a11 a12 a13 a14 a15 a16 a17 a18 a19 a20 a21 v3) .true 7 (.rp 10 a1 7 x2 0) = some (.agg ((Za x3).map .p))) (apc q1 (apc ((Z1 rfl h5 rfl) : ldA (VF a1 a4 a5 a6 a7 a8 a9 a10 a11 a12 a13 a14 a15 a16 a17 a18 a19 a20 a21 v3) .true 7 (.rp 10 a1 7 x4 0) = some (.agg ((Za x5).map .p))) (apc q1 (apc (⟨ZV (v' := (⟨x3.kind, x3.text, x3.n, x3.kids, x3.depth, x3.way, x3.at_⟩ : ThingD)) rfl h5 rfl rfl (Nat.le_of_ble_eq_true rfl) rfl, rfl⟩ : stA (VF a1 a4 a5 a6 a7 a8 a9 a10 a11 a12 a13 a14 a15 a16 a17 a18 a19 a20 a21 v3) 7 (.rp 10 a1 7 x4 0) (.agg ((Za x3).map .p)) = some (VE a1 a4 a5 a6 a7 a8 a9 a10 a11 a12 a13 a14 a15 a16 a17 a18 a19 a20 a21 v3 x4 x3) ∧ ud = ud) (apc q0 (apc (⟨ZV (v' := (⟨x5.kind, x5.text, x5.n, x5.kids, x5.depth, x5.way, x5.at_⟩ : ThingD)) rfl h6 rfl rfl (Nat.le_of_ble_eq_true rfl) rfl, rfl⟩ : stA (VE a1 a4 a5 a6 a7 a8 a9 a10 a11 a12 a13 a14 a15 a16 a17 a18 a19 a20 a21 v3 x4 x3) 7 (.rp 10 a1 7 x2 0) (.agg ((Za x5).map .p)) = some (SU a1 a4 a5 a6 a7 a8 a9 a10 a11 a12 a13 a14 a15 a16 a17 a18 a19 a20 a21 v3 x4 x3 x2 x5) ∧ ud = ud) (apc (Qn a1 a2 a4 a5 a6 a7 a8 a9 a10 a11 a12 a13 a14 a15 a16 a17 a18 a19 a20 a21 (w6 (v1 + 1)) (w6 (v2 - 1)) ((v3.set x4 (⟨x3.kind, x3.text, x3.n, x3.kids, x3.depth, x3.way, x3.at_⟩ : ThingD)).set x2 (⟨x5.kind, x5.text, x5.n, x5.kids, x5.depth, x5.way, x5.at_⟩ : ThingD))) apn))))))))))
 ·
  rw [← sj h]
  exact xb [(54, .d false), (6000, .d true)] (av h1 apn)
theorem OU (s0 : Int × Int × (List ThingD)) (e : E_L37_0_11) (h : runL (fun s => WW a2 s.1 s.2.1 s.2.2) s0 = some e) : UI a1 a2 a4 a5 a6 a7 a8 a9 a10 a11 a12 a13 a14 a15 a16 a17 a18 a19 a20 a21 e (YO a1 a2 a4 a5 a6 a7 a8 a9 a10 a11 a12 a13 a14 a15 a16 a17 a18 a19 a20 a21 s0.1 s0.2.1 s0.2.2) := by
  have q := @Zg (Int × Int × (List ThingD)) E_L37_0_11 (fun s => WW a2 s.1 s.2.1 s.2.2) (fun s => YO a1 a2 a4 a5 a6 a7 a8 a9 a10 a11 a12 a13 a14 a15 a16 a17 a18 a19 a20 a21 s.1 s.2.1 s.2.2) (UI a1 a2 a4 a5 a6 a7 a8 a9 a10 a11 a12 a13 a14 a15 a16 a17 a18 a19 a20 a21) (fun s r h => ME a1 a2 a4 a5 a6 a7 a8 a9 a10 a11 a12 a13 a14 a15 a16 a17 a18 a19 a20 a21 s.1 s.2.1 s.2.2 h) s0 e h
  exact q
end
end
end Go.Proofs.Try
