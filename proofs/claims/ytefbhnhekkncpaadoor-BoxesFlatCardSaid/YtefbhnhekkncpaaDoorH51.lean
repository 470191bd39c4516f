/- Decompiled by a program: functions as plain data see them, part 1. -/
import Derived.Test.YtefbhnhekkncpaaDoorW5
namespace Go.Proofs.Tryd
set_option linter.unusedSimpArgs false
set_option linter.unusedVariables false
set_option maxHeartbeats 4000000
open Go Go.Vs
noncomputable section
def He (a1 : BoxD) (a2 : Int) (x0 : Int) : AV := (i6 x0)
abbrev Vz := BoxD → Int → Option Int
abbrev PI (f : Vz) : Prop := ∀ (a1 : BoxD) (a2 : Int) {r : Int}, f a1 a2 = some r → PR1 prg 27 [(.agg ((cBx a1).map .p)), i6 a2] (He a1 a2 r)
inductive E_L12_0_2 where
  | k0 (x0 : Int)
def X9 (rF12_2 : Vz) (a1 : Int) (a3 : BoxD) (v1 v2 : Int) : Option (E_L12_0_2 ⊕ (Int × Int)) :=
  (bif (decide (v2 < (a3.kids.length : Int))) then (bif (decide (v1 ≤ a1)) then ((getI a3.kids v2).bind fun x3 => ((rF12_2 x3 (IntKind.wrap .i64 (a1 - v1))).bind fun x4 => (some (.inr ((IntKind.wrap .i64 (v1 + x4)), (IntKind.wrap .i64 (v2 + 1))))))) else (some (.inl (.k0 v1)))) else (some (.inl (.k0 v1))))
def OR (a1 : Int) (a3 : BoxD) (v1 v2 : Int) : St := ⟨fr 35 ug [(1, i6 a1), (2, .ptr 0 0), (5, i6 v1), (6, i6 v2)], [.cells 28 ((cBx a3).map .p)]⟩
theorem OS (a1 : Int) (a3 : BoxD) (v1 v2 : Int) : okT 1 (OR a1 a3 v1 v2).h = true := (ZB rfl (ac rfl))
abbrev XT (a1 : Int) (a3 : BoxD) (v1 v2 : Int) := evH prg 1 [1, 2, 5, 6] I6 (OR a1 a3 v1 v2)
def SB (a1 : Int) (a3 : BoxD) (e : E_L12_0_2) (r : Option (Out × St)) : Prop := match e with | .k0 x0 => ∃ g, r = some ((.brk 0), ⟨fr 35 g [(2, .ptr 0 0), (5, i6 x0)], [.cells 28 ((cBx a3).map .p)]⟩)
theorem Js (rF12_2 : Vz) (hF12_2 : PI rF12_2) (a1 : Int) (a3 : BoxD) (v1 v2 : Int) {r : E_L12_0_2 ⊕ (Int × Int)} (h : X9 rF12_2 a1 a3 v1 v2 = some r) : OkR (fun e => SB a1 a3 e (XT a1 a3 v1 v2)) (fun s => XT a1 a3 v1 v2 = XT a1 a3 s.1 s.2) r := by
 unfold X9 at h
 have q0 := ((lgr Zv) : lnA (.p (.lst 4 (Zb a3.kids))) = some (i6 (a3.kids.length : Int)))
 apply bi h <;> intro h1 h
 ·
  have k1 := ka [(14, .v (i6 (a3.kids.length : Int))), (15, .d true)] (apc q0 (av h1 apn))
  apply bi h <;> intro h2 h
  ·
   apply bn h; intro x3 h3 h
   apply bn h; intro x4 h4 h
   rw [← sj h]
   exact rn ([(19, .d true), (27, .v (.ro (cBx x3))), (32, .v (i6 x4)), (6000, .d true)] ++ kH k1) (k1.b (av h2 (apc ((igr Zv h3) : idxA 4 (.p (.lst 4 (Zb a3.kids))) (i6 v2) = some (.ro (cBx x3))) (apc (((hF12_2 x3 (w6 (a1 - v1)) h4).cp rfl _) : CP prg 27 [(.agg ((cBx x3).map .p)), (i6 (w6 (a1 - v1)))] [.cells 28 ((cBx a3).map .p)] = some (i6 x4)) (apc (OS a1 a3 (w6 (v1 + x4)) (w6 (v2 + 1))) apn)))))
  ·
   rw [← sj h]
   exact xb ([(19, .d false), (6000, .d true)] ++ kH k1) (k1.b (av h2 apn))
 ·
  rw [← sj h]
  exact xb [(14, .v (i6 (a3.kids.length : Int))), (15, .d false), (6000, .d true)] (apc q0 (av h1 apn))
theorem MC (rF12_2 : Vz) (hF12_2 : PI rF12_2) (a1 : Int) (a3 : BoxD) (s0 : Int × Int) (e : E_L12_0_2) (h : runL (fun s => X9 rF12_2 a1 a3 s.1 s.2) s0 = some e) : SB a1 a3 e (XT a1 a3 s0.1 s0.2) := by
  have q := @Zg (Int × Int) E_L12_0_2 (fun s => X9 rF12_2 a1 a3 s.1 s.2) (fun s => XT a1 a3 s.1 s.2) (SB a1 a3) (fun s r h => Js rF12_2 hF12_2 a1 a3 s.1 s.2 h) s0 e h
  exact q
def SC (rF12_2 : Vz) (a1 : BoxD) (a2 : Int) : Option Int :=
  ((runL (fun s => X9 rF12_2 a2 a1 s.1 s.2) ((IntKind.wrap .i64 (1 + (a1.text.size : Int))), 0)).bind fun r1 => match r1 with | .k0 x1_0 => (some x1_0))
abbrev LY (g1 : Nat → AV) (x1_0 : Int) (a1 : BoxD) : St := ⟨fr 35 g1 [(2, .ptr 0 0), (5, i6 x1_0)], [.cells 28 ((cBx a1).map .p)]⟩
theorem Hf (rF12_2 : Vz) (hF12_2 : PI rF12_2) (a1 : BoxD) (a2 : Int) {r : Int} (h : SC rF12_2 a1 a2 = some r) : PR1 prg 27 [(.agg ((cBx a1).map .p)), i6 a2] (He a1 a2 r) := by
 unfold SC at h
 apply bn h; intro r1 h1 h
 cases r1 with
 | k0 x1_0 =>
  obtain ⟨g1, e1⟩ := MC rF12_2 hF12_2 a2 a1 ((w6 (1 + (a1.text.size : Int))), 0) _ h1
  rw [← sj h]
  exact fq [(2000, .l (.brk 0) (LY g1 x1_0 a1)), (6000, .d true)] (apc (OS a2 a1 (w6 (1 + (a1.text.size : Int))) 0) (apc (e1 : XT a2 a1 (w6 (1 + (a1.text.size : Int))) 0 = some ((.brk 0), LY g1 x1_0 a1)) apn))
def MD : Nat → Vz
  | 0 => fun _ _ => none
  | Nf + 1 => SC (MD Nf)
theorem GY (Nf : Nat) : PI (MD Nf) := by
  induction Nf with
  | zero => intro a1 a2 r h; have h : (none : Option Int) = some r := h; cases h
  | succ Nf ih => intro a1 a2 r h; exact Hf (MD Nf) ih a1 a2 h
def F5_v (a1 : BoxD) (x0 : Bool) : AV := (vb x0)
def F5 (Nf : Nat) (a1 : BoxD) : Option Bool :=
  ((MD Nf a1 3000).bind fun x1 => (some (decide (x1 ≤ 3000))))
theorem Bp (Nf : Nat) (a1 : BoxD) {r : Bool} (h : F5 Nf a1 = some r) : PR1 prg 11 [(.agg ((cBx a1).map .p))] (F5_v a1 r) := by
 unfold F5 at h
 apply bn h; intro x1 h1 h
 rw [← sj h]
 exact fq [(4, .v (i6 x1))] (apc (((GY Nf a1 3000 h1).cp rfl _) : CP prg 27 [(.agg ((cBx a1).map .p)), i6 3000] [.cells 28 ((cBx a1).map .p)] = some (i6 x1)) apn)
def Bq (a1 : BoxD) (x0 : Bool) : AV := (vb x0)
abbrev Wa := BoxD → Option Bool
abbrev Tk (f : Wa) : Prop := ∀ (a1 : BoxD) {r : Bool}, f a1 = some r → PR1 prg 39 [(.agg ((cBx a1).map .p))] (Bq a1 r)
inductive E_L25_0 where
  | k0
  | k1
def PJ (rF25 : Wa) (a1 : BoxD) (a2 : Int) (v1 : Int) : Option (E_L25_0 ⊕ (Int)) :=
  (bif (decide (v1 < a2)) then ((getI a1.kids v1).bind fun x2 => ((rF25 x2).bind fun x3 => (bif x3 then (some (.inr ((IntKind.wrap .i64 (v1 + 1))))) else (some (.inl (.k0)))))) else (some (.inl (.k1))))
def Hg (a1 : BoxD) (a2 : Int) (v1 : Int) : St := ⟨fr 76 ug [(66, (.p (.lst 4 (Zb a1.kids)))), (67, i6 a2), (68, i6 v1)], [.cells 28 ((cBx a1).map .p), .row 28 4 0 (ra cBx []), .cells 28 [i6 a1.kind, vs a1.text, i6 0, n0]]⟩
theorem ME (a1 : BoxD) (a2 : Int) (v1 : Int) : okT 3 (Hg a1 a2 v1).h = true := (ZB rfl (ac (ar (ac rfl))))
abbrev VA (a1 : BoxD) (a2 : Int) (v1 : Int) := evH prg 3 [66, 67, 68] UB (Hg a1 a2 v1)
def MF (a1 : BoxD) (a2 : Int) (e : E_L25_0) (r : Option (Out × St)) : Prop := match e with | .k0 => ∃ g y, r = some (.ret, ⟨fr 76 g [(2, vb false)], y⟩) | .k1 => ∃ g, r = some ((.brk 7), ⟨fr 76 g [(66, (.p (.lst 4 (Zb a1.kids))))], [.cells 28 ((cBx a1).map .p), .row 28 4 0 (ra cBx []), .cells 28 [i6 a1.kind, vs a1.text, i6 0, n0]]⟩)
abbrev LZ (a1 x2 : BoxD) : List AB := [.cells 28 ((cBx a1).map .p), .row 28 4 0 (ra cBx []), .cells 28 [i6 a1.kind, vs a1.text, i6 0, n0], .row 28 4 0 (ra cBx []), .cells 28 ((cBx x2).map .p)]
theorem GZ (rF25 : Wa) (hF25 : Tk rF25) (a1 : BoxD) (a2 : Int) (v1 : Int) {r : E_L25_0 ⊕ (Int)} (h : PJ rF25 a1 a2 v1 = some r) : OkR (fun e => MF a1 a2 e (VA a1 a2 v1)) (fun s => VA a1 a2 v1 = VA a1 a2 s) r := by
 unfold PJ at h
 apply bi h <;> intro h1 h
 ·
  apply bn h; intro x2 h2 h
  have q0 := ((igr Zv h2) : idxA 4 (.p (.lst 4 (Zb a1.kids))) (i6 v1) = some (.ro (cBx x2)))
  have k1 := ka [(69, .d true), (70, .v (.ro (cBx x2)))] (av h1 (apc q0 apn))
  apply bn h; intro x3 h3 h
  apply bi h <;> intro h4 h
  ·
   rw [← sj h]
   exact rn ([(73, .v (vb true)), (6000, .d true)] ++ kH k1) (k1.b (apc ((((hF25 x2 h3).cp rfl _).trans (congrArg (fun z => some (vb z)) h4)) : CP prg 39 [(.agg ((cBx x2).map .p))] (LZ a1 x2) = some (vb true)) (apc (ME a1 a2 (w6 (v1 + 1))) apn)))
  ·
   rw [← sj h]
   exact xy ([(73, .v (vb false)), (6000, .d true)] ++ kH k1) (k1.b (apc ((((hF25 x2 h3).cp rfl _).trans (congrArg (fun z => some (vb z)) h4)) : CP prg 39 [(.agg ((cBx x2).map .p))] (LZ a1 x2) = some (vb false)) apn))
 ·
  rw [← sj h]
  exact xb [(69, .d false), (6000, .d true)] (av h1 apn)
theorem OT (rF25 : Wa) (hF25 : Tk rF25) (a1 : BoxD) (a2 : Int) (s0 : Int) (e : E_L25_0) (h : runL (fun s => PJ rF25 a1 a2 s) s0 = some e) : MF a1 a2 e (VA a1 a2 s0) := by
  have q := @Zg (Int) E_L25_0 (fun s => PJ rF25 a1 a2 s) (fun s => VA a1 a2 s) (MF a1 a2) (fun s r h => GZ rF25 hF25 a1 a2 s h) s0 e h
  exact q
inductive E_L25_0_2 where
  | k0
  | k1
def Wb (rF25 : Wa) (a1 : BoxD) (a2 : Int) (v1 : Int) : Option (E_L25_0_2 ⊕ (Int)) :=
  (bif (decide (v1 < a2)) then ((getI a1.kids v1).bind fun x2 => ((rF25 x2).bind fun x3 => (bif x3 then (some (.inr ((IntKind.wrap .i64 (v1 + 1))))) else (some (.inl (.k0)))))) else (some (.inl (.k1))))
def OU (a1 : BoxD) (a2 : Int) (v1 : Int) : St := ⟨fr 76 ug [(66, (.p (.lst 4 (Zb a1.kids)))), (67, i6 a2), (68, i6 v1)], [.cells 28 ((cBx a1).map .p), .row 28 4 0 (ra cBx []), .cells 28 [i6 a1.kind, (vs Eqq), i6 a1.n, (.p (.lst 4 (Zb a1.kids)))]]⟩
theorem SD (a1 : BoxD) (a2 : Int) (v1 : Int) : okT 3 (OU a1 a2 v1).h = true := (ZB rfl (ac (ar (ac rfl))))
abbrev Xf (a1 : BoxD) (a2 : Int) (v1 : Int) := evH prg 3 [66, 67, 68] UB (OU a1 a2 v1)
def SE (a1 : BoxD) (a2 : Int) (e : E_L25_0_2) (r : Option (Out × St)) : Prop := match e with | .k0 => ∃ g y, r = some (.ret, ⟨fr 76 g [(2, vb false)], y⟩) | .k1 => ∃ g, r = some ((.brk 7), ⟨fr 76 g [(66, (.p (.lst 4 (Zb a1.kids))))], [.cells 28 ((cBx a1).map .p), .row 28 4 0 (ra cBx []), .cells 28 [i6 a1.kind, (vs Eqq), i6 a1.n, (.p (.lst 4 (Zb a1.kids)))]]⟩)
abbrev Qj (a1 x2 : BoxD) : List AB := [.cells 28 ((cBx a1).map .p), .row 28 4 0 (ra cBx []), .cells 28 [i6 a1.kind, (vs Eqq), i6 a1.n, (.p (.lst 4 (Zb a1.kids)))], .row 28 4 0 (ra cBx []), .cells 28 ((cBx x2).map .p)]
theorem Jt (rF25 : Wa) (hF25 : Tk rF25) (a1 : BoxD) (a2 : Int) (v1 : Int) {r : E_L25_0_2 ⊕ (Int)} (h : Wb rF25 a1 a2 v1 = some r) : OkR (fun e => SE a1 a2 e (Xf a1 a2 v1)) (fun s => Xf a1 a2 v1 = Xf a1 a2 s) r := by
 unfold Wb at h
 apply bi h <;> intro h1 h
 ·
  apply bn h; intro x2 h2 h
  have q0 := ((igr Zv h2) : idxA 4 (.p (.lst 4 (Zb a1.kids))) (i6 v1) = some (.ro (cBx x2)))
  have k1 := ka [(69, .d true), (70, .v (.ro (cBx x2)))] (av h1 (apc q0 apn))
  apply bn h; intro x3 h3 h
  apply bi h <;> intro h4 h
  ·
   rw [← sj h]
   exact rn ([(73, .v (vb true)), (6000, .d true)] ++ kH k1) (k1.b (apc ((((hF25 x2 h3).cp rfl _).trans (congrArg (fun z => some (vb z)) h4)) : CP prg 39 [(.agg ((cBx x2).map .p))] (Qj a1 x2) = some (vb true)) (apc (SD a1 a2 (w6 (v1 + 1))) apn)))
  ·
   rw [← sj h]
   exact xy ([(73, .v (vb false)), (6000, .d true)] ++ kH k1) (k1.b (apc ((((hF25 x2 h3).cp rfl _).trans (congrArg (fun z => some (vb z)) h4)) : CP prg 39 [(.agg ((cBx x2).map .p))] (Qj a1 x2) = some (vb false)) apn))
 ·
  rw [← sj h]
  exact xb [(69, .d false), (6000, .d true)] (av h1 apn)
theorem SF (rF25 : Wa) (hF25 : Tk rF25) (a1 : BoxD) (a2 : Int) (s0 : Int) (e : E_L25_0_2) (h : runL (fun s => Wb rF25 a1 a2 s) s0 = some e) : SE a1 a2 e (Xf a1 a2 s0) := by
  have q := @Zg (Int) E_L25_0_2 (fun s => Wb rF25 a1 a2 s) (fun s => Xf a1 a2 s) (SE a1 a2) (fun s r h => Jt rF25 hF25 a1 a2 s h) s0 e h
  exact q
inductive E_L25_0_3 where
  | k0
  | k1
def Wc (rF25 : Wa) (a1 : BoxD) (a2 : Int) (v1 : Int) : Option (E_L25_0_3 ⊕ (Int)) :=
  (bif (decide (v1 < a2)) then ((getI a1.kids v1).bind fun x2 => ((rF25 x2).bind fun x3 => (bif x3 then (some (.inr ((IntKind.wrap .i64 (v1 + 1))))) else (some (.inl (.k0)))))) else (some (.inl (.k1))))
def OV (a1 : BoxD) (a2 : Int) (v1 : Int) : St := ⟨fr 76 ug [(66, (.p (.lst 4 (Zb a1.kids)))), (67, i6 a2), (68, i6 v1)], [.cells 28 ((cBx a1).map .p), .row 28 4 0 (ra cBx []), .cells 28 [i6 a1.kind, (vs Eqq), i6 a1.n, n0]]⟩
theorem SG (a1 : BoxD) (a2 : Int) (v1 : Int) : okT 3 (OV a1 a2 v1).h = true := (ZB rfl (ac (ar (ac rfl))))
abbrev Xg (a1 : BoxD) (a2 : Int) (v1 : Int) := evH prg 3 [66, 67, 68] UB (OV a1 a2 v1)
def SH (a1 : BoxD) (a2 : Int) (e : E_L25_0_3) (r : Option (Out × St)) : Prop := match e with | .k0 => ∃ g y, r = some (.ret, ⟨fr 76 g [(2, vb false)], y⟩) | .k1 => ∃ g, r = some ((.brk 7), ⟨fr 76 g [(66, (.p (.lst 4 (Zb a1.kids))))], [.cells 28 ((cBx a1).map .p), .row 28 4 0 (ra cBx []), .cells 28 [i6 a1.kind, (vs Eqq), i6 a1.n, n0]]⟩)
abbrev Qk (a1 x2 : BoxD) : List AB := [.cells 28 ((cBx a1).map .p), .row 28 4 0 (ra cBx []), .cells 28 [i6 a1.kind, (vs Eqq), i6 a1.n, n0], .row 28 4 0 (ra cBx []), .cells 28 ((cBx x2).map .p)]
theorem Ju (rF25 : Wa) (hF25 : Tk rF25) (a1 : BoxD) (a2 : Int) (v1 : Int) {r : E_L25_0_3 ⊕ (Int)} (h : Wc rF25 a1 a2 v1 = some r) : OkR (fun e => SH a1 a2 e (Xg a1 a2 v1)) (fun s => Xg a1 a2 v1 = Xg a1 a2 s) r := by
 unfold Wc at h
 apply bi h <;> intro h1 h
 ·
  apply bn h; intro x2 h2 h
  have q0 := ((igr Zv h2) : idxA 4 (.p (.lst 4 (Zb a1.kids))) (i6 v1) = some (.ro (cBx x2)))
  have k1 := ka [(69, .d true), (70, .v (.ro (cBx x2)))] (av h1 (apc q0 apn))
  apply bn h; intro x3 h3 h
  apply bi h <;> intro h4 h
  ·
   rw [← sj h]
   exact rn ([(73, .v (vb true)), (6000, .d true)] ++ kH k1) (k1.b (apc ((((hF25 x2 h3).cp rfl _).trans (congrArg (fun z => some (vb z)) h4)) : CP prg 39 [(.agg ((cBx x2).map .p))] (Qk a1 x2) = some (vb true)) (apc (SG a1 a2 (w6 (v1 + 1))) apn)))
  ·
   rw [← sj h]
   exact xy ([(73, .v (vb false)), (6000, .d true)] ++ kH k1) (k1.b (apc ((((hF25 x2 h3).cp rfl _).trans (congrArg (fun z => some (vb z)) h4)) : CP prg 39 [(.agg ((cBx x2).map .p))] (Qk a1 x2) = some (vb false)) apn))
 ·
  rw [← sj h]
  exact xb [(69, .d false), (6000, .d true)] (av h1 apn)
theorem SI (rF25 : Wa) (hF25 : Tk rF25) (a1 : BoxD) (a2 : Int) (s0 : Int) (e : E_L25_0_3) (h : runL (fun s => Wc rF25 a1 a2 s) s0 = some e) : SH a1 a2 e (Xg a1 a2 s0) := by
  have q := @Zg (Int) E_L25_0_3 (fun s => Wc rF25 a1 a2 s) (fun s => Xg a1 a2 s) (SH a1 a2) (fun s r h => Ju rF25 hF25 a1 a2 s h) s0 e h
  exact q
inductive E_L25_0_4 where
  | k0
  | k1
def XE (rF25 : Wa) (a1 : BoxD) (a2 : Int) (v1 : Int) : Option (E_L25_0_4 ⊕ (Int)) :=
  (bif (decide (v1 < a2)) then ((getI a1.kids v1).bind fun x2 => ((rF25 x2).bind fun x3 => (bif x3 then (some (.inr ((IntKind.wrap .i64 (v1 + 1))))) else (some (.inl (.k0)))))) else (some (.inl (.k1))))
def OW (a1 : BoxD) (a2 : Int) (v1 : Int) : St := ⟨fr 76 ug [(66, (.p (.lst 4 (Zb a1.kids)))), (67, i6 a2), (68, i6 v1)], [.cells 28 ((cBx a1).map .p), .row 28 4 0 (ra cBx []), .cells 28 [i6 a1.kind, (vs Eqq), i6 0, (.p (.lst 4 (Zb a1.kids)))]]⟩
theorem Wz (a1 : BoxD) (a2 : Int) (v1 : Int) : okT 3 (OW a1 a2 v1).h = true := (ZB rfl (ac (ar (ac rfl))))
abbrev Yn (a1 : BoxD) (a2 : Int) (v1 : Int) := evH prg 3 [66, 67, 68] UB (OW a1 a2 v1)
def SJ (a1 : BoxD) (a2 : Int) (e : E_L25_0_4) (r : Option (Out × St)) : Prop := match e with | .k0 => ∃ g y, r = some (.ret, ⟨fr 76 g [(2, vb false)], y⟩) | .k1 => ∃ g, r = some ((.brk 7), ⟨fr 76 g [(66, (.p (.lst 4 (Zb a1.kids))))], [.cells 28 ((cBx a1).map .p), .row 28 4 0 (ra cBx []), .cells 28 [i6 a1.kind, (vs Eqq), i6 0, (.p (.lst 4 (Zb a1.kids)))]]⟩)
abbrev Ql (a1 x2 : BoxD) : List AB := [.cells 28 ((cBx a1).map .p), .row 28 4 0 (ra cBx []), .cells 28 [i6 a1.kind, (vs Eqq), i6 0, (.p (.lst 4 (Zb a1.kids)))], .row 28 4 0 (ra cBx []), .cells 28 ((cBx x2).map .p)]
theorem Jv (rF25 : Wa) (hF25 : Tk rF25) (a1 : BoxD) (a2 : Int) (v1 : Int) {r : E_L25_0_4 ⊕ (Int)} (h : XE rF25 a1 a2 v1 = some r) : OkR (fun e => SJ a1 a2 e (Yn a1 a2 v1)) (fun s => Yn a1 a2 v1 = Yn a1 a2 s) r := by
 unfold XE at h
 apply bi h <;> intro h1 h
 ·
  apply bn h; intro x2 h2 h
  have q0 := ((igr Zv h2) : idxA 4 (.p (.lst 4 (Zb a1.kids))) (i6 v1) = some (.ro (cBx x2)))
  have k1 := ka [(69, .d true), (70, .v (.ro (cBx x2)))] (av h1 (apc q0 apn))
  apply bn h; intro x3 h3 h
  apply bi h <;> intro h4 h
  ·
   rw [← sj h]
   exact rn ([(73, .v (vb true)), (6000, .d true)] ++ kH k1) (k1.b (apc ((((hF25 x2 h3).cp rfl _).trans (congrArg (fun z => some (vb z)) h4)) : CP prg 39 [(.agg ((cBx x2).map .p))] (Ql a1 x2) = some (vb true)) (apc (Wz a1 a2 (w6 (v1 + 1))) apn)))
  ·
   rw [← sj h]
   exact xy ([(73, .v (vb false)), (6000, .d true)] ++ kH k1) (k1.b (apc ((((hF25 x2 h3).cp rfl _).trans (congrArg (fun z => some (vb z)) h4)) : CP prg 39 [(.agg ((cBx x2).map .p))] (Ql a1 x2) = some (vb false)) apn))
 ·
  rw [← sj h]
  exact xb [(69, .d false), (6000, .d true)] (av h1 apn)
theorem Wd (rF25 : Wa) (hF25 : Tk rF25) (a1 : BoxD) (a2 : Int) (s0 : Int) (e : E_L25_0_4) (h : runL (fun s => XE rF25 a1 a2 s) s0 = some e) : SJ a1 a2 e (Yn a1 a2 s0) := by
  have q := @Zg (Int) E_L25_0_4 (fun s => XE rF25 a1 a2 s) (fun s => Yn a1 a2 s) (SJ a1 a2) (fun s r h => Jv rF25 hF25 a1 a2 s h) s0 e h
  exact q
inductive E_L25_0_5 where
  | k0
  | k1
def We (rF25 : Wa) (a1 : BoxD) (a2 : Int) (v1 : Int) : Option (E_L25_0_5 ⊕ (Int)) :=
  (bif (decide (v1 < a2)) then ((getI a1.kids v1).bind fun x2 => ((rF25 x2).bind fun x3 => (bif x3 then (some (.inr ((IntKind.wrap .i64 (v1 + 1))))) else (some (.inl (.k0)))))) else (some (.inl (.k1))))
def OX (a1 : BoxD) (a2 : Int) (v1 : Int) : St := ⟨fr 76 ug [(66, (.p (.lst 4 (Zb a1.kids)))), (67, i6 a2), (68, i6 v1)], [.cells 28 ((cBx a1).map .p), .row 28 4 0 (ra cBx []), .cells 28 [i6 a1.kind, (vs Eqq), i6 0, n0]]⟩
theorem SK (a1 : BoxD) (a2 : Int) (v1 : Int) : okT 3 (OX a1 a2 v1).h = true := (ZB rfl (ac (ar (ac rfl))))
abbrev Xh (a1 : BoxD) (a2 : Int) (v1 : Int) := evH prg 3 [66, 67, 68] UB (OX a1 a2 v1)
def SL (a1 : BoxD) (a2 : Int) (e : E_L25_0_5) (r : Option (Out × St)) : Prop := match e with | .k0 => ∃ g y, r = some (.ret, ⟨fr 76 g [(2, vb false)], y⟩) | .k1 => ∃ g, r = some ((.brk 7), ⟨fr 76 g [(66, (.p (.lst 4 (Zb a1.kids))))], [.cells 28 ((cBx a1).map .p), .row 28 4 0 (ra cBx []), .cells 28 [i6 a1.kind, (vs Eqq), i6 0, n0]]⟩)
abbrev Qm (a1 x2 : BoxD) : List AB := [.cells 28 ((cBx a1).map .p), .row 28 4 0 (ra cBx []), .cells 28 [i6 a1.kind, (vs Eqq), i6 0, n0], .row 28 4 0 (ra cBx []), .cells 28 ((cBx x2).map .p)]
theorem Jw (rF25 : Wa) (hF25 : Tk rF25) (a1 : BoxD) (a2 : Int) (v1 : Int) {r : E_L25_0_5 ⊕ (Int)} (h : We rF25 a1 a2 v1 = some r) : OkR (fun e => SL a1 a2 e (Xh a1 a2 v1)) (fun s => Xh a1 a2 v1 = Xh a1 a2 s) r := by
 unfold We at h
 apply bi h <;> intro h1 h
 ·
  apply bn h; intro x2 h2 h
  have q0 := ((igr Zv h2) : idxA 4 (.p (.lst 4 (Zb a1.kids))) (i6 v1) = some (.ro (cBx x2)))
  have k1 := ka [(69, .d true), (70, .v (.ro (cBx x2)))] (av h1 (apc q0 apn))
  apply bn h; intro x3 h3 h
  apply bi h <;> intro h4 h
  ·
   rw [← sj h]
   exact rn ([(73, .v (vb true)), (6000, .d true)] ++ kH k1) (k1.b (apc ((((hF25 x2 h3).cp rfl _).trans (congrArg (fun z => some (vb z)) h4)) : CP prg 39 [(.agg ((cBx x2).map .p))] (Qm a1 x2) = some (vb true)) (apc (SK a1 a2 (w6 (v1 + 1))) apn)))
  ·
   rw [← sj h]
   exact xy ([(73, .v (vb false)), (6000, .d true)] ++ kH k1) (k1.b (apc ((((hF25 x2 h3).cp rfl _).trans (congrArg (fun z => some (vb z)) h4)) : CP prg 39 [(.agg ((cBx x2).map .p))] (Qm a1 x2) = some (vb false)) apn))
 ·
  rw [← sj h]
  exact xb [(69, .d false), (6000, .d true)] (av h1 apn)
theorem SM (rF25 : Wa) (hF25 : Tk rF25) (a1 : BoxD) (a2 : Int) (s0 : Int) (e : E_L25_0_5) (h : runL (fun s => We rF25 a1 a2 s) s0 = some e) : SL a1 a2 e (Xh a1 a2 s0) := by
  have q := @Zg (Int) E_L25_0_5 (fun s => We rF25 a1 a2 s) (fun s => Xh a1 a2 s) (SL a1 a2) (fun s r h => Jw rF25 hF25 a1 a2 s h) s0 e h
  exact q
def Hh (rF25 : Wa) (a1 : BoxD) : Option Bool :=
  (bif (a1.kind == 0) then (bif (!(a1.text.toList == a1.text.toList)) then (some false) else (bif (a1.n != 0) then (some false) else (bif ((a1.kids.length : Int) != 0) then (some false) else (bif (decide (a1.n < 0)) then (some false) else (bif (decide (a1.n > 100)) then (some false) else ((runL (fun s => PJ rF25 a1 (a1.kids.length : Int) s) 0).bind fun r7 => match r7 with | .k0 => (some false) | .k1 => (some true))))))) else (bif (a1.kind == 5) then (bif (!(a1.text.toList == Eqq.toList)) then (some false) else (bif (a1.n != a1.n) then (some false) else (bif ((a1.kids.length : Int) != (a1.kids.length : Int)) then (some false) else (bif (decide (a1.n < 0)) then (some false) else (bif (decide (a1.n > 100)) then (some false) else ((runL (fun s => Wb rF25 a1 (a1.kids.length : Int) s) 0).bind fun r8 => match r8 with | .k0 => (some false) | .k1 => (some true))))))) else (bif (a1.kind == 1) then (bif (!(a1.text.toList == Eqq.toList)) then (some false) else (bif (a1.n != a1.n) then (some false) else (bif ((a1.kids.length : Int) != 0) then (some false) else (bif (decide (a1.n < 0)) then (some false) else (bif (decide (a1.n > 100)) then (some false) else ((runL (fun s => Wc rF25 a1 (a1.kids.length : Int) s) 0).bind fun r9 => match r9 with | .k0 => (some false) | .k1 => (some true))))))) else (bif (a1.kind == 3) then (bif (!(a1.text.toList == Eqq.toList)) then (some false) else (bif (a1.n != 0) then (some false) else (bif ((a1.kids.length : Int) != (a1.kids.length : Int)) then (some false) else (bif (decide (a1.n < 0)) then (some false) else (bif (decide (a1.n > 100)) then (some false) else ((runL (fun s => XE rF25 a1 (a1.kids.length : Int) s) 0).bind fun r10 => match r10 with | .k0 => (some false) | .k1 => (some true))))))) else (bif (a1.kind == 4) then (bif (!(a1.text.toList == Eqq.toList)) then (some false) else (bif (a1.n != 0) then (some false) else (bif ((a1.kids.length : Int) != (a1.kids.length : Int)) then (some false) else (bif (decide (a1.n < 0)) then (some false) else (bif (decide (a1.n > 100)) then (some false) else ((runL (fun s => XE rF25 a1 (a1.kids.length : Int) s) 0).bind fun r11 => match r11 with | .k0 => (some false) | .k1 => (some true))))))) else (bif (a1.kind == 2) then (bif (!(a1.text.toList == Eqq.toList)) then (some false) else (bif (a1.n != 0) then (some false) else (bif ((a1.kids.length : Int) != 0) then (some false) else (bif (decide (a1.n < 0)) then (some false) else (bif (decide (a1.n > 100)) then (some false) else ((runL (fun s => We rF25 a1 (a1.kids.length : Int) s) 0).bind fun r12 => match r12 with | .k0 => (some false) | .k1 => (some true))))))) else (some false)))))))
abbrev F4 (g7 : Nat → AV) (a1 : BoxD) : St := ⟨fr 76 g7 [(66, (.p (.lst 4 (Zb a1.kids))))], [.cells 28 ((cBx a1).map .p), .row 28 4 0 (ra cBx []), .cells 28 [i6 a1.kind, vs a1.text, i6 0, n0]]⟩
abbrev Ea (g8 : Nat → AV) (a1 : BoxD) : St := ⟨fr 76 g8 [(66, (.p (.lst 4 (Zb a1.kids))))], [.cells 28 ((cBx a1).map .p), .row 28 4 0 (ra cBx []), .cells 28 [i6 a1.kind, (vs Eqq), i6 a1.n, (.p (.lst 4 (Zb a1.kids)))]]⟩
abbrev Eb (g9 : Nat → AV) (a1 : BoxD) : St := ⟨fr 76 g9 [(66, (.p (.lst 4 (Zb a1.kids))))], [.cells 28 ((cBx a1).map .p), .row 28 4 0 (ra cBx []), .cells 28 [i6 a1.kind, (vs Eqq), i6 a1.n, n0]]⟩
abbrev Ec (g10 : Nat → AV) (a1 : BoxD) : St := ⟨fr 76 g10 [(66, (.p (.lst 4 (Zb a1.kids))))], [.cells 28 ((cBx a1).map .p), .row 28 4 0 (ra cBx []), .cells 28 [i6 a1.kind, (vs Eqq), i6 0, (.p (.lst 4 (Zb a1.kids)))]]⟩
abbrev Ed (g11 : Nat → AV) (a1 : BoxD) : St := ⟨fr 76 g11 [(66, (.p (.lst 4 (Zb a1.kids))))], [.cells 28 ((cBx a1).map .p), .row 28 4 0 (ra cBx []), .cells 28 [i6 a1.kind, (vs Eqq), i6 0, (.p (.lst 4 (Zb a1.kids)))]]⟩
abbrev Ee (g12 : Nat → AV) (a1 : BoxD) : St := ⟨fr 76 g12 [(66, (.p (.lst 4 (Zb a1.kids))))], [.cells 28 ((cBx a1).map .p), .row 28 4 0 (ra cBx []), .cells 28 [i6 a1.kind, (vs Eqq), i6 0, n0]]⟩
theorem Ce (rF25 : Wa) (hF25 : Tk rF25) (a1 : BoxD) {r : Bool} (h : Hh rF25 a1 = some r) : PR1 prg 39 [(.agg ((cBx a1).map .p))] (Bq a1 r) := by
 unfold Hh at h
 have q0 := ((lgr Zv) : lnA (.p (.lst 4 (Zb a1.kids))) = some (i6 (a1.kids.length : Int)))
 apply bi h <;> intro h1 h
 ·
  apply bi h <;> intro h2 h
  ·
   rw [← sj h]
   exact fq [(12, .d true), (38, .d true)] (av h1 (av h2 apn))
  ·
   have k1 := ka [(12, .d true), (38, .d false)] (av h1 (av h2 apn))
   apply bi h <;> intro h3 h
   ·
    rw [← sj h]
    exact fq ([(44, .d true)] ++ kH k1) (k1.b (av h3 apn))
   ·
    have k2 := k1.a [(44, .d false), (49, .v (i6 (a1.kids.length : Int)))] (av h3 (apc q0 apn))
    apply bi h <;> intro h4 h
    ·
     rw [← sj h]
     exact fq ([(53, .d true)] ++ kH k2) (k2.b (av h4 apn))
    ·
     apply bi h <;> intro h5 h
     ·
      rw [← sj h]
      exact fq ([(53, .d false), (58, .d true)] ++ kH k2) (k2.b (av h4 (av h5 apn)))
     ·
      have k3 := k2.a [(53, .d false), (58, .d false)] (av h4 (av h5 apn))
      apply bi h <;> intro h6 h
      ·
       rw [← sj h]
       exact fq ([(63, .d true)] ++ kH k3) (k3.b (av h6 apn))
      ·
       have k4 := k3.a [(63, .d false), (67, .v (i6 (a1.kids.length : Int)))] (av h6 (apc q0 apn))
       apply bn h; intro r7 h7 h
       cases r7 with
       | k0 =>
        obtain ⟨g7, y7, e7⟩ := OT rF25 hF25 a1 (a1.kids.length : Int) 0 _ h7
        rw [← sj h]
        exact fq ([(2007, .l .ret ⟨fr 76 g7 [(2, vb false)], y7⟩), (6000, .d true)] ++ kH k4) (k4.b (apc (ME a1 (a1.kids.length : Int) 0) (apc (e7 : VA a1 (a1.kids.length : Int) 0 = some (.ret, ⟨fr 76 g7 [(2, vb false)], y7⟩)) apn)))
       | k1 =>
        obtain ⟨g7, e7⟩ := OT rF25 hF25 a1 (a1.kids.length : Int) 0 _ h7
        rw [← sj h]
        exact fq ([(2007, .l (.brk 7) (F4 g7 a1)), (6000, .d true)] ++ kH k4) (k4.b (apc (ME a1 (a1.kids.length : Int) 0) (apc (e7 : VA a1 (a1.kids.length : Int) 0 = some ((.brk 7), F4 g7 a1)) apn)))
 ·
  apply bi h <;> intro h2 h
  ·
   have k5 := ka [(12, .d false), (14, .d true)] (av h1 (av h2 apn))
   apply bi h <;> intro h3 h
   ·
    rw [← sj h]
    exact fq ([(38, .d true)] ++ kH k5) (k5.b (av h3 apn))
   ·
    apply bi h <;> intro h4 h
    ·
     rw [← sj h]
     exact fq ([(38, .d false), (44, .d true)] ++ kH k5) (k5.b (av h3 (av h4 apn)))
    ·
     have k6 := k5.a [(38, .d false), (44, .d false), (49, .v (i6 (a1.kids.length : Int))), (52, .v (i6 (a1.kids.length : Int)))] (av h3 (av h4 (apc q0 (apc q0 apn))))
     apply bi h <;> intro h5 h
     ·
      rw [← sj h]
      exact fq ([(53, .d true)] ++ kH k6) (k6.b (av h5 apn))
     ·
      apply bi h <;> intro h6 h
      ·
       rw [← sj h]
       exact fq ([(53, .d false), (58, .d true)] ++ kH k6) (k6.b (av h5 (av h6 apn)))
      ·
       have k7 := k6.a [(53, .d false), (58, .d false)] (av h5 (av h6 apn))
       apply bi h <;> intro h7 h
       ·
        rw [← sj h]
        exact fq ([(63, .d true)] ++ kH k7) (k7.b (av h7 apn))
       ·
        have k8 := k7.a [(63, .d false), (67, .v (i6 (a1.kids.length : Int)))] (av h7 (apc q0 apn))
        apply bn h; intro r8 h8 h
        cases r8 with
        | k0 =>
         obtain ⟨g8, y8, e8⟩ := SF rF25 hF25 a1 (a1.kids.length : Int) 0 _ h8
         rw [← sj h]
         exact fq ([(2007, .l .ret ⟨fr 76 g8 [(2, vb false)], y8⟩), (6000, .d true)] ++ kH k8) (k8.b (apc (SD a1 (a1.kids.length : Int) 0) (apc (e8 : Xf a1 (a1.kids.length : Int) 0 = some (.ret, ⟨fr 76 g8 [(2, vb false)], y8⟩)) apn)))
        | k1 =>
         obtain ⟨g8, e8⟩ := SF rF25 hF25 a1 (a1.kids.length : Int) 0 _ h8
         rw [← sj h]
         exact fq ([(2007, .l (.brk 7) (Ea g8 a1)), (6000, .d true)] ++ kH k8) (k8.b (apc (SD a1 (a1.kids.length : Int) 0) (apc (e8 : Xf a1 (a1.kids.length : Int) 0 = some ((.brk 7), Ea g8 a1)) apn)))
  ·
   have k9 := ka [(12, .d false), (14, .d false)] (av h1 (av h2 apn))
   apply bi h <;> intro h3 h
   ·
    apply bi h <;> intro h4 h
    ·
     rw [← sj h]
     exact fq ([(16, .d true), (38, .d true)] ++ kH k9) (k9.b (av h3 (av h4 apn)))
    ·
     have k10 := k9.a [(16, .d true), (38, .d false)] (av h3 (av h4 apn))
     apply bi h <;> intro h5 h
     ·
      rw [← sj h]
      exact fq ([(44, .d true)] ++ kH k10) (k10.b (av h5 apn))
     ·
      have k11 := k10.a [(44, .d false), (49, .v (i6 (a1.kids.length : Int)))] (av h5 (apc q0 apn))
      apply bi h <;> intro h6 h
      ·
       rw [← sj h]
       exact fq ([(53, .d true)] ++ kH k11) (k11.b (av h6 apn))
      ·
       apply bi h <;> intro h7 h
       ·
        rw [← sj h]
        exact fq ([(53, .d false), (58, .d true)] ++ kH k11) (k11.b (av h6 (av h7 apn)))
       ·
        have k12 := k11.a [(53, .d false), (58, .d false)] (av h6 (av h7 apn))
        apply bi h <;> intro h8 h
        ·
         rw [← sj h]
         exact fq ([(63, .d true)] ++ kH k12) (k12.b (av h8 apn))
        ·
         have k13 := k12.a [(63, .d false), (67, .v (i6 (a1.kids.length : Int)))] (av h8 (apc q0 apn))
         apply bn h; intro r9 h9 h
         cases r9 with
         | k0 =>
          obtain ⟨g9, y9, e9⟩ := SI rF25 hF25 a1 (a1.kids.length : Int) 0 _ h9
          rw [← sj h]
          exact fq ([(2007, .l .ret ⟨fr 76 g9 [(2, vb false)], y9⟩), (6000, .d true)] ++ kH k13) (k13.b (apc (SG a1 (a1.kids.length : Int) 0) (apc (e9 : Xg a1 (a1.kids.length : Int) 0 = some (.ret, ⟨fr 76 g9 [(2, vb false)], y9⟩)) apn)))
         | k1 =>
          obtain ⟨g9, e9⟩ := SI rF25 hF25 a1 (a1.kids.length : Int) 0 _ h9
          rw [← sj h]
          exact fq ([(2007, .l (.brk 7) (Eb g9 a1)), (6000, .d true)] ++ kH k13) (k13.b (apc (SG a1 (a1.kids.length : Int) 0) (apc (e9 : Xg a1 (a1.kids.length : Int) 0 = some ((.brk 7), Eb g9 a1)) apn)))
   ·
    apply bi h <;> intro h4 h
    ·
     have k14 := k9.a [(16, .d false), (18, .d true)] (av h3 (av h4 apn))
     apply bi h <;> intro h5 h
     ·
      rw [← sj h]
      exact fq ([(38, .d true)] ++ kH k14) (k14.b (av h5 apn))
     ·
      apply bi h <;> intro h6 h
      ·
       rw [← sj h]
       exact fq ([(38, .d false), (44, .d true)] ++ kH k14) (k14.b (av h5 (av h6 apn)))
      ·
       have k15 := k14.a [(38, .d false), (44, .d false), (49, .v (i6 (a1.kids.length : Int))), (52, .v (i6 (a1.kids.length : Int)))] (av h5 (av h6 (apc q0 (apc q0 apn))))
       apply bi h <;> intro h7 h
       ·
        rw [← sj h]
        exact fq ([(53, .d true)] ++ kH k15) (k15.b (av h7 apn))
       ·
        apply bi h <;> intro h8 h
        ·
         rw [← sj h]
         exact fq ([(53, .d false), (58, .d true)] ++ kH k15) (k15.b (av h7 (av h8 apn)))
        ·
         have k16 := k15.a [(53, .d false), (58, .d false)] (av h7 (av h8 apn))
         apply bi h <;> intro h9 h
         ·
          rw [← sj h]
          exact fq ([(63, .d true)] ++ kH k16) (k16.b (av h9 apn))
         ·
          have k17 := k16.a [(63, .d false), (67, .v (i6 (a1.kids.length : Int)))] (av h9 (apc q0 apn))
          apply bn h; intro r10 h10 h
          cases r10 with
          | k0 =>
           obtain ⟨g10, y10, e10⟩ := Wd rF25 hF25 a1 (a1.kids.length : Int) 0 _ h10
           rw [← sj h]
           exact fq ([(2007, .l .ret ⟨fr 76 g10 [(2, vb false)], y10⟩), (6000, .d true)] ++ kH k17) (k17.b (apc (Wz a1 (a1.kids.length : Int) 0) (apc (e10 : Yn a1 (a1.kids.length : Int) 0 = some (.ret, ⟨fr 76 g10 [(2, vb false)], y10⟩)) apn)))
          | k1 =>
           obtain ⟨g10, e10⟩ := Wd rF25 hF25 a1 (a1.kids.length : Int) 0 _ h10
           rw [← sj h]
           exact fq ([(2007, .l (.brk 7) (Ec g10 a1)), (6000, .d true)] ++ kH k17) (k17.b (apc (Wz a1 (a1.kids.length : Int) 0) (apc (e10 : Yn a1 (a1.kids.length : Int) 0 = some ((.brk 7), Ec g10 a1)) apn)))
    ·
     have k18 := k9.a [(16, .d false), (18, .d false)] (av h3 (av h4 apn))
     apply bi h <;> intro h5 h
     ·
      apply bi h <;> intro h6 h
      ·
       rw [← sj h]
       exact fq ([(19, .d true), (38, .d true)] ++ kH k18) (k18.b (av h5 (av h6 apn)))
      ·
       have k19 := k18.a [(19, .d true), (38, .d false)] (av h5 (av h6 apn))
       apply bi h <;> intro h7 h
       ·
        rw [← sj h]
        exact fq ([(44, .d true)] ++ kH k19) (k19.b (av h7 apn))
       ·
        have k20 := k19.a [(44, .d false), (49, .v (i6 (a1.kids.length : Int))), (52, .v (i6 (a1.kids.length : Int)))] (av h7 (apc q0 (apc q0 apn)))
        apply bi h <;> intro h8 h
        ·
         rw [← sj h]
         exact fq ([(53, .d true)] ++ kH k20) (k20.b (av h8 apn))
        ·
         apply bi h <;> intro h9 h
         ·
          rw [← sj h]
          exact fq ([(53, .d false), (58, .d true)] ++ kH k20) (k20.b (av h8 (av h9 apn)))
         ·
          have k21 := k20.a [(53, .d false), (58, .d false)] (av h8 (av h9 apn))
          apply bi h <;> intro h10 h
          ·
           rw [← sj h]
           exact fq ([(63, .d true)] ++ kH k21) (k21.b (av h10 apn))
          ·
           have k22 := k21.a [(63, .d false), (67, .v (i6 (a1.kids.length : Int)))] (av h10 (apc q0 apn))
           apply bn h; intro r11 h11 h
           cases r11 with
           | k0 =>
            obtain ⟨g11, y11, e11⟩ := Wd rF25 hF25 a1 (a1.kids.length : Int) 0 _ h11
            rw [← sj h]
            exact fq ([(2007, .l .ret ⟨fr 76 g11 [(2, vb false)], y11⟩), (6000, .d true)] ++ kH k22) (k22.b (apc (Wz a1 (a1.kids.length : Int) 0) (apc (e11 : Yn a1 (a1.kids.length : Int) 0 = some (.ret, ⟨fr 76 g11 [(2, vb false)], y11⟩)) apn)))
           | k1 =>
            obtain ⟨g11, e11⟩ := Wd rF25 hF25 a1 (a1.kids.length : Int) 0 _ h11
            rw [← sj h]
            exact fq ([(2007, .l (.brk 7) (Ed g11 a1)), (6000, .d true)] ++ kH k22) (k22.b (apc (Wz a1 (a1.kids.length : Int) 0) (apc (e11 : Yn a1 (a1.kids.length : Int) 0 = some ((.brk 7), Ed g11 a1)) apn)))
     ·
      apply bi h <;> intro h6 h
      ·
       have k23 := k18.a [(19, .d false), (21, .d true)] (av h5 (av h6 apn))
       apply bi h <;> intro h7 h
       ·
        rw [← sj h]
        exact fq ([(38, .d true)] ++ kH k23) (k23.b (av h7 apn))
       ·
        apply bi h <;> intro h8 h
        ·
         rw [← sj h]
         exact fq ([(38, .d false), (44, .d true)] ++ kH k23) (k23.b (av h7 (av h8 apn)))
        ·
         have k24 := k23.a [(38, .d false), (44, .d false), (49, .v (i6 (a1.kids.length : Int)))] (av h7 (av h8 (apc q0 apn)))
         apply bi h <;> intro h9 h
         ·
          rw [← sj h]
          exact fq ([(53, .d true)] ++ kH k24) (k24.b (av h9 apn))
         ·
          apply bi h <;> intro h10 h
          ·
           rw [← sj h]
           exact fq ([(53, .d false), (58, .d true)] ++ kH k24) (k24.b (av h9 (av h10 apn)))
          ·
           have k25 := k24.a [(53, .d false), (58, .d false)] (av h9 (av h10 apn))
           apply bi h <;> intro h11 h
           ·
            rw [← sj h]
            exact fq ([(63, .d true)] ++ kH k25) (k25.b (av h11 apn))
           ·
            have k26 := k25.a [(63, .d false), (67, .v (i6 (a1.kids.length : Int)))] (av h11 (apc q0 apn))
            apply bn h; intro r12 h12 h
            cases r12 with
            | k0 =>
             obtain ⟨g12, y12, e12⟩ := SM rF25 hF25 a1 (a1.kids.length : Int) 0 _ h12
             rw [← sj h]
             exact fq ([(2007, .l .ret ⟨fr 76 g12 [(2, vb false)], y12⟩), (6000, .d true)] ++ kH k26) (k26.b (apc (SK a1 (a1.kids.length : Int) 0) (apc (e12 : Xh a1 (a1.kids.length : Int) 0 = some (.ret, ⟨fr 76 g12 [(2, vb false)], y12⟩)) apn)))
            | k1 =>
             obtain ⟨g12, e12⟩ := SM rF25 hF25 a1 (a1.kids.length : Int) 0 _ h12
             rw [← sj h]
             exact fq ([(2007, .l (.brk 7) (Ee g12 a1)), (6000, .d true)] ++ kH k26) (k26.b (apc (SK a1 (a1.kids.length : Int) 0) (apc (e12 : Xh a1 (a1.kids.length : Int) 0 = some ((.brk 7), Ee g12 a1)) apn)))
      ·
       rw [← sj h]
       exact fq ([(19, .d false), (21, .d false)] ++ kH k18) (k18.b (av h5 (av h6 apn)))
def F25 : Nat → Wa
  | 0 => fun _ => none
  | Nf + 1 => Hh (F25 Nf)
theorem Ef (Nf : Nat) : Tk (F25 Nf) := by
  induction Nf with
  | zero => intro a1 r h; have h : (none : Option Bool) = some r := h; cases h
  | succ Nf ih => intro a1 r h; exact Ce (F25 Nf) ih a1 h
inductive R_F21 where
  | k0 (x0 x1 : Int)
def Br (a1 : BoxD) (r : R_F21) : AV := match r with | .k0 x0 x1 => (.tup [i6 x0, i6 x1])
abbrev MG := BoxD → Option R_F21
abbrev G1 (f : MG) : Prop := ∀ (a1 : BoxD) {r : R_F21}, f a1 = some r → PR1 prg 32 [(.agg ((cBx a1).map .p))] (Br a1 r)
inductive E_L21_0 where
  | k0 (x0 x1 : Int)
def PK (rF21 : MG) (a1 : BoxD) (a2 : Int) (v1 v2 v3 : Int) : Option (E_L21_0 ⊕ (Int × Int × Int)) :=
  (bif (decide (v3 < a2)) then ((getI a1.kids v3).bind fun x2 => ((rF21 x2).bind fun r3 => match r3 with | .k0 x3_0 x3_1 => (some (.inr ((IntKind.wrap .i64 (v1 + x3_0)), (if v2 < x3_1 then x3_1 else v2), (IntKind.wrap .i64 (v3 + 1))))))) else (some (.inl (.k0 v1 v2))))
def Hi (a1 : BoxD) (a2 : Int) (v1 v2 v3 : Int) : St := ⟨fr 32 ug [(4, i6 v1), (5, i6 v2), (11, (.p (.lst 4 (Zb a1.kids)))), (12, i6 a2), (13, i6 v3)], [.cells 28 ((cBx a1).map .p)]⟩
theorem Hj (a1 : BoxD) (a2 : Int) (v1 v2 v3 : Int) : okT 1 (Hi a1 a2 v1 v2 v3).h = true := (ZB rfl (ac rfl))
abbrev UC (a1 : BoxD) (a2 : Int) (v1 v2 v3 : Int) := evH prg 1 [4, 5, 11, 12, 13] I7 (Hi a1 a2 v1 v2 v3)
def MH (a1 : BoxD) (a2 : Int) (e : E_L21_0) (r : Option (Out × St)) : Prop := match e with | .k0 x0 x1 => ∃ g, r = some ((.brk 0), ⟨fr 32 g [(4, i6 x0), (5, i6 x1), (11, (.p (.lst 4 (Zb a1.kids))))], [.cells 28 ((cBx a1).map .p)]⟩)
theorem G2 (rF21 : MG) (hF21 : G1 rF21) (a1 : BoxD) (a2 : Int) (v1 v2 v3 : Int) {r : E_L21_0 ⊕ (Int × Int × Int)} (h : PK rF21 a1 a2 v1 v2 v3 = some r) : OkR (fun e => MH a1 a2 e (UC a1 a2 v1 v2 v3)) (fun s => UC a1 a2 v1 v2 v3 = UC a1 a2 s.1 s.2.1 s.2.2) r := by
 unfold PK at h
 apply bi h <;> intro h1 h
 ·
  apply bn h; intro x2 h2 h
  apply bn h; intro r3 h3 h
  cases r3 with
  | k0 x3_0 x3_1 =>
   rw [← sj h]
   exact rn [(14, .d true), (15, .v (.ro (cBx x2))), (19, .v (.tup [i6 x3_0, i6 x3_1])), (6000, .d true)] (av h1 (apc ((igr Zv h2) : idxA 4 (.p (.lst 4 (Zb a1.kids))) (i6 v3) = some (.ro (cBx x2))) (apc (((hF21 x2 h3).cp rfl _) : CP prg 32 [(.agg ((cBx x2).map .p))] [.cells 28 ((cBx a1).map .p), .row 28 4 0 (ra cBx []), .cells 28 ((cBx x2).map .p)] = some (.tup [i6 x3_0, i6 x3_1])) (apc (Hj a1 a2 (w6 (v1 + x3_0)) (if v2 < x3_1 then x3_1 else v2) (w6 (v3 + 1))) apn))))
 ·
  rw [← sj h]
  exact xb [(14, .d false), (6000, .d true)] (av h1 apn)
theorem Hk (rF21 : MG) (hF21 : G1 rF21) (a1 : BoxD) (a2 : Int) (s0 : Int × Int × Int) (e : E_L21_0) (h : runL (fun s => PK rF21 a1 a2 s.1 s.2.1 s.2.2) s0 = some e) : MH a1 a2 e (UC a1 a2 s0.1 s0.2.1 s0.2.2) := by
  have q := @Zg (Int × Int × Int) E_L21_0 (fun s => PK rF21 a1 a2 s.1 s.2.1 s.2.2) (fun s => UC a1 a2 s.1 s.2.1 s.2.2) (MH a1 a2) (fun s r h => G2 rF21 hF21 a1 a2 s.1 s.2.1 s.2.2 h) s0 e h
  exact q
def Hl (rF21 : MG) (a1 : BoxD) : Option R_F21 :=
  ((runL (fun s => PK rF21 a1 (a1.kids.length : Int) s.1 s.2.1 s.2.2) (1, 0, 0)).bind fun r1 => match r1 with | .k0 x1_0 x1_1 => (some (.k0 x1_0 (IntKind.wrap .i64 (x1_1 + 1)))))
abbrev Eg (g1 : Nat → AV) (x1_0 x1_1 : Int) (a1 : BoxD) : St := ⟨fr 32 g1 [(4, i6 x1_0), (5, i6 x1_1), (11, (.p (.lst 4 (Zb a1.kids))))], [.cells 28 ((cBx a1).map .p)]⟩
theorem Cf (rF21 : MG) (hF21 : G1 rF21) (a1 : BoxD) {r : R_F21} (h : Hl rF21 a1 = some r) : PR1 prg 32 [(.agg ((cBx a1).map .p))] (Br a1 r) := by
 unfold Hl at h
 apply bn h; intro r1 h1 h
 cases r1 with
 | k0 x1_0 x1_1 =>
  obtain ⟨g1, e1⟩ := Hk rF21 hF21 a1 (a1.kids.length : Int) (1, 0, 0) _ h1
  rw [← sj h]
  exact fq [(12, .v (i6 (a1.kids.length : Int))), (2000, .l (.brk 0) (Eg g1 x1_0 x1_1 a1)), (6000, .d true)] (apc ((lgr Zv) : lnA (.p (.lst 4 (Zb a1.kids))) = some (i6 (a1.kids.length : Int))) (apc (Hj a1 (a1.kids.length : Int) 1 0 0) (apc (e1 : UC a1 (a1.kids.length : Int) 1 0 0 = some ((.brk 0), Eg g1 x1_0 x1_1 a1)) apn)))
def F21 : Nat → MG
  | 0 => fun _ => none
  | Nf + 1 => Hl (F21 Nf)
theorem Bs (Nf : Nat) : G1 (F21 Nf) := by
  induction Nf with
  | zero => intro a1 r h; have h : (none : Option R_F21) = some r := h; cases h
  | succ Nf ih => intro a1 r h; exact Cf (F21 Nf) ih a1 h
def Al (a1 : BoxD) (x0 : Int) : AV := (i6 x0)
def F16 (Nf : Nat) (a1 : BoxD) : Option Int :=
  ((F25 Nf a1).bind fun x1 => (bif x1 then ((F21 Nf a1).bind fun r3 => match r3 with | .k0 x3_0 x3_1 => (bif (decide (x3_0 > 65536)) then (some 3) else (bif (decide (x3_1 > 16384)) then (some 3) else (some 0)))) else (some 260)))
theorem Eh (Nf : Nat) (a1 : BoxD) {r : Int} (h : F16 Nf a1 = some r) : PR1 prg 24 [(.agg ((cBx a1).map .p))] (Al a1 r) := by
 unfold F16 at h
 apply bn h; intro x1 h1 h
 apply bi h <;> intro h2 h
 ·
  have q0 := ((((Ef Nf a1 h1).cp rfl _).trans (congrArg (fun z => some (vb z)) h2)) : CP prg 39 [(.agg ((cBx a1).map .p))] [.cells 28 ((cBx a1).map .p)] = some (vb true))
  apply bn h; intro r3 h3 h
  cases r3 with
  | k0 x3_0 x3_1 =>
   have q1 := (((Bs Nf a1 h3).cp rfl _) : CP prg 32 [(.agg ((cBx a1).map .p))] [.cells 28 ((cBx a1).map .p)] = some (.tup [i6 x3_0, i6 x3_1]))
   have k2 := ka [(6, .v (vb true)), (10, .v (.tup [i6 x3_0, i6 x3_1]))] (apc q0 (apc q1 apn))
   apply bi h <;> intro h4 h
   ·
    rw [← sj h]
    exact fq ([(14, .d true)] ++ kH k2) (k2.b (av h4 apn))
   ·
    apply bi h <;> intro h5 h
    ·
     rw [← sj h]
     exact fq ([(14, .d false), (17, .d true)] ++ kH k2) (k2.b (av h4 (av h5 apn)))
    ·
     rw [← sj h]
     exact fq ([(14, .d false), (17, .d false)] ++ kH k2) (k2.b (av h4 (av h5 apn)))
 ·
  rw [← sj h]
  exact fq [(6, .v (vb false))] (apc ((((Ef Nf a1 h1).cp rfl _).trans (congrArg (fun z => some (vb z)) h2)) : CP prg 39 [(.agg ((cBx a1).map .p))] [.cells 28 ((cBx a1).map .p)] = some (vb false)) apn)
inductive R_F28_2 where
  | k0 (x0 : Bool) (x1 : Nat) (x2 : Oqq) (x3 : Nat)
def Hm (a1 a2 : BoxD) (a3 : Nat) (a4 : Oqq) (a5 : Nat) (a6 : Oqq) (a7 : Nat) (r : R_F28_2) : AV := match r with | .k0 x0 x1 x2 x3 => (vb x0)
def Hn (a1 a2 : BoxD) (a3 : Nat) (a4 : Oqq) (a5 : Nat) (a6 : Oqq) (a7 : Nat) (r : R_F28_2) : List AB := match r with | .k0 x0 x1 x2 x3 => [.cells 28 ((cBx a2).map .p), yB a3 a4, yB x1 x2, .cells 58 [.sl 2 x1 1 0 x3], .cells 35 [(.fn 43 [.ptr 3 0, .ptr 4 0])]]
abbrev XF := BoxD → BoxD → Nat → Oqq → Nat → Oqq → Nat → Option R_F28_2
abbrev UD (f : XF) : Prop := ∀ (a1 a2 : BoxD) (a3 : Nat) (a4 : Oqq) (a5 : Nat) (a6 : Oqq) (a7 : Nat) {r : R_F28_2}, f a1 a2 a3 a4 a5 a6 a7 = some r → ∀ hx : List AB, CS prg 43 [(.agg ((cBx a1).map .p)), .ptr 3 0, .ptr 4 0] ([.cells 28 ((cBx a2).map .p), yB a3 a4, yB a5 a6, .cells 58 [.sl 2 a5 1 0 a7], .cells 35 [(.fn 43 [.ptr 3 0, .ptr 4 0])]] ++ hx) = some (Hm a1 a2 a3 a4 a5 a6 a7 r, Hn a1 a2 a3 a4 a5 a6 a7 r ++ hx)
inductive E_L28_0_2 where
  | k0 (x0 : Nat) (x1 : Oqq) (x2 : Nat)
def Wf (rF28_2 : XF) (a2 : BoxD) (a3 : Int) (a4 : BoxD) (a5 : Nat) (a6 : Oqq) (v1 : Int) (v2 : Nat) (v3 : Oqq) (v4 : Nat) : Option (E_L28_0_2 ⊕ (Int × Nat × Oqq × Nat)) :=
  (bif (decide (v1 < a3)) then ((getI a2.kids v1).bind fun x2 => ((rF28_2 x2 a4 a5 a6 v2 v3 v4).bind fun r3 => match r3 with | .k0 x3_0 x3_1 x3_2 x3_3 => (bif x3_0 then (some (.inr ((IntKind.wrap .i64 (v1 + 1)), x3_1, x3_2, x3_3))) else (some (.inr ((IntKind.wrap .i64 (v1 + 1)), x3_1, x3_2, x3_3)))))) else (some (.inl (.k0 v2 v3 v4))))
def OY (a1 : Int) (a2 : BoxD) (a3 : Int) (a4 : BoxD) (a5 : Nat) (a6 : Oqq) (v1 : Int) (v2 : Nat) (v3 : Oqq) (v4 : Nat) : St := ⟨fr 39 ug [(1, .ptr 3 0), (2, .ptr 4 0), (5, i6 a1), (6, vb true), (24, (.p (.lst 4 (Zb a2.kids)))), (25, i6 a3), (26, i6 v1)], [.cells 28 ((cBx a4).map .p), yB a5 a6, yB v2 v3, .cells 58 [.sl 2 v2 1 0 v4], .cells 35 [(.fn 43 [.ptr 3 0, .ptr 4 0])], .cells 28 ((cBx a2).map .p), .row 4 1 0 [[vb true]]]⟩
theorem SN (a1 : Int) (a2 : BoxD) (a3 : Int) (a4 : BoxD) (a5 : Nat) (a6 : Oqq) (v1 : Int) (v2 : Nat) (v3 : Oqq) (v4 : Nat) : okT 7 (OY a1 a2 a3 a4 a5 a6 v1 v2 v3 v4).h = true := (ZB rfl (ac (ar (ar (ac (ac (ac (ac rfl))))))))
abbrev Xi (a1 : Int) (a2 : BoxD) (a3 : Int) (a4 : BoxD) (a5 : Nat) (a6 : Oqq) (v1 : Int) (v2 : Nat) (v3 : Oqq) (v4 : Nat) := evH prg 7 [1, 2, 5, 6, 24, 25, 26] MA (OY a1 a2 a3 a4 a5 a6 v1 v2 v3 v4)
def SO (a1 : Int) (a2 : BoxD) (a3 : Int) (a4 : BoxD) (a5 : Nat) (a6 : Oqq) (e : E_L28_0_2) (r : Option (Out × St)) : Prop := match e with | .k0 x0 x1 x2 => ∃ g, r = some ((.brk 0), ⟨fr 39 g [(1, .ptr 3 0), (5, i6 a1), (6, vb true), (24, (.p (.lst 4 (Zb a2.kids))))], [.cells 28 ((cBx a4).map .p), yB a5 a6, yB x0 x1, .cells 58 [.sl 2 x0 1 0 x2], .cells 35 [(.fn 43 [.ptr 3 0, .ptr 4 0])], .cells 28 ((cBx a2).map .p), .row 4 1 0 [[vb true]]]⟩)
abbrev YO (a4 : BoxD) (a5 : Nat) (a6 : Oqq) (x3_1 : Nat) (x3_2 : Oqq) (x3_3 : Nat) (a2 x2 : BoxD) : List AB := [.cells 28 ((cBx a4).map .p), yB a5 a6, yB x3_1 x3_2, .cells 58 [.sl 2 x3_1 1 0 x3_3], .cells 35 [(.fn 43 [.ptr 3 0, .ptr 4 0])], .cells 28 ((cBx a2).map .p), .row 4 1 0 [[vb true]], .row 28 4 0 (ra cBx []), .cells 28 ((cBx x2).map .p)]
abbrev Qn (a2 x2 : BoxD) : List AB := [.cells 28 ((cBx a2).map .p), .row 4 1 0 [[vb true]], .row 28 4 0 (ra cBx []), .cells 28 ((cBx x2).map .p)]
abbrev Qo (a4 : BoxD) (a5 : Nat) (a6 : Oqq) (v2 : Nat) (v3 : Oqq) (v4 : Nat) (a2 x2 : BoxD) : List AB := [.cells 28 ((cBx a4).map .p), yB a5 a6, yB v2 v3, .cells 58 [.sl 2 v2 1 0 v4], .cells 35 [(.fn 43 [.ptr 3 0, .ptr 4 0])], .cells 28 ((cBx a2).map .p), .row 4 1 0 [[vb true]], .row 28 4 0 (ra cBx []), .cells 28 ((cBx x2).map .p)]
theorem Jx (rF28_2 : XF) (hF28_2 : UD rF28_2) (a1 : Int) (a2 : BoxD) (a3 : Int) (a4 : BoxD) (a5 : Nat) (a6 : Oqq) (v1 : Int) (v2 : Nat) (v3 : Oqq) (v4 : Nat) {r : E_L28_0_2 ⊕ (Int × Nat × Oqq × Nat)} (h : Wf rF28_2 a2 a3 a4 a5 a6 v1 v2 v3 v4 = some r) : OkR (fun e => SO a1 a2 a3 a4 a5 a6 e (Xi a1 a2 a3 a4 a5 a6 v1 v2 v3 v4)) (fun s => Xi a1 a2 a3 a4 a5 a6 v1 v2 v3 v4 = Xi a1 a2 a3 a4 a5 a6 s.1 s.2.1 s.2.2.1 s.2.2.2) r := by
 unfold Wf at h
 apply bi h <;> intro h1 h
 ·
  apply bn h; intro x2 h2 h
  have q0 := ((igr Zv h2) : idxA 4 (.p (.lst 4 (Zb a2.kids))) (i6 v1) = some (.ro (cBx x2)))
  have k1 := ka [(27, .d true), (28, .v (.ro (cBx x2)))] (av h1 (apc q0 apn))
  apply bn h; intro r3 h3 h
  cases r3 with
  | k0 x3_0 x3_1 x3_2 x3_3 =>
   have q2 := (SN a1 a2 a3 a4 a5 a6 (w6 (v1 + 1)) x3_1 x3_2 x3_3)
   apply bi h <;> intro h4 h
   ·
    rw [← sj h]
    exact rn ([(32, .r (vb true) (YO a4 a5 a6 x3_1 x3_2 x3_3 a2 x2)), (6000, .d true)] ++ kH k1) (k1.b (apc (((hF28_2 x2 a4 a5 a6 v2 v3 v4 h3 (Qn a2 x2)).trans (congrArg (fun z => some (vb z, ((YO a4 a5 a6 x3_1 x3_2 x3_3 a2 x2) : List AB))) h4)) : CS prg 43 [(.agg ((cBx x2).map .p)), .ptr 3 0, .ptr 4 0] (Qo a4 a5 a6 v2 v3 v4 a2 x2) = some (vb true, YO a4 a5 a6 x3_1 x3_2 x3_3 a2 x2)) (apc q2 apn)))
   ·
    rw [← sj h]
    exact rn ([(32, .r (vb false) (YO a4 a5 a6 x3_1 x3_2 x3_3 a2 x2)), (6000, .d true)] ++ kH k1) (k1.b (apc (((hF28_2 x2 a4 a5 a6 v2 v3 v4 h3 (Qn a2 x2)).trans (congrArg (fun z => some (vb z, ((YO a4 a5 a6 x3_1 x3_2 x3_3 a2 x2) : List AB))) h4)) : CS prg 43 [(.agg ((cBx x2).map .p)), .ptr 3 0, .ptr 4 0] (Qo a4 a5 a6 v2 v3 v4 a2 x2) = some (vb false, YO a4 a5 a6 x3_1 x3_2 x3_3 a2 x2)) (apc q2 apn)))
 ·
  rw [← sj h]
  exact xb [(27, .d false), (6000, .d true)] (av h1 apn)
theorem SP (rF28_2 : XF) (hF28_2 : UD rF28_2) (a1 : Int) (a2 : BoxD) (a3 : Int) (a4 : BoxD) (a5 : Nat) (a6 : Oqq) (s0 : Int × Nat × Oqq × Nat) (e : E_L28_0_2) (h : runL (fun s => Wf rF28_2 a2 a3 a4 a5 a6 s.1 s.2.1 s.2.2.1 s.2.2.2) s0 = some e) : SO a1 a2 a3 a4 a5 a6 e (Xi a1 a2 a3 a4 a5 a6 s0.1 s0.2.1 s0.2.2.1 s0.2.2.2) := by
  have q := @Zg (Int × Nat × Oqq × Nat) E_L28_0_2 (fun s => Wf rF28_2 a2 a3 a4 a5 a6 s.1 s.2.1 s.2.2.1 s.2.2.2) (fun s => Xi a1 a2 a3 a4 a5 a6 s.1 s.2.1 s.2.2.1 s.2.2.2) (SO a1 a2 a3 a4 a5 a6) (fun s r h => Jx rF28_2 hF28_2 a1 a2 a3 a4 a5 a6 s.1 s.2.1 s.2.2.1 s.2.2.2 h) s0 e h
  exact q
def Am (a1 : BoxD) (a2 : Int) (x0 : Int) : AV := (i6 x0)
def F56 (a1 : BoxD) (a2 : Int) : Option Int :=
  (some (firstIdx a1.text (Int.toNat a2).toUInt8))
theorem Bt (a1 : BoxD) (a2 : Int) {r : Int} (h : F56 a1 a2 = some r) : PR1 prg 78 [vs a1.text, vi .u8 a2] (Am a1 a2 r) := by
 unfold F56 at h
 rw [← sj h]
 exact fq [] apn
def An (a1 : BoxD) (x0 : Int) : AV := (i6 x0)
def F48 (a1 : BoxD) : Option Int :=
  (bif ((⟨([10] : List UInt8).toArray⟩ : ByteArray).toList == a1.text.toList) then (some 0) else ((getI (⟨([10] : List UInt8).toArray⟩ : ByteArray).data.toList 0).bind fun x2 => ((F56 a1 (x2.toNat : Int)).bind fun x3 => (some x3))))
theorem Bu (a1 : BoxD) {r : Int} (h : F48 a1 = some r) : PR1 prg 70 [vs a1.text, (vs (⟨([10] : List UInt8).toArray⟩ : ByteArray))] (An a1 r) := by
 unfold F48 at h
 apply bi h <;> intro h1 h
 ·
  rw [← sj h]
  exact fq [(22, .d true)] (av h1 apn)
 ·
  apply bn h; intro x2 h2 h
  apply bn h; intro x3 h3 h
  rw [← sj h]
  exact fq [(22, .d false), (29, .v (vi .u8 (x2.toNat : Int))), (30, .v (i6 x3))] (av h1 (apc ((OJ h2) : ixS (vs (⟨([10] : List UInt8).toArray⟩ : ByteArray)) (i6 0) = some (vi .u8 (x2.toNat : Int))) (apc (((Bt a1 (x2.toNat : Int) h3).cp rfl _) : CP prg 78 [vs a1.text, (vi .u8 (x2.toNat : Int))] [] = some (i6 x3)) apn)))
def Ao (a1 : BoxD) (x0 : Int) : AV := (i6 x0)
def F39 (a1 : BoxD) : Option Int :=
  ((F48 a1).bind fun x1 => (some x1))
theorem Bv (a1 : BoxD) {r : Int} (h : F39 a1 = some r) : PR1 prg 59 [vs a1.text, (vs (⟨([10] : List UInt8).toArray⟩ : ByteArray))] (Ao a1 r) := by
 unfold F39 at h
 apply bn h; intro x1 h1 h
 rw [← sj h]
 exact fq [(7, .v (i6 x1))] (apc (((Bu a1 h1).cp rfl _) : CP prg 70 [vs a1.text, (vs (⟨([10] : List UInt8).toArray⟩ : ByteArray))] [] = some (i6 x1)) apn)
def Ap (a1 : BoxD) (x0 : Bool) : AV := (vb x0)
def F29 (a1 : BoxD) : Option Bool :=
  ((F39 a1).bind fun x1 => (some (decide (x1 ≥ 0))))
theorem Bw (a1 : BoxD) {r : Bool} (h : F29 a1 = some r) : PR1 prg 44 [vs a1.text, (vs (⟨([10] : List UInt8).toArray⟩ : ByteArray))] (Ap a1 r) := by
 unfold F29 at h
 apply bn h; intro x1 h1 h
 rw [← sj h]
 exact fq [(7, .v (i6 x1))] (apc (((Bv a1 h1).cp rfl _) : CP prg 59 [vs a1.text, (vs (⟨([10] : List UInt8).toArray⟩ : ByteArray))] [] = some (i6 x1)) apn)
inductive E_L28_0_3 where
  | k0 (x0 : Bool) (x1 : Nat) (x2 : Oqq) (x3 : Nat)
def Wg (rF28_2 : XF) (a3 : BoxD) (a4 : Int) (a5 : BoxD) (a6 : Nat) (a7 : Oqq) (v1 : Bool) (v2 : Int) (v3 : Nat) (v4 : Oqq) (v5 : Nat) : Option (E_L28_0_3 ⊕ (Bool × Int × Nat × Oqq × Nat)) :=
  (bif (decide (v2 < a4)) then ((getI a3.kids v2).bind fun x2 => ((rF28_2 x2 a5 a6 a7 v3 v4 v5).bind fun r3 => match r3 with | .k0 x3_0 x3_1 x3_2 x3_3 => (bif x3_0 then (some (.inr (true, (IntKind.wrap .i64 (v2 + 1)), x3_1, x3_2, x3_3))) else (some (.inr (v1, (IntKind.wrap .i64 (v2 + 1)), x3_1, x3_2, x3_3)))))) else (some (.inl (.k0 v1 v3 v4 v5))))
def OZ (a1 : Int) (a2 : Bool) (a3 : BoxD) (a4 : Int) (a5 : BoxD) (a6 : Nat) (a7 : Oqq) (v1 : Bool) (v2 : Int) (v3 : Nat) (v4 : Oqq) (v5 : Nat) : St := ⟨fr 39 ug [(1, .ptr 3 0), (2, .ptr 4 0), (5, i6 a1), (6, vb v1), (24, (.p (.lst 4 (Zb a3.kids)))), (25, i6 a4), (26, i6 v2)], [.cells 28 ((cBx a5).map .p), yB a6 a7, yB v3 v4, .cells 58 [.sl 2 v3 1 0 v5], .cells 35 [(.fn 43 [.ptr 3 0, .ptr 4 0])], .cells 28 ((cBx a3).map .p), .row 4 1 0 [[vb a2]]]⟩
theorem Uj (a1 : Int) (a2 : Bool) (a3 : BoxD) (a4 : Int) (a5 : BoxD) (a6 : Nat) (a7 : Oqq) (v1 : Bool) (v2 : Int) (v3 : Nat) (v4 : Oqq) (v5 : Nat) : okT 7 (OZ a1 a2 a3 a4 a5 a6 a7 v1 v2 v3 v4 v5).h = true := (ZB rfl (ac (ar (ar (ac (ac (ac (ac rfl))))))))
abbrev Xj (a1 : Int) (a2 : Bool) (a3 : BoxD) (a4 : Int) (a5 : BoxD) (a6 : Nat) (a7 : Oqq) (v1 : Bool) (v2 : Int) (v3 : Nat) (v4 : Oqq) (v5 : Nat) := evH prg 7 [1, 2, 5, 6, 24, 25, 26] MA (OZ a1 a2 a3 a4 a5 a6 a7 v1 v2 v3 v4 v5)
def SQ (a1 : Int) (a2 : Bool) (a3 : BoxD) (a4 : Int) (a5 : BoxD) (a6 : Nat) (a7 : Oqq) (e : E_L28_0_3) (r : Option (Out × St)) : Prop := match e with | .k0 x0 x1 x2 x3 => ∃ g, r = some ((.brk 0), ⟨fr 39 g [(1, .ptr 3 0), (5, i6 a1), (6, vb x0), (24, (.p (.lst 4 (Zb a3.kids))))], [.cells 28 ((cBx a5).map .p), yB a6 a7, yB x1 x2, .cells 58 [.sl 2 x1 1 0 x3], .cells 35 [(.fn 43 [.ptr 3 0, .ptr 4 0])], .cells 28 ((cBx a3).map .p), .row 4 1 0 [[vb a2]]]⟩)
abbrev YP (a5 : BoxD) (a6 : Nat) (a7 : Oqq) (x3_1 : Nat) (x3_2 : Oqq) (x3_3 : Nat) (a3 : BoxD) (a2 : Bool) (x2 : BoxD) : List AB := [.cells 28 ((cBx a5).map .p), yB a6 a7, yB x3_1 x3_2, .cells 58 [.sl 2 x3_1 1 0 x3_3], .cells 35 [(.fn 43 [.ptr 3 0, .ptr 4 0])], .cells 28 ((cBx a3).map .p), .row 4 1 0 [[vb a2]], .row 28 4 0 (ra cBx []), .cells 28 ((cBx x2).map .p)]
abbrev Qp (a3 : BoxD) (a2 : Bool) (x2 : BoxD) : List AB := [.cells 28 ((cBx a3).map .p), .row 4 1 0 [[vb a2]], .row 28 4 0 (ra cBx []), .cells 28 ((cBx x2).map .p)]
abbrev Qq (a5 : BoxD) (a6 : Nat) (a7 : Oqq) (v3 : Nat) (v4 : Oqq) (v5 : Nat) (a3 : BoxD) (a2 : Bool) (x2 : BoxD) : List AB := [.cells 28 ((cBx a5).map .p), yB a6 a7, yB v3 v4, .cells 58 [.sl 2 v3 1 0 v5], .cells 35 [(.fn 43 [.ptr 3 0, .ptr 4 0])], .cells 28 ((cBx a3).map .p), .row 4 1 0 [[vb a2]], .row 28 4 0 (ra cBx []), .cells 28 ((cBx x2).map .p)]
theorem Jy (rF28_2 : XF) (hF28_2 : UD rF28_2) (a1 : Int) (a2 : Bool) (a3 : BoxD) (a4 : Int) (a5 : BoxD) (a6 : Nat) (a7 : Oqq) (v1 : Bool) (v2 : Int) (v3 : Nat) (v4 : Oqq) (v5 : Nat) {r : E_L28_0_3 ⊕ (Bool × Int × Nat × Oqq × Nat)} (h : Wg rF28_2 a3 a4 a5 a6 a7 v1 v2 v3 v4 v5 = some r) : OkR (fun e => SQ a1 a2 a3 a4 a5 a6 a7 e (Xj a1 a2 a3 a4 a5 a6 a7 v1 v2 v3 v4 v5)) (fun s => Xj a1 a2 a3 a4 a5 a6 a7 v1 v2 v3 v4 v5 = Xj a1 a2 a3 a4 a5 a6 a7 s.1 s.2.1 s.2.2.1 s.2.2.2.1 s.2.2.2.2) r := by
 unfold Wg at h
 apply bi h <;> intro h1 h
 ·
  apply bn h; intro x2 h2 h
  have q0 := ((igr Zv h2) : idxA 4 (.p (.lst 4 (Zb a3.kids))) (i6 v2) = some (.ro (cBx x2)))
  have k1 := ka [(27, .d true), (28, .v (.ro (cBx x2)))] (av h1 (apc q0 apn))
  apply bn h; intro r3 h3 h
  cases r3 with
  | k0 x3_0 x3_1 x3_2 x3_3 =>
   apply bi h <;> intro h4 h
   ·
    rw [← sj h]
    exact rn ([(32, .r (vb true) (YP a5 a6 a7 x3_1 x3_2 x3_3 a3 a2 x2)), (6000, .d true)] ++ kH k1) (k1.b (apc (((hF28_2 x2 a5 a6 a7 v3 v4 v5 h3 (Qp a3 a2 x2)).trans (congrArg (fun z => some (vb z, ((YP a5 a6 a7 x3_1 x3_2 x3_3 a3 a2 x2) : List AB))) h4)) : CS prg 43 [(.agg ((cBx x2).map .p)), .ptr 3 0, .ptr 4 0] (Qq a5 a6 a7 v3 v4 v5 a3 a2 x2) = some (vb true, YP a5 a6 a7 x3_1 x3_2 x3_3 a3 a2 x2)) (apc (Uj a1 a2 a3 a4 a5 a6 a7 true (w6 (v2 + 1)) x3_1 x3_2 x3_3) apn)))
   ·
    rw [← sj h]
    exact rn ([(32, .r (vb false) (YP a5 a6 a7 x3_1 x3_2 x3_3 a3 a2 x2)), (6000, .d true)] ++ kH k1) (k1.b (apc (((hF28_2 x2 a5 a6 a7 v3 v4 v5 h3 (Qp a3 a2 x2)).trans (congrArg (fun z => some (vb z, ((YP a5 a6 a7 x3_1 x3_2 x3_3 a3 a2 x2) : List AB))) h4)) : CS prg 43 [(.agg ((cBx x2).map .p)), .ptr 3 0, .ptr 4 0] (Qq a5 a6 a7 v3 v4 v5 a3 a2 x2) = some (vb false, YP a5 a6 a7 x3_1 x3_2 x3_3 a3 a2 x2)) (apc (Uj a1 a2 a3 a4 a5 a6 a7 v1 (w6 (v2 + 1)) x3_1 x3_2 x3_3) apn)))
 ·
  rw [← sj h]
  exact xb [(27, .d false), (6000, .d true)] (av h1 apn)
theorem SS (rF28_2 : XF) (hF28_2 : UD rF28_2) (a1 : Int) (a2 : Bool) (a3 : BoxD) (a4 : Int) (a5 : BoxD) (a6 : Nat) (a7 : Oqq) (s0 : Bool × Int × Nat × Oqq × Nat) (e : E_L28_0_3) (h : runL (fun s => Wg rF28_2 a3 a4 a5 a6 a7 s.1 s.2.1 s.2.2.1 s.2.2.2.1 s.2.2.2.2) s0 = some e) : SQ a1 a2 a3 a4 a5 a6 a7 e (Xj a1 a2 a3 a4 a5 a6 a7 s0.1 s0.2.1 s0.2.2.1 s0.2.2.2.1 s0.2.2.2.2) := by
  have q := @Zg (Bool × Int × Nat × Oqq × Nat) E_L28_0_3 (fun s => Wg rF28_2 a3 a4 a5 a6 a7 s.1 s.2.1 s.2.2.1 s.2.2.2.1 s.2.2.2.2) (fun s => Xj a1 a2 a3 a4 a5 a6 a7 s.1 s.2.1 s.2.2.1 s.2.2.2.1 s.2.2.2.2) (SQ a1 a2 a3 a4 a5 a6 a7) (fun s r h => Jy rF28_2 hF28_2 a1 a2 a3 a4 a5 a6 a7 s.1 s.2.1 s.2.2.1 s.2.2.2.1 s.2.2.2.2 h) s0 e h
  exact q
def WA (rF28_2 : XF) (a1 a2 : BoxD) (a3 : Nat) (a4 : Oqq) (a5 : Nat) (a6 : Oqq) (a7 : Nat) : Option R_F28_2 :=
  (bif (a1.kind == 2) then (bif (apOk a7 1 a6.length 1) then (bif (decide (a7 + 1 ≤ a6.length)) then ((runL (fun s => Wf rF28_2 a1 (a1.kids.length : Int) a2 a3 a4 s.1 s.2.1 s.2.2.1 s.2.2.2) (0, a5, (splice a6 a7 [true]), a7 + 1)).bind fun r4 => match r4 with | .k0 x4_0 x4_1 x4_2 => ((ixN x4_2 ((a7 : Nat) : Int)).bind fun x5 => ((x4_1[x5]?).bind fun x6 => (some (.k0 true x4_0 (x4_1.set x5 true) x4_2))))) else ((runL (fun s => Wf rF28_2 a1 (a1.kids.length : Int) a2 a3 a4 s.1 s.2.1 s.2.2.1 s.2.2.2) (0, a5 + 1, (a6.take a7 ++ [true]), a7 + 1)).bind fun r4 => match r4 with | .k0 x4_0 x4_1 x4_2 => ((ixN x4_2 ((a7 : Nat) : Int)).bind fun x5 => ((x4_1[x5]?).bind fun x6 => (some (.k0 true x4_0 (x4_1.set x5 true) x4_2)))))) else none) else ((F29 a1).bind fun x2 => (bif (apOk a7 1 a6.length 1) then (bif (decide (a7 + 1 ≤ a6.length)) then ((runL (fun s => Wg rF28_2 a1 (a1.kids.length : Int) a2 a3 a4 s.1 s.2.1 s.2.2.1 s.2.2.2.1 s.2.2.2.2) (x2, 0, a5, (splice a6 a7 [x2]), a7 + 1)).bind fun r5 => match r5 with | .k0 x5_0 x5_1 x5_2 x5_3 => ((ixN x5_3 ((a7 : Nat) : Int)).bind fun x6 => ((x5_2[x6]?).bind fun x7 => (some (.k0 x5_0 x5_1 (x5_2.set x6 x5_0) x5_3))))) else ((runL (fun s => Wg rF28_2 a1 (a1.kids.length : Int) a2 a3 a4 s.1 s.2.1 s.2.2.1 s.2.2.2.1 s.2.2.2.2) (x2, 0, a5 + 1, (a6.take a7 ++ [x2]), a7 + 1)).bind fun r5 => match r5 with | .k0 x5_0 x5_1 x5_2 x5_3 => ((ixN x5_3 ((a7 : Nat) : Int)).bind fun x6 => ((x5_2[x6]?).bind fun x7 => (some (.k0 x5_0 x5_1 (x5_2.set x6 x5_0) x5_3)))))) else none)))
abbrev WP (a2 : BoxD) (a3 : Nat) (a4 : Oqq) (x4_0 : Nat) (x4_1 : Oqq) (x5 x4_2 : Nat) (a1 : BoxD) : List AB := [.cells 28 ((cBx a2).map .p), yB a3 a4, yB x4_0 (x4_1.set x5 true), .cells 58 [.sl 2 x4_0 1 0 x4_2], .cells 35 [(.fn 43 [.ptr 3 0, .ptr 4 0])], .cells 28 ((cBx a1).map .p), .row 4 1 0 [[vb true]]]
abbrev L0 (a2 : BoxD) (a3 : Nat) (a4 : Oqq) (a5 : Nat) (a6 : Oqq) (a7 : Nat) (a1 : BoxD) : List AB := [.cells 28 ((cBx a2).map .p), yB a3 a4, yB a5 (splice a6 a7 [true]), .cells 58 [.sl 2 a5 1 0 a7], .cells 35 [(.fn 43 [.ptr 3 0, .ptr 4 0])], .cells 28 ((cBx a1).map .p), .row 4 1 0 [[vb true]]]
abbrev TB (g4 : Nat → AV) (a7 : Nat) (a1 a2 : BoxD) (a3 : Nat) (a4 : Oqq) (x4_0 : Nat) (x4_1 : Oqq) (x4_2 : Nat) : St := ⟨fr 39 g4 [(1, .ptr 3 0), (5, (i6 ((a7 : Nat) : Int))), (6, vb true), (24, (.p (.lst 4 (Zb a1.kids))))], [.cells 28 ((cBx a2).map .p), yB a3 a4, yB x4_0 x4_1, .cells 58 [.sl 2 x4_0 1 0 x4_2], .cells 35 [(.fn 43 [.ptr 3 0, .ptr 4 0])], .cells 28 ((cBx a1).map .p), .row 4 1 0 [[vb true]]]⟩
abbrev L1 (a2 : BoxD) (a3 : Nat) (a4 : Oqq) (a5 : Nat) (a6 : Oqq) (a7 : Nat) (a1 : BoxD) : List AB := [.cells 28 ((cBx a2).map .p), yB a3 a4, yB a5 a6, .cells 58 [.sl 2 a5 1 0 a7], .cells 35 [(.fn 43 [.ptr 3 0, .ptr 4 0])], .cells 28 ((cBx a1).map .p), .row 4 1 0 [[vb true]]]
abbrev L2 (a2 : BoxD) (a3 : Nat) (a4 : Oqq) (x4_0 : Nat) (x4_1 : Oqq) (x4_2 : Nat) (a1 : BoxD) : List AB := [.cells 28 ((cBx a2).map .p), yB a3 a4, yB x4_0 x4_1, .cells 58 [.sl 2 x4_0 1 0 x4_2], .cells 35 [(.fn 43 [.ptr 3 0, .ptr 4 0])], .cells 28 ((cBx a1).map .p), .row 4 1 0 [[vb true]]]
abbrev L3 (a2 : BoxD) (a3 : Nat) (a4 : Oqq) (a5 : Nat) (a6 : Oqq) (a7 : Nat) (a1 : BoxD) : List AB := [.cells 28 ((cBx a2).map .p), yB a3 a4, yB (a5 + 1) (a6.take a7 ++ [true]), .cells 58 [.sl 2 a5 1 0 a7], .cells 35 [(.fn 43 [.ptr 3 0, .ptr 4 0])], .cells 28 ((cBx a1).map .p), .row 4 1 0 [[vb true]]]
abbrev L4 (a2 : BoxD) (a3 : Nat) (a4 : Oqq) (a5 : Nat) (a6 : Oqq) (a7 : Nat) (x2 : Bool) (a1 : BoxD) : List AB := [.cells 28 ((cBx a2).map .p), yB a3 a4, yB a5 (splice a6 a7 [x2]), .cells 58 [.sl 2 a5 1 0 a7], .cells 35 [(.fn 43 [.ptr 3 0, .ptr 4 0])], .cells 28 ((cBx a1).map .p), .row 4 1 0 [[vb x2]]]
abbrev TC (g5 : Nat → AV) (a7 : Nat) (x5_0 : Bool) (a1 a2 : BoxD) (a3 : Nat) (a4 : Oqq) (x5_1 : Nat) (x5_2 : Oqq) (x5_3 : Nat) (x2 : Bool) : St := ⟨fr 39 g5 [(1, .ptr 3 0), (5, (i6 ((a7 : Nat) : Int))), (6, vb x5_0), (24, (.p (.lst 4 (Zb a1.kids))))], [.cells 28 ((cBx a2).map .p), yB a3 a4, yB x5_1 x5_2, .cells 58 [.sl 2 x5_1 1 0 x5_3], .cells 35 [(.fn 43 [.ptr 3 0, .ptr 4 0])], .cells 28 ((cBx a1).map .p), .row 4 1 0 [[vb x2]]]⟩
abbrev L5 (a2 : BoxD) (a3 : Nat) (a4 : Oqq) (a5 : Nat) (a6 : Oqq) (a7 : Nat) (a1 : BoxD) (x2 : Bool) : List AB := [.cells 28 ((cBx a2).map .p), yB a3 a4, yB a5 a6, .cells 58 [.sl 2 a5 1 0 a7], .cells 35 [(.fn 43 [.ptr 3 0, .ptr 4 0])], .cells 28 ((cBx a1).map .p), .row 4 1 0 [[vb x2]]]
abbrev O0 (a2 : BoxD) (a3 : Nat) (a4 : Oqq) (x5_1 : Nat) (x5_2 : Oqq) (x5_3 : Nat) (a1 : BoxD) (x2 : Bool) : List AB := [.cells 28 ((cBx a2).map .p), yB a3 a4, yB x5_1 x5_2, .cells 58 [.sl 2 x5_1 1 0 x5_3], .cells 35 [(.fn 43 [.ptr 3 0, .ptr 4 0])], .cells 28 ((cBx a1).map .p), .row 4 1 0 [[vb x2]]]
abbrev O1 (a2 : BoxD) (a3 : Nat) (a4 : Oqq) (a5 : Nat) (a6 : Oqq) (a7 : Nat) (x2 : Bool) (a1 : BoxD) : List AB := [.cells 28 ((cBx a2).map .p), yB a3 a4, yB (a5 + 1) (a6.take a7 ++ [x2]), .cells 58 [.sl 2 a5 1 0 a7], .cells 35 [(.fn 43 [.ptr 3 0, .ptr 4 0])], .cells 28 ((cBx a1).map .p), .row 4 1 0 [[vb x2]]]
theorem Hp (rF28_2 : XF) (hF28_2 : UD rF28_2) (a1 a2 : BoxD) (a3 : Nat) (a4 : Oqq) (a5 : Nat) (a6 : Oqq) (a7 : Nat) {r : R_F28_2} (h : WA rF28_2 a1 a2 a3 a4 a5 a6 a7 = some r) : ∀ hx : List AB, CS prg 43 [(.agg ((cBx a1).map .p)), .ptr 3 0, .ptr 4 0] ([.cells 28 ((cBx a2).map .p), yB a3 a4, yB a5 a6, .cells 58 [.sl 2 a5 1 0 a7], .cells 35 [(.fn 43 [.ptr 3 0, .ptr 4 0])]] ++ hx) = some (Hm a1 a2 a3 a4 a5 a6 a7 r, Hn a1 a2 a3 a4 a5 a6 a7 r ++ hx) := by
 unfold WA at h
 have q0 := ((lgr Zv) : lnA (.p (.lst 4 (Zb a1.kids))) = some (i6 (a1.kids.length : Int)))
 apply bi h <;> intro h1 h
 ·
  apply bi h <;> intro h2 h
  ·
   apply bi h <;> intro h3 h
   ·
    apply bn h; intro r4 h4 h
    cases r4 with
    | k0 x4_0 x4_1 x4_2 =>
     obtain ⟨g4, e4⟩ := SP rF28_2 hF28_2 ((a7 : Nat) : Int) a1 (a1.kids.length : Int) a2 a3 a4 (0, a5, (splice a6 a7 [true]), a7 + 1) _ h4
     apply bn h; intro x5 h5 h
     apply bn h; intro x6 h6 h
     rw [← sj h]
     exact fcF (m := 5) (v := (vb true)) (h' := (WP a2 a3 a4 x4_0 x4_1 x5 x4_2 a1)) [(13, .d true), (22, .r (.sl 2 a5 1 0 (a7 + 1)) (L0 a2 a3 a4 a5 a6 a7 a1)), (25, .v (i6 (a1.kids.length : Int))), (2000, .l (.brk 0) (TB g4 a7 a1 a2 a3 a4 x4_0 x4_1 x4_2)), (37, .v (.rp 2 x4_0 1 x5 0)), (1037, .r ud (WP a2 a3 a4 x4_0 x4_1 x5 x4_2 a1)), (6000, .d true)] (av h1 (apc ((Vy (e := Zc) (xs := a6) (news := [true]) rfl (ZQ (e := Zc) (xs := [true]) rfl) rfl h2 h3) : appA (L1 a2 a3 a4 a5 a6 a7 a1) 4 1 1 (.sl 2 a5 1 0 a7) (.sl 6 0 1 0 1) = some ((.sl 2 a5 1 0 (a7 + 1)), L0 a2 a3 a4 a5 a6 a7 a1)) (apc q0 (apc (SN ((a7 : Nat) : Int) a1 (a1.kids.length : Int) a2 a3 a4 0 a5 (splice a6 a7 [true]) (a7 + 1)) (apc (e4 : Xi ((a7 : Nat) : Int) a1 (a1.kids.length : Int) a2 a3 a4 0 a5 (splice a6 a7 [true]) (a7 + 1) = some ((.brk 0), TB g4 a7 a1 a2 a3 a4 x4_0 x4_1 x4_2)) (apc ((ZO h5) : idxA 1 (.sl 2 x4_0 1 0 x4_2) (i6 ((a7 : Nat) : Int)) = some (.rp 2 x4_0 1 x5 0)) (apc (⟨ZX (v' := true) rfl h6 rfl rfl (Nat.le_of_ble_eq_true rfl) rfl, rfl⟩ : stA (L2 a2 a3 a4 x4_0 x4_1 x4_2 a1) 1 (.rp 2 x4_0 1 x5 0) (vb true) = some (WP a2 a3 a4 x4_0 x4_1 x5 x4_2 a1) ∧ ud = ud) apn))))))) rfl (ac (ar (ar (ac (ac rfl))))) rfl (ac (ar (ar (ac (ac rfl))))) rfl (by kernel_rfl)
   ·
    apply bn h; intro r4 h4 h
    cases r4 with
    | k0 x4_0 x4_1 x4_2 =>
     obtain ⟨g4, e4⟩ := SP rF28_2 hF28_2 ((a7 : Nat) : Int) a1 (a1.kids.length : Int) a2 a3 a4 (0, a5 + 1, (a6.take a7 ++ [true]), a7 + 1) _ h4
     apply bn h; intro x5 h5 h
     apply bn h; intro x6 h6 h
     rw [← sj h]
     exact fcF (m := 5) (v := (vb true)) (h' := (WP a2 a3 a4 x4_0 x4_1 x5 x4_2 a1)) [(13, .d true), (22, .r (.sl 2 (a5 + 1) 1 0 (a7 + 1)) (L3 a2 a3 a4 a5 a6 a7 a1)), (25, .v (i6 (a1.kids.length : Int))), (2000, .l (.brk 0) (TB g4 a7 a1 a2 a3 a4 x4_0 x4_1 x4_2)), (37, .v (.rp 2 x4_0 1 x5 0)), (1037, .r ud (WP a2 a3 a4 x4_0 x4_1 x5 x4_2 a1)), (6000, .d true)] (av h1 (apc ((Xe (e := Zc) (xs := a6) (news := [true]) rfl (ZQ (e := Zc) (xs := [true]) rfl) rfl h2 h3) : appA (L1 a2 a3 a4 a5 a6 a7 a1) 4 1 1 (.sl 2 a5 1 0 a7) (.sl 6 0 1 0 1) = some ((.sl 2 (a5 + 1) 1 0 (a7 + 1)), L3 a2 a3 a4 a5 a6 a7 a1)) (apc q0 (apc (SN ((a7 : Nat) : Int) a1 (a1.kids.length : Int) a2 a3 a4 0 (a5 + 1) (a6.take a7 ++ [true]) (a7 + 1)) (apc (e4 : Xi ((a7 : Nat) : Int) a1 (a1.kids.length : Int) a2 a3 a4 0 (a5 + 1) (a6.take a7 ++ [true]) (a7 + 1) = some ((.brk 0), TB g4 a7 a1 a2 a3 a4 x4_0 x4_1 x4_2)) (apc ((ZO h5) : idxA 1 (.sl 2 x4_0 1 0 x4_2) (i6 ((a7 : Nat) : Int)) = some (.rp 2 x4_0 1 x5 0)) (apc (⟨ZX (v' := true) rfl h6 rfl rfl (Nat.le_of_ble_eq_true rfl) rfl, rfl⟩ : stA (L2 a2 a3 a4 x4_0 x4_1 x4_2 a1) 1 (.rp 2 x4_0 1 x5 0) (vb true) = some (WP a2 a3 a4 x4_0 x4_1 x5 x4_2 a1) ∧ ud = ud) apn))))))) rfl (ac (ar (ar (ac (ac rfl))))) rfl (ac (ar (ar (ac (ac rfl))))) rfl (by kernel_rfl)
  ·
   cases h
 ·
  apply bn h; intro x2 h2 h
  have q1 := (((Bw a1 h2).cp rfl _) : CP prg 44 [vs a1.text, (vs (⟨([10] : List UInt8).toArray⟩ : ByteArray))] [.cells 28 ((cBx a2).map .p), yB a3 a4, yB a5 a6, .cells 58 [.sl 2 a5 1 0 a7], .cells 35 [(.fn 43 [.ptr 3 0, .ptr 4 0])], .cells 28 ((cBx a1).map .p)] = some (vb x2))
  have k2 := ka [(13, .d false), (17, .v (vb x2))] (av h1 (apc q1 apn))
  apply bi h <;> intro h3 h
  ·
   apply bi h <;> intro h4 h
   ·
    apply bn h; intro r5 h5 h
    cases r5 with
    | k0 x5_0 x5_1 x5_2 x5_3 =>
     obtain ⟨g5, e5⟩ := SS rF28_2 hF28_2 ((a7 : Nat) : Int) x2 a1 (a1.kids.length : Int) a2 a3 a4 (x2, 0, a5, (splice a6 a7 [x2]), a7 + 1) _ h5
     apply bn h; intro x6 h6 h
     apply bn h; intro x7 h7 h
     rw [← sj h]
     exact fcF (m := 5) (v := (vb x5_0)) (h' := [.cells 28 ((cBx a2).map .p), yB a3 a4, yB x5_1 (x5_2.set x6 x5_0), .cells 58 [.sl 2 x5_1 1 0 x5_3], .cells 35 [(.fn 43 [.ptr 3 0, .ptr 4 0])], .cells 28 ((cBx a1).map .p), .row 4 1 0 [[vb x2]]]) ([(22, .r (.sl 2 a5 1 0 (a7 + 1)) (L4 a2 a3 a4 a5 a6 a7 x2 a1)), (25, .v (i6 (a1.kids.length : Int))), (2000, .l (.brk 0) (TC g5 a7 x5_0 a1 a2 a3 a4 x5_1 x5_2 x5_3 x2)), (37, .v (.rp 2 x5_1 1 x6 0)), (1037, .r ud [.cells 28 ((cBx a2).map .p), yB a3 a4, yB x5_1 (x5_2.set x6 x5_0), .cells 58 [.sl 2 x5_1 1 0 x5_3], .cells 35 [(.fn 43 [.ptr 3 0, .ptr 4 0])], .cells 28 ((cBx a1).map .p), .row 4 1 0 [[vb x2]]]), (6000, .d true)] ++ kH k2) (k2.b (apc ((Vy (e := Zc) (xs := a6) (news := [x2]) rfl (ZQ (e := Zc) (xs := [x2]) rfl) rfl h3 h4) : appA (L5 a2 a3 a4 a5 a6 a7 a1 x2) 4 1 1 (.sl 2 a5 1 0 a7) (.sl 6 0 1 0 1) = some ((.sl 2 a5 1 0 (a7 + 1)), L4 a2 a3 a4 a5 a6 a7 x2 a1)) (apc q0 (apc (Uj ((a7 : Nat) : Int) x2 a1 (a1.kids.length : Int) a2 a3 a4 x2 0 a5 (splice a6 a7 [x2]) (a7 + 1)) (apc (e5 : Xj ((a7 : Nat) : Int) x2 a1 (a1.kids.length : Int) a2 a3 a4 x2 0 a5 (splice a6 a7 [x2]) (a7 + 1) = some ((.brk 0), TC g5 a7 x5_0 a1 a2 a3 a4 x5_1 x5_2 x5_3 x2)) (apc ((ZO h6) : idxA 1 (.sl 2 x5_1 1 0 x5_3) (i6 ((a7 : Nat) : Int)) = some (.rp 2 x5_1 1 x6 0)) (apc (⟨ZX (v' := x5_0) rfl h7 rfl rfl (Nat.le_of_ble_eq_true rfl) rfl, rfl⟩ : stA (O0 a2 a3 a4 x5_1 x5_2 x5_3 a1 x2) 1 (.rp 2 x5_1 1 x6 0) (vb x5_0) = some [.cells 28 ((cBx a2).map .p), yB a3 a4, yB x5_1 (x5_2.set x6 x5_0), .cells 58 [.sl 2 x5_1 1 0 x5_3], .cells 35 [(.fn 43 [.ptr 3 0, .ptr 4 0])], .cells 28 ((cBx a1).map .p), .row 4 1 0 [[vb x2]]] ∧ ud = ud) apn))))))) rfl (ac (ar (ar (ac (ac rfl))))) rfl (ac (ar (ar (ac (ac rfl))))) rfl (by kernel_rfl)
   ·
    apply bn h; intro r5 h5 h
    cases r5 with
    | k0 x5_0 x5_1 x5_2 x5_3 =>
     obtain ⟨g5, e5⟩ := SS rF28_2 hF28_2 ((a7 : Nat) : Int) x2 a1 (a1.kids.length : Int) a2 a3 a4 (x2, 0, a5 + 1, (a6.take a7 ++ [x2]), a7 + 1) _ h5
     apply bn h; intro x6 h6 h
     apply bn h; intro x7 h7 h
     rw [← sj h]
     exact fcF (m := 5) (v := (vb x5_0)) (h' := [.cells 28 ((cBx a2).map .p), yB a3 a4, yB x5_1 (x5_2.set x6 x5_0), .cells 58 [.sl 2 x5_1 1 0 x5_3], .cells 35 [(.fn 43 [.ptr 3 0, .ptr 4 0])], .cells 28 ((cBx a1).map .p), .row 4 1 0 [[vb x2]]]) ([(22, .r (.sl 2 (a5 + 1) 1 0 (a7 + 1)) (O1 a2 a3 a4 a5 a6 a7 x2 a1)), (25, .v (i6 (a1.kids.length : Int))), (2000, .l (.brk 0) (TC g5 a7 x5_0 a1 a2 a3 a4 x5_1 x5_2 x5_3 x2)), (37, .v (.rp 2 x5_1 1 x6 0)), (1037, .r ud [.cells 28 ((cBx a2).map .p), yB a3 a4, yB x5_1 (x5_2.set x6 x5_0), .cells 58 [.sl 2 x5_1 1 0 x5_3], .cells 35 [(.fn 43 [.ptr 3 0, .ptr 4 0])], .cells 28 ((cBx a1).map .p), .row 4 1 0 [[vb x2]]]), (6000, .d true)] ++ kH k2) (k2.b (apc ((Xe (e := Zc) (xs := a6) (news := [x2]) rfl (ZQ (e := Zc) (xs := [x2]) rfl) rfl h3 h4) : appA (L5 a2 a3 a4 a5 a6 a7 a1 x2) 4 1 1 (.sl 2 a5 1 0 a7) (.sl 6 0 1 0 1) = some ((.sl 2 (a5 + 1) 1 0 (a7 + 1)), O1 a2 a3 a4 a5 a6 a7 x2 a1)) (apc q0 (apc (Uj ((a7 : Nat) : Int) x2 a1 (a1.kids.length : Int) a2 a3 a4 x2 0 (a5 + 1) (a6.take a7 ++ [x2]) (a7 + 1)) (apc (e5 : Xj ((a7 : Nat) : Int) x2 a1 (a1.kids.length : Int) a2 a3 a4 x2 0 (a5 + 1) (a6.take a7 ++ [x2]) (a7 + 1) = some ((.brk 0), TC g5 a7 x5_0 a1 a2 a3 a4 x5_1 x5_2 x5_3 x2)) (apc ((ZO h6) : idxA 1 (.sl 2 x5_1 1 0 x5_3) (i6 ((a7 : Nat) : Int)) = some (.rp 2 x5_1 1 x6 0)) (apc (⟨ZX (v' := x5_0) rfl h7 rfl rfl (Nat.le_of_ble_eq_true rfl) rfl, rfl⟩ : stA (O0 a2 a3 a4 x5_1 x5_2 x5_3 a1 x2) 1 (.rp 2 x5_1 1 x6 0) (vb x5_0) = some [.cells 28 ((cBx a2).map .p), yB a3 a4, yB x5_1 (x5_2.set x6 x5_0), .cells 58 [.sl 2 x5_1 1 0 x5_3], .cells 35 [(.fn 43 [.ptr 3 0, .ptr 4 0])], .cells 28 ((cBx a1).map .p), .row 4 1 0 [[vb x2]]] ∧ ud = ud) apn))))))) rfl (ac (ar (ar (ac (ac rfl))))) rfl (ac (ar (ar (ac (ac rfl))))) rfl (by kernel_rfl)
  ·
   cases h
def SU : Nat → XF
  | 0 => fun _ _ _ _ _ _ _ => none
  | Nf + 1 => WA (SU Nf)
theorem G3 (Nf : Nat) : UD (SU Nf) := by
  induction Nf with
  | zero => intro a1 a2 a3 a4 a5 a6 a7 r h; have h : (none : Option R_F28_2) = some r := h; cases h
  | succ Nf ih => intro a1 a2 a3 a4 a5 a6 a7 r h; exact Hp (SU Nf) ih a1 a2 a3 a4 a5 a6 a7 h
def Aq (a1 : BoxD) (x0 : Oqq) : AV := (ls 1 Zc x0)
def F18 (Nf : Nat) (a1 : BoxD) : Option Oqq :=
  ((SU Nf a1 a1 0 ([]) 0 ([]) 0).bind fun r1 => match r1 with | .k0 x1_0 x1_1 x1_2 x1_3 => (bif (decide (x1_3 ≤ x1_2.length)) then (some (x1_2.take x1_3)) else none))
abbrev Hq (a1 : BoxD) (x1_1 : Nat) (x1_2 : Oqq) (x1_3 : Nat) : List AB := [.cells 28 ((cBx a1).map .p), yB 0 ([]), yB x1_1 x1_2, .cells 58 [.sl 2 x1_1 1 0 x1_3], .cells 35 [(.fn 43 [.ptr 3 0, .ptr 4 0])]]
theorem Ei (Nf : Nat) (a1 : BoxD) {r : Oqq} (h : F18 Nf a1 = some r) : PR2 prg 28 [(.agg ((cBx a1).map .p))] (Aq a1 r) := by
 unfold F18 at h
 apply bn h; intro r1 h1 h
 cases r1 with
 | k0 x1_0 x1_1 x1_2 x1_3 =>
  have q0 := ((G3 Nf a1 a1 0 ([]) 0 ([]) 0 h1 []) : CS prg 43 [(.agg ((cBx a1).map .p)), .ptr 3 0, .ptr 4 0] [.cells 28 ((cBx a1).map .p), yB0, yB0, .cells 58 [.sl 2 0 1 0 0], .cells 35 [(.fn 43 [.ptr 3 0, .ptr 4 0])]] = some ((vb x1_0), Hq a1 x1_1 x1_2 x1_3))
  have k1 := ka [(8, .r (vb x1_0) (Hq a1 x1_1 x1_2 x1_3))] (apc q0 apn)
  apply bi h <;> intro h2 h
  ·
   rw [← sj h]
   exact fpn (v := (.sl 2 x1_1 1 0 x1_3)) (h' := (Hq a1 x1_1 x1_2 x1_3)) (kH k1) (k1.b apn) (PG (e := Zc) rfl h2) rfl (PG (e := Zc) (getq rfl (I1 (fun _ => rfl))) h2) (by kernel_rfl)
  ·
   cases h
inductive R_F30_2 where
  | k0 (x0 : Nat) (x1 : Iqq) (x2 : Nat)
def Hr (a1 a2 : BoxD) (a3 : Nat) (a4 : Iqq) (a5 : Nat) (a6 : Iqq) (a7 : Nat) (r : R_F30_2) : AV := match r with | .k0 x0 x1 x2 => (.tup [])
def Hs (a1 a2 : BoxD) (a3 : Nat) (a4 : Iqq) (a5 : Nat) (a6 : Iqq) (a7 : Nat) (r : R_F30_2) : List AB := match r with | .k0 x0 x1 x2 => [.cells 28 ((cBx a2).map .p), yI a3 a4, yI x0 x1, .cells 74 [.sl 2 x0 1 0 x2], .cells 92 [(.fn 48 [.ptr 3 0, .ptr 4 0])]]
abbrev VB := BoxD → BoxD → Nat → Iqq → Nat → Iqq → Nat → Option R_F30_2
abbrev PL (f : VB) : Prop := ∀ (a1 a2 : BoxD) (a3 : Nat) (a4 : Iqq) (a5 : Nat) (a6 : Iqq) (a7 : Nat) {r : R_F30_2}, f a1 a2 a3 a4 a5 a6 a7 = some r → ∀ hx : List AB, CS prg 48 [(.agg ((cBx a1).map .p)), .ptr 3 0, .ptr 4 0] ([.cells 28 ((cBx a2).map .p), yI a3 a4, yI a5 a6, .cells 74 [.sl 2 a5 1 0 a7], .cells 92 [(.fn 48 [.ptr 3 0, .ptr 4 0])]] ++ hx) = some (Hr a1 a2 a3 a4 a5 a6 a7 r, Hs a1 a2 a3 a4 a5 a6 a7 r ++ hx)
inductive E_L30_0_2 where
  | k0 (x0 : Nat) (x1 : Iqq) (x2 : Nat)
def XG (rF30_2 : VB) (a2 : BoxD) (a3 : Int) (a4 : BoxD) (a5 : Nat) (a6 : Iqq) (v1 : Int) (v2 : Nat) (v3 : Iqq) (v4 : Nat) : Option (E_L30_0_2 ⊕ (Int × Nat × Iqq × Nat)) :=
  (bif (decide (v1 < a3)) then ((getI a2.kids v1).bind fun x2 => ((rF30_2 x2 a4 a5 a6 v2 v3 v4).bind fun r3 => match r3 with | .k0 x3_0 x3_1 x3_2 => (some (.inr ((IntKind.wrap .i64 (v1 + 1)), x3_0, x3_1, x3_2))))) else (some (.inl (.k0 v2 v3 v4))))
def O2 (a1 : Int) (a2 : BoxD) (a3 : Int) (a4 : BoxD) (a5 : Nat) (a6 : Iqq) (v1 : Int) (v2 : Nat) (v3 : Iqq) (v4 : Nat) : St := ⟨fr 30 ug [(1, .ptr 3 0), (2, .ptr 4 0), (4, i6 a1), (13, (.p (.lst 4 (Zb a2.kids)))), (14, i6 a3), (15, i6 v1)], [.cells 28 ((cBx a4).map .p), yI a5 a6, yI v2 v3, .cells 74 [.sl 2 v2 1 0 v4], .cells 92 [(.fn 48 [.ptr 3 0, .ptr 4 0])], .cells 28 ((cBx a2).map .p), .row 3 1 0 [[i6 0]]]⟩
theorem SV (a1 : Int) (a2 : BoxD) (a3 : Int) (a4 : BoxD) (a5 : Nat) (a6 : Iqq) (v1 : Int) (v2 : Nat) (v3 : Iqq) (v4 : Nat) : okT 7 (O2 a1 a2 a3 a4 a5 a6 v1 v2 v3 v4).h = true := (ZB rfl (ac (ar (ar (ac (ac (ac (ac rfl))))))))
abbrev Xk (a1 : Int) (a2 : BoxD) (a3 : Int) (a4 : BoxD) (a5 : Nat) (a6 : Iqq) (v1 : Int) (v2 : Nat) (v3 : Iqq) (v4 : Nat) := evH prg 7 [1, 2, 4, 13, 14, 15] I9 (O2 a1 a2 a3 a4 a5 a6 v1 v2 v3 v4)
def SW (a1 : Int) (a2 : BoxD) (a3 : Int) (a4 : BoxD) (a5 : Nat) (a6 : Iqq) (e : E_L30_0_2) (r : Option (Out × St)) : Prop := match e with | .k0 x0 x1 x2 => ∃ g, r = some ((.brk 0), ⟨fr 30 g [(1, .ptr 3 0), (4, i6 a1), (13, (.p (.lst 4 (Zb a2.kids))))], [.cells 28 ((cBx a4).map .p), yI a5 a6, yI x0 x1, .cells 74 [.sl 2 x0 1 0 x2], .cells 92 [(.fn 48 [.ptr 3 0, .ptr 4 0])], .cells 28 ((cBx a2).map .p), .row 3 1 0 [[i6 0]]]⟩)
abbrev Qr (a4 : BoxD) (a5 : Nat) (a6 : Iqq) (x3_0 : Nat) (x3_1 : Iqq) (x3_2 : Nat) (a2 x2 : BoxD) : List AB := [.cells 28 ((cBx a4).map .p), yI a5 a6, yI x3_0 x3_1, .cells 74 [.sl 2 x3_0 1 0 x3_2], .cells 92 [(.fn 48 [.ptr 3 0, .ptr 4 0])], .cells 28 ((cBx a2).map .p), .row 3 1 0 [[i6 0]], .row 28 4 0 (ra cBx []), .cells 28 ((cBx x2).map .p)]
theorem Jz (rF30_2 : VB) (hF30_2 : PL rF30_2) (a1 : Int) (a2 : BoxD) (a3 : Int) (a4 : BoxD) (a5 : Nat) (a6 : Iqq) (v1 : Int) (v2 : Nat) (v3 : Iqq) (v4 : Nat) {r : E_L30_0_2 ⊕ (Int × Nat × Iqq × Nat)} (h : XG rF30_2 a2 a3 a4 a5 a6 v1 v2 v3 v4 = some r) : OkR (fun e => SW a1 a2 a3 a4 a5 a6 e (Xk a1 a2 a3 a4 a5 a6 v1 v2 v3 v4)) (fun s => Xk a1 a2 a3 a4 a5 a6 v1 v2 v3 v4 = Xk a1 a2 a3 a4 a5 a6 s.1 s.2.1 s.2.2.1 s.2.2.2) r := by
 unfold XG at h
 apply bi h <;> intro h1 h
 ·
  apply bn h; intro x2 h2 h
  apply bn h; intro r3 h3 h
  cases r3 with
  | k0 x3_0 x3_1 x3_2 =>
   rw [← sj h]
   exact rn [(16, .d true), (17, .v (.ro (cBx x2))), (21, .r (.tup []) (Qr a4 a5 a6 x3_0 x3_1 x3_2 a2 x2)), (6000, .d true)] (av h1 (apc ((igr Zv h2) : idxA 4 (.p (.lst 4 (Zb a2.kids))) (i6 v1) = some (.ro (cBx x2))) (apc ((hF30_2 x2 a4 a5 a6 v2 v3 v4 h3 [.cells 28 ((cBx a2).map .p), .row 3 1 0 [[i6 0]], .row 28 4 0 (ra cBx []), .cells 28 ((cBx x2).map .p)]) : CS prg 48 [(.agg ((cBx x2).map .p)), .ptr 3 0, .ptr 4 0] [.cells 28 ((cBx a4).map .p), yI a5 a6, yI v2 v3, .cells 74 [.sl 2 v2 1 0 v4], .cells 92 [(.fn 48 [.ptr 3 0, .ptr 4 0])], .cells 28 ((cBx a2).map .p), .row 3 1 0 [[i6 0]], .row 28 4 0 (ra cBx []), .cells 28 ((cBx x2).map .p)] = some ((.tup []), Qr a4 a5 a6 x3_0 x3_1 x3_2 a2 x2)) (apc (SV a1 a2 a3 a4 a5 a6 (w6 (v1 + 1)) x3_0 x3_1 x3_2) apn))))
 ·
  rw [← sj h]
  exact xb [(16, .d false), (6000, .d true)] (av h1 apn)
theorem SX (rF30_2 : VB) (hF30_2 : PL rF30_2) (a1 : Int) (a2 : BoxD) (a3 : Int) (a4 : BoxD) (a5 : Nat) (a6 : Iqq) (s0 : Int × Nat × Iqq × Nat) (e : E_L30_0_2) (h : runL (fun s => XG rF30_2 a2 a3 a4 a5 a6 s.1 s.2.1 s.2.2.1 s.2.2.2) s0 = some e) : SW a1 a2 a3 a4 a5 a6 e (Xk a1 a2 a3 a4 a5 a6 s0.1 s0.2.1 s0.2.2.1 s0.2.2.2) := by
  have q := @Zg (Int × Nat × Iqq × Nat) E_L30_0_2 (fun s => XG rF30_2 a2 a3 a4 a5 a6 s.1 s.2.1 s.2.2.1 s.2.2.2) (fun s => Xk a1 a2 a3 a4 a5 a6 s.1 s.2.1 s.2.2.1 s.2.2.2) (SW a1 a2 a3 a4 a5 a6) (fun s r h => Jz rF30_2 hF30_2 a1 a2 a3 a4 a5 a6 s.1 s.2.1 s.2.2.1 s.2.2.2 h) s0 e h
  exact q
def UE (rF30_2 : VB) (a1 a2 : BoxD) (a3 : Nat) (a4 : Iqq) (a5 : Nat) (a6 : Iqq) (a7 : Nat) : Option R_F30_2 :=
  (bif (apOk a7 1 a6.length 8) then (bif (decide (a7 + 1 ≤ a6.length)) then ((runL (fun s => XG rF30_2 a1 (a1.kids.length : Int) a2 a3 a4 s.1 s.2.1 s.2.2.1 s.2.2.2) (0, a5, (splice a6 a7 [0]), a7 + 1)).bind fun r3 => match r3 with | .k0 x3_0 x3_1 x3_2 => ((ixN x3_2 ((a7 : Nat) : Int)).bind fun x4 => ((x3_1[x4]?).bind fun x5 => (some (.k0 x3_0 (x3_1.set x4 (IntKind.wrap .i64 (((x3_2 : Nat) : Int) - ((a7 : Nat) : Int)))) x3_2))))) else ((runL (fun s => XG rF30_2 a1 (a1.kids.length : Int) a2 a3 a4 s.1 s.2.1 s.2.2.1 s.2.2.2) (0, a5 + 1, (a6.take a7 ++ [0]), a7 + 1)).bind fun r3 => match r3 with | .k0 x3_0 x3_1 x3_2 => ((ixN x3_2 ((a7 : Nat) : Int)).bind fun x4 => ((x3_1[x4]?).bind fun x5 => (some (.k0 x3_0 (x3_1.set x4 (IntKind.wrap .i64 (((x3_2 : Nat) : Int) - ((a7 : Nat) : Int)))) x3_2)))))) else none)
abbrev WQ (a2 : BoxD) (a3 : Nat) (a4 : Iqq) (x3_0 : Nat) (x3_1 : Iqq) (x4 x3_2 a7 : Nat) (a1 : BoxD) : List AB := [.cells 28 ((cBx a2).map .p), yI a3 a4, .row 3 1 x3_0 (ra eI64 (x3_1.set x4 (w6 (((x3_2 : Nat) : Int) - ((a7 : Nat) : Int))))), .cells 74 [.sl 2 x3_0 1 0 x3_2], .cells 92 [(.fn 48 [.ptr 3 0, .ptr 4 0])], .cells 28 ((cBx a1).map .p), .row 3 1 0 [[i6 0]]]
abbrev L6 (a2 : BoxD) (a3 : Nat) (a4 : Iqq) (a5 : Nat) (a6 : Iqq) (a7 : Nat) (a1 : BoxD) : List AB := [.cells 28 ((cBx a2).map .p), yI a3 a4, yI a5 (splice a6 a7 [0]), .cells 74 [.sl 2 a5 1 0 a7], .cells 92 [(.fn 48 [.ptr 3 0, .ptr 4 0])], .cells 28 ((cBx a1).map .p), .row 3 1 0 [[i6 0]]]
abbrev TD (g3 : Nat → AV) (a7 : Nat) (a1 a2 : BoxD) (a3 : Nat) (a4 : Iqq) (x3_0 : Nat) (x3_1 : Iqq) (x3_2 : Nat) : St := ⟨fr 30 g3 [(1, .ptr 3 0), (4, (i6 ((a7 : Nat) : Int))), (13, (.p (.lst 4 (Zb a1.kids))))], [.cells 28 ((cBx a2).map .p), yI a3 a4, yI x3_0 x3_1, .cells 74 [.sl 2 x3_0 1 0 x3_2], .cells 92 [(.fn 48 [.ptr 3 0, .ptr 4 0])], .cells 28 ((cBx a1).map .p), .row 3 1 0 [[i6 0]]]⟩
abbrev L7 (a2 : BoxD) (a3 : Nat) (a4 : Iqq) (a5 : Nat) (a6 : Iqq) (a7 : Nat) (a1 : BoxD) : List AB := [.cells 28 ((cBx a2).map .p), yI a3 a4, yI a5 a6, .cells 74 [.sl 2 a5 1 0 a7], .cells 92 [(.fn 48 [.ptr 3 0, .ptr 4 0])], .cells 28 ((cBx a1).map .p), .row 3 1 0 [[i6 0]]]
abbrev L8 (a2 : BoxD) (a3 : Nat) (a4 : Iqq) (x3_0 : Nat) (x3_1 : Iqq) (x3_2 : Nat) (a1 : BoxD) : List AB := [.cells 28 ((cBx a2).map .p), yI a3 a4, yI x3_0 x3_1, .cells 74 [.sl 2 x3_0 1 0 x3_2], .cells 92 [(.fn 48 [.ptr 3 0, .ptr 4 0])], .cells 28 ((cBx a1).map .p), .row 3 1 0 [[i6 0]]]
abbrev L9 (a2 : BoxD) (a3 : Nat) (a4 : Iqq) (a5 : Nat) (a6 : Iqq) (a7 : Nat) (a1 : BoxD) : List AB := [.cells 28 ((cBx a2).map .p), yI a3 a4, yI (a5 + 1) (a6.take a7 ++ [0]), .cells 74 [.sl 2 a5 1 0 a7], .cells 92 [(.fn 48 [.ptr 3 0, .ptr 4 0])], .cells 28 ((cBx a1).map .p), .row 3 1 0 [[i6 0]]]
theorem Ht (rF30_2 : VB) (hF30_2 : PL rF30_2) (a1 a2 : BoxD) (a3 : Nat) (a4 : Iqq) (a5 : Nat) (a6 : Iqq) (a7 : Nat) {r : R_F30_2} (h : UE rF30_2 a1 a2 a3 a4 a5 a6 a7 = some r) : ∀ hx : List AB, CS prg 48 [(.agg ((cBx a1).map .p)), .ptr 3 0, .ptr 4 0] ([.cells 28 ((cBx a2).map .p), yI a3 a4, yI a5 a6, .cells 74 [.sl 2 a5 1 0 a7], .cells 92 [(.fn 48 [.ptr 3 0, .ptr 4 0])]] ++ hx) = some (Hr a1 a2 a3 a4 a5 a6 a7 r, Hs a1 a2 a3 a4 a5 a6 a7 r ++ hx) := by
 unfold UE at h
 have q0 := ((lgr Zv) : lnA (.p (.lst 4 (Zb a1.kids))) = some (i6 (a1.kids.length : Int)))
 apply bi h <;> intro h1 h
 ·
  apply bi h <;> intro h2 h
  ·
   apply bn h; intro r3 h3 h
   cases r3 with
   | k0 x3_0 x3_1 x3_2 =>
    obtain ⟨g3, e3⟩ := SX rF30_2 hF30_2 ((a7 : Nat) : Int) a1 (a1.kids.length : Int) a2 a3 a4 (0, a5, (splice a6 a7 [0]), a7 + 1) _ h3
    apply bn h; intro x4 h4 h
    apply bn h; intro x5 h5 h
    rw [← sj h]
    exact fcF (m := 5) (v := (.tup [])) (h' := (WQ a2 a3 a4 x3_0 x3_1 x4 x3_2 a7 a1)) [(11, .r (.sl 2 a5 1 0 (a7 + 1)) (L6 a2 a3 a4 a5 a6 a7 a1)), (14, .v (i6 (a1.kids.length : Int))), (2000, .l (.brk 0) (TD g3 a7 a1 a2 a3 a4 x3_0 x3_1 x3_2)), (29, .v (.rp 2 x3_0 1 x4 0)), (1029, .r ud (WQ a2 a3 a4 x3_0 x3_1 x4 x3_2 a7 a1)), (6000, .d true)] (apc ((Vy (e := eI64) (xs := a6) (news := [0]) rfl (ZQ (e := eI64) (xs := [0]) rfl) rfl h1 h2) : appA (L7 a2 a3 a4 a5 a6 a7 a1) 3 1 8 (.sl 2 a5 1 0 a7) (.sl 6 0 1 0 1) = some ((.sl 2 a5 1 0 (a7 + 1)), L6 a2 a3 a4 a5 a6 a7 a1)) (apc q0 (apc (SV ((a7 : Nat) : Int) a1 (a1.kids.length : Int) a2 a3 a4 0 a5 (splice a6 a7 [0]) (a7 + 1)) (apc (e3 : Xk ((a7 : Nat) : Int) a1 (a1.kids.length : Int) a2 a3 a4 0 a5 (splice a6 a7 [0]) (a7 + 1) = some ((.brk 0), TD g3 a7 a1 a2 a3 a4 x3_0 x3_1 x3_2)) (apc ((ZO h4) : idxA 1 (.sl 2 x3_0 1 0 x3_2) (i6 ((a7 : Nat) : Int)) = some (.rp 2 x3_0 1 x4 0)) (apc (⟨ZX (v' := (w6 (((x3_2 : Nat) : Int) - ((a7 : Nat) : Int)))) rfl h5 rfl rfl (Nat.le_of_ble_eq_true rfl) rfl, rfl⟩ : stA (L8 a2 a3 a4 x3_0 x3_1 x3_2 a1) 1 (.rp 2 x3_0 1 x4 0) (i6 (w6 (((x3_2 : Nat) : Int) - ((a7 : Nat) : Int)))) = some (WQ a2 a3 a4 x3_0 x3_1 x4 x3_2 a7 a1) ∧ ud = ud) apn)))))) rfl (ac (ar (ar (ac (ac rfl))))) rfl (ac (ar (ar (ac (ac rfl))))) rfl (by kernel_rfl)
  ·
   apply bn h; intro r3 h3 h
   cases r3 with
   | k0 x3_0 x3_1 x3_2 =>
    obtain ⟨g3, e3⟩ := SX rF30_2 hF30_2 ((a7 : Nat) : Int) a1 (a1.kids.length : Int) a2 a3 a4 (0, a5 + 1, (a6.take a7 ++ [0]), a7 + 1) _ h3
    apply bn h; intro x4 h4 h
    apply bn h; intro x5 h5 h
    rw [← sj h]
    exact fcF (m := 5) (v := (.tup [])) (h' := (WQ a2 a3 a4 x3_0 x3_1 x4 x3_2 a7 a1)) [(11, .r (.sl 2 (a5 + 1) 1 0 (a7 + 1)) (L9 a2 a3 a4 a5 a6 a7 a1)), (14, .v (i6 (a1.kids.length : Int))), (2000, .l (.brk 0) (TD g3 a7 a1 a2 a3 a4 x3_0 x3_1 x3_2)), (29, .v (.rp 2 x3_0 1 x4 0)), (1029, .r ud (WQ a2 a3 a4 x3_0 x3_1 x4 x3_2 a7 a1)), (6000, .d true)] (apc ((Xe (e := eI64) (xs := a6) (news := [0]) rfl (ZQ (e := eI64) (xs := [0]) rfl) rfl h1 h2) : appA (L7 a2 a3 a4 a5 a6 a7 a1) 3 1 8 (.sl 2 a5 1 0 a7) (.sl 6 0 1 0 1) = some ((.sl 2 (a5 + 1) 1 0 (a7 + 1)), L9 a2 a3 a4 a5 a6 a7 a1)) (apc q0 (apc (SV ((a7 : Nat) : Int) a1 (a1.kids.length : Int) a2 a3 a4 0 (a5 + 1) (a6.take a7 ++ [0]) (a7 + 1)) (apc (e3 : Xk ((a7 : Nat) : Int) a1 (a1.kids.length : Int) a2 a3 a4 0 (a5 + 1) (a6.take a7 ++ [0]) (a7 + 1) = some ((.brk 0), TD g3 a7 a1 a2 a3 a4 x3_0 x3_1 x3_2)) (apc ((ZO h4) : idxA 1 (.sl 2 x3_0 1 0 x3_2) (i6 ((a7 : Nat) : Int)) = some (.rp 2 x3_0 1 x4 0)) (apc (⟨ZX (v' := (w6 (((x3_2 : Nat) : Int) - ((a7 : Nat) : Int)))) rfl h5 rfl rfl (Nat.le_of_ble_eq_true rfl) rfl, rfl⟩ : stA (L8 a2 a3 a4 x3_0 x3_1 x3_2 a1) 1 (.rp 2 x3_0 1 x4 0) (i6 (w6 (((x3_2 : Nat) : Int) - ((a7 : Nat) : Int)))) = some (WQ a2 a3 a4 x3_0 x3_1 x4 x3_2 a7 a1) ∧ ud = ud) apn)))))) rfl (ac (ar (ar (ac (ac rfl))))) rfl (ac (ar (ar (ac (ac rfl))))) rfl (by kernel_rfl)
 ·
  cases h
def RQ : Nat → VB
  | 0 => fun _ _ _ _ _ _ _ => none
  | Nf + 1 => UE (RQ Nf)
theorem G4 (Nf : Nat) : PL (RQ Nf) := by
  induction Nf with
  | zero => intro a1 a2 a3 a4 a5 a6 a7 r h; have h : (none : Option R_F30_2) = some r := h; cases h
  | succ Nf ih => intro a1 a2 a3 a4 a5 a6 a7 r h; exact Ht (RQ Nf) ih a1 a2 a3 a4 a5 a6 a7 h
def Ar (a1 : BoxD) (x0 : Iqq) : AV := (ls 1 eI64 x0)
def F26 (Nf : Nat) (a1 : BoxD) : Option Iqq :=
  ((RQ Nf a1 a1 0 ([]) 0 ([]) 0).bind fun r1 => match r1 with | .k0 x1_0 x1_1 x1_2 => (bif (decide (x1_2 ≤ x1_1.length)) then (some (x1_1.take x1_2)) else none))
abbrev Hu (a1 : BoxD) (x1_0 : Nat) (x1_1 : Iqq) (x1_2 : Nat) : List AB := [.cells 28 ((cBx a1).map .p), yI 0 ([]), yI x1_0 x1_1, .cells 74 [.sl 2 x1_0 1 0 x1_2], .cells 92 [(.fn 48 [.ptr 3 0, .ptr 4 0])]]
theorem Bx (Nf : Nat) (a1 : BoxD) {r : Iqq} (h : F26 Nf a1 = some r) : PR2 prg 40 [(.agg ((cBx a1).map .p))] (Ar a1 r) := by
 unfold F26 at h
 apply bn h; intro r1 h1 h
 cases r1 with
 | k0 x1_0 x1_1 x1_2 =>
  have q0 := ((G4 Nf a1 a1 0 ([]) 0 ([]) 0 h1 []) : CS prg 48 [(.agg ((cBx a1).map .p)), .ptr 3 0, .ptr 4 0] [.cells 28 ((cBx a1).map .p), yI0, yI0, .cells 74 [.sl 2 0 1 0 0], .cells 92 [(.fn 48 [.ptr 3 0, .ptr 4 0])]] = some ((.tup []), Hu a1 x1_0 x1_1 x1_2))
  have k1 := ka [(8, .r (.tup []) (Hu a1 x1_0 x1_1 x1_2))] (apc q0 apn)
  apply bi h <;> intro h2 h
  ·
   rw [← sj h]
   exact fpn (v := (.sl 2 x1_0 1 0 x1_2)) (h' := (Hu a1 x1_0 x1_1 x1_2)) (kH k1) (k1.b apn) (PG (e := eI64) rfl h2) rfl (PG (e := eI64) (getq rfl (I1 (fun _ => rfl))) h2) (by kernel_rfl)
  ·
   cases h
def Cg (a1 : BoxD) (a2 : Nat) (a3 : Tqq) (a4 : Bool) (a5 a6 a7 : Nat) (a8 : Oqq) (a9 : Iqq) (a10 a11 : Int) (a12 : Bool) (a13 : Iqq) (x0 : Int) : AV := (i6 x0)
def Ch (a1 : BoxD) (a2 : Nat) (a3 : Tqq) (a4 : Bool) (a5 a6 a7 : Nat) (a8 : Oqq) (a9 : Iqq) (a10 a11 : Int) (a12 : Bool) (a13 : Iqq) (x0 : Int) : List AB := [.cells 28 ((cBx a1).map .p), yT a2 a3, .cells 83 [sp a4 2 0, .sl 3 a5 1 0 a6, .sl 1 a2 7 0 a7, ls 1 Zc a8, ls 1 eI64 a9, i6 a10, i6 a11, vb a12], yU a5 a13]
def G5 (a6 : Nat) : Option Int :=
  (some ((a6 : Nat) : Int))
theorem G6 (a1 : BoxD) (a2 : Nat) (a3 : Tqq) (a4 : Bool) (a5 a6 a7 : Nat) (a8 : Oqq) (a9 : Iqq) (a10 a11 : Int) (a12 : Bool) (a13 : Iqq) {r : Int} (h : G5 a6 = some r) : CS prg 49 [.ptr 2 0] [.cells 28 ((cBx a1).map .p), yT a2 a3, .cells 83 [sp a4 2 0, .sl 3 a5 1 0 a6, .sl 1 a2 7 0 a7, ls 1 Zc a8, ls 1 eI64 a9, i6 a10, i6 a11, vb a12], yU a5 a13] = some (Cg a1 a2 a3 a4 a5 a6 a7 a8 a9 a10 a11 a12 a13 r, Ch a1 a2 a3 a4 a5 a6 a7 a8 a9 a10 a11 a12 a13 r) := by
 unfold G5 at h
 rw [← sj h]
 exact fc [] apn
def Ci (a1 : BoxD) (a2 : Nat) (a3 : Tqq) (a4 : Bool) (a5 a6 a7 : Nat) (a8 : Oqq) (a9 : Iqq) (a10 a11 : Int) (a12 : Bool) (a13 : Iqq) (a14 : ThingD) (x0 : Bool) : AV := (.tup [])
def Cj (a1 : BoxD) (a2 : Nat) (a3 : Tqq) (a4 : Bool) (a5 a6 a7 : Nat) (a8 : Oqq) (a9 : Iqq) (a10 a11 : Int) (a12 : Bool) (a13 : Iqq) (a14 : ThingD) (x0 : Bool) : List AB := [.cells 28 ((cBx a1).map .p), yT a2 a3, .cells 83 [sp x0 2 0, .sl 3 a5 1 0 a6, .sl 1 a2 7 0 a7, ls 1 Zc a8, ls 1 eI64 a9, i6 a10, i6 a11, vb a12], yU a5 a13, .row 28 4 0 (ra cBx []), .cells 77 ((Za a14).map .p)]
def MI (a4 : Bool) : Option Bool :=
  (bif a4 then (some a4) else (some true))
abbrev TE (a1 : BoxD) (a2 : Nat) (a3 : Tqq) (a4 : Bool) (a5 a6 a7 : Nat) (a8 : Oqq) (a9 : Iqq) (a10 a11 : Int) (a12 : Bool) (a13 : Iqq) (a14 : ThingD) : List AB := [.cells 28 ((cBx a1).map .p), yT a2 a3, .cells 83 [sp a4 2 0, .sl 3 a5 1 0 a6, .sl 1 a2 7 0 a7, ls 1 Zc a8, ls 1 eI64 a9, i6 a10, i6 a11, vb a12], yU a5 a13, .row 28 4 0 (ra cBx []), .cells 77 ((Za a14).map .p)]
theorem PM (a1 : BoxD) (a2 : Nat) (a3 : Tqq) (a4 : Bool) (a5 a6 a7 : Nat) (a8 : Oqq) (a9 : Iqq) (a10 a11 : Int) (a12 : Bool) (a13 : Iqq) (a14 : ThingD) {r : Bool} (h : MI a4 = some r) : CS prg 63 [.ptr 2 0] [.cells 28 ((cBx a1).map .p), yT a2 a3, .cells 83 [sp a4 2 0, .sl 3 a5 1 0 a6, .sl 1 a2 7 0 a7, ls 1 Zc a8, ls 1 eI64 a9, i6 a10, i6 a11, vb a12], yU a5 a13, .row 28 4 0 (ra cBx []), .cells 77 ((Za a14).map .p)] = some (Ci a1 a2 a3 a4 a5 a6 a7 a8 a9 a10 a11 a12 a13 a14 r, Cj a1 a2 a3 a4 a5 a6 a7 a8 a9 a10 a11 a12 a13 a14 r) := by
 unfold MI at h
 apply bi h <;> intro h1 h
 ·
  have q0 := (((rfl : ldA (TE a1 a2 a3 a4 a5 a6 a7 a8 a9 a10 a11 a12 a13 a14) .false 1 (.ptr 2 0) = some (sp a4 2 0)).trans (congrArg some (sp_t h1))) : ldA (TE a1 a2 a3 a4 a5 a6 a7 a8 a9 a10 a11 a12 a13 a14) .false 1 (.ptr 2 0) = some (.ptr 2 0))
  rw [← sj h]
  exact fc [(5, .v (.ptr 2 0)), (17, .v (.ptr 2 0))] (apc q0 (apc q0 apn))
 ·
  rw [← sj h]
  exact fc [(5, .v (.p (.val (.pointer .none))))] (apc (((rfl : ldA (TE a1 a2 a3 a4 a5 a6 a7 a8 a9 a10 a11 a12 a13 a14) .false 1 (.ptr 2 0) = some (sp a4 2 0)).trans (congrArg some (sp_f h1))) : ldA (TE a1 a2 a3 a4 a5 a6 a7 a8 a9 a10 a11 a12 a13 a14) .false 1 (.ptr 2 0) = some (.p (.val (.pointer .none)))) apn)
inductive R_F34_7 where
  | k0 (x0 : Int) (x1 : Bool) (x2 : Nat) (x3 : Iqq)
def Ck (a1 : ByteArray) (a2 : BoxD) (a3 : Nat) (a4 : Tqq) (a5 : Bool) (a6 a7 a8 : Nat) (a9 : Oqq) (a10 : Iqq) (a11 a12 : Int) (a13 : Bool) (a14 : Iqq) (a15 : ThingD) (r : R_F34_7) : AV := match r with | .k0 x0 x1 x2 x3 => (.tup [i6 x0, (.p (.val .nilIface))])
def Cl (a1 : ByteArray) (a2 : BoxD) (a3 : Nat) (a4 : Tqq) (a5 : Bool) (a6 a7 a8 : Nat) (a9 : Oqq) (a10 : Iqq) (a11 a12 : Int) (a13 : Bool) (a14 : Iqq) (a15 : ThingD) (r : R_F34_7) : List AB := match r with | .k0 x0 x1 x2 x3 => [.cells 28 ((cBx a2).map .p), yT a3 a4, .cells 83 [sp x1 2 0, (.sl 3 x2 1 0 (a7 + (Zk a1).length)), .sl 1 a3 7 0 a8, ls 1 Zc a9, ls 1 eI64 a10, i6 a11, i6 a12, vb a13], yU x2 x3, .row 28 4 0 (ra cBx []), .cells 77 ((Za a15).map .p)]
def JA (a1 : ByteArray) (a5 : Bool) (a6 a7 : Nat) (a14 : Iqq) : Option R_F34_7 :=
  ((MI a5).bind fun x1 => (bif (apOk a7 (Zk a1).length a14.length 1) then (bif (decide (a7 + (Zk a1).length ≤ a14.length)) then (some (.k0 (a1.size : Int) x1 a6 (splice a14 a7 (Zk a1)))) else (some (.k0 (a1.size : Int) x1 (a6 + 1) (a14.take a7 ++ (Zk a1))))) else none))
abbrev TF (a2 : BoxD) (a3 : Nat) (a4 : Tqq) (x1 : Bool) (a6 a7 a8 : Nat) (a9 : Oqq) (a10 : Iqq) (a11 a12 : Int) (a13 : Bool) (a14 : Iqq) (a15 : ThingD) : List AB := [.cells 28 ((cBx a2).map .p), yT a3 a4, .cells 83 [sp x1 2 0, .sl 3 a6 1 0 a7, .sl 1 a3 7 0 a8, ls 1 Zc a9, ls 1 eI64 a10, i6 a11, i6 a12, vb a13], yU a6 a14, .row 28 4 0 (ra cBx []), .cells 77 ((Za a15).map .p)]
abbrev Ka (a2 : BoxD) (a3 : Nat) (a4 : Tqq) (x1 : Bool) (a6 a7 a8 : Nat) (a9 : Oqq) (a10 : Iqq) (a11 a12 : Int) (a13 : Bool) (a14 : Iqq) (a1 : ByteArray) (a15 : ThingD) : List AB := [.cells 28 ((cBx a2).map .p), yT a3 a4, .cells 83 [sp x1 2 0, .sl 3 a6 1 0 a7, .sl 1 a3 7 0 a8, ls 1 Zc a9, ls 1 eI64 a10, i6 a11, i6 a12, vb a13], yU a6 (splice a14 a7 (Zk a1)), .row 28 4 0 (ra cBx []), .cells 77 ((Za a15).map .p)]
abbrev Kb (a2 : BoxD) (a3 : Nat) (a4 : Tqq) (x1 : Bool) (a6 a7 a8 : Nat) (a9 : Oqq) (a10 : Iqq) (a11 a12 : Int) (a13 : Bool) (a14 : Iqq) (a1 : ByteArray) (a15 : ThingD) : List AB := [.cells 28 ((cBx a2).map .p), yT a3 a4, .cells 83 [sp x1 2 0, .sl 3 a6 1 0 a7, .sl 1 a3 7 0 a8, ls 1 Zc a9, ls 1 eI64 a10, i6 a11, i6 a12, vb a13], yU (a6 + 1) (a14.take a7 ++ (Zk a1)), .row 28 4 0 (ra cBx []), .cells 77 ((Za a15).map .p)]
theorem Kc (a1 : ByteArray) (a2 : BoxD) (a3 : Nat) (a4 : Tqq) (a5 : Bool) (a6 a7 a8 : Nat) (a9 : Oqq) (a10 : Iqq) (a11 a12 : Int) (a13 : Bool) (a14 : Iqq) (a15 : ThingD) {r : R_F34_7} (h : JA a1 a5 a6 a7 a14 = some r) : CS prg 52 [.ptr 2 0, vs a1] [.cells 28 ((cBx a2).map .p), yT a3 a4, .cells 83 [sp a5 2 0, .sl 3 a6 1 0 a7, .sl 1 a3 7 0 a8, ls 1 Zc a9, ls 1 eI64 a10, i6 a11, i6 a12, vb a13], yU a6 a14, .row 28 4 0 (ra cBx []), .cells 77 ((Za a15).map .p)] = some (Ck a1 a2 a3 a4 a5 a6 a7 a8 a9 a10 a11 a12 a13 a14 a15 r, Cl a1 a2 a3 a4 a5 a6 a7 a8 a9 a10 a11 a12 a13 a14 a15 r) := by
 unfold JA at h
 apply bn h; intro x1 h1 h
 have q0 := ((PM a2 a3 a4 a5 a6 a7 a8 a9 a10 a11 a12 a13 a14 a15 h1) : CS prg 63 [.ptr 2 0] [.cells 28 ((cBx a2).map .p), yT a3 a4, .cells 83 [sp a5 2 0, .sl 3 a6 1 0 a7, .sl 1 a3 7 0 a8, ls 1 Zc a9, ls 1 eI64 a10, i6 a11, i6 a12, vb a13], yU a6 a14, .row 28 4 0 (ra cBx []), .cells 77 ((Za a15).map .p)] = some ((.tup []), TF a2 a3 a4 x1 a6 a7 a8 a9 a10 a11 a12 a13 a14 a15))
 have k1 := ka [(7, .r (.tup []) (TF a2 a3 a4 x1 a6 a7 a8 a9 a10 a11 a12 a13 a14 a15))] (apc q0 apn)
 apply bi h <;> intro h2 h
 ·
  apply bi h <;> intro h3 h
  ·
   rw [← sj h]
   exact fc ([(14, .r (.sl 3 a6 1 0 (a7 + (Zk a1).length)) (Ka a2 a3 a4 x1 a6 a7 a8 a9 a10 a11 a12 a13 a14 a1 a15))] ++ kH k1) (k1.b (apc ((Vy (e := eU8) (xs := a14) (news := (Zk a1)) rfl LR rfl h2 h3) : appA (TF a2 a3 a4 x1 a6 a7 a8 a9 a10 a11 a12 a13 a14 a15) 5 1 1 (.sl 3 a6 1 0 a7) (vs a1) = some ((.sl 3 a6 1 0 (a7 + (Zk a1).length)), Ka a2 a3 a4 x1 a6 a7 a8 a9 a10 a11 a12 a13 a14 a1 a15)) apn))
  ·
   rw [← sj h]
   exact fc ([(14, .r (.sl 3 (a6 + 1) 1 0 (a7 + (Zk a1).length)) (Kb a2 a3 a4 x1 a6 a7 a8 a9 a10 a11 a12 a13 a14 a1 a15))] ++ kH k1) (k1.b (apc ((Xe (e := eU8) (xs := a14) (news := (Zk a1)) rfl LR rfl h2 h3) : appA (TF a2 a3 a4 x1 a6 a7 a8 a9 a10 a11 a12 a13 a14 a15) 5 1 1 (.sl 3 a6 1 0 a7) (vs a1) = some ((.sl 3 (a6 + 1) 1 0 (a7 + (Zk a1).length)), Kb a2 a3 a4 x1 a6 a7 a8 a9 a10 a11 a12 a13 a14 a1 a15)) apn))
 ·
  cases h
inductive R_F34_5 where
  | k0 (x0 : Int) (x1 : Bool) (x2 : Nat) (x3 : Iqq)
def Cm (a1 : ThingD) (a2 : BoxD) (a3 : Nat) (a4 : Tqq) (a5 : Bool) (a6 a7 a8 : Nat) (a9 : Oqq) (a10 : Iqq) (a11 a12 : Int) (a13 : Bool) (a14 : Iqq) (r : R_F34_5) : AV := match r with | .k0 x0 x1 x2 x3 => (.tup [i6 x0, (.p (.val .nilIface))])
def Cn (a1 : ThingD) (a2 : BoxD) (a3 : Nat) (a4 : Tqq) (a5 : Bool) (a6 a7 a8 : Nat) (a9 : Oqq) (a10 : Iqq) (a11 a12 : Int) (a13 : Bool) (a14 : Iqq) (r : R_F34_5) : List AB := match r with | .k0 x0 x1 x2 x3 => [.cells 28 ((cBx a2).map .p), yT a3 a4, .cells 83 [sp x1 2 0, (.sl 3 x2 1 0 (a7 + (Zk a1.text).length)), .sl 1 a3 7 0 a8, ls 1 Zc a9, ls 1 eI64 a10, i6 a11, i6 a12, vb a13], yU x2 x3, .row 28 4 0 (ra cBx []), .cells 77 ((Za a1).map .p)]
def MJ (a1 : ThingD) (a5 : Bool) (a6 a7 : Nat) (a14 : Iqq) : Option R_F34_5 :=
  ((MI a5).bind fun x1 => (bif (apOk a7 (Zk a1.text).length a14.length 1) then (bif (decide (a7 + (Zk a1.text).length ≤ a14.length)) then (some (.k0 (a1.text.size : Int) x1 a6 (splice a14 a7 (Zk a1.text)))) else (some (.k0 (a1.text.size : Int) x1 (a6 + 1) (a14.take a7 ++ (Zk a1.text))))) else none))
abbrev TG (a2 : BoxD) (a3 : Nat) (a4 : Tqq) (x1 : Bool) (a6 a7 a8 : Nat) (a9 : Oqq) (a10 : Iqq) (a11 a12 : Int) (a13 : Bool) (a14 : Iqq) (a1 : ThingD) : List AB := [.cells 28 ((cBx a2).map .p), yT a3 a4, .cells 83 [sp x1 2 0, .sl 3 a6 1 0 a7, .sl 1 a3 7 0 a8, ls 1 Zc a9, ls 1 eI64 a10, i6 a11, i6 a12, vb a13], yU a6 a14, .row 28 4 0 (ra cBx []), .cells 77 ((Za a1).map .p)]
abbrev Kd (a2 : BoxD) (a3 : Nat) (a4 : Tqq) (x1 : Bool) (a6 a7 a8 : Nat) (a9 : Oqq) (a10 : Iqq) (a11 a12 : Int) (a13 : Bool) (a14 : Iqq) (a1 : ThingD) : List AB := [.cells 28 ((cBx a2).map .p), yT a3 a4, .cells 83 [sp x1 2 0, .sl 3 a6 1 0 a7, .sl 1 a3 7 0 a8, ls 1 Zc a9, ls 1 eI64 a10, i6 a11, i6 a12, vb a13], yU a6 (splice a14 a7 (Zk a1.text)), .row 28 4 0 (ra cBx []), .cells 77 ((Za a1).map .p)]
abbrev Ke (a2 : BoxD) (a3 : Nat) (a4 : Tqq) (x1 : Bool) (a6 a7 a8 : Nat) (a9 : Oqq) (a10 : Iqq) (a11 a12 : Int) (a13 : Bool) (a14 : Iqq) (a1 : ThingD) : List AB := [.cells 28 ((cBx a2).map .p), yT a3 a4, .cells 83 [sp x1 2 0, .sl 3 a6 1 0 a7, .sl 1 a3 7 0 a8, ls 1 Zc a9, ls 1 eI64 a10, i6 a11, i6 a12, vb a13], yU (a6 + 1) (a14.take a7 ++ (Zk a1.text)), .row 28 4 0 (ra cBx []), .cells 77 ((Za a1).map .p)]
theorem PN (a1 : ThingD) (a2 : BoxD) (a3 : Nat) (a4 : Tqq) (a5 : Bool) (a6 a7 a8 : Nat) (a9 : Oqq) (a10 : Iqq) (a11 a12 : Int) (a13 : Bool) (a14 : Iqq) {r : R_F34_5} (h : MJ a1 a5 a6 a7 a14 = some r) : CS prg 52 [.ptr 2 0, vs a1.text] [.cells 28 ((cBx a2).map .p), yT a3 a4, .cells 83 [sp a5 2 0, .sl 3 a6 1 0 a7, .sl 1 a3 7 0 a8, ls 1 Zc a9, ls 1 eI64 a10, i6 a11, i6 a12, vb a13], yU a6 a14, .row 28 4 0 (ra cBx []), .cells 77 ((Za a1).map .p)] = some (Cm a1 a2 a3 a4 a5 a6 a7 a8 a9 a10 a11 a12 a13 a14 r, Cn a1 a2 a3 a4 a5 a6 a7 a8 a9 a10 a11 a12 a13 a14 r) := by
 unfold MJ at h
 apply bn h; intro x1 h1 h
 have q0 := ((PM a2 a3 a4 a5 a6 a7 a8 a9 a10 a11 a12 a13 a14 a1 h1) : CS prg 63 [.ptr 2 0] [.cells 28 ((cBx a2).map .p), yT a3 a4, .cells 83 [sp a5 2 0, .sl 3 a6 1 0 a7, .sl 1 a3 7 0 a8, ls 1 Zc a9, ls 1 eI64 a10, i6 a11, i6 a12, vb a13], yU a6 a14, .row 28 4 0 (ra cBx []), .cells 77 ((Za a1).map .p)] = some ((.tup []), TG a2 a3 a4 x1 a6 a7 a8 a9 a10 a11 a12 a13 a14 a1))
 have k1 := ka [(7, .r (.tup []) (TG a2 a3 a4 x1 a6 a7 a8 a9 a10 a11 a12 a13 a14 a1))] (apc q0 apn)
 apply bi h <;> intro h2 h
 ·
  apply bi h <;> intro h3 h
  ·
   rw [← sj h]
   exact fc ([(14, .r (.sl 3 a6 1 0 (a7 + (Zk a1.text).length)) (Kd a2 a3 a4 x1 a6 a7 a8 a9 a10 a11 a12 a13 a14 a1))] ++ kH k1) (k1.b (apc ((Vy (e := eU8) (xs := a14) (news := (Zk a1.text)) rfl LR rfl h2 h3) : appA (TG a2 a3 a4 x1 a6 a7 a8 a9 a10 a11 a12 a13 a14 a1) 5 1 1 (.sl 3 a6 1 0 a7) (vs a1.text) = some ((.sl 3 a6 1 0 (a7 + (Zk a1.text).length)), Kd a2 a3 a4 x1 a6 a7 a8 a9 a10 a11 a12 a13 a14 a1)) apn))
  ·
   rw [← sj h]
   exact fc ([(14, .r (.sl 3 (a6 + 1) 1 0 (a7 + (Zk a1.text).length)) (Ke a2 a3 a4 x1 a6 a7 a8 a9 a10 a11 a12 a13 a14 a1))] ++ kH k1) (k1.b (apc ((Xe (e := eU8) (xs := a14) (news := (Zk a1.text)) rfl LR rfl h2 h3) : appA (TG a2 a3 a4 x1 a6 a7 a8 a9 a10 a11 a12 a13 a14 a1) 5 1 1 (.sl 3 a6 1 0 a7) (vs a1.text) = some ((.sl 3 (a6 + 1) 1 0 (a7 + (Zk a1.text).length)), Ke a2 a3 a4 x1 a6 a7 a8 a9 a10 a11 a12 a13 a14 a1)) apn))
 ·
  cases h
inductive E_L49_0_2 where
  | k0 (x0 : Int)
  | k1
section
variable (a1 : ThingD)
def Yo (v1 : Int) : Option (E_L49_0_2 ⊕ (Int)) :=
  (bif (decide (v1 ≥ 0)) then ((getI a1.text.data.toList v1).bind fun x2 => (bif ((x2.toNat : Int) == 10) then (some (.inl (.k0 v1))) else (some (.inr ((IntKind.wrap .i64 (v1 - 1))))))) else (some (.inl (.k1))))
def O3 (v1 : Int) : St := ⟨fr 19 ug [(0, vs a1.text), (1, vi .u8 10), (5, i6 v1)], []⟩
theorem O4 (v1 : Int) : okT 0 (O3 a1 v1).h = true := (ZB rfl rfl)
abbrev Xl (v1 : Int) := evH prg 0 [0, 1, 5] Hd (O3 a1 v1)
def SY (e : E_L49_0_2) (r : Option (Out × St)) : Prop := match e with | .k0 x0 => ∃ g y, r = some (.ret, ⟨fr 19 g [(4, i6 x0)], y⟩) | .k1 => ∃ g, r = some ((.brk 0), ⟨fr 19 g [(0, vs a1.text)], []⟩)
theorem JB (v1 : Int) {r : E_L49_0_2 ⊕ (Int)} (h : Yo a1 v1 = some r) : OkR (fun e => SY a1 e (Xl a1 v1)) (fun s => Xl a1 v1 = Xl a1 s) r := by
 unfold Yo at h
 apply bi h <;> intro h1 h
 ·
  apply bn h; intro x2 h2 h
  have q0 := ((OJ h2) : ixS (vs a1.text) (i6 v1) = some (vi .u8 (x2.toNat : Int)))
  have k1 := ka [(10, .d true), (15, .v (vi .u8 (x2.toNat : Int)))] (av h1 (apc q0 apn))
  apply bi h <;> intro h3 h
  ·
   rw [← sj h]
   exact xy ([(17, .d true), (6000, .d true)] ++ kH k1) (k1.b (av h3 apn))
  ·
   rw [← sj h]
   exact rn ([(17, .d false), (6000, .d true)] ++ kH k1) (k1.b (av h3 (apc (O4 a1 (w6 (v1 - 1))) apn)))
 ·
  rw [← sj h]
  exact xb [(10, .d false), (6000, .d true)] (av h1 apn)
theorem SZ (s0 : Int) (e : E_L49_0_2) (h : runL (fun s => Yo a1 s) s0 = some e) : SY a1 e (Xl a1 s0) := by
  have q := @Zg (Int) E_L49_0_2 (fun s => Yo a1 s) (fun s => Xl a1 s) (SY a1) (fun s r h => JB a1 s h) s0 e h
  exact q
end
def Co (a1 : ThingD) (x0 : Int) : AV := (i6 x0)
def Hv (a1 : ThingD) : Option Int :=
  ((runL (fun s => Yo a1 s) ((IntKind.wrap .i64 ((a1.text.size : Int) - 1)))).bind fun r1 => match r1 with | .k0 x1_0 => (some x1_0) | .k1 => (some (-1)))
theorem G7 (a1 : ThingD) {r : Int} (h : Hv a1 = some r) : PR1 prg 71 [vs a1.text, vi .u8 10] (Co a1 r) := by
 unfold Hv at h
 have q0 := (O4 a1 (w6 ((a1.text.size : Int) - 1)))
 apply bn h; intro r1 h1 h
 cases r1 with
 | k0 x1_0 =>
  obtain ⟨g1, y1, e1⟩ := SZ a1 ((w6 ((a1.text.size : Int) - 1))) _ h1
  rw [← sj h]
  exact fq [(2000, .l .ret ⟨fr 19 g1 [(4, i6 x1_0)], y1⟩), (6000, .d true)] (apc q0 (apc (e1 : Xl a1 (w6 ((a1.text.size : Int) - 1)) = some (.ret, ⟨fr 19 g1 [(4, i6 x1_0)], y1⟩)) apn))
 | k1 =>
  obtain ⟨g1, e1⟩ := SZ a1 ((w6 ((a1.text.size : Int) - 1))) _ h1
  rw [← sj h]
  exact fq [(2000, .l (.brk 0) ⟨fr 19 g1 [(0, vs a1.text)], []⟩), (6000, .d true)] (apc q0 (apc (e1 : Xl a1 (w6 ((a1.text.size : Int) - 1)) = some ((.brk 0), ⟨fr 19 g1 [(0, vs a1.text)], []⟩)) apn))
def Cp (a1 : ThingD) (x0 : Int) : AV := (i6 x0)
def Tl (a1 : ThingD) : Option Int :=
  ((Hv a1).bind fun x1 => (some x1))
theorem PO (a1 : ThingD) {r : Int} (h : Tl a1 = some r) : PR1 prg 61 [vs a1.text, vi .u8 10] (Cp a1 r) := by
 unfold Tl at h
 apply bn h; intro x1 h1 h
 rw [← sj h]
 exact fq [(7, .v (i6 x1))] (apc (((G7 a1 h1).cp rfl _) : CP prg 71 [vs a1.text, vi .u8 10] [] = some (i6 x1)) apn)
inductive R_F32_4 where
  | k0 (x0 : Bool) (x1 x2 : Nat) (x3 : Int) (x4 : Bool) (x5 : Iqq)
def Cq (a1 : ThingD) (a2 : BoxD) (a3 : Nat) (a4 : Tqq) (a5 : Bool) (a6 a7 a8 : Nat) (a9 : Oqq) (a10 : Iqq) (a11 a12 : Int) (a13 : Bool) (a14 : Iqq) (r : R_F32_4) : AV := match r with | .k0 x0 x1 x2 x3 x4 x5 => (.tup [])
def Cr (a1 : ThingD) (a2 : BoxD) (a3 : Nat) (a4 : Tqq) (a5 : Bool) (a6 a7 a8 : Nat) (a9 : Oqq) (a10 : Iqq) (a11 a12 : Int) (a13 : Bool) (a14 : Iqq) (r : R_F32_4) : List AB := match r with | .k0 x0 x1 x2 x3 x4 x5 => [.cells 28 ((cBx a2).map .p), yT a3 a4, .cells 83 [sp x0 2 0, .sl 3 x1 1 0 x2, .sl 1 a3 7 0 a8, ls 1 Zc a9, ls 1 eI64 a10, i6 a11, i6 x3, vb x4], yU x1 x5, .row 28 4 0 (ra cBx []), .cells 77 ((Za a1).map .p)]
def Hw (a1 : ThingD) (a5 : Bool) (a6 a7 : Nat) (a12 : Int) (a13 : Bool) (a14 : Iqq) : Option R_F32_4 :=
  (bif (a1.text.toList == Eqq.toList) then (some (.k0 a5 a6 a7 a12 a13 a14)) else (bif a13 then ((getI a1.text.data.toList 0).bind fun x3 => (bif ((x3.toNat : Int) != 10) then ((F35 (⟨([32] : List UInt8).toArray⟩ : ByteArray) a1.depth).bind fun x5 => ((JA x5 a5 a6 a7 a14).bind fun r6 => match r6 with | .k0 x6_0 x6_1 x6_2 x6_3 => ((MJ a1 x6_1 x6_2 (a7 + (Zk x5).length) x6_3).bind fun r7 => match r7 with | .k0 x7_0 x7_1 x7_2 x7_3 => ((Tl a1).bind fun x8 => (bif (x8 == (IntKind.wrap .i64 ((a1.text.size : Int) - 1))) then (some (.k0 x7_1 x7_2 ((a7 + (Zk x5).length) + (Zk a1.text).length) a1.depth (x8 == (IntKind.wrap .i64 ((a1.text.size : Int) - 1))) x7_3)) else (bif (decide (x8 ≥ 0)) then (some (.k0 x7_1 x7_2 ((a7 + (Zk x5).length) + (Zk a1.text).length) (IntKind.wrap .i64 ((IntKind.wrap .i64 ((a1.text.size : Int) - 1)) - x8)) (x8 == (IntKind.wrap .i64 ((a1.text.size : Int) - 1))) x7_3)) else (some (.k0 x7_1 x7_2 ((a7 + (Zk x5).length) + (Zk a1.text).length) (IntKind.wrap .i64 (a12 + (a1.text.size : Int))) (x8 == (IntKind.wrap .i64 ((a1.text.size : Int) - 1))) x7_3)))))))) else ((MJ a1 a5 a6 a7 a14).bind fun r5 => match r5 with | .k0 x5_0 x5_1 x5_2 x5_3 => ((Tl a1).bind fun x6 => (bif (x6 == (IntKind.wrap .i64 ((a1.text.size : Int) - 1))) then (some (.k0 x5_1 x5_2 (a7 + (Zk a1.text).length) a1.depth (x6 == (IntKind.wrap .i64 ((a1.text.size : Int) - 1))) x5_3)) else (bif (decide (x6 ≥ 0)) then (some (.k0 x5_1 x5_2 (a7 + (Zk a1.text).length) (IntKind.wrap .i64 ((IntKind.wrap .i64 ((a1.text.size : Int) - 1)) - x6)) (x6 == (IntKind.wrap .i64 ((a1.text.size : Int) - 1))) x5_3)) else (some (.k0 x5_1 x5_2 (a7 + (Zk a1.text).length) (IntKind.wrap .i64 (a12 + (a1.text.size : Int))) (x6 == (IntKind.wrap .i64 ((a1.text.size : Int) - 1))) x5_3)))))))) else ((MJ a1 a5 a6 a7 a14).bind fun r3 => match r3 with | .k0 x3_0 x3_1 x3_2 x3_3 => ((Tl a1).bind fun x4 => (bif (x4 == (IntKind.wrap .i64 ((a1.text.size : Int) - 1))) then (some (.k0 x3_1 x3_2 (a7 + (Zk a1.text).length) a1.depth (x4 == (IntKind.wrap .i64 ((a1.text.size : Int) - 1))) x3_3)) else (bif (decide (x4 ≥ 0)) then (some (.k0 x3_1 x3_2 (a7 + (Zk a1.text).length) (IntKind.wrap .i64 ((IntKind.wrap .i64 ((a1.text.size : Int) - 1)) - x4)) (x4 == (IntKind.wrap .i64 ((a1.text.size : Int) - 1))) x3_3)) else (some (.k0 x3_1 x3_2 (a7 + (Zk a1.text).length) (IntKind.wrap .i64 (a12 + (a1.text.size : Int))) (x4 == (IntKind.wrap .i64 ((a1.text.size : Int) - 1))) x3_3))))))))
abbrev TH (a2 : BoxD) (a3 : Nat) (a4 : Tqq) (a5 : Bool) (a6 a7 a8 : Nat) (a9 : Oqq) (a10 : Iqq) (a11 a12 : Int) (a13 : Bool) (a14 : Iqq) (a1 : ThingD) : List AB := [.cells 28 ((cBx a2).map .p), yT a3 a4, .cells 83 [sp a5 2 0, .sl 3 a6 1 0 a7, .sl 1 a3 7 0 a8, ls 1 Zc a9, ls 1 eI64 a10, i6 a11, i6 a12, vb a13], yU a6 a14, .row 28 4 0 (ra cBx []), .cells 77 ((Za a1).map .p)]
abbrev PP (a2 : BoxD) (a3 : Nat) (a4 : Tqq) (x6_1 : Bool) (x6_2 a7 : Nat) (x5 : ByteArray) (a8 : Nat) (a9 : Oqq) (a10 : Iqq) (a11 a12 : Int) (a13 : Bool) (x6_3 : Iqq) (a1 : ThingD) : List AB := [.cells 28 ((cBx a2).map .p), yT a3 a4, .cells 83 [sp x6_1 2 0, (.sl 3 x6_2 1 0 (a7 + (Zk x5).length)), .sl 1 a3 7 0 a8, ls 1 Zc a9, ls 1 eI64 a10, i6 a11, i6 a12, vb a13], yU x6_2 x6_3, .row 28 4 0 (ra cBx []), .cells 77 ((Za a1).map .p)]
abbrev PQ (a2 : BoxD) (a3 : Nat) (a4 : Tqq) (x7_1 : Bool) (x7_2 a7 : Nat) (x5 : ByteArray) (a1 : ThingD) (a8 : Nat) (a9 : Oqq) (a10 : Iqq) (a11 a12 : Int) (a13 : Bool) (x7_3 : Iqq) : List AB := [.cells 28 ((cBx a2).map .p), yT a3 a4, .cells 83 [sp x7_1 2 0, (.sl 3 x7_2 1 0 ((a7 + (Zk x5).length) + (Zk a1.text).length)), .sl 1 a3 7 0 a8, ls 1 Zc a9, ls 1 eI64 a10, i6 a11, i6 a12, vb a13], yU x7_2 x7_3, .row 28 4 0 (ra cBx []), .cells 77 ((Za a1).map .p)]
abbrev PS (a2 : BoxD) (a3 : Nat) (a4 : Tqq) (x5_1 : Bool) (x5_2 a7 : Nat) (a1 : ThingD) (a8 : Nat) (a9 : Oqq) (a10 : Iqq) (a11 a12 : Int) (a13 : Bool) (x5_3 : Iqq) : List AB := [.cells 28 ((cBx a2).map .p), yT a3 a4, .cells 83 [sp x5_1 2 0, (.sl 3 x5_2 1 0 (a7 + (Zk a1.text).length)), .sl 1 a3 7 0 a8, ls 1 Zc a9, ls 1 eI64 a10, i6 a11, i6 a12, vb a13], yU x5_2 x5_3, .row 28 4 0 (ra cBx []), .cells 77 ((Za a1).map .p)]
abbrev PT (a2 : BoxD) (a3 : Nat) (a4 : Tqq) (x3_1 : Bool) (x3_2 a7 : Nat) (a1 : ThingD) (a8 : Nat) (a9 : Oqq) (a10 : Iqq) (a11 a12 : Int) (a13 : Bool) (x3_3 : Iqq) : List AB := [.cells 28 ((cBx a2).map .p), yT a3 a4, .cells 83 [sp x3_1 2 0, (.sl 3 x3_2 1 0 (a7 + (Zk a1.text).length)), .sl 1 a3 7 0 a8, ls 1 Zc a9, ls 1 eI64 a10, i6 a11, i6 a12, vb a13], yU x3_2 x3_3, .row 28 4 0 (ra cBx []), .cells 77 ((Za a1).map .p)]
theorem G8 (a1 : ThingD) (a2 : BoxD) (a3 : Nat) (a4 : Tqq) (a5 : Bool) (a6 a7 a8 : Nat) (a9 : Oqq) (a10 : Iqq) (a11 a12 : Int) (a13 : Bool) (a14 : Iqq) {r : R_F32_4} (h : Hw a1 a5 a6 a7 a12 a13 a14 = some r) : CS prg 50 [.ptr 2 0, vs a1.text, i6 a1.depth] [.cells 28 ((cBx a2).map .p), yT a3 a4, .cells 83 [sp a5 2 0, .sl 3 a6 1 0 a7, .sl 1 a3 7 0 a8, ls 1 Zc a9, ls 1 eI64 a10, i6 a11, i6 a12, vb a13], yU a6 a14, .row 28 4 0 (ra cBx []), .cells 77 ((Za a1).map .p)] = some (Cq a1 a2 a3 a4 a5 a6 a7 a8 a9 a10 a11 a12 a13 a14 r, Cr a1 a2 a3 a4 a5 a6 a7 a8 a9 a10 a11 a12 a13 a14 r) := by
 unfold Hw at h
 apply bi h <;> intro h1 h
 ·
  rw [← sj h]
  exact fc [(8, .d true)] (av h1 apn)
 ·
  apply bi h <;> intro h2 h
  ·
   have k0 := ka [(8, .d false), (12, .d true)] (av h1 (av h2 apn))
   apply bn h; intro x3 h3 h
   have q1 := ((OJ h3) : ixS (vs a1.text) (i6 0) = some (vi .u8 (x3.toNat : Int)))
   apply bi h <;> intro h4 h
   ·
    have k2 := k0.a [(15, .v (vi .u8 (x3.toNat : Int))), (16, .d true)] (apc q1 (av h4 apn))
    apply bn h; intro x5 h5 h
    have q3 := (((F3 (⟨([32] : List UInt8).toArray⟩ : ByteArray) a1.depth h5).cp rfl _) : CP prg 53 [(vs (⟨([32] : List UInt8).toArray⟩ : ByteArray)), i6 a1.depth] (TH a2 a3 a4 a5 a6 a7 a8 a9 a10 a11 a12 a13 a14 a1) = some (vs x5))
    apply bn h; intro r6 h6 h
    cases r6 with
    | k0 x6_0 x6_1 x6_2 x6_3 =>
     have q4 := ((Kc x5 a2 a3 a4 a5 a6 a7 a8 a9 a10 a11 a12 a13 a14 a1 h6) : CS prg 52 [.ptr 2 0, vs x5] (TH a2 a3 a4 a5 a6 a7 a8 a9 a10 a11 a12 a13 a14 a1) = some ((.tup [i6 x6_0, (.p (.val .nilIface))]), PP a2 a3 a4 x6_1 x6_2 a7 x5 a8 a9 a10 a11 a12 a13 x6_3 a1))
     have k5 := k2.a [(22, .v (vs x5)), (23, .r (.tup [i6 x6_0, (.p (.val .nilIface))]) (PP a2 a3 a4 x6_1 x6_2 a7 x5 a8 a9 a10 a11 a12 a13 x6_3 a1))] (apc q3 (apc q4 apn))
     apply bn h; intro r7 h7 h
     cases r7 with
     | k0 x7_0 x7_1 x7_2 x7_3 =>
      have q6 := ((PN a1 a2 a3 a4 x6_1 x6_2 (a7 + (Zk x5).length) a8 a9 a10 a11 a12 a13 x6_3 h7) : CS prg 52 [.ptr 2 0, vs a1.text] (PP a2 a3 a4 x6_1 x6_2 a7 x5 a8 a9 a10 a11 a12 a13 x6_3 a1) = some ((.tup [i6 x7_0, (.p (.val .nilIface))]), PQ a2 a3 a4 x7_1 x7_2 a7 x5 a1 a8 a9 a10 a11 a12 a13 x7_3))
      have k7 := k5.a [(28, .r (.tup [i6 x7_0, (.p (.val .nilIface))]) (PQ a2 a3 a4 x7_1 x7_2 a7 x5 a1 a8 a9 a10 a11 a12 a13 x7_3))] (apc q6 apn)
      apply bn h; intro x8 h8 h
      have q8 := (((PO a1 h8).cp rfl _) : CP prg 61 [vs a1.text, vi .u8 10] (PQ a2 a3 a4 x7_1 x7_2 a7 x5 a1 a8 a9 a10 a11 a12 a13 x7_3) = some (i6 x8))
      apply bi h <;> intro h9 h
      ·
       rw [← sj h]
       exact fc ([(30, .v (i6 x8)), (52, .d true)] ++ kH k7) (k7.b (apc q8 (av h9 apn)))
      ·
       have k9 := k7.a [(30, .v (i6 x8)), (52, .d false)] (apc q8 (av h9 apn))
       apply bi h <;> intro h10 h
       ·
        rw [← sj h]
        exact fc ([(59, .d true)] ++ kH k9) (k9.b (av h10 apn))
       ·
        rw [← sj h]
        exact fc ([(59, .d false)] ++ kH k9) (k9.b (av h10 apn))
   ·
    have k10 := k0.a [(15, .v (vi .u8 (x3.toNat : Int))), (16, .d false)] (apc q1 (av h4 apn))
    apply bn h; intro r5 h5 h
    cases r5 with
    | k0 x5_0 x5_1 x5_2 x5_3 =>
     have q11 := ((PN a1 a2 a3 a4 a5 a6 a7 a8 a9 a10 a11 a12 a13 a14 h5) : CS prg 52 [.ptr 2 0, vs a1.text] (TH a2 a3 a4 a5 a6 a7 a8 a9 a10 a11 a12 a13 a14 a1) = some ((.tup [i6 x5_0, (.p (.val .nilIface))]), PS a2 a3 a4 x5_1 x5_2 a7 a1 a8 a9 a10 a11 a12 a13 x5_3))
     have k12 := k10.a [(28, .r (.tup [i6 x5_0, (.p (.val .nilIface))]) (PS a2 a3 a4 x5_1 x5_2 a7 a1 a8 a9 a10 a11 a12 a13 x5_3))] (apc q11 apn)
     apply bn h; intro x6 h6 h
     have q13 := (((PO a1 h6).cp rfl _) : CP prg 61 [vs a1.text, vi .u8 10] (PS a2 a3 a4 x5_1 x5_2 a7 a1 a8 a9 a10 a11 a12 a13 x5_3) = some (i6 x6))
     apply bi h <;> intro h7 h
     ·
      rw [← sj h]
      exact fc ([(30, .v (i6 x6)), (52, .d true)] ++ kH k12) (k12.b (apc q13 (av h7 apn)))
     ·
      have k14 := k12.a [(30, .v (i6 x6)), (52, .d false)] (apc q13 (av h7 apn))
      apply bi h <;> intro h8 h
      ·
       rw [← sj h]
       exact fc ([(59, .d true)] ++ kH k14) (k14.b (av h8 apn))
      ·
       rw [← sj h]
       exact fc ([(59, .d false)] ++ kH k14) (k14.b (av h8 apn))
  ·
   have k15 := ka [(8, .d false), (12, .d false)] (av h1 (av h2 apn))
   apply bn h; intro r3 h3 h
   cases r3 with
   | k0 x3_0 x3_1 x3_2 x3_3 =>
    have q16 := ((PN a1 a2 a3 a4 a5 a6 a7 a8 a9 a10 a11 a12 a13 a14 h3) : CS prg 52 [.ptr 2 0, vs a1.text] (TH a2 a3 a4 a5 a6 a7 a8 a9 a10 a11 a12 a13 a14 a1) = some ((.tup [i6 x3_0, (.p (.val .nilIface))]), PT a2 a3 a4 x3_1 x3_2 a7 a1 a8 a9 a10 a11 a12 a13 x3_3))
    have k17 := k15.a [(28, .r (.tup [i6 x3_0, (.p (.val .nilIface))]) (PT a2 a3 a4 x3_1 x3_2 a7 a1 a8 a9 a10 a11 a12 a13 x3_3))] (apc q16 apn)
    apply bn h; intro x4 h4 h
    have q18 := (((PO a1 h4).cp rfl _) : CP prg 61 [vs a1.text, vi .u8 10] (PT a2 a3 a4 x3_1 x3_2 a7 a1 a8 a9 a10 a11 a12 a13 x3_3) = some (i6 x4))
    apply bi h <;> intro h5 h
    ·
     rw [← sj h]
     exact fc ([(30, .v (i6 x4)), (52, .d true)] ++ kH k17) (k17.b (apc q18 (av h5 apn)))
    ·
     have k19 := k17.a [(30, .v (i6 x4)), (52, .d false)] (apc q18 (av h5 apn))
     apply bi h <;> intro h6 h
     ·
      rw [← sj h]
      exact fc ([(59, .d true)] ++ kH k19) (k19.b (av h6 apn))
     ·
      rw [← sj h]
      exact fc ([(59, .d false)] ++ kH k19) (k19.b (av h6 apn))
inductive E_L37_1 where
  | k0 (x0 x1 : Nat) (x2 : Tqq)
section
variable (a1 : Nat) (a3 a4 a6 : Int) (a7 : ThingD) (a8 : Int) (a9 : BoxD) (a11 : Bool) (a12 a13 a14 : Nat) (a15 : Oqq) (a16 : Iqq) (a17 a18 : Int) (a19 : Bool) (a20 : Iqq) (a21 : Nat) (a22 : Bqq) (a23 : ThingD)
def JC (v1 v2 : Nat) (v3 v4 : Int) (v5 : Tqq) : Option (E_L37_1 ⊕ (Nat × Nat × Int × Int × Tqq)) :=
  (bif (decide (v4 < a8)) then ((getI a7.kids v4).bind fun x2 => (bif (apOk v2 1 v5.length 80) then (bif (decide (v2 + 1 ≤ v5.length)) then ((getI a16 v3).bind fun x5 => (some (.inr (v1, v2 + 1, (IntKind.wrap .i64 (v3 + x5)), (IntKind.wrap .i64 (v4 + 1)), (splice v5 v2 [(⟨x2.kind, x2.text, x2.n, x2.kids, a3, a4, v3⟩ : ThingD)]))))) else ((getI a16 v3).bind fun x5 => (some (.inr ((v1 + 1), v2 + 1, (IntKind.wrap .i64 (v3 + x5)), (IntKind.wrap .i64 (v4 + 1)), (v5.take v2 ++ [(⟨x2.kind, x2.text, x2.n, x2.kids, a3, a4, v3⟩ : ThingD)])))))) else none)) else (some (.inl (.k0 v1 v2 v5))))
def Hx (v1 v2 : Nat) (v3 v4 : Int) (v5 : Tqq) : St := ⟨fr 74 ug [(0, .ptr 2 0), (1, .sl 1 v1 7 0 v2), (3, i6 a3), (4, i6 a4), (11, i6 v3), (12, i6 a6), (24, (.p (.lst 4 (Zb a7.kids)))), (25, i6 a8), (26, i6 v4)], [.cells 28 ((cBx a9).map .p), yT v1 v5, .cells 83 [sp a11 2 0, .sl 3 a12 1 0 a13, .sl 1 a1 7 0 a14, ls 1 Zc a15, ls 1 eI64 a16, i6 a17, i6 a18, vb a19], yU a12 a20, .row 28 4 a21 (ra cBx a22), .cells 77 ((Za a23).map .p), .cells 77 ((Za a7).map .p), yT0]⟩
theorem MK (v1 v2 : Nat) (v3 v4 : Int) (v5 : Tqq) : okT 8 (Hx a1 a3 a4 a6 a7 a8 a9 a11 a12 a13 a14 a15 a16 a17 a18 a19 a20 a21 a22 a23 v1 v2 v3 v4 v5).h = true := (ZB rfl (ac (ar (Zt (Z5 rfl (Ze rfl (Ze rfl (Ze rfl (Ze rfl (Ze rfl (Ze rfl (Ze rfl rfl)))))))) (ar (ar (ac (ac (ar rfl)))))))))
abbrev UF (v1 v2 : Nat) (v3 v4 : Int) (v5 : Tqq) := evH prg 8 [0, 1, 3, 4, 11, 12, 24, 25, 26, 1000199007707] XD (Hx a1 a3 a4 a6 a7 a8 a9 a11 a12 a13 a14 a15 a16 a17 a18 a19 a20 a21 a22 a23 v1 v2 v3 v4 v5)
def ML (e : E_L37_1) (r : Option (Out × St)) : Prop := match e with | .k0 x0 x1 x2 => ∃ g, r = some ((.brk 0), ⟨fr 74 g [(1, .sl 1 x0 7 0 x1), (12, i6 a6), (24, (.p (.lst 4 (Zb a7.kids))))], [.cells 28 ((cBx a9).map .p), yT x0 x2, .cells 83 [sp a11 2 0, .sl 3 a12 1 0 a13, .sl 1 a1 7 0 a14, ls 1 Zc a15, ls 1 eI64 a16, i6 a17, i6 a18, vb a19], yU a12 a20, .row 28 4 a21 (ra cBx a22), .cells 77 ((Za a23).map .p), .cells 77 ((Za a7).map .p), yT0]⟩)
abbrev Kf (v1 : Nat) (v5 : Tqq) (v2 : Nat) (x2 : BoxD) (v3 : Int) : List AB := [.cells 28 ((cBx a9).map .p), yT v1 (splice v5 v2 [(⟨x2.kind, x2.text, x2.n, x2.kids, a3, a4, v3⟩ : ThingD)]), .cells 83 [sp a11 2 0, .sl 3 a12 1 0 a13, .sl 1 a1 7 0 a14, ls 1 Zc a15, ls 1 eI64 a16, i6 a17, i6 a18, vb a19], yU a12 a20, .row 28 4 a21 (ra cBx a22), .cells 77 ((Za a23).map .p), .cells 77 ((Za a7).map .p), yT0, .row 28 4 0 (ra cBx []), .cells 28 ((cBx x2).map .p), .row 77 7 0 [[i6 x2.kind, vs x2.text, i6 x2.n, (.p (.lst 4 (Zb x2.kids))), i6 a3, i6 a4, i6 v3]]]
abbrev Kg (v1 : Nat) (v5 : Tqq) (x2 : BoxD) (v3 : Int) : List AB := [.cells 28 ((cBx a9).map .p), yT v1 v5, .cells 83 [sp a11 2 0, .sl 3 a12 1 0 a13, .sl 1 a1 7 0 a14, ls 1 Zc a15, ls 1 eI64 a16, i6 a17, i6 a18, vb a19], yU a12 a20, .row 28 4 a21 (ra cBx a22), .cells 77 ((Za a23).map .p), .cells 77 ((Za a7).map .p), yT0, .row 28 4 0 (ra cBx []), .cells 28 ((cBx x2).map .p), .row 77 7 0 [[i6 x2.kind, vs x2.text, i6 x2.n, (.p (.lst 4 (Zb x2.kids))), i6 a3, i6 a4, i6 v3]]]
abbrev Kh (v1 : Nat) (v5 : Tqq) (v2 : Nat) (x2 : BoxD) (v3 : Int) : List AB := [.cells 28 ((cBx a9).map .p), yT (v1 + 1) (v5.take v2 ++ [(⟨x2.kind, x2.text, x2.n, x2.kids, a3, a4, v3⟩ : ThingD)]), .cells 83 [sp a11 2 0, .sl 3 a12 1 0 a13, .sl 1 a1 7 0 a14, ls 1 Zc a15, ls 1 eI64 a16, i6 a17, i6 a18, vb a19], yU a12 a20, .row 28 4 a21 (ra cBx a22), .cells 77 ((Za a23).map .p), .cells 77 ((Za a7).map .p), yT0, .row 28 4 0 (ra cBx []), .cells 28 ((cBx x2).map .p), .row 77 7 0 [[i6 x2.kind, vs x2.text, i6 x2.n, (.p (.lst 4 (Zb x2.kids))), i6 a3, i6 a4, i6 v3]]]
theorem G9 (v1 v2 : Nat) (v3 v4 : Int) (v5 : Tqq) {r : E_L37_1 ⊕ (Nat × Nat × Int × Int × Tqq)} (h : JC a3 a4 a7 a8 a16 v1 v2 v3 v4 v5 = some r) : OkR (fun e => ML a1 a6 a7 a9 a11 a12 a13 a14 a15 a16 a17 a18 a19 a20 a21 a22 a23 e (UF a1 a3 a4 a6 a7 a8 a9 a11 a12 a13 a14 a15 a16 a17 a18 a19 a20 a21 a22 a23 v1 v2 v3 v4 v5)) (fun s => UF a1 a3 a4 a6 a7 a8 a9 a11 a12 a13 a14 a15 a16 a17 a18 a19 a20 a21 a22 a23 v1 v2 v3 v4 v5 = UF a1 a3 a4 a6 a7 a8 a9 a11 a12 a13 a14 a15 a16 a17 a18 a19 a20 a21 a22 a23 s.1 s.2.1 s.2.2.1 s.2.2.2.1 s.2.2.2.2) r := by
 unfold JC at h
 apply bi h <;> intro h1 h
 ·
  apply bn h; intro x2 h2 h
  have q0 := ((igr Zv h2) : idxA 4 (.p (.lst 4 (Zb a7.kids))) (i6 v4) = some (.ro (cBx x2)))
  have k1 := ka [(27, .d true), (28, .v (.ro (cBx x2)))] (av h1 (apc q0 apn))
  apply bi h <;> intro h3 h
  ·
   apply bi h <;> intro h4 h
   ·
    apply bn h; intro x5 h5 h
    rw [← sj h]
    exact rn ([(37, .r (.sl 1 v1 7 0 (v2 + 1)) (Kf a1 a3 a4 a7 a9 a11 a12 a13 a14 a15 a16 a17 a18 a19 a20 a21 a22 a23 v1 v5 v2 x2 v3)), (44, .v (.ro [.val (.int .i64 x5)])), (6000, .d true)] ++ kH k1) (k1.b (apc ((Vy (e := Za) (xs := v5) (news := [(⟨x2.kind, x2.text, x2.n, x2.kids, a3, a4, v3⟩ : ThingD)]) rfl (ZQ (e := Za) (xs := [(⟨x2.kind, x2.text, x2.n, x2.kids, a3, a4, v3⟩ : ThingD)]) rfl) rfl h3 h4) : appA (Kg a1 a3 a4 a7 a9 a11 a12 a13 a14 a15 a16 a17 a18 a19 a20 a21 a22 a23 v1 v5 x2 v3) 77 7 80 (.sl 1 v1 7 0 v2) (.sl 10 0 7 0 1) = some ((.sl 1 v1 7 0 (v2 + 1)), Kf a1 a3 a4 a7 a9 a11 a12 a13 a14 a15 a16 a17 a18 a19 a20 a21 a22 a23 v1 v5 v2 x2 v3)) (apc (ig eI64 1 .i64 h5) (apc (MK a1 a3 a4 a6 a7 a8 a9 a11 a12 a13 a14 a15 a16 a17 a18 a19 a20 a21 a22 a23 v1 (v2 + 1) (w6 (v3 + x5)) (w6 (v4 + 1)) (splice v5 v2 [(⟨x2.kind, x2.text, x2.n, x2.kids, a3, a4, v3⟩ : ThingD)])) apn))))
   ·
    apply bn h; intro x5 h5 h
    rw [← sj h]
    exact rn ([(37, .r (.sl 1 (v1 + 1) 7 0 (v2 + 1)) (Kh a1 a3 a4 a7 a9 a11 a12 a13 a14 a15 a16 a17 a18 a19 a20 a21 a22 a23 v1 v5 v2 x2 v3)), (44, .v (.ro [.val (.int .i64 x5)])), (6000, .d true)] ++ kH k1) (k1.b (apc ((Xe (e := Za) (xs := v5) (news := [(⟨x2.kind, x2.text, x2.n, x2.kids, a3, a4, v3⟩ : ThingD)]) rfl (ZQ (e := Za) (xs := [(⟨x2.kind, x2.text, x2.n, x2.kids, a3, a4, v3⟩ : ThingD)]) rfl) rfl h3 h4) : appA (Kg a1 a3 a4 a7 a9 a11 a12 a13 a14 a15 a16 a17 a18 a19 a20 a21 a22 a23 v1 v5 x2 v3) 77 7 80 (.sl 1 v1 7 0 v2) (.sl 10 0 7 0 1) = some ((.sl 1 (v1 + 1) 7 0 (v2 + 1)), Kh a1 a3 a4 a7 a9 a11 a12 a13 a14 a15 a16 a17 a18 a19 a20 a21 a22 a23 v1 v5 v2 x2 v3)) (apc (ig eI64 1 .i64 h5) (apc (MK a1 a3 a4 a6 a7 a8 a9 a11 a12 a13 a14 a15 a16 a17 a18 a19 a20 a21 a22 a23 (v1 + 1) (v2 + 1) (w6 (v3 + x5)) (w6 (v4 + 1)) (v5.take v2 ++ [(⟨x2.kind, x2.text, x2.n, x2.kids, a3, a4, v3⟩ : ThingD)])) apn))))
  ·
   cases h
 ·
  rw [← sj h]
  exact xb [(27, .d false), (6000, .d true)] (av h1 apn)
theorem Hy (s0 : Nat × Nat × Int × Int × Tqq) (e : E_L37_1) (h : runL (fun s => JC a3 a4 a7 a8 a16 s.1 s.2.1 s.2.2.1 s.2.2.2.1 s.2.2.2.2) s0 = some e) : ML a1 a6 a7 a9 a11 a12 a13 a14 a15 a16 a17 a18 a19 a20 a21 a22 a23 e (UF a1 a3 a4 a6 a7 a8 a9 a11 a12 a13 a14 a15 a16 a17 a18 a19 a20 a21 a22 a23 s0.1 s0.2.1 s0.2.2.1 s0.2.2.2.1 s0.2.2.2.2) := by
  have q := @Zg (Nat × Nat × Int × Int × Tqq) E_L37_1 (fun s => JC a3 a4 a7 a8 a16 s.1 s.2.1 s.2.2.1 s.2.2.2.1 s.2.2.2.2) (fun s => UF a1 a3 a4 a6 a7 a8 a9 a11 a12 a13 a14 a15 a16 a17 a18 a19 a20 a21 a22 a23 s.1 s.2.1 s.2.2.1 s.2.2.2.1 s.2.2.2.2) (ML a1 a6 a7 a9 a11 a12 a13 a14 a15 a16 a17 a18 a19 a20 a21 a22 a23) (fun s r h => G9 a1 a3 a4 a6 a7 a8 a9 a11 a12 a13 a14 a15 a16 a17 a18 a19 a20 a21 a22 a23 s.1 s.2.1 s.2.2.1 s.2.2.2.1 s.2.2.2.2 h) s0 e h
  exact q
end
inductive E_L37_0 where
  | k0 (x0 : Tqq)
section
variable (a1 a2 : Nat) (a5 : BoxD) (a7 : Bool) (a8 a9 a10 a11 : Nat) (a12 : Oqq) (a13 : Iqq) (a14 a15 : Int) (a16 : Bool) (a17 : Iqq) (a18 : Nat) (a19 : Bqq) (a20 a21 : ThingD)
def JD (v1 v2 : Int) (v3 : Tqq) : Option (E_L37_0 ⊕ (Int × Int × Tqq)) :=
  (bif (decide (v1 < v2)) then ((ixN a2 v2).bind fun x2 => ((v3[x2]?).bind fun x3 => ((ixN a2 v1).bind fun x4 => ((v3[x4]?).bind fun x5 => (((v3.set x4 (⟨x3.kind, x3.text, x3.n, x3.kids, x3.depth, x3.way, x3.at_⟩ : ThingD))[x2]?).bind fun x6 => (some (.inr ((IntKind.wrap .i64 (v1 + 1)), (IntKind.wrap .i64 (v2 - 1)), ((v3.set x4 (⟨x3.kind, x3.text, x3.n, x3.kids, x3.depth, x3.way, x3.at_⟩ : ThingD)).set x2 (⟨x5.kind, x5.text, x5.n, x5.kids, x5.depth, x5.way, x5.at_⟩ : ThingD)))))))))) else (some (.inl (.k0 v3))))
def Hz (v1 v2 : Int) (v3 : Tqq) : St := ⟨fr 74 ug [(1, .sl 1 a1 7 0 a2), (15, i6 v1), (16, i6 v2)], [.cells 28 ((cBx a5).map .p), yT a1 v3, .cells 83 [sp a7 2 0, .sl 3 a8 1 0 a9, .sl 1 a10 7 0 a11, ls 1 Zc a12, ls 1 eI64 a13, i6 a14, i6 a15, vb a16], yU a8 a17, .row 28 4 a18 (ra cBx a19), .cells 77 ((Za a20).map .p), .cells 77 ((Za a21).map .p), yT0]⟩
theorem HA (v1 v2 : Int) (v3 : Tqq) : okT 8 (Hz a1 a2 a5 a7 a8 a9 a10 a11 a12 a13 a14 a15 a16 a17 a18 a19 a20 a21 v1 v2 v3).h = true := (ZB rfl (ac (ar (Zt (Z5 rfl (Ze rfl (Ze rfl (Ze rfl (Ze rfl (Ze rfl (Ze rfl (Ze rfl rfl)))))))) (ar (ar (ac (ac (ar rfl)))))))))
abbrev UG (v1 v2 : Int) (v3 : Tqq) := evH prg 8 [1, 15, 16] XC (Hz a1 a2 a5 a7 a8 a9 a10 a11 a12 a13 a14 a15 a16 a17 a18 a19 a20 a21 v1 v2 v3)
def MM (e : E_L37_0) (r : Option (Out × St)) : Prop := match e with | .k0 x0 => ∃ g, r = some ((.brk 2), ⟨fr 74 g [(1, .sl 1 a1 7 0 a2)], [.cells 28 ((cBx a5).map .p), yT a1 x0, .cells 83 [sp a7 2 0, .sl 3 a8 1 0 a9, .sl 1 a10 7 0 a11, ls 1 Zc a12, ls 1 eI64 a13, i6 a14, i6 a15, vb a16], yU a8 a17, .row 28 4 a18 (ra cBx a19), .cells 77 ((Za a20).map .p), .cells 77 ((Za a21).map .p), yT0]⟩)
abbrev PU (v3 : Tqq) (x4 : Nat) (x3 : ThingD) : List AB := [.cells 28 ((cBx a5).map .p), yT a1 (v3.set x4 (⟨x3.kind, x3.text, x3.n, x3.kids, x3.depth, x3.way, x3.at_⟩ : ThingD)), .cells 83 [sp a7 2 0, .sl 3 a8 1 0 a9, .sl 1 a10 7 0 a11, ls 1 Zc a12, ls 1 eI64 a13, i6 a14, i6 a15, vb a16], yU a8 a17, .row 28 4 a18 (ra cBx a19), .cells 77 ((Za a20).map .p), .cells 77 ((Za a21).map .p), yT0]
abbrev Ki (v3 : Tqq) (x4 : Nat) (x3 : ThingD) (x2 : Nat) (x5 : ThingD) : List AB := [.cells 28 ((cBx a5).map .p), yT a1 ((v3.set x4 (⟨x3.kind, x3.text, x3.n, x3.kids, x3.depth, x3.way, x3.at_⟩ : ThingD)).set x2 (⟨x5.kind, x5.text, x5.n, x5.kids, x5.depth, x5.way, x5.at_⟩ : ThingD)), .cells 83 [sp a7 2 0, .sl 3 a8 1 0 a9, .sl 1 a10 7 0 a11, ls 1 Zc a12, ls 1 eI64 a13, i6 a14, i6 a15, vb a16], yU a8 a17, .row 28 4 a18 (ra cBx a19), .cells 77 ((Za a20).map .p), .cells 77 ((Za a21).map .p), yT0]
abbrev PW (v3 : Tqq) : List AB := [.cells 28 ((cBx a5).map .p), yT a1 v3, .cells 83 [sp a7 2 0, .sl 3 a8 1 0 a9, .sl 1 a10 7 0 a11, ls 1 Zc a12, ls 1 eI64 a13, i6 a14, i6 a15, vb a16], yU a8 a17, .row 28 4 a18 (ra cBx a19), .cells 77 ((Za a20).map .p), .cells 77 ((Za a21).map .p), yT0]
theorem Fa (v1 v2 : Int) (v3 : Tqq) {r : E_L37_0 ⊕ (Int × Int × Tqq)} (h : JD a2 v1 v2 v3 = some r) : OkR (fun e => MM a1 a2 a5 a7 a8 a9 a10 a11 a12 a13 a14 a15 a16 a17 a18 a19 a20 a21 e (UG a1 a2 a5 a7 a8 a9 a10 a11 a12 a13 a14 a15 a16 a17 a18 a19 a20 a21 v1 v2 v3)) (fun s => UG a1 a2 a5 a7 a8 a9 a10 a11 a12 a13 a14 a15 a16 a17 a18 a19 a20 a21 v1 v2 v3 = UG a1 a2 a5 a7 a8 a9 a10 a11 a12 a13 a14 a15 a16 a17 a18 a19 a20 a21 s.1 s.2.1 s.2.2) r := by
 unfold JD at h
 apply bi h <;> intro h1 h
 ·
  apply bn h; intro x2 h2 h
  have q0 := ((ZO h2) : idxA 7 (.sl 1 a1 7 0 a2) (i6 v2) = some (.rp 1 a1 7 x2 0))
  apply bn h; intro x3 h3 h
  apply bn h; intro x4 h4 h
  have q1 := ((ZO h4) : idxA 7 (.sl 1 a1 7 0 a2) (i6 v1) = some (.rp 1 a1 7 x4 0))
  apply bn h; intro x5 h5 h
  apply bn h; intro x6 h6 h
  rw [← sj h]
  exact rn [(54, .d true), (65, .v (.rp 1 a1 7 x2 0)), (66, .v (.agg ((Za x3).map .p))), (69, .v (.rp 1 a1 7 x4 0)), (70, .v (.agg ((Za x5).map .p))), (71, .v (.rp 1 a1 7 x4 0)), (1071, .r ud (PU a1 a5 a7 a8 a9 a10 a11 a12 a13 a14 a15 a16 a17 a18 a19 a20 a21 v3 x4 x3)), (72, .v (.rp 1 a1 7 x2 0)), (1072, .r ud (Ki a1 a5 a7 a8 a9 a10 a11 a12 a13 a14 a15 a16 a17 a18 a19 a20 a21 v3 x4 x3 x2 x5)), (6000, .d true)] (av h1 (apc q0 (apc ((Z4 rfl h3 rfl) : ldA (PW a1 a5 a7 a8 a9 a10 a11 a12 a13 a14 a15 a16 a17 a18 a19 a20 a21 v3) .true 7 (.rp 1 a1 7 x2 0) = some (.agg ((Za x3).map .p))) (apc q1 (apc ((Z4 rfl h5 rfl) : ldA (PW a1 a5 a7 a8 a9 a10 a11 a12 a13 a14 a15 a16 a17 a18 a19 a20 a21 v3) .true 7 (.rp 1 a1 7 x4 0) = some (.agg ((Za x5).map .p))) (apc q1 (apc (⟨ZX (v' := (⟨x3.kind, x3.text, x3.n, x3.kids, x3.depth, x3.way, x3.at_⟩ : ThingD)) rfl h5 rfl rfl (Nat.le_of_ble_eq_true rfl) rfl, rfl⟩ : stA (PW a1 a5 a7 a8 a9 a10 a11 a12 a13 a14 a15 a16 a17 a18 a19 a20 a21 v3) 7 (.rp 1 a1 7 x4 0) (.agg ((Za x3).map .p)) = some (PU a1 a5 a7 a8 a9 a10 a11 a12 a13 a14 a15 a16 a17 a18 a19 a20 a21 v3 x4 x3) ∧ ud = ud) (apc q0 (apc (⟨ZX (v' := (⟨x5.kind, x5.text, x5.n, x5.kids, x5.depth, x5.way, x5.at_⟩ : ThingD)) rfl h6 rfl rfl (Nat.le_of_ble_eq_true rfl) rfl, rfl⟩ : stA (PU a1 a5 a7 a8 a9 a10 a11 a12 a13 a14 a15 a16 a17 a18 a19 a20 a21 v3 x4 x3) 7 (.rp 1 a1 7 x2 0) (.agg ((Za x5).map .p)) = some (Ki a1 a5 a7 a8 a9 a10 a11 a12 a13 a14 a15 a16 a17 a18 a19 a20 a21 v3 x4 x3 x2 x5) ∧ ud = ud) (apc (HA a1 a2 a5 a7 a8 a9 a10 a11 a12 a13 a14 a15 a16 a17 a18 a19 a20 a21 (w6 (v1 + 1)) (w6 (v2 - 1)) ((v3.set x4 (⟨x3.kind, x3.text, x3.n, x3.kids, x3.depth, x3.way, x3.at_⟩ : ThingD)).set x2 (⟨x5.kind, x5.text, x5.n, x5.kids, x5.depth, x5.way, x5.at_⟩ : ThingD))) apn))))))))))
 ·
  rw [← sj h]
  exact xb [(54, .d false), (6000, .d true)] (av h1 apn)
theorem HB (s0 : Int × Int × Tqq) (e : E_L37_0) (h : runL (fun s => JD a2 s.1 s.2.1 s.2.2) s0 = some e) : MM a1 a2 a5 a7 a8 a9 a10 a11 a12 a13 a14 a15 a16 a17 a18 a19 a20 a21 e (UG a1 a2 a5 a7 a8 a9 a10 a11 a12 a13 a14 a15 a16 a17 a18 a19 a20 a21 s0.1 s0.2.1 s0.2.2) := by
  have q := @Zg (Int × Int × Tqq) E_L37_0 (fun s => JD a2 s.1 s.2.1 s.2.2) (fun s => UG a1 a2 a5 a7 a8 a9 a10 a11 a12 a13 a14 a15 a16 a17 a18 a19 a20 a21 s.1 s.2.1 s.2.2) (MM a1 a2 a5 a7 a8 a9 a10 a11 a12 a13 a14 a15 a16 a17 a18 a19 a20 a21) (fun s r h => Fa a1 a2 a5 a7 a8 a9 a10 a11 a12 a13 a14 a15 a16 a17 a18 a19 a20 a21 s.1 s.2.1 s.2.2 h) s0 e h
  exact q
end
inductive R_F37 where
  | k0 (x0 x1 : Nat) (x2 : Tqq)
def As (a1 a2 : Nat) (a3 : ThingD) (a4 a5 : Int) (a6 : BoxD) (a7 : Tqq) (a8 : Bool) (a9 a10 a11 : Nat) (a12 : Oqq) (a13 : Iqq) (a14 a15 : Int) (a16 : Bool) (a17 : Iqq) (a18 : Nat) (a19 : Bqq) (a20 : ThingD) (r : R_F37) : AV := match r with | .k0 x0 x1 x2 => (.sl 1 x0 7 0 x1)
def Au (a1 a2 : Nat) (a3 : ThingD) (a4 a5 : Int) (a6 : BoxD) (a7 : Tqq) (a8 : Bool) (a9 a10 a11 : Nat) (a12 : Oqq) (a13 : Iqq) (a14 a15 : Int) (a16 : Bool) (a17 : Iqq) (a18 : Nat) (a19 : Bqq) (a20 : ThingD) (r : R_F37) : List AB := match r with | .k0 x0 x1 x2 => [.cells 28 ((cBx a6).map .p), yT x0 x2, .cells 83 [sp a8 2 0, .sl 3 a9 1 0 a10, .sl 1 a1 7 0 a11, ls 1 Zc a12, ls 1 eI64 a13, i6 a14, i6 a15, vb a16], yU a9 a17, .row 28 4 a18 (ra cBx a19), .cells 77 ((Za a20).map .p), .cells 77 ((Za a3).map .p), yT0]
def F37 (a1 a2 : Nat) (a3 : ThingD) (a4 a5 : Int) (a7 : Tqq) (a13 : Iqq) : Option R_F37 :=
  ((runL (fun s => JC a4 a5 a3 (a3.kids.length : Int) a13 s.1 s.2.1 s.2.2.1 s.2.2.2.1 s.2.2.2.2) (a1, a2, (IntKind.wrap .i64 (a3.at_ + 1)), 0, a7)).bind fun r1 => match r1 with | .k0 x1_0 x1_1 x1_2 => ((runL (fun s => JD x1_1 s.1 s.2.1 s.2.2) (((a2 : Nat) : Int), (IntKind.wrap .i64 (((x1_1 : Nat) : Int) - 1)), x1_2)).bind fun r2 => match r2 with | .k0 x2_0 => (some (.k0 x1_0 x1_1 x2_0))))
abbrev Ej (g1 : Nat → AV) (x1_0 x1_1 a2 : Nat) (a3 : ThingD) (a6 : BoxD) (x1_2 : Tqq) (a8 : Bool) (a9 a10 a1 a11 : Nat) (a12 : Oqq) (a13 : Iqq) (a14 a15 : Int) (a16 : Bool) (a17 : Iqq) (a18 : Nat) (a19 : Bqq) (a20 : ThingD) : St := ⟨fr 74 g1 [(1, .sl 1 x1_0 7 0 x1_1), (12, (i6 ((a2 : Nat) : Int))), (24, (.p (.lst 4 (Zb a3.kids))))], [.cells 28 ((cBx a6).map .p), yT x1_0 x1_2, .cells 83 [sp a8 2 0, .sl 3 a9 1 0 a10, .sl 1 a1 7 0 a11, ls 1 Zc a12, ls 1 eI64 a13, i6 a14, i6 a15, vb a16], yU a9 a17, .row 28 4 a18 (ra cBx a19), .cells 77 ((Za a20).map .p), .cells 77 ((Za a3).map .p), yT0]⟩
abbrev Ek (g2 : Nat → AV) (x1_0 x1_1 : Nat) (a6 : BoxD) (x2_0 : Tqq) (a8 : Bool) (a9 a10 a1 a11 : Nat) (a12 : Oqq) (a13 : Iqq) (a14 a15 : Int) (a16 : Bool) (a17 : Iqq) (a18 : Nat) (a19 : Bqq) (a20 a3 : ThingD) : St := ⟨fr 74 g2 [(1, .sl 1 x1_0 7 0 x1_1)], [.cells 28 ((cBx a6).map .p), yT x1_0 x2_0, .cells 83 [sp a8 2 0, .sl 3 a9 1 0 a10, .sl 1 a1 7 0 a11, ls 1 Zc a12, ls 1 eI64 a13, i6 a14, i6 a15, vb a16], yU a9 a17, .row 28 4 a18 (ra cBx a19), .cells 77 ((Za a20).map .p), .cells 77 ((Za a3).map .p), yT0]⟩
theorem Qs (a1 a2 : Nat) (a3 : ThingD) (a4 a5 : Int) (a6 : BoxD) (a7 : Tqq) (a8 : Bool) (a9 a10 a11 : Nat) (a12 : Oqq) (a13 : Iqq) (a14 a15 : Int) (a16 : Bool) (a17 : Iqq) (a18 : Nat) (a19 : Bqq) (a20 : ThingD) {r : R_F37} (h : F37 a1 a2 a3 a4 a5 a7 a13 = some r) : CS prg 55 [.ptr 2 0, .sl 1 a1 7 0 a2, (.agg ((Za a3).map .p)), i6 a4, i6 a5] [.cells 28 ((cBx a6).map .p), yT a1 a7, .cells 83 [sp a8 2 0, .sl 3 a9 1 0 a10, .sl 1 a1 7 0 a11, ls 1 Zc a12, ls 1 eI64 a13, i6 a14, i6 a15, vb a16], yU a9 a17, .row 28 4 a18 (ra cBx a19), .cells 77 ((Za a20).map .p)] = some (As a1 a2 a3 a4 a5 a6 a7 a8 a9 a10 a11 a12 a13 a14 a15 a16 a17 a18 a19 a20 r, Au a1 a2 a3 a4 a5 a6 a7 a8 a9 a10 a11 a12 a13 a14 a15 a16 a17 a18 a19 a20 r) := by
 unfold F37 at h
 apply bn h; intro r1 h1 h
 cases r1 with
 | k0 x1_0 x1_1 x1_2 =>
  obtain ⟨g1, e1⟩ := Hy a1 a4 a5 ((a2 : Nat) : Int) a3 (a3.kids.length : Int) a6 a8 a9 a10 a11 a12 a13 a14 a15 a16 a17 a18 a19 a20 (a1, a2, (w6 (a3.at_ + 1)), 0, a7) _ h1
  apply bn h; intro r2 h2 h
  cases r2 with
  | k0 x2_0 =>
   obtain ⟨g2, e2⟩ := HB x1_0 x1_1 a6 a8 a9 a10 a1 a11 a12 a13 a14 a15 a16 a17 a18 a19 a20 a3 (((a2 : Nat) : Int), (w6 (((x1_1 : Nat) : Int) - 1)), x1_2) _ h2
   rw [← sj h]
   exact fc [(25, .v (i6 (a3.kids.length : Int))), (2000, .l (.brk 0) (Ej g1 x1_0 x1_1 a2 a3 a6 x1_2 a8 a9 a10 a1 a11 a12 a13 a14 a15 a16 a17 a18 a19 a20)), (2002, .l (.brk 2) (Ek g2 x1_0 x1_1 a6 x2_0 a8 a9 a10 a1 a11 a12 a13 a14 a15 a16 a17 a18 a19 a20 a3)), (6000, .d true)] (apc ((lgr Zv) : lnA (.p (.lst 4 (Zb a3.kids))) = some (i6 (a3.kids.length : Int))) (apc (MK a1 a4 a5 ((a2 : Nat) : Int) a3 (a3.kids.length : Int) a6 a8 a9 a10 a11 a12 a13 a14 a15 a16 a17 a18 a19 a20 a1 a2 (w6 (a3.at_ + 1)) 0 a7) (apc (e1 : UF a1 a4 a5 ((a2 : Nat) : Int) a3 (a3.kids.length : Int) a6 a8 a9 a10 a11 a12 a13 a14 a15 a16 a17 a18 a19 a20 a1 a2 (w6 (a3.at_ + 1)) 0 a7 = some ((.brk 0), Ej g1 x1_0 x1_1 a2 a3 a6 x1_2 a8 a9 a10 a1 a11 a12 a13 a14 a15 a16 a17 a18 a19 a20)) (apc (HA x1_0 x1_1 a6 a8 a9 a10 a1 a11 a12 a13 a14 a15 a16 a17 a18 a19 a20 a3 ((a2 : Nat) : Int) (w6 (((x1_1 : Nat) : Int) - 1)) x1_2) (apc (e2 : UG x1_0 x1_1 a6 a8 a9 a10 a1 a11 a12 a13 a14 a15 a16 a17 a18 a19 a20 a3 ((a2 : Nat) : Int) (w6 (((x1_1 : Nat) : Int) - 1)) x1_2 = some ((.brk 2), Ek g2 x1_0 x1_1 a6 x2_0 a8 a9 a10 a1 a11 a12 a13 a14 a15 a16 a17 a18 a19 a20 a3)) apn)))))
inductive R_F41_3 where
  | k0 (x0 : Bool) (x1 : Nat) (x2 : Iqq)
def Cs (a1 : BoxD) (a2 : Nat) (a3 : Tqq) (a4 : Bool) (a5 a6 a7 : Nat) (a8 : Oqq) (a9 : Iqq) (a10 a11 : Int) (a12 : Bool) (a13 : Iqq) (a14 : ThingD) (r : R_F41_3) : AV := match r with | .k0 x0 x1 x2 => (.p (.val .nilIface))
def Ct (a1 : BoxD) (a2 : Nat) (a3 : Tqq) (a4 : Bool) (a5 a6 a7 : Nat) (a8 : Oqq) (a9 : Iqq) (a10 a11 : Int) (a12 : Bool) (a13 : Iqq) (a14 : ThingD) (r : R_F41_3) : List AB := match r with | .k0 x0 x1 x2 => [.cells 28 ((cBx a1).map .p), yT a2 a3, .cells 83 [sp x0 2 0, (.sl 3 x1 1 0 (a6 + 1)), .sl 1 a2 7 0 a7, ls 1 Zc a8, ls 1 eI64 a9, i6 a10, i6 a11, vb a12], yU x1 x2, .row 28 4 0 (ra cBx []), .cells 77 ((Za a14).map .p), .row 5 1 0 [[vi .u8 10]]]
def Fb (a4 : Bool) (a5 a6 : Nat) (a13 : Iqq) : Option R_F41_3 :=
  ((MI a4).bind fun x1 => (bif (apOk a6 1 a13.length 1) then (bif (decide (a6 + 1 ≤ a13.length)) then (some (.k0 x1 a5 (splice a13 a6 [10]))) else (some (.k0 x1 (a5 + 1) (a13.take a6 ++ [10])))) else none))
abbrev Kj (a1 : BoxD) (a2 : Nat) (a3 : Tqq) (x1 : Bool) (a5 a6 a7 : Nat) (a8 : Oqq) (a9 : Iqq) (a10 a11 : Int) (a12 : Bool) (a13 : Iqq) (a14 : ThingD) : List AB := [.cells 28 ((cBx a1).map .p), yT a2 a3, .cells 83 [sp x1 2 0, .sl 3 a5 1 0 a6, .sl 1 a2 7 0 a7, ls 1 Zc a8, ls 1 eI64 a9, i6 a10, i6 a11, vb a12], yU a5 a13, .row 28 4 0 (ra cBx []), .cells 77 ((Za a14).map .p)]
abbrev Kk (a1 : BoxD) (a2 : Nat) (a3 : Tqq) (x1 : Bool) (a5 a6 a7 : Nat) (a8 : Oqq) (a9 : Iqq) (a10 a11 : Int) (a12 : Bool) (a13 : Iqq) (a14 : ThingD) : List AB := [.cells 28 ((cBx a1).map .p), yT a2 a3, .cells 83 [sp x1 2 0, .sl 3 a5 1 0 a6, .sl 1 a2 7 0 a7, ls 1 Zc a8, ls 1 eI64 a9, i6 a10, i6 a11, vb a12], yU a5 (splice a13 a6 [10]), .row 28 4 0 (ra cBx []), .cells 77 ((Za a14).map .p), .row 5 1 0 [[vi .u8 10]]]
abbrev Kl (a1 : BoxD) (a2 : Nat) (a3 : Tqq) (x1 : Bool) (a5 a6 a7 : Nat) (a8 : Oqq) (a9 : Iqq) (a10 a11 : Int) (a12 : Bool) (a13 : Iqq) (a14 : ThingD) : List AB := [.cells 28 ((cBx a1).map .p), yT a2 a3, .cells 83 [sp x1 2 0, .sl 3 a5 1 0 a6, .sl 1 a2 7 0 a7, ls 1 Zc a8, ls 1 eI64 a9, i6 a10, i6 a11, vb a12], yU a5 a13, .row 28 4 0 (ra cBx []), .cells 77 ((Za a14).map .p), .row 5 1 0 [[vi .u8 10]]]
abbrev Km (a1 : BoxD) (a2 : Nat) (a3 : Tqq) (x1 : Bool) (a5 a6 a7 : Nat) (a8 : Oqq) (a9 : Iqq) (a10 a11 : Int) (a12 : Bool) (a13 : Iqq) (a14 : ThingD) : List AB := [.cells 28 ((cBx a1).map .p), yT a2 a3, .cells 83 [sp x1 2 0, .sl 3 a5 1 0 a6, .sl 1 a2 7 0 a7, ls 1 Zc a8, ls 1 eI64 a9, i6 a10, i6 a11, vb a12], yU (a5 + 1) (a13.take a6 ++ [10]), .row 28 4 0 (ra cBx []), .cells 77 ((Za a14).map .p), .row 5 1 0 [[vi .u8 10]]]
theorem Fc (a1 : BoxD) (a2 : Nat) (a3 : Tqq) (a4 : Bool) (a5 a6 a7 : Nat) (a8 : Oqq) (a9 : Iqq) (a10 a11 : Int) (a12 : Bool) (a13 : Iqq) (a14 : ThingD) {r : R_F41_3} (h : Fb a4 a5 a6 a13 = some r) : CS prg 62 [.ptr 2 0, vi .u8 10] [.cells 28 ((cBx a1).map .p), yT a2 a3, .cells 83 [sp a4 2 0, .sl 3 a5 1 0 a6, .sl 1 a2 7 0 a7, ls 1 Zc a8, ls 1 eI64 a9, i6 a10, i6 a11, vb a12], yU a5 a13, .row 28 4 0 (ra cBx []), .cells 77 ((Za a14).map .p)] = some (Cs a1 a2 a3 a4 a5 a6 a7 a8 a9 a10 a11 a12 a13 a14 r, Ct a1 a2 a3 a4 a5 a6 a7 a8 a9 a10 a11 a12 a13 a14 r) := by
 unfold Fb at h
 apply bn h; intro x1 h1 h
 have q0 := ((PM a1 a2 a3 a4 a5 a6 a7 a8 a9 a10 a11 a12 a13 a14 h1) : CS prg 63 [.ptr 2 0] [.cells 28 ((cBx a1).map .p), yT a2 a3, .cells 83 [sp a4 2 0, .sl 3 a5 1 0 a6, .sl 1 a2 7 0 a7, ls 1 Zc a8, ls 1 eI64 a9, i6 a10, i6 a11, vb a12], yU a5 a13, .row 28 4 0 (ra cBx []), .cells 77 ((Za a14).map .p)] = some ((.tup []), Kj a1 a2 a3 x1 a5 a6 a7 a8 a9 a10 a11 a12 a13 a14))
 have k1 := ka [(6, .r (.tup []) (Kj a1 a2 a3 x1 a5 a6 a7 a8 a9 a10 a11 a12 a13 a14))] (apc q0 apn)
 apply bi h <;> intro h2 h
 ·
  apply bi h <;> intro h3 h
  ·
   rw [← sj h]
   exact fc ([(14, .r (.sl 3 a5 1 0 (a6 + 1)) (Kk a1 a2 a3 x1 a5 a6 a7 a8 a9 a10 a11 a12 a13 a14))] ++ kH k1) (k1.b (apc ((Vy (e := eU8) (xs := a13) (news := [10]) rfl (ZQ (e := eU8) (xs := [10]) rfl) rfl h2 h3) : appA (Kl a1 a2 a3 x1 a5 a6 a7 a8 a9 a10 a11 a12 a13 a14) 5 1 1 (.sl 3 a5 1 0 a6) (.sl 6 0 1 0 1) = some ((.sl 3 a5 1 0 (a6 + 1)), Kk a1 a2 a3 x1 a5 a6 a7 a8 a9 a10 a11 a12 a13 a14)) apn))
  ·
   rw [← sj h]
   exact fc ([(14, .r (.sl 3 (a5 + 1) 1 0 (a6 + 1)) (Km a1 a2 a3 x1 a5 a6 a7 a8 a9 a10 a11 a12 a13 a14))] ++ kH k1) (k1.b (apc ((Xe (e := eU8) (xs := a13) (news := [10]) rfl (ZQ (e := eU8) (xs := [10]) rfl) rfl h2 h3) : appA (Kl a1 a2 a3 x1 a5 a6 a7 a8 a9 a10 a11 a12 a13 a14) 5 1 1 (.sl 3 a5 1 0 a6) (.sl 6 0 1 0 1) = some ((.sl 3 (a5 + 1) 1 0 (a6 + 1)), Km a1 a2 a3 x1 a5 a6 a7 a8 a9 a10 a11 a12 a13 a14)) apn))
 ·
  cases h
inductive R_F33_4 where
  | k0 (x0 : Bool) (x1 : Nat) (x2 : Iqq)
def Cu (a1 : ThingD) (a2 : BoxD) (a3 : Nat) (a4 : Tqq) (a5 : Bool) (a6 a7 a8 : Nat) (a9 : Oqq) (a10 : Iqq) (a11 a12 : Int) (a13 : Bool) (a14 : Iqq) (r : R_F33_4) : AV := match r with | .k0 x0 x1 x2 => (.tup [])
def Cv (a1 : ThingD) (a2 : BoxD) (a3 : Nat) (a4 : Tqq) (a5 : Bool) (a6 a7 a8 : Nat) (a9 : Oqq) (a10 : Iqq) (a11 a12 : Int) (a13 : Bool) (a14 : Iqq) (r : R_F33_4) : List AB := match r with | .k0 x0 x1 x2 => [.cells 28 ((cBx a2).map .p), yT a3 a4, .cells 83 [sp x0 2 0, (.sl 3 x1 1 0 (a7 + 1)), .sl 1 a3 7 0 a8, ls 1 Zc a9, ls 1 eI64 a10, i6 a11, i6 a1.depth, vb true], yU x1 x2, .row 28 4 0 (ra cBx []), .cells 77 ((Za a1).map .p), .row 5 1 0 [[vi .u8 10]]]
def JE (a5 : Bool) (a6 a7 : Nat) (a14 : Iqq) : Option R_F33_4 :=
  ((Fb a5 a6 a7 a14).bind fun r1 => match r1 with | .k0 x1_0 x1_1 x1_2 => (some (.k0 x1_0 x1_1 x1_2)))
abbrev Kn (a2 : BoxD) (a3 : Nat) (a4 : Tqq) (x1_0 : Bool) (x1_1 a7 a8 : Nat) (a9 : Oqq) (a10 : Iqq) (a11 a12 : Int) (a13 : Bool) (x1_2 : Iqq) (a1 : ThingD) : List AB := [.cells 28 ((cBx a2).map .p), yT a3 a4, .cells 83 [sp x1_0 2 0, (.sl 3 x1_1 1 0 (a7 + 1)), .sl 1 a3 7 0 a8, ls 1 Zc a9, ls 1 eI64 a10, i6 a11, i6 a12, vb a13], yU x1_1 x1_2, .row 28 4 0 (ra cBx []), .cells 77 ((Za a1).map .p), .row 5 1 0 [[vi .u8 10]]]
theorem Ko (a1 : ThingD) (a2 : BoxD) (a3 : Nat) (a4 : Tqq) (a5 : Bool) (a6 a7 a8 : Nat) (a9 : Oqq) (a10 : Iqq) (a11 a12 : Int) (a13 : Bool) (a14 : Iqq) {r : R_F33_4} (h : JE a5 a6 a7 a14 = some r) : CS prg 51 [.ptr 2 0, i6 a1.depth] [.cells 28 ((cBx a2).map .p), yT a3 a4, .cells 83 [sp a5 2 0, .sl 3 a6 1 0 a7, .sl 1 a3 7 0 a8, ls 1 Zc a9, ls 1 eI64 a10, i6 a11, i6 a12, vb a13], yU a6 a14, .row 28 4 0 (ra cBx []), .cells 77 ((Za a1).map .p)] = some (Cu a1 a2 a3 a4 a5 a6 a7 a8 a9 a10 a11 a12 a13 a14 r, Cv a1 a2 a3 a4 a5 a6 a7 a8 a9 a10 a11 a12 a13 a14 r) := by
 unfold JE at h
 apply bn h; intro r1 h1 h
 cases r1 with
 | k0 x1_0 x1_1 x1_2 =>
  rw [← sj h]
  exact fc [(7, .r (.p (.val .nilIface)) (Kn a2 a3 a4 x1_0 x1_1 a7 a8 a9 a10 a11 a12 a13 x1_2 a1))] (apc ((Fc a2 a3 a4 a5 a6 a7 a8 a9 a10 a11 a12 a13 a14 a1 h1) : CS prg 62 [.ptr 2 0, vi .u8 10] [.cells 28 ((cBx a2).map .p), yT a3 a4, .cells 83 [sp a5 2 0, .sl 3 a6 1 0 a7, .sl 1 a3 7 0 a8, ls 1 Zc a9, ls 1 eI64 a10, i6 a11, i6 a12, vb a13], yU a6 a14, .row 28 4 0 (ra cBx []), .cells 77 ((Za a1).map .p)] = some ((.p (.val .nilIface)), Kn a2 a3 a4 x1_0 x1_1 a7 a8 a9 a10 a11 a12 a13 x1_2 a1)) apn)
inductive E_L37_1_10 where
  | k0 (x0 x1 : Nat) (x2 : Tqq)
section
variable (a1 : Nat) (a3 a4 a6 : Int) (a7 : ThingD) (a8 : Int) (a9 : BoxD) (a11 : Bool) (a12 a13 a14 : Nat) (a15 : Oqq) (a16 : Iqq) (a17 a18 : Int) (a19 : Iqq) (a20 : Nat) (a21 : Bqq) (a22 : ThingD) (a23 : Nat) (a24 : Int)
def WR (v1 v2 : Nat) (v3 v4 : Int) (v5 : Tqq) : Option (E_L37_1_10 ⊕ (Nat × Nat × Int × Int × Tqq)) :=
  (bif (decide (v4 < a8)) then ((getI a7.kids v4).bind fun x2 => (bif (apOk v2 1 v5.length 80) then (bif (decide (v2 + 1 ≤ v5.length)) then ((getI a16 v3).bind fun x5 => (some (.inr (v1, v2 + 1, (IntKind.wrap .i64 (v3 + x5)), (IntKind.wrap .i64 (v4 + 1)), (splice v5 v2 [(⟨x2.kind, x2.text, x2.n, x2.kids, a3, a4, v3⟩ : ThingD)]))))) else ((getI a16 v3).bind fun x5 => (some (.inr ((v1 + 1), v2 + 1, (IntKind.wrap .i64 (v3 + x5)), (IntKind.wrap .i64 (v4 + 1)), (v5.take v2 ++ [(⟨x2.kind, x2.text, x2.n, x2.kids, a3, a4, v3⟩ : ThingD)])))))) else none)) else (some (.inl (.k0 v1 v2 v5))))
def Qt (v1 v2 : Nat) (v3 v4 : Int) (v5 : Tqq) : St := ⟨fr 74 ug [(0, .ptr 2 0), (1, .sl 1 v1 7 0 v2), (3, i6 a3), (4, i6 a4), (11, i6 v3), (12, i6 a6), (24, (.p (.lst 4 (Zb a7.kids)))), (25, i6 a8), (26, i6 v4)], [.cells 28 ((cBx a9).map .p), yT v1 v5, .cells 83 [sp a11 2 0, .sl 3 a12 1 0 a13, .sl 1 a1 7 0 a14, ls 1 Zc a15, ls 1 eI64 a16, i6 a17, i6 a18, vb true], yU a12 a19, .row 28 4 a20 (ra cBx a21), .cells 77 ((Za a22).map .p), .row 5 1 a23 [[vi .u8 a24]], .cells 77 ((Za a7).map .p), yT0]⟩
theorem UH (v1 v2 : Nat) (v3 v4 : Int) (v5 : Tqq) : okT 9 (Qt a1 a3 a4 a6 a7 a8 a9 a11 a12 a13 a14 a15 a16 a17 a18 a19 a20 a21 a22 a23 a24 v1 v2 v3 v4 v5).h = true := (ZB rfl (ac (ar (Zt (Z5 rfl (Ze rfl (Ze rfl (Ze rfl (Ze rfl (Ze rfl (Ze rfl (Ze rfl rfl)))))))) (ar (ar (ac (ac (ac (ar rfl))))))))))
abbrev YQ (v1 v2 : Nat) (v3 v4 : Int) (v5 : Tqq) := evH prg 9 [0, 1, 3, 4, 11, 12, 24, 25, 26, 1000199007707] XD (Qt a1 a3 a4 a6 a7 a8 a9 a11 a12 a13 a14 a15 a16 a17 a18 a19 a20 a21 a22 a23 a24 v1 v2 v3 v4 v5)
def UI (e : E_L37_1_10) (r : Option (Out × St)) : Prop := match e with | .k0 x0 x1 x2 => ∃ g, r = some ((.brk 0), ⟨fr 74 g [(1, .sl 1 x0 7 0 x1), (12, i6 a6), (24, (.p (.lst 4 (Zb a7.kids))))], [.cells 28 ((cBx a9).map .p), yT x0 x2, .cells 83 [sp a11 2 0, .sl 3 a12 1 0 a13, .sl 1 a1 7 0 a14, ls 1 Zc a15, ls 1 eI64 a16, i6 a17, i6 a18, vb true], yU a12 a19, .row 28 4 a20 (ra cBx a21), .cells 77 ((Za a22).map .p), .row 5 1 a23 [[vi .u8 a24]], .cells 77 ((Za a7).map .p), yT0]⟩)
abbrev S2 (v1 : Nat) (v5 : Tqq) (v2 : Nat) (x2 : BoxD) (v3 : Int) : List AB := [.cells 28 ((cBx a9).map .p), yT v1 (splice v5 v2 [(⟨x2.kind, x2.text, x2.n, x2.kids, a3, a4, v3⟩ : ThingD)]), .cells 83 [sp a11 2 0, .sl 3 a12 1 0 a13, .sl 1 a1 7 0 a14, ls 1 Zc a15, ls 1 eI64 a16, i6 a17, i6 a18, vb true], yU a12 a19, .row 28 4 a20 (ra cBx a21), .cells 77 ((Za a22).map .p), .row 5 1 a23 [[vi .u8 a24]], .cells 77 ((Za a7).map .p), yT0, .row 28 4 0 (ra cBx []), .cells 28 ((cBx x2).map .p), .row 77 7 0 [[i6 x2.kind, vs x2.text, i6 x2.n, (.p (.lst 4 (Zb x2.kids))), i6 a3, i6 a4, i6 v3]]]
abbrev S3 (v1 : Nat) (v5 : Tqq) (x2 : BoxD) (v3 : Int) : List AB := [.cells 28 ((cBx a9).map .p), yT v1 v5, .cells 83 [sp a11 2 0, .sl 3 a12 1 0 a13, .sl 1 a1 7 0 a14, ls 1 Zc a15, ls 1 eI64 a16, i6 a17, i6 a18, vb true], yU a12 a19, .row 28 4 a20 (ra cBx a21), .cells 77 ((Za a22).map .p), .row 5 1 a23 [[vi .u8 a24]], .cells 77 ((Za a7).map .p), yT0, .row 28 4 0 (ra cBx []), .cells 28 ((cBx x2).map .p), .row 77 7 0 [[i6 x2.kind, vs x2.text, i6 x2.n, (.p (.lst 4 (Zb x2.kids))), i6 a3, i6 a4, i6 v3]]]
abbrev S4 (v1 : Nat) (v5 : Tqq) (v2 : Nat) (x2 : BoxD) (v3 : Int) : List AB := [.cells 28 ((cBx a9).map .p), yT (v1 + 1) (v5.take v2 ++ [(⟨x2.kind, x2.text, x2.n, x2.kids, a3, a4, v3⟩ : ThingD)]), .cells 83 [sp a11 2 0, .sl 3 a12 1 0 a13, .sl 1 a1 7 0 a14, ls 1 Zc a15, ls 1 eI64 a16, i6 a17, i6 a18, vb true], yU a12 a19, .row 28 4 a20 (ra cBx a21), .cells 77 ((Za a22).map .p), .row 5 1 a23 [[vi .u8 a24]], .cells 77 ((Za a7).map .p), yT0, .row 28 4 0 (ra cBx []), .cells 28 ((cBx x2).map .p), .row 77 7 0 [[i6 x2.kind, vs x2.text, i6 x2.n, (.p (.lst 4 (Zb x2.kids))), i6 a3, i6 a4, i6 v3]]]
theorem MN (v1 v2 : Nat) (v3 v4 : Int) (v5 : Tqq) {r : E_L37_1_10 ⊕ (Nat × Nat × Int × Int × Tqq)} (h : WR a3 a4 a7 a8 a16 v1 v2 v3 v4 v5 = some r) : OkR (fun e => UI a1 a6 a7 a9 a11 a12 a13 a14 a15 a16 a17 a18 a19 a20 a21 a22 a23 a24 e (YQ a1 a3 a4 a6 a7 a8 a9 a11 a12 a13 a14 a15 a16 a17 a18 a19 a20 a21 a22 a23 a24 v1 v2 v3 v4 v5)) (fun s => YQ a1 a3 a4 a6 a7 a8 a9 a11 a12 a13 a14 a15 a16 a17 a18 a19 a20 a21 a22 a23 a24 v1 v2 v3 v4 v5 = YQ a1 a3 a4 a6 a7 a8 a9 a11 a12 a13 a14 a15 a16 a17 a18 a19 a20 a21 a22 a23 a24 s.1 s.2.1 s.2.2.1 s.2.2.2.1 s.2.2.2.2) r := by
 unfold WR at h
 apply bi h <;> intro h1 h
 ·
  apply bn h; intro x2 h2 h
  have q0 := ((igr Zv h2) : idxA 4 (.p (.lst 4 (Zb a7.kids))) (i6 v4) = some (.ro (cBx x2)))
  have k1 := ka [(27, .d true), (28, .v (.ro (cBx x2)))] (av h1 (apc q0 apn))
  apply bi h <;> intro h3 h
  ·
   apply bi h <;> intro h4 h
   ·
    apply bn h; intro x5 h5 h
    rw [← sj h]
    exact rn ([(37, .r (.sl 1 v1 7 0 (v2 + 1)) (S2 a1 a3 a4 a7 a9 a11 a12 a13 a14 a15 a16 a17 a18 a19 a20 a21 a22 a23 a24 v1 v5 v2 x2 v3)), (44, .v (.ro [.val (.int .i64 x5)])), (6000, .d true)] ++ kH k1) (k1.b (apc ((Vy (e := Za) (xs := v5) (news := [(⟨x2.kind, x2.text, x2.n, x2.kids, a3, a4, v3⟩ : ThingD)]) rfl (ZQ (e := Za) (xs := [(⟨x2.kind, x2.text, x2.n, x2.kids, a3, a4, v3⟩ : ThingD)]) rfl) rfl h3 h4) : appA (S3 a1 a3 a4 a7 a9 a11 a12 a13 a14 a15 a16 a17 a18 a19 a20 a21 a22 a23 a24 v1 v5 x2 v3) 77 7 80 (.sl 1 v1 7 0 v2) (.sl 11 0 7 0 1) = some ((.sl 1 v1 7 0 (v2 + 1)), S2 a1 a3 a4 a7 a9 a11 a12 a13 a14 a15 a16 a17 a18 a19 a20 a21 a22 a23 a24 v1 v5 v2 x2 v3)) (apc (ig eI64 1 .i64 h5) (apc (UH a1 a3 a4 a6 a7 a8 a9 a11 a12 a13 a14 a15 a16 a17 a18 a19 a20 a21 a22 a23 a24 v1 (v2 + 1) (w6 (v3 + x5)) (w6 (v4 + 1)) (splice v5 v2 [(⟨x2.kind, x2.text, x2.n, x2.kids, a3, a4, v3⟩ : ThingD)])) apn))))
   ·
    apply bn h; intro x5 h5 h
    rw [← sj h]
    exact rn ([(37, .r (.sl 1 (v1 + 1) 7 0 (v2 + 1)) (S4 a1 a3 a4 a7 a9 a11 a12 a13 a14 a15 a16 a17 a18 a19 a20 a21 a22 a23 a24 v1 v5 v2 x2 v3)), (44, .v (.ro [.val (.int .i64 x5)])), (6000, .d true)] ++ kH k1) (k1.b (apc ((Xe (e := Za) (xs := v5) (news := [(⟨x2.kind, x2.text, x2.n, x2.kids, a3, a4, v3⟩ : ThingD)]) rfl (ZQ (e := Za) (xs := [(⟨x2.kind, x2.text, x2.n, x2.kids, a3, a4, v3⟩ : ThingD)]) rfl) rfl h3 h4) : appA (S3 a1 a3 a4 a7 a9 a11 a12 a13 a14 a15 a16 a17 a18 a19 a20 a21 a22 a23 a24 v1 v5 x2 v3) 77 7 80 (.sl 1 v1 7 0 v2) (.sl 11 0 7 0 1) = some ((.sl 1 (v1 + 1) 7 0 (v2 + 1)), S4 a1 a3 a4 a7 a9 a11 a12 a13 a14 a15 a16 a17 a18 a19 a20 a21 a22 a23 a24 v1 v5 v2 x2 v3)) (apc (ig eI64 1 .i64 h5) (apc (UH a1 a3 a4 a6 a7 a8 a9 a11 a12 a13 a14 a15 a16 a17 a18 a19 a20 a21 a22 a23 a24 (v1 + 1) (v2 + 1) (w6 (v3 + x5)) (w6 (v4 + 1)) (v5.take v2 ++ [(⟨x2.kind, x2.text, x2.n, x2.kids, a3, a4, v3⟩ : ThingD)])) apn))))
  ·
   cases h
 ·
  rw [← sj h]
  exact xb [(27, .d false), (6000, .d true)] (av h1 apn)
theorem O5 (s0 : Nat × Nat × Int × Int × Tqq) (e : E_L37_1_10) (h : runL (fun s => WR a3 a4 a7 a8 a16 s.1 s.2.1 s.2.2.1 s.2.2.2.1 s.2.2.2.2) s0 = some e) : UI a1 a6 a7 a9 a11 a12 a13 a14 a15 a16 a17 a18 a19 a20 a21 a22 a23 a24 e (YQ a1 a3 a4 a6 a7 a8 a9 a11 a12 a13 a14 a15 a16 a17 a18 a19 a20 a21 a22 a23 a24 s0.1 s0.2.1 s0.2.2.1 s0.2.2.2.1 s0.2.2.2.2) := by
  have q := @Zg (Nat × Nat × Int × Int × Tqq) E_L37_1_10 (fun s => WR a3 a4 a7 a8 a16 s.1 s.2.1 s.2.2.1 s.2.2.2.1 s.2.2.2.2) (fun s => YQ a1 a3 a4 a6 a7 a8 a9 a11 a12 a13 a14 a15 a16 a17 a18 a19 a20 a21 a22 a23 a24 s.1 s.2.1 s.2.2.1 s.2.2.2.1 s.2.2.2.2) (UI a1 a6 a7 a9 a11 a12 a13 a14 a15 a16 a17 a18 a19 a20 a21 a22 a23 a24) (fun s r h => MN a1 a3 a4 a6 a7 a8 a9 a11 a12 a13 a14 a15 a16 a17 a18 a19 a20 a21 a22 a23 a24 s.1 s.2.1 s.2.2.1 s.2.2.2.1 s.2.2.2.2 h) s0 e h
  exact q
end
inductive E_L37_0_10 where
  | k0 (x0 : Tqq)
section
variable (a1 a2 : Nat) (a5 : BoxD) (a7 : Bool) (a8 a9 a10 a11 : Nat) (a12 : Oqq) (a13 : Iqq) (a14 a15 : Int) (a16 : Iqq) (a17 : Nat) (a18 : Bqq) (a19 : ThingD) (a20 : Nat) (a21 : Int) (a22 : ThingD)
def WS (v1 v2 : Int) (v3 : Tqq) : Option (E_L37_0_10 ⊕ (Int × Int × Tqq)) :=
  (bif (decide (v1 < v2)) then ((ixN a2 v2).bind fun x2 => ((v3[x2]?).bind fun x3 => ((ixN a2 v1).bind fun x4 => ((v3[x4]?).bind fun x5 => (((v3.set x4 (⟨x3.kind, x3.text, x3.n, x3.kids, x3.depth, x3.way, x3.at_⟩ : ThingD))[x2]?).bind fun x6 => (some (.inr ((IntKind.wrap .i64 (v1 + 1)), (IntKind.wrap .i64 (v2 - 1)), ((v3.set x4 (⟨x3.kind, x3.text, x3.n, x3.kids, x3.depth, x3.way, x3.at_⟩ : ThingD)).set x2 (⟨x5.kind, x5.text, x5.n, x5.kids, x5.depth, x5.way, x5.at_⟩ : ThingD)))))))))) else (some (.inl (.k0 v3))))
def Qu (v1 v2 : Int) (v3 : Tqq) : St := ⟨fr 74 ug [(1, .sl 1 a1 7 0 a2), (15, i6 v1), (16, i6 v2)], [.cells 28 ((cBx a5).map .p), yT a1 v3, .cells 83 [sp a7 2 0, .sl 3 a8 1 0 a9, .sl 1 a10 7 0 a11, ls 1 Zc a12, ls 1 eI64 a13, i6 a14, i6 a15, vb true], yU a8 a16, .row 28 4 a17 (ra cBx a18), .cells 77 ((Za a19).map .p), .row 5 1 a20 [[vi .u8 a21]], .cells 77 ((Za a22).map .p), yT0]⟩
theorem Qv (v1 v2 : Int) (v3 : Tqq) : okT 9 (Qu a1 a2 a5 a7 a8 a9 a10 a11 a12 a13 a14 a15 a16 a17 a18 a19 a20 a21 a22 v1 v2 v3).h = true := (ZB rfl (ac (ar (Zt (Z5 rfl (Ze rfl (Ze rfl (Ze rfl (Ze rfl (Ze rfl (Ze rfl (Ze rfl rfl)))))))) (ar (ar (ac (ac (ac (ar rfl))))))))))
abbrev YR (v1 v2 : Int) (v3 : Tqq) := evH prg 9 [1, 15, 16] XC (Qu a1 a2 a5 a7 a8 a9 a10 a11 a12 a13 a14 a15 a16 a17 a18 a19 a20 a21 a22 v1 v2 v3)
def UJ (e : E_L37_0_10) (r : Option (Out × St)) : Prop := match e with | .k0 x0 => ∃ g, r = some ((.brk 2), ⟨fr 74 g [(1, .sl 1 a1 7 0 a2)], [.cells 28 ((cBx a5).map .p), yT a1 x0, .cells 83 [sp a7 2 0, .sl 3 a8 1 0 a9, .sl 1 a10 7 0 a11, ls 1 Zc a12, ls 1 eI64 a13, i6 a14, i6 a15, vb true], yU a8 a16, .row 28 4 a17 (ra cBx a18), .cells 77 ((Za a19).map .p), .row 5 1 a20 [[vi .u8 a21]], .cells 77 ((Za a22).map .p), yT0]⟩)
abbrev VC (v3 : Tqq) (x4 : Nat) (x3 : ThingD) : List AB := [.cells 28 ((cBx a5).map .p), yT a1 (v3.set x4 (⟨x3.kind, x3.text, x3.n, x3.kids, x3.depth, x3.way, x3.at_⟩ : ThingD)), .cells 83 [sp a7 2 0, .sl 3 a8 1 0 a9, .sl 1 a10 7 0 a11, ls 1 Zc a12, ls 1 eI64 a13, i6 a14, i6 a15, vb true], yU a8 a16, .row 28 4 a17 (ra cBx a18), .cells 77 ((Za a19).map .p), .row 5 1 a20 [[vi .u8 a21]], .cells 77 ((Za a22).map .p), yT0]
abbrev S5 (v3 : Tqq) (x4 : Nat) (x3 : ThingD) (x2 : Nat) (x5 : ThingD) : List AB := [.cells 28 ((cBx a5).map .p), yT a1 ((v3.set x4 (⟨x3.kind, x3.text, x3.n, x3.kids, x3.depth, x3.way, x3.at_⟩ : ThingD)).set x2 (⟨x5.kind, x5.text, x5.n, x5.kids, x5.depth, x5.way, x5.at_⟩ : ThingD)), .cells 83 [sp a7 2 0, .sl 3 a8 1 0 a9, .sl 1 a10 7 0 a11, ls 1 Zc a12, ls 1 eI64 a13, i6 a14, i6 a15, vb true], yU a8 a16, .row 28 4 a17 (ra cBx a18), .cells 77 ((Za a19).map .p), .row 5 1 a20 [[vi .u8 a21]], .cells 77 ((Za a22).map .p), yT0]
abbrev VD (v3 : Tqq) : List AB := [.cells 28 ((cBx a5).map .p), yT a1 v3, .cells 83 [sp a7 2 0, .sl 3 a8 1 0 a9, .sl 1 a10 7 0 a11, ls 1 Zc a12, ls 1 eI64 a13, i6 a14, i6 a15, vb true], yU a8 a16, .row 28 4 a17 (ra cBx a18), .cells 77 ((Za a19).map .p), .row 5 1 a20 [[vi .u8 a21]], .cells 77 ((Za a22).map .p), yT0]
theorem MO (v1 v2 : Int) (v3 : Tqq) {r : E_L37_0_10 ⊕ (Int × Int × Tqq)} (h : WS a2 v1 v2 v3 = some r) : OkR (fun e => UJ a1 a2 a5 a7 a8 a9 a10 a11 a12 a13 a14 a15 a16 a17 a18 a19 a20 a21 a22 e (YR a1 a2 a5 a7 a8 a9 a10 a11 a12 a13 a14 a15 a16 a17 a18 a19 a20 a21 a22 v1 v2 v3)) (fun s => YR a1 a2 a5 a7 a8 a9 a10 a11 a12 a13 a14 a15 a16 a17 a18 a19 a20 a21 a22 v1 v2 v3 = YR a1 a2 a5 a7 a8 a9 a10 a11 a12 a13 a14 a15 a16 a17 a18 a19 a20 a21 a22 s.1 s.2.1 s.2.2) r := by
 unfold WS at h
 apply bi h <;> intro h1 h
 ·
  apply bn h; intro x2 h2 h
  have q0 := ((ZO h2) : idxA 7 (.sl 1 a1 7 0 a2) (i6 v2) = some (.rp 1 a1 7 x2 0))
  apply bn h; intro x3 h3 h
  apply bn h; intro x4 h4 h
  have q1 := ((ZO h4) : idxA 7 (.sl 1 a1 7 0 a2) (i6 v1) = some (.rp 1 a1 7 x4 0))
  apply bn h; intro x5 h5 h
  apply bn h; intro x6 h6 h
  rw [← sj h]
  exact rn [(54, .d true), (65, .v (.rp 1 a1 7 x2 0)), (66, .v (.agg ((Za x3).map .p))), (69, .v (.rp 1 a1 7 x4 0)), (70, .v (.agg ((Za x5).map .p))), (71, .v (.rp 1 a1 7 x4 0)), (1071, .r ud (VC a1 a5 a7 a8 a9 a10 a11 a12 a13 a14 a15 a16 a17 a18 a19 a20 a21 a22 v3 x4 x3)), (72, .v (.rp 1 a1 7 x2 0)), (1072, .r ud (S5 a1 a5 a7 a8 a9 a10 a11 a12 a13 a14 a15 a16 a17 a18 a19 a20 a21 a22 v3 x4 x3 x2 x5)), (6000, .d true)] (av h1 (apc q0 (apc ((Z4 rfl h3 rfl) : ldA (VD a1 a5 a7 a8 a9 a10 a11 a12 a13 a14 a15 a16 a17 a18 a19 a20 a21 a22 v3) .true 7 (.rp 1 a1 7 x2 0) = some (.agg ((Za x3).map .p))) (apc q1 (apc ((Z4 rfl h5 rfl) : ldA (VD a1 a5 a7 a8 a9 a10 a11 a12 a13 a14 a15 a16 a17 a18 a19 a20 a21 a22 v3) .true 7 (.rp 1 a1 7 x4 0) = some (.agg ((Za x5).map .p))) (apc q1 (apc (⟨ZX (v' := (⟨x3.kind, x3.text, x3.n, x3.kids, x3.depth, x3.way, x3.at_⟩ : ThingD)) rfl h5 rfl rfl (Nat.le_of_ble_eq_true rfl) rfl, rfl⟩ : stA (VD a1 a5 a7 a8 a9 a10 a11 a12 a13 a14 a15 a16 a17 a18 a19 a20 a21 a22 v3) 7 (.rp 1 a1 7 x4 0) (.agg ((Za x3).map .p)) = some (VC a1 a5 a7 a8 a9 a10 a11 a12 a13 a14 a15 a16 a17 a18 a19 a20 a21 a22 v3 x4 x3) ∧ ud = ud) (apc q0 (apc (⟨ZX (v' := (⟨x5.kind, x5.text, x5.n, x5.kids, x5.depth, x5.way, x5.at_⟩ : ThingD)) rfl h6 rfl rfl (Nat.le_of_ble_eq_true rfl) rfl, rfl⟩ : stA (VC a1 a5 a7 a8 a9 a10 a11 a12 a13 a14 a15 a16 a17 a18 a19 a20 a21 a22 v3 x4 x3) 7 (.rp 1 a1 7 x2 0) (.agg ((Za x5).map .p)) = some (S5 a1 a5 a7 a8 a9 a10 a11 a12 a13 a14 a15 a16 a17 a18 a19 a20 a21 a22 v3 x4 x3 x2 x5) ∧ ud = ud) (apc (Qv a1 a2 a5 a7 a8 a9 a10 a11 a12 a13 a14 a15 a16 a17 a18 a19 a20 a21 a22 (w6 (v1 + 1)) (w6 (v2 - 1)) ((v3.set x4 (⟨x3.kind, x3.text, x3.n, x3.kids, x3.depth, x3.way, x3.at_⟩ : ThingD)).set x2 (⟨x5.kind, x5.text, x5.n, x5.kids, x5.depth, x5.way, x5.at_⟩ : ThingD))) apn))))))))))
 ·
  rw [← sj h]
  exact xb [(54, .d false), (6000, .d true)] (av h1 apn)
theorem O6 (s0 : Int × Int × Tqq) (e : E_L37_0_10) (h : runL (fun s => WS a2 s.1 s.2.1 s.2.2) s0 = some e) : UJ a1 a2 a5 a7 a8 a9 a10 a11 a12 a13 a14 a15 a16 a17 a18 a19 a20 a21 a22 e (YR a1 a2 a5 a7 a8 a9 a10 a11 a12 a13 a14 a15 a16 a17 a18 a19 a20 a21 a22 s0.1 s0.2.1 s0.2.2) := by
  have q := @Zg (Int × Int × Tqq) E_L37_0_10 (fun s => WS a2 s.1 s.2.1 s.2.2) (fun s => YR a1 a2 a5 a7 a8 a9 a10 a11 a12 a13 a14 a15 a16 a17 a18 a19 a20 a21 a22 s.1 s.2.1 s.2.2) (UJ a1 a2 a5 a7 a8 a9 a10 a11 a12 a13 a14 a15 a16 a17 a18 a19 a20 a21 a22) (fun s r h => MO a1 a2 a5 a7 a8 a9 a10 a11 a12 a13 a14 a15 a16 a17 a18 a19 a20 a21 a22 s.1 s.2.1 s.2.2 h) s0 e h
  exact q
end
inductive R_F37_10 where
  | k0 (x0 x1 : Nat) (x2 : Tqq)
def Fd (a1 a2 : Nat) (a3 : ThingD) (a4 a5 : Int) (a6 : BoxD) (a7 : Tqq) (a8 : Bool) (a9 a10 a11 : Nat) (a12 : Oqq) (a13 : Iqq) (a14 a15 : Int) (a16 : Iqq) (a17 : Nat) (a18 : Bqq) (a19 : ThingD) (a20 : Nat) (a21 : Int) (r : R_F37_10) : AV := match r with | .k0 x0 x1 x2 => (.sl 1 x0 7 0 x1)
def Fe (a1 a2 : Nat) (a3 : ThingD) (a4 a5 : Int) (a6 : BoxD) (a7 : Tqq) (a8 : Bool) (a9 a10 a11 : Nat) (a12 : Oqq) (a13 : Iqq) (a14 a15 : Int) (a16 : Iqq) (a17 : Nat) (a18 : Bqq) (a19 : ThingD) (a20 : Nat) (a21 : Int) (r : R_F37_10) : List AB := match r with | .k0 x0 x1 x2 => [.cells 28 ((cBx a6).map .p), yT x0 x2, .cells 83 [sp a8 2 0, .sl 3 a9 1 0 a10, .sl 1 a1 7 0 a11, ls 1 Zc a12, ls 1 eI64 a13, i6 a14, i6 a15, vb true], yU a9 a16, .row 28 4 a17 (ra cBx a18), .cells 77 ((Za a19).map .p), .row 5 1 a20 [[vi .u8 a21]], .cells 77 ((Za a3).map .p), yT0]
def O7 (a1 a2 : Nat) (a3 : ThingD) (a4 a5 : Int) (a7 : Tqq) (a13 : Iqq) : Option R_F37_10 :=
  ((runL (fun s => WR a4 a5 a3 (a3.kids.length : Int) a13 s.1 s.2.1 s.2.2.1 s.2.2.2.1 s.2.2.2.2) (a1, a2, (IntKind.wrap .i64 (a3.at_ + 1)), 0, a7)).bind fun r1 => match r1 with | .k0 x1_0 x1_1 x1_2 => ((runL (fun s => WS x1_1 s.1 s.2.1 s.2.2) (((a2 : Nat) : Int), (IntKind.wrap .i64 (((x1_1 : Nat) : Int) - 1)), x1_2)).bind fun r2 => match r2 with | .k0 x2_0 => (some (.k0 x1_0 x1_1 x2_0))))
abbrev O8 (g1 : Nat → AV) (x1_0 x1_1 a2 : Nat) (a3 : ThingD) (a6 : BoxD) (x1_2 : Tqq) (a8 : Bool) (a9 a10 a1 a11 : Nat) (a12 : Oqq) (a13 : Iqq) (a14 a15 : Int) (a16 : Iqq) (a17 : Nat) (a18 : Bqq) (a19 : ThingD) (a20 : Nat) (a21 : Int) : St := ⟨fr 74 g1 [(1, .sl 1 x1_0 7 0 x1_1), (12, (i6 ((a2 : Nat) : Int))), (24, (.p (.lst 4 (Zb a3.kids))))], [.cells 28 ((cBx a6).map .p), yT x1_0 x1_2, .cells 83 [sp a8 2 0, .sl 3 a9 1 0 a10, .sl 1 a1 7 0 a11, ls 1 Zc a12, ls 1 eI64 a13, i6 a14, i6 a15, vb true], yU a9 a16, .row 28 4 a17 (ra cBx a18), .cells 77 ((Za a19).map .p), .row 5 1 a20 [[vi .u8 a21]], .cells 77 ((Za a3).map .p), yT0]⟩
abbrev O9 (g2 : Nat → AV) (x1_0 x1_1 : Nat) (a6 : BoxD) (x2_0 : Tqq) (a8 : Bool) (a9 a10 a1 a11 : Nat) (a12 : Oqq) (a13 : Iqq) (a14 a15 : Int) (a16 : Iqq) (a17 : Nat) (a18 : Bqq) (a19 : ThingD) (a20 : Nat) (a21 : Int) (a3 : ThingD) : St := ⟨fr 74 g2 [(1, .sl 1 x1_0 7 0 x1_1)], [.cells 28 ((cBx a6).map .p), yT x1_0 x2_0, .cells 83 [sp a8 2 0, .sl 3 a9 1 0 a10, .sl 1 a1 7 0 a11, ls 1 Zc a12, ls 1 eI64 a13, i6 a14, i6 a15, vb true], yU a9 a16, .row 28 4 a17 (ra cBx a18), .cells 77 ((Za a19).map .p), .row 5 1 a20 [[vi .u8 a21]], .cells 77 ((Za a3).map .p), yT0]⟩
theorem HC (a1 a2 : Nat) (a3 : ThingD) (a4 a5 : Int) (a6 : BoxD) (a7 : Tqq) (a8 : Bool) (a9 a10 a11 : Nat) (a12 : Oqq) (a13 : Iqq) (a14 a15 : Int) (a16 : Iqq) (a17 : Nat) (a18 : Bqq) (a19 : ThingD) (a20 : Nat) (a21 : Int) {r : R_F37_10} (h : O7 a1 a2 a3 a4 a5 a7 a13 = some r) : CS prg 55 [.ptr 2 0, .sl 1 a1 7 0 a2, (.agg ((Za a3).map .p)), i6 a4, i6 a5] [.cells 28 ((cBx a6).map .p), yT a1 a7, .cells 83 [sp a8 2 0, .sl 3 a9 1 0 a10, .sl 1 a1 7 0 a11, ls 1 Zc a12, ls 1 eI64 a13, i6 a14, i6 a15, vb true], yU a9 a16, .row 28 4 a17 (ra cBx a18), .cells 77 ((Za a19).map .p), .row 5 1 a20 [[vi .u8 a21]]] = some (Fd a1 a2 a3 a4 a5 a6 a7 a8 a9 a10 a11 a12 a13 a14 a15 a16 a17 a18 a19 a20 a21 r, Fe a1 a2 a3 a4 a5 a6 a7 a8 a9 a10 a11 a12 a13 a14 a15 a16 a17 a18 a19 a20 a21 r) := by
 unfold O7 at h
 apply bn h; intro r1 h1 h
 cases r1 with
 | k0 x1_0 x1_1 x1_2 =>
  obtain ⟨g1, e1⟩ := O5 a1 a4 a5 ((a2 : Nat) : Int) a3 (a3.kids.length : Int) a6 a8 a9 a10 a11 a12 a13 a14 a15 a16 a17 a18 a19 a20 a21 (a1, a2, (w6 (a3.at_ + 1)), 0, a7) _ h1
  apply bn h; intro r2 h2 h
  cases r2 with
  | k0 x2_0 =>
   obtain ⟨g2, e2⟩ := O6 x1_0 x1_1 a6 a8 a9 a10 a1 a11 a12 a13 a14 a15 a16 a17 a18 a19 a20 a21 a3 (((a2 : Nat) : Int), (w6 (((x1_1 : Nat) : Int) - 1)), x1_2) _ h2
   rw [← sj h]
   exact fc [(25, .v (i6 (a3.kids.length : Int))), (2000, .l (.brk 0) (O8 g1 x1_0 x1_1 a2 a3 a6 x1_2 a8 a9 a10 a1 a11 a12 a13 a14 a15 a16 a17 a18 a19 a20 a21)), (2002, .l (.brk 2) (O9 g2 x1_0 x1_1 a6 x2_0 a8 a9 a10 a1 a11 a12 a13 a14 a15 a16 a17 a18 a19 a20 a21 a3)), (6000, .d true)] (apc ((lgr Zv) : lnA (.p (.lst 4 (Zb a3.kids))) = some (i6 (a3.kids.length : Int))) (apc (UH a1 a4 a5 ((a2 : Nat) : Int) a3 (a3.kids.length : Int) a6 a8 a9 a10 a11 a12 a13 a14 a15 a16 a17 a18 a19 a20 a21 a1 a2 (w6 (a3.at_ + 1)) 0 a7) (apc (e1 : YQ a1 a4 a5 ((a2 : Nat) : Int) a3 (a3.kids.length : Int) a6 a8 a9 a10 a11 a12 a13 a14 a15 a16 a17 a18 a19 a20 a21 a1 a2 (w6 (a3.at_ + 1)) 0 a7 = some ((.brk 0), O8 g1 x1_0 x1_1 a2 a3 a6 x1_2 a8 a9 a10 a1 a11 a12 a13 a14 a15 a16 a17 a18 a19 a20 a21)) (apc (Qv x1_0 x1_1 a6 a8 a9 a10 a1 a11 a12 a13 a14 a15 a16 a17 a18 a19 a20 a21 a3 ((a2 : Nat) : Int) (w6 (((x1_1 : Nat) : Int) - 1)) x1_2) (apc (e2 : YR x1_0 x1_1 a6 a8 a9 a10 a1 a11 a12 a13 a14 a15 a16 a17 a18 a19 a20 a21 a3 ((a2 : Nat) : Int) (w6 (((x1_1 : Nat) : Int) - 1)) x1_2 = some ((.brk 2), O9 g2 x1_0 x1_1 a6 x2_0 a8 a9 a10 a1 a11 a12 a13 a14 a15 a16 a17 a18 a19 a20 a21 a3)) apn)))))
inductive E_L37_1_11 where
  | k0 (x0 x1 : Nat) (x2 : Tqq)
section
variable (a1 a2 : Int) (a4 : ThingD) (a5 : Int) (a6 : BoxD) (a7 : Nat) (a8 : Tqq) (a9 : Bool) (a10 a11 a12 : Nat) (a13 : Oqq) (a14 : Iqq) (a15 a16 : Int) (a17 : Bool) (a18 : Iqq) (a19 : Nat) (a20 : Bqq) (a21 a22 : ThingD)
abbrev XU (l : List AB) : List AB := .cells 28 ((cBx a6).map .p) :: yT a7 a8 :: .cells 83 [sp a9 2 0, .sl 3 a10 1 0 a11, .sl 1 a7 7 0 a12, ls 1 Zc a13, ls 1 eI64 a14, i6 a15, i6 a16, vb a17] :: yU a10 a18 :: .row 28 4 a19 (ra cBx a20) :: .cells 77 ((Za a21).map .p) :: .cells 73 [.ptr 2 0] :: .cells 77 ((Za a22).map .p) :: .cells 77 ((Za a4).map .p) :: yT0 :: l
def WT (v1 v2 : Nat) (v3 v4 : Int) (v5 : Tqq) : Option (E_L37_1_11 ⊕ (Nat × Nat × Int × Int × Tqq)) :=
  (bif (decide (v4 < a5)) then ((getI a4.kids v4).bind fun x2 => (bif (apOk v2 1 v5.length 80) then (bif (decide (v2 + 1 ≤ v5.length)) then ((getI a14 v3).bind fun x5 => (some (.inr (v1, v2 + 1, (IntKind.wrap .i64 (v3 + x5)), (IntKind.wrap .i64 (v4 + 1)), (splice v5 v2 [(⟨x2.kind, x2.text, x2.n, x2.kids, a1, a2, v3⟩ : ThingD)]))))) else ((getI a14 v3).bind fun x5 => (some (.inr ((v1 + 1), v2 + 1, (IntKind.wrap .i64 (v3 + x5)), (IntKind.wrap .i64 (v4 + 1)), (v5.take v2 ++ [(⟨x2.kind, x2.text, x2.n, x2.kids, a1, a2, v3⟩ : ThingD)])))))) else none)) else (some (.inl (.k0 v1 v2 v5))))
def Qw (v1 v2 : Nat) (v3 v4 : Int) (v5 : Tqq) : St := ⟨fr 74 ug [(0, .ptr 2 0), (1, .sl 10 v1 7 0 v2), (3, i6 a1), (4, i6 a2), (11, i6 v3), (12, i6 0), (24, (.p (.lst 4 (Zb a4.kids)))), (25, i6 a5), (26, i6 v4)], (XU a4 a6 a7 a8 a9 a10 a11 a12 a13 a14 a15 a16 a17 a18 a19 a20 a21 a22 [yT v1 v5])⟩
theorem UK (v1 v2 : Nat) (v3 v4 : Int) (v5 : Tqq) : okT 11 (Qw a1 a2 a4 a5 a6 a7 a8 a9 a10 a11 a12 a13 a14 a15 a16 a17 a18 a19 a20 a21 a22 v1 v2 v3 v4 v5).h = true := (ZB rfl (ac (ar (Zt (Z5 rfl (Ze rfl (Ze rfl (Ze rfl (Ze rfl (Ze rfl (Ze rfl (Ze rfl rfl)))))))) (ar (ar (ac (ac (ac (ac (ar (ar rfl))))))))))))
abbrev YS (v1 v2 : Nat) (v3 v4 : Int) (v5 : Tqq) := evH prg 11 [0, 1, 3, 4, 11, 12, 24, 25, 26, 1000199007707] XD (Qw a1 a2 a4 a5 a6 a7 a8 a9 a10 a11 a12 a13 a14 a15 a16 a17 a18 a19 a20 a21 a22 v1 v2 v3 v4 v5)
def UL (e : E_L37_1_11) (r : Option (Out × St)) : Prop := match e with | .k0 x0 x1 x2 => ∃ g, r = some ((.brk 0), ⟨fr 74 g [(1, .sl 10 x0 7 0 x1), (12, i6 0), (24, (.p (.lst 4 (Zb a4.kids))))], (XU a4 a6 a7 a8 a9 a10 a11 a12 a13 a14 a15 a16 a17 a18 a19 a20 a21 a22 [yT x0 x2])⟩)
abbrev S6 (v1 : Nat) (v5 : Tqq) (v2 : Nat) (x2 : BoxD) (v3 : Int) : List AB := (XU a4 a6 a7 a8 a9 a10 a11 a12 a13 a14 a15 a16 a17 a18 a19 a20 a21 a22 [yT v1 (splice v5 v2 [(⟨x2.kind, x2.text, x2.n, x2.kids, a1, a2, v3⟩ : ThingD)]), .row 28 4 0 (ra cBx []), .cells 28 ((cBx x2).map .p), .row 77 7 0 [[i6 x2.kind, vs x2.text, i6 x2.n, (.p (.lst 4 (Zb x2.kids))), i6 a1, i6 a2, i6 v3]]])
abbrev S7 (v1 : Nat) (v5 : Tqq) (x2 : BoxD) (v3 : Int) : List AB := (XU a4 a6 a7 a8 a9 a10 a11 a12 a13 a14 a15 a16 a17 a18 a19 a20 a21 a22 [yT v1 v5, .row 28 4 0 (ra cBx []), .cells 28 ((cBx x2).map .p), .row 77 7 0 [[i6 x2.kind, vs x2.text, i6 x2.n, (.p (.lst 4 (Zb x2.kids))), i6 a1, i6 a2, i6 v3]]])
abbrev S8 (v1 : Nat) (v5 : Tqq) (v2 : Nat) (x2 : BoxD) (v3 : Int) : List AB := (XU a4 a6 a7 a8 a9 a10 a11 a12 a13 a14 a15 a16 a17 a18 a19 a20 a21 a22 [yT (v1 + 1) (v5.take v2 ++ [(⟨x2.kind, x2.text, x2.n, x2.kids, a1, a2, v3⟩ : ThingD)]), .row 28 4 0 (ra cBx []), .cells 28 ((cBx x2).map .p), .row 77 7 0 [[i6 x2.kind, vs x2.text, i6 x2.n, (.p (.lst 4 (Zb x2.kids))), i6 a1, i6 a2, i6 v3]]])
theorem MP (v1 v2 : Nat) (v3 v4 : Int) (v5 : Tqq) {r : E_L37_1_11 ⊕ (Nat × Nat × Int × Int × Tqq)} (h : WT a1 a2 a4 a5 a14 v1 v2 v3 v4 v5 = some r) : OkR (fun e => UL a4 a6 a7 a8 a9 a10 a11 a12 a13 a14 a15 a16 a17 a18 a19 a20 a21 a22 e (YS a1 a2 a4 a5 a6 a7 a8 a9 a10 a11 a12 a13 a14 a15 a16 a17 a18 a19 a20 a21 a22 v1 v2 v3 v4 v5)) (fun s => YS a1 a2 a4 a5 a6 a7 a8 a9 a10 a11 a12 a13 a14 a15 a16 a17 a18 a19 a20 a21 a22 v1 v2 v3 v4 v5 = YS a1 a2 a4 a5 a6 a7 a8 a9 a10 a11 a12 a13 a14 a15 a16 a17 a18 a19 a20 a21 a22 s.1 s.2.1 s.2.2.1 s.2.2.2.1 s.2.2.2.2) r := by
 unfold WT at h
 apply bi h <;> intro h1 h
 ·
  apply bn h; intro x2 h2 h
  have q0 := ((igr Zv h2) : idxA 4 (.p (.lst 4 (Zb a4.kids))) (i6 v4) = some (.ro (cBx x2)))
  have k1 := ka [(27, .d true), (28, .v (.ro (cBx x2)))] (av h1 (apc q0 apn))
  apply bi h <;> intro h3 h
  ·
   apply bi h <;> intro h4 h
   ·
    apply bn h; intro x5 h5 h
    rw [← sj h]
    exact rn ([(37, .r (.sl 10 v1 7 0 (v2 + 1)) (S6 a1 a2 a4 a6 a7 a8 a9 a10 a11 a12 a13 a14 a15 a16 a17 a18 a19 a20 a21 a22 v1 v5 v2 x2 v3)), (44, .v (.ro [.val (.int .i64 x5)])), (6000, .d true)] ++ kH k1) (k1.b (apc ((Vy (e := Za) (xs := v5) (news := [(⟨x2.kind, x2.text, x2.n, x2.kids, a1, a2, v3⟩ : ThingD)]) rfl (ZQ (e := Za) (xs := [(⟨x2.kind, x2.text, x2.n, x2.kids, a1, a2, v3⟩ : ThingD)]) rfl) rfl h3 h4) : appA (S7 a1 a2 a4 a6 a7 a8 a9 a10 a11 a12 a13 a14 a15 a16 a17 a18 a19 a20 a21 a22 v1 v5 x2 v3) 77 7 80 (.sl 10 v1 7 0 v2) (.sl 13 0 7 0 1) = some ((.sl 10 v1 7 0 (v2 + 1)), S6 a1 a2 a4 a6 a7 a8 a9 a10 a11 a12 a13 a14 a15 a16 a17 a18 a19 a20 a21 a22 v1 v5 v2 x2 v3)) (apc (ig eI64 1 .i64 h5) (apc (UK a1 a2 a4 a5 a6 a7 a8 a9 a10 a11 a12 a13 a14 a15 a16 a17 a18 a19 a20 a21 a22 v1 (v2 + 1) (w6 (v3 + x5)) (w6 (v4 + 1)) (splice v5 v2 [(⟨x2.kind, x2.text, x2.n, x2.kids, a1, a2, v3⟩ : ThingD)])) apn))))
   ·
    apply bn h; intro x5 h5 h
    rw [← sj h]
    exact rn ([(37, .r (.sl 10 (v1 + 1) 7 0 (v2 + 1)) (S8 a1 a2 a4 a6 a7 a8 a9 a10 a11 a12 a13 a14 a15 a16 a17 a18 a19 a20 a21 a22 v1 v5 v2 x2 v3)), (44, .v (.ro [.val (.int .i64 x5)])), (6000, .d true)] ++ kH k1) (k1.b (apc ((Xe (e := Za) (xs := v5) (news := [(⟨x2.kind, x2.text, x2.n, x2.kids, a1, a2, v3⟩ : ThingD)]) rfl (ZQ (e := Za) (xs := [(⟨x2.kind, x2.text, x2.n, x2.kids, a1, a2, v3⟩ : ThingD)]) rfl) rfl h3 h4) : appA (S7 a1 a2 a4 a6 a7 a8 a9 a10 a11 a12 a13 a14 a15 a16 a17 a18 a19 a20 a21 a22 v1 v5 x2 v3) 77 7 80 (.sl 10 v1 7 0 v2) (.sl 13 0 7 0 1) = some ((.sl 10 (v1 + 1) 7 0 (v2 + 1)), S8 a1 a2 a4 a6 a7 a8 a9 a10 a11 a12 a13 a14 a15 a16 a17 a18 a19 a20 a21 a22 v1 v5 v2 x2 v3)) (apc (ig eI64 1 .i64 h5) (apc (UK a1 a2 a4 a5 a6 a7 a8 a9 a10 a11 a12 a13 a14 a15 a16 a17 a18 a19 a20 a21 a22 (v1 + 1) (v2 + 1) (w6 (v3 + x5)) (w6 (v4 + 1)) (v5.take v2 ++ [(⟨x2.kind, x2.text, x2.n, x2.kids, a1, a2, v3⟩ : ThingD)])) apn))))
  ·
   cases h
 ·
  rw [← sj h]
  exact xb [(27, .d false), (6000, .d true)] (av h1 apn)
theorem Na (s0 : Nat × Nat × Int × Int × Tqq) (e : E_L37_1_11) (h : runL (fun s => WT a1 a2 a4 a5 a14 s.1 s.2.1 s.2.2.1 s.2.2.2.1 s.2.2.2.2) s0 = some e) : UL a4 a6 a7 a8 a9 a10 a11 a12 a13 a14 a15 a16 a17 a18 a19 a20 a21 a22 e (YS a1 a2 a4 a5 a6 a7 a8 a9 a10 a11 a12 a13 a14 a15 a16 a17 a18 a19 a20 a21 a22 s0.1 s0.2.1 s0.2.2.1 s0.2.2.2.1 s0.2.2.2.2) := by
  have q := @Zg (Nat × Nat × Int × Int × Tqq) E_L37_1_11 (fun s => WT a1 a2 a4 a5 a14 s.1 s.2.1 s.2.2.1 s.2.2.2.1 s.2.2.2.2) (fun s => YS a1 a2 a4 a5 a6 a7 a8 a9 a10 a11 a12 a13 a14 a15 a16 a17 a18 a19 a20 a21 a22 s.1 s.2.1 s.2.2.1 s.2.2.2.1 s.2.2.2.2) (UL a4 a6 a7 a8 a9 a10 a11 a12 a13 a14 a15 a16 a17 a18 a19 a20 a21 a22) (fun s r h => MP a1 a2 a4 a5 a6 a7 a8 a9 a10 a11 a12 a13 a14 a15 a16 a17 a18 a19 a20 a21 a22 s.1 s.2.1 s.2.2.1 s.2.2.2.1 s.2.2.2.2 h) s0 e h
  exact q
end
inductive E_L37_0_11 where
  | k0 (x0 : Tqq)
section
variable (a1 a2 : Nat) (a4 : BoxD) (a5 : Nat) (a6 : Tqq) (a7 : Bool) (a8 a9 a10 : Nat) (a11 : Oqq) (a12 : Iqq) (a13 a14 : Int) (a15 : Bool) (a16 : Iqq) (a17 : Nat) (a18 : Bqq) (a19 a20 a21 : ThingD)
abbrev XV (l : List AB) : List AB := .cells 28 ((cBx a4).map .p) :: yT a5 a6 :: .cells 83 [sp a7 2 0, .sl 3 a8 1 0 a9, .sl 1 a5 7 0 a10, ls 1 Zc a11, ls 1 eI64 a12, i6 a13, i6 a14, vb a15] :: yU a8 a16 :: .row 28 4 a17 (ra cBx a18) :: .cells 77 ((Za a19).map .p) :: .cells 73 [.ptr 2 0] :: .cells 77 ((Za a20).map .p) :: .cells 77 ((Za a21).map .p) :: yT0 :: l
def WU (v1 v2 : Int) (v3 : Tqq) : Option (E_L37_0_11 ⊕ (Int × Int × Tqq)) :=
  (bif (decide (v1 < v2)) then ((ixN a2 v2).bind fun x2 => ((v3[x2]?).bind fun x3 => ((ixN a2 v1).bind fun x4 => ((v3[x4]?).bind fun x5 => (((v3.set x4 (⟨x3.kind, x3.text, x3.n, x3.kids, x3.depth, x3.way, x3.at_⟩ : ThingD))[x2]?).bind fun x6 => (some (.inr ((IntKind.wrap .i64 (v1 + 1)), (IntKind.wrap .i64 (v2 - 1)), ((v3.set x4 (⟨x3.kind, x3.text, x3.n, x3.kids, x3.depth, x3.way, x3.at_⟩ : ThingD)).set x2 (⟨x5.kind, x5.text, x5.n, x5.kids, x5.depth, x5.way, x5.at_⟩ : ThingD)))))))))) else (some (.inl (.k0 v3))))
def Qx (v1 v2 : Int) (v3 : Tqq) : St := ⟨fr 74 ug [(1, .sl 10 a1 7 0 a2), (15, i6 v1), (16, i6 v2)], (XV a4 a5 a6 a7 a8 a9 a10 a11 a12 a13 a14 a15 a16 a17 a18 a19 a20 a21 [yT a1 v3])⟩
theorem Qy (v1 v2 : Int) (v3 : Tqq) : okT 11 (Qx a1 a2 a4 a5 a6 a7 a8 a9 a10 a11 a12 a13 a14 a15 a16 a17 a18 a19 a20 a21 v1 v2 v3).h = true := (ZB rfl (ac (ar (Zt (Z5 rfl (Ze rfl (Ze rfl (Ze rfl (Ze rfl (Ze rfl (Ze rfl (Ze rfl rfl)))))))) (ar (ar (ac (ac (ac (ac (ar (ar rfl))))))))))))
abbrev YT (v1 v2 : Int) (v3 : Tqq) := evH prg 11 [1, 15, 16] XC (Qx a1 a2 a4 a5 a6 a7 a8 a9 a10 a11 a12 a13 a14 a15 a16 a17 a18 a19 a20 a21 v1 v2 v3)
def UM (e : E_L37_0_11) (r : Option (Out × St)) : Prop := match e with | .k0 x0 => ∃ g, r = some ((.brk 2), ⟨fr 74 g [(1, .sl 10 a1 7 0 a2)], (XV a4 a5 a6 a7 a8 a9 a10 a11 a12 a13 a14 a15 a16 a17 a18 a19 a20 a21 [yT a1 x0])⟩)
abbrev VE (v3 : Tqq) (x4 : Nat) (x3 : ThingD) : List AB := (XV a4 a5 a6 a7 a8 a9 a10 a11 a12 a13 a14 a15 a16 a17 a18 a19 a20 a21 [yT a1 (v3.set x4 (⟨x3.kind, x3.text, x3.n, x3.kids, x3.depth, x3.way, x3.at_⟩ : ThingD))])
abbrev S9 (v3 : Tqq) (x4 : Nat) (x3 : ThingD) (x2 : Nat) (x5 : ThingD) : List AB := (XV a4 a5 a6 a7 a8 a9 a10 a11 a12 a13 a14 a15 a16 a17 a18 a19 a20 a21 [yT a1 ((v3.set x4 (⟨x3.kind, x3.text, x3.n, x3.kids, x3.depth, x3.way, x3.at_⟩ : ThingD)).set x2 (⟨x5.kind, x5.text, x5.n, x5.kids, x5.depth, x5.way, x5.at_⟩ : ThingD))])
abbrev VF (v3 : Tqq) : List AB := (XV a4 a5 a6 a7 a8 a9 a10 a11 a12 a13 a14 a15 a16 a17 a18 a19 a20 a21 [yT a1 v3])
theorem MQ (v1 v2 : Int) (v3 : Tqq) {r : E_L37_0_11 ⊕ (Int × Int × Tqq)} (h : WU a2 v1 v2 v3 = some r) : OkR (fun e => UM a1 a2 a4 a5 a6 a7 a8 a9 a10 a11 a12 a13 a14 a15 a16 a17 a18 a19 a20 a21 e (YT a1 a2 a4 a5 a6 a7 a8 a9 a10 a11 a12 a13 a14 a15 a16 a17 a18 a19 a20 a21 v1 v2 v3)) (fun s => YT a1 a2 a4 a5 a6 a7 a8 a9 a10 a11 a12 a13 a14 a15 a16 a17 a18 a19 a20 a21 v1 v2 v3 = YT a1 a2 a4 a5 a6 a7 a8 a9 a10 a11 a12 a13 a14 a15 a16 a17 a18 a19 a20 a21 s.1 s.2.1 s.2.2) r := by
 unfold WU at h
 apply bi h <;> intro h1 h
 ·
  apply bn h; intro x2 h2 h
  have q0 := ((ZO h2) : idxA 7 (.sl 10 a1 7 0 a2) (i6 v2) = some (.rp 10 a1 7 x2 0))
  apply bn h; intro x3 h3 h
  apply bn h; intro x4 h4 h
  have q1 := ((ZO h4) : idxA 7 (.sl 10 a1 7 0 a2) (i6 v1) = some (.rp 10 a1 7 x4 0))
  apply bn h; intro x5 h5 h
  apply bn h; intro x6 h6 h
  rw [← sj h]
  exact rn [(54, .d true), (65, .v (.rp 10 a1 7 x2 0)), (66, .v (.agg ((Za x3).map .p))), (69, .v (.rp 10 a1 7 x4 0)), (70, .v (.agg ((Za x5).map .p))), (71, .v (.rp 10 a1 7 x4 0)), (1071, .r ud (VE a1 a4 a5 a6 a7 a8 a9 a10 a11 a12 a13 a14 a15 a16 a17 a18 a19 a20 a21 v3 x4 x3)), (72, .v (.rp 10 a1 7 x2 0)), (1072, .r ud (S9 a1 a4 a5 a6 a7 a8 a9 a10 a11 a12 a13 a14 a15 a16 a17 a18 a19 a20 a21 v3 x4 x3 x2 x5)), (6000, .d true)] (av h1 (apc q0 (apc ((Z4 rfl h3 rfl) : ldA (VF a1 a4 a5 a6 a7 a8 a9 a10 a11 a12 a13 a14 a15 a16 a17 a18 a19 a20 a21 v3) .true 7 (.rp 10 a1 7 x2 0) = some (.agg ((Za x3).map .p))) (apc q1 (apc ((Z4 rfl h5 rfl) : ldA (VF a1 a4 a5 a6 a7 a8 a9 a10 a11 a12 a13 a14 a15 a16 a17 a18 a19 a20 a21 v3) .true 7 (.rp 10 a1 7 x4 0) = some (.agg ((Za x5).map .p))) (apc q1 (apc (⟨ZX (v' := (⟨x3.kind, x3.text, x3.n, x3.kids, x3.depth, x3.way, x3.at_⟩ : ThingD)) rfl h5 rfl rfl (Nat.le_of_ble_eq_true rfl) rfl, rfl⟩ : stA (VF a1 a4 a5 a6 a7 a8 a9 a10 a11 a12 a13 a14 a15 a16 a17 a18 a19 a20 a21 v3) 7 (.rp 10 a1 7 x4 0) (.agg ((Za x3).map .p)) = some (VE a1 a4 a5 a6 a7 a8 a9 a10 a11 a12 a13 a14 a15 a16 a17 a18 a19 a20 a21 v3 x4 x3) ∧ ud = ud) (apc q0 (apc (⟨ZX (v' := (⟨x5.kind, x5.text, x5.n, x5.kids, x5.depth, x5.way, x5.at_⟩ : ThingD)) rfl h6 rfl rfl (Nat.le_of_ble_eq_true rfl) rfl, rfl⟩ : stA (VE a1 a4 a5 a6 a7 a8 a9 a10 a11 a12 a13 a14 a15 a16 a17 a18 a19 a20 a21 v3 x4 x3) 7 (.rp 10 a1 7 x2 0) (.agg ((Za x5).map .p)) = some (S9 a1 a4 a5 a6 a7 a8 a9 a10 a11 a12 a13 a14 a15 a16 a17 a18 a19 a20 a21 v3 x4 x3 x2 x5) ∧ ud = ud) (apc (Qy a1 a2 a4 a5 a6 a7 a8 a9 a10 a11 a12 a13 a14 a15 a16 a17 a18 a19 a20 a21 (w6 (v1 + 1)) (w6 (v2 - 1)) ((v3.set x4 (⟨x3.kind, x3.text, x3.n, x3.kids, x3.depth, x3.way, x3.at_⟩ : ThingD)).set x2 (⟨x5.kind, x5.text, x5.n, x5.kids, x5.depth, x5.way, x5.at_⟩ : ThingD))) apn))))))))))
 ·
  rw [← sj h]
  exact xb [(54, .d false), (6000, .d true)] (av h1 apn)
theorem Nb (s0 : Int × Int × Tqq) (e : E_L37_0_11) (h : runL (fun s => WU a2 s.1 s.2.1 s.2.2) s0 = some e) : UM a1 a2 a4 a5 a6 a7 a8 a9 a10 a11 a12 a13 a14 a15 a16 a17 a18 a19 a20 a21 e (YT a1 a2 a4 a5 a6 a7 a8 a9 a10 a11 a12 a13 a14 a15 a16 a17 a18 a19 a20 a21 s0.1 s0.2.1 s0.2.2) := by
  have q := @Zg (Int × Int × Tqq) E_L37_0_11 (fun s => WU a2 s.1 s.2.1 s.2.2) (fun s => YT a1 a2 a4 a5 a6 a7 a8 a9 a10 a11 a12 a13 a14 a15 a16 a17 a18 a19 a20 a21 s.1 s.2.1 s.2.2) (UM a1 a2 a4 a5 a6 a7 a8 a9 a10 a11 a12 a13 a14 a15 a16 a17 a18 a19 a20 a21) (fun s r h => MQ a1 a2 a4 a5 a6 a7 a8 a9 a10 a11 a12 a13 a14 a15 a16 a17 a18 a19 a20 a21 s.1 s.2.1 s.2.2 h) s0 e h
  exact q
end
end
end Go.Proofs.Tryd
