/- Decompiled by a program: functions as plain data see them, part 1. -/
import Derived.Test.YtcdebkkjbminoaaDoorW72
namespace Go.Proofs.Tryd
set_option linter.unusedSimpArgs false
set_option linter.unusedVariables false
set_option linter.unusedSectionVars false
set_option maxHeartbeats 4000000
open Go Go.Vs
noncomputable section
section
variable [ErC]
def LG (c : TreeD) (i : Int) (x0 : Int) : AV := (i6 x0)
abbrev W0 := TreeD → Int → Option Int
abbrev SW (f : W0) : Prop := ∀ (c : TreeD) (i : Int) {r : Int}, f c i = some r → PR1 pg 28 [(.agg ((cT c).map .p)), i6 i] (LG c i r)
inductive E_L28_0_2 where
  | k0 (x0 : Int)
def XO (rF28_2 : W0) (c : Int) (i : TreeD) (u C : Int) : Option (E_L28_0_2 ⊕ (Int × Int)) :=
  (bif (decide (C < (i.kids.length : Int))) then (bif (decide (u ≤ c)) then ((getI i.kids C).bind fun x3 => ((rF28_2 x3 (IntKind.wrap .i64 (c - u))).bind fun x4 => (some (.inr ((IntKind.wrap .i64 (u + x4)), (IntKind.wrap .i64 (C + 1))))))) else (some (.inl (.k0 u)))) else (some (.inl (.k0 u))))
def RT (c : Int) (i : TreeD) (u C : Int) : St := ⟨fr 31 ug [(1, i6 c), (2, .ptr 0 0), (5, i6 u), (6, i6 C)], [.cells 25 ((cT i).map .p)]⟩
theorem RU (c : Int) (i : TreeD) (u C : Int) : okT 1 (RT c i u C).h = true := (XT rfl (ac rfl))
abbrev Xy (c : Int) (i : TreeD) (u C : Int) := evH pg 1 [1, 2, 5, 6] Lk (RT c i u C)
def UZ (c : Int) (i : TreeD) (e : E_L28_0_2) (r : Option (Out × St)) : Prop := match e with | .k0 x0 => ∃ g, r = some ((.brk 0), ⟨fr 31 g [(5, i6 x0)], [.cells 25 ((cT i).map .p)]⟩)
theorem NJ (rF28_2 : W0) (hF28_2 : SW rF28_2) (c : Int) (i : TreeD) (u C : Int) {r : E_L28_0_2 ⊕ (Int × Int)} (h : XO rF28_2 c i u C = some r) : OkR (fun e => UZ c i e (Xy c i u C)) (fun s => Xy c i u C = Xy c i s.1 s.2) r := by
 unfold XO at h
 have q0 := ((lgr ZI) : lnA (.p (.lst 3 (Zb i.kids))) = some (i6 (i.kids.length : Int)))
 apply bi h <;> intro h1 h
 ·
  have k1 := ka [(10, .v (i6 (i.kids.length : Int))), (11, .d true)] (apc q0 (av h1 apn))
  apply bi h <;> intro h2 h
  ·
   apply bn h; intro x3 h3 h
   apply bn h; intro x4 h4 h
   rw [← sj h]
   exact rn ([(15, .d true), (23, .v (.ro (cT x3))), (28, .v (i6 x4)), (6000, .d true)] ++ kH k1) (k1.b (av h2 (apc ((igr ZI h3) : idxA 3 (.p (.lst 3 (Zb i.kids))) (i6 C) = some (.ro (cT x3))) (apc (((hF28_2 x3 (w6 (c - u)) h4).cp rfl _) : CP pg 28 [(.agg ((cT x3).map .p)), (i6 (w6 (c - u)))] [.cells 25 ((cT i).map .p)] = some (i6 x4)) (apc (RU c i (w6 (u + x4)) (w6 (C + 1))) apn)))))
  ·
   rw [← sj h]
   exact xb ([(15, .d false), (6000, .d true)] ++ kH k1) (k1.b (av h2 apn))
 ·
  rw [← sj h]
  exact xb [(10, .v (i6 (i.kids.length : Int))), (11, .d false), (6000, .d true)] (apc q0 (av h1 apn))
theorem Q3 (rF28_2 : W0) (hF28_2 : SW rF28_2) (c : Int) (i : TreeD) (s0 : Int × Int) (e : E_L28_0_2) (h : runL (fun s => XO rF28_2 c i s.1 s.2) s0 = some e) : UZ c i e (Xy c i s0.1 s0.2) := by
  have q := @ZH (Int × Int) E_L28_0_2 (fun s => XO rF28_2 c i s.1 s.2) (fun s => Xy c i s.1 s.2) (UZ c i) (fun s r h => NJ rF28_2 hF28_2 c i s.1 s.2 h) s0 e h
  exact q
def U0 (rF28_2 : W0) (c : TreeD) (i : Int) : Option Int :=
  ((runL (fun s => XO rF28_2 i c s.1 s.2) (1, 0)).bind fun r1 => match r1 with | .k0 ax => (some ax))
theorem LH (rF28_2 : W0) (hF28_2 : SW rF28_2) (c : TreeD) (i : Int) {r : Int} (h : U0 rF28_2 c i = some r) : PR1 pg 28 [(.agg ((cT c).map .p)), i6 i] (LG c i r) := by
 unfold U0 at h
 apply bn h; intro r1 h1 h
 cases r1 with
 | k0 ax =>
  obtain ⟨g1, e1⟩ := Q3 rF28_2 hF28_2 i c (1, 0) _ h1
  rw [← sj h]
  exact fq [(2000, .l (.brk 0) ⟨fr 31 g1 [(5, i6 ax)], [.cells 25 ((cT c).map .p)]⟩), (6000, .d true)] (apc (RU i c 1 0) (apc (e1 : Xy i c 1 0 = some ((.brk 0), ⟨fr 31 g1 [(5, i6 ax)], [.cells 25 ((cT c).map .p)]⟩)) apn))
def Q4 : Nat → W0
  | 0 => fun _ _ => none
  | Nf + 1 => U0 (Q4 Nf)
theorem Jx (Nf : Nat) : SW (Q4 Nf) := by
  induction Nf with
  | zero => intro c i r h; have h : (none : Option Int) = some r := h; cases h
  | succ Nf ih => intro c i r h; exact LH (Q4 Nf) ih c i h
def D1 (c : Int) (x0 : Int) : AV := (i6 x0)
def F15 (c : Int) : Option Int :=
  (some c)
theorem LI (c : Int) {r : Int} (h : F15 c = some r) : PR1 pg 15 [i6 c] (D1 c r) := by
 unfold F15 at h
 rw [← sj h]
 exact fq [] apn
def EE (c i : TreeD) (x0 : Bool) : AV := (vb x0)
abbrev SX := TreeD → TreeD → Option Bool
abbrev LJ (f : SX) : Prop := ∀ (c i : TreeD) {r : Bool}, f c i = some r → PR1 pg 24 [(.agg ((cT c).map .p)), (.agg ((cT i).map .p))] (EE c i r)
inductive E_L55_0 where
  | k0
  | k1
def RV (rF24 : SX) (c i : TreeD) (k : Int) (u : Int) : Option (E_L55_0 ⊕ (Int)) :=
  (bif (decide (u < k)) then ((getI i.kids u).bind fun x2 => ((getI c.kids u).bind fun x3 => ((rF24 x2 x3).bind fun x4 => (bif x4 then (some (.inr ((IntKind.wrap .i64 (u + 1))))) else (some (.inl (.k0))))))) else (some (.inl (.k1))))
def LK (c i : TreeD) (k : Int) (u : Int) : St := ⟨fr 32 ug [(1, (.p (.lst 3 (Zb c.kids)))), (2, (.fn 24 [])), (15, (.p (.lst 3 (Zb i.kids)))), (16, i6 k), (17, i6 u)], []⟩
theorem Q5 (c i : TreeD) (k : Int) (u : Int) : okT 0 (LK c i k u).h = true := (XT rfl rfl)
abbrev W1 (c i : TreeD) (k : Int) (u : Int) := evH pg 0 [1, 2, 15, 16, 17] Lm (LK c i k u)
def Q6 (c i : TreeD) (k : Int) (e : E_L55_0) (r : Option (Out × St)) : Prop := match e with | .k0 => ∃ g y, r = some (.ret, ⟨fr 32 g [(6, vb false)], y⟩) | .k1 => ∃ g, r = some ((.brk 0), ⟨fr 32 g [(1, (.p (.lst 3 (Zb c.kids)))), (15, (.p (.lst 3 (Zb i.kids))))], []⟩)
abbrev On (x2 x3 : TreeD) : List AB := [yT0, .cells 25 ((cT x2).map .p), yT0, .cells 25 ((cT x3).map .p)]
theorem Jy (rF24 : SX) (hF24 : LJ rF24) (c i : TreeD) (k : Int) (u : Int) {r : E_L55_0 ⊕ (Int)} (h : RV rF24 c i k u = some r) : OkR (fun e => Q6 c i k e (W1 c i k u)) (fun s => W1 c i k u = W1 c i k s) r := by
 unfold RV at h
 apply bi h <;> intro h1 h
 ·
  apply bn h; intro x2 h2 h
  have q0 := ((igr ZI h2) : idxA 3 (.p (.lst 3 (Zb i.kids))) (i6 u) = some (.ro (cT x2)))
  have k1 := ka [(18, .d true), (20, .v (.ro (cT x2)))] (av h1 (apc q0 apn))
  apply bn h; intro x3 h3 h
  have q2 := ((igr ZI h3) : idxA 3 (.p (.lst 3 (Zb c.kids))) (i6 u) = some (.ro (cT x3)))
  apply bn h; intro x4 h4 h
  apply bi h <;> intro h5 h
  ·
   rw [← sj h]
   exact rn ([(24, .v (.ro (cT x3))), (29, .v (vb true)), (6000, .d true)] ++ kH k1) (k1.b (apc q2 (apc ((((hF24 x2 x3 h4).cp rfl _).trans (congrArg (fun z => some (vb z)) h5)) : CP pg 24 [(.agg ((cT x2).map .p)), (.agg ((cT x3).map .p))] (On x2 x3) = some (vb true)) (apc (Q5 c i k (w6 (u + 1))) apn))))
  ·
   rw [← sj h]
   exact xy ([(24, .v (.ro (cT x3))), (29, .v (vb false)), (6000, .d true)] ++ kH k1) (k1.b (apc q2 (apc ((((hF24 x2 x3 h4).cp rfl _).trans (congrArg (fun z => some (vb z)) h5)) : CP pg 24 [(.agg ((cT x2).map .p)), (.agg ((cT x3).map .p))] (On x2 x3) = some (vb false)) apn)))
 ·
  rw [← sj h]
  exact xb [(18, .d false), (6000, .d true)] (av h1 apn)
theorem RW (rF24 : SX) (hF24 : LJ rF24) (c i : TreeD) (k : Int) (s0 : Int) (e : E_L55_0) (h : runL (fun s => RV rF24 c i k s) s0 = some e) : Q6 c i k e (W1 c i k s0) := by
  have q := @ZH (Int) E_L55_0 (fun s => RV rF24 c i k s) (fun s => W1 c i k s) (Q6 c i k) (fun s r h => Jy rF24 hF24 c i k s h) s0 e h
  exact q
def D2 (c i : TreeD) (x0 : Bool) : AV := (vb x0)
def F55 (rF24 : SX) (c i : TreeD) : Option Bool :=
  (bif ((c.kids.length : Int) != (i.kids.length : Int)) then (some false) else ((runL (fun s => RV rF24 i c (c.kids.length : Int) s) 0).bind fun r2 => match r2 with | .k0 => (some false) | .k1 => (some true)))
abbrev Ib (g2 : Nat → AV) (i c : TreeD) : St := ⟨fr 32 g2 [(1, (.p (.lst 3 (Zb i.kids)))), (15, (.p (.lst 3 (Zb c.kids))))], []⟩
theorem EF (rF24 : SX) (hF24 : LJ rF24) (c i : TreeD) {r : Bool} (h : F55 rF24 c i = some r) : PR1 pg 55 [(.p (.lst 3 (Zb c.kids))), (.p (.lst 3 (Zb i.kids))), (.fn 24 [])] (D2 c i r) := by
 unfold F55 at h
 have q0 := ((lgr ZI) : lnA (.p (.lst 3 (Zb c.kids))) = some (i6 (c.kids.length : Int)))
 have q1 := ((lgr ZI) : lnA (.p (.lst 3 (Zb i.kids))) = some (i6 (i.kids.length : Int)))
 have k2 := ka [(11, .v (i6 (c.kids.length : Int))), (13, .v (i6 (i.kids.length : Int)))] (apc q0 (apc q1 apn))
 apply bi h <;> intro h1 h
 ·
  rw [← sj h]
  exact fq ([(14, .d true)] ++ kH k2) (k2.b (av h1 apn))
 ·
  have k3 := k2.a [(14, .d false), (16, .v (i6 (c.kids.length : Int)))] (av h1 (apc q0 apn))
  apply bn h; intro r2 h2 h
  cases r2 with
  | k0 =>
   obtain ⟨g2, y2, e2⟩ := RW rF24 hF24 i c (c.kids.length : Int) 0 _ h2
   rw [← sj h]
   exact fq ([(2000, .l .ret ⟨fr 32 g2 [(6, vb false)], y2⟩), (6000, .d true)] ++ kH k3) (k3.b (apc (Q5 i c (c.kids.length : Int) 0) (apc (e2 : W1 i c (c.kids.length : Int) 0 = some (.ret, ⟨fr 32 g2 [(6, vb false)], y2⟩)) apn)))
  | k1 =>
   obtain ⟨g2, e2⟩ := RW rF24 hF24 i c (c.kids.length : Int) 0 _ h2
   rw [← sj h]
   exact fq ([(2000, .l (.brk 0) (Ib g2 i c)), (6000, .d true)] ++ kH k3) (k3.b (apc (Q5 i c (c.kids.length : Int) 0) (apc (e2 : W1 i c (c.kids.length : Int) 0 = some ((.brk 0), Ib g2 i c)) apn)))
def LL (rF24 : SX) (c i : TreeD) : Option Bool :=
  (bif (c.prod == i.prod) then (bif (c.byte == i.byte) then ((F55 rF24 c i).bind fun x3 => (some x3)) else (some false)) else (some false))
theorem GY (rF24 : SX) (hF24 : LJ rF24) (c i : TreeD) {r : Bool} (h : LL rF24 c i = some r) : PR1 pg 24 [(.agg ((cT c).map .p)), (.agg ((cT i).map .p))] (EE c i r) := by
 unfold LL at h
 apply bi h <;> intro h1 h
 ·
  apply bi h <;> intro h2 h
  ·
   apply bn h; intro x3 h3 h
   rw [← sj h]
   exact fq [(9, .d true), (15, .d true), (22, .v (vb x3))] (av h1 (av h2 (apc (((EF rF24 hF24 c i h3).cp rfl _) : CP pg 55 [(.p (.lst 3 (Zb c.kids))), (.p (.lst 3 (Zb i.kids))), (.fn 24 [])] [.cells 25 ((cT c).map .p), .cells 25 ((cT i).map .p)] = some (vb x3)) apn)))
  ·
   rw [← sj h]
   exact fq [(9, .d true), (15, .d false)] (av h1 (av h2 apn))
 ·
  rw [← sj h]
  exact fq [(9, .d false)] (av h1 apn)
def F24 : Nat → SX
  | 0 => fun _ _ => none
  | Nf + 1 => LL (F24 Nf)
theorem Ic (Nf : Nat) : LJ (F24 Nf) := by
  induction Nf with
  | zero => intro c i r h; have h : (none : Option Bool) = some r := h; cases h
  | succ Nf ih => intro c i r h; exact GY (F24 Nf) ih c i h
section
variable (c : ByteArray) (i k : TreeD)
end
end
end
end Go.Proofs.Tryd
