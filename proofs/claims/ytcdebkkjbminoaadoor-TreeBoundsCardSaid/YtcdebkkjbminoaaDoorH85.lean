/- Decompiled by a program: functions as plain data see them, part 1. -/
import Derived.Test.YtcdebkkjbminoaaDoorH84
namespace Go.Proofs.Tryd
set_option linter.unusedSimpArgs false
set_option linter.unusedVariables false
set_option linter.unusedSectionVars false
set_option maxHeartbeats 4000000
open Go Go.Vs
noncomputable section
section
variable [ErC]
def F14_v (a1 a2 : TreeD) (x0 : Bool) : AV := (vb x0)
abbrev T_F14 := TreeD → TreeD → Option Bool
abbrev H_F14 (f : T_F14) : Prop := ∀ (a1 a2 : TreeD) {r : Bool}, f a1 a2 = some r → PR1 pg 14 [(.agg ((cT a1).map .p)), (.agg ((cT a2).map .p))] (F14_v a1 a2 r)
inductive E_L14_0 where
  | k0
  | k1
def L14_0 (rF14 : T_F14) (a1 a2 : TreeD) (v1 : Int) : Option (E_L14_0 ⊕ (Int)) :=
  (bif (decide (v1 < (a1.kids.length : Int))) then ((getI a1.kids v1).bind fun x2 => ((getI a2.kids v1).bind fun x3 => ((rF14 x2 x3).bind fun x4 => (bif x4 then (some (.inr ((IntKind.wrap .i64 (v1 + 1))))) else (some (.inl (.k0))))))) else (some (.inl (.k1))))
def L14_0_s (a1 a2 : TreeD) (v1 : Int) : St := ⟨fr 46 ug [(2, .ptr 0 0), (3, .ptr 1 0), (5, i6 v1)], [.cells 25 ((cT a1).map .p), .cells 25 ((cT a2).map .p)]⟩
theorem L14_0_k (a1 a2 : TreeD) (v1 : Int) : okT 2 (L14_0_s a1 a2 v1).h = true := (okT_of rfl (ac (ac rfl)))
abbrev L14_0_e (a1 a2 : TreeD) (v1 : Int) := evH pg 2 [2, 3, 5] ir14_l0 (L14_0_s a1 a2 v1)
def L14_0_x (a1 a2 : TreeD) (e : E_L14_0) (r : Option (Out × St)) : Prop := match e with | .k0 => ∃ g y, r = some (.ret, ⟨fr 46 g [(4, vb false)], y⟩) | .k1 => ∃ g, r = some ((.brk 0), ⟨fr 46 g [(2, .ptr 0 0), (3, .ptr 1 0)], [.cells 25 ((cT a1).map .p), .cells 25 ((cT a2).map .p)]⟩)
theorem L14_0_ok (rF14 : T_F14) (hF14 : H_F14 rF14) (a1 a2 : TreeD) (v1 : Int) {r : E_L14_0 ⊕ (Int)} (h : L14_0 rF14 a1 a2 v1 = some r) : OkR (fun e => L14_0_x a1 a2 e (L14_0_e a1 a2 v1)) (fun s => L14_0_e a1 a2 v1 = L14_0_e a1 a2 s) r := by
 unfold L14_0 at h
 have q0 := ((lgr tr_map) : lnA (.p (.lst 3 (eTrees a1.kids))) = some (i6 (a1.kids.length : Int)))
 apply bi h <;> intro h1 h
 ·
  have k1 := ka [(30, .v (i6 (a1.kids.length : Int))), (31, .d true)] (apc q0 (av h1 apn))
  apply bn h; intro x2 h2 h
  have q2 := ((igr tr_map h2) : idxA 3 (.p (.lst 3 (eTrees a1.kids))) (i6 v1) = some (.ro (cT x2)))
  apply bn h; intro x3 h3 h
  have q3 := ((igr tr_map h3) : idxA 3 (.p (.lst 3 (eTrees a2.kids))) (i6 v1) = some (.ro (cT x3)))
  have k4 := k1.a [(37, .v (.ro (cT x2))), (42, .v (.ro (cT x3)))] (apc q2 (apc q3 apn))
  apply bn h; intro x4 h4 h
  apply bi h <;> intro h5 h
  ·
   rw [← sj h]
   exact rn ([(44, .v (vb true)), (6000, .d true)] ++ kH k4) (k4.b (apc ((((hF14 x2 x3 h4).cp rfl _).trans (congrArg (fun z => some (vb z)) h5)) : CP pg 14 [(.agg ((cT x2).map .p)), (.agg ((cT x3).map .p))] [.cells 25 ((cT a1).map .p), .cells 25 ((cT a2).map .p)] = some (vb true)) (apc (L14_0_k a1 a2 (w6 (v1 + 1))) apn)))
  ·
   rw [← sj h]
   exact xy ([(44, .v (vb false)), (6000, .d true)] ++ kH k4) (k4.b (apc ((((hF14 x2 x3 h4).cp rfl _).trans (congrArg (fun z => some (vb z)) h5)) : CP pg 14 [(.agg ((cT x2).map .p)), (.agg ((cT x3).map .p))] [.cells 25 ((cT a1).map .p), .cells 25 ((cT a2).map .p)] = some (vb false)) apn))
 ·
  rw [← sj h]
  exact xb [(30, .v (i6 (a1.kids.length : Int))), (31, .d false), (6000, .d true)] (apc q0 (av h1 apn))
theorem L14_0_run (rF14 : T_F14) (hF14 : H_F14 rF14) (a1 a2 : TreeD) (s0 : Int) (e : E_L14_0) (h : runL (fun s => L14_0 rF14 a1 a2 s) s0 = some e) : L14_0_x a1 a2 e (L14_0_e a1 a2 s0) := by
  have q := @loop_sound' (Int) E_L14_0 (fun s => L14_0 rF14 a1 a2 s) (fun s => L14_0_e a1 a2 s) (L14_0_x a1 a2) (fun s r h => L14_0_ok rF14 hF14 a1 a2 s h) s0 e h
  exact q
def F14_b (rF14 : T_F14) (a1 a2 : TreeD) : Option Bool :=
  (bif (a1.prod != a2.prod) then (some false) else (bif (a1.byte != a2.byte) then (some false) else (bif ((a1.kids.length : Int) != (a2.kids.length : Int)) then (some false) else ((runL (fun s => L14_0 rF14 a1 a2 s) 0).bind fun r4 => match r4 with | .k0 => (some false) | .k1 => (some true)))))
abbrev F14_d0 (g4 : Nat → AV) (a1 a2 : TreeD) : St := ⟨fr 46 g4 [(2, .ptr 0 0), (3, .ptr 1 0)], [.cells 25 ((cT a1).map .p), .cells 25 ((cT a2).map .p)]⟩
theorem F14_bok (rF14 : T_F14) (hF14 : H_F14 rF14) (a1 a2 : TreeD) {r : Bool} (h : F14_b rF14 a1 a2 = some r) : PR1 pg 14 [(.agg ((cT a1).map .p)), (.agg ((cT a2).map .p))] (F14_v a1 a2 r) := by
 unfold F14_b at h
 have q0 := ((lgr tr_map) : lnA (.p (.lst 3 (eTrees a1.kids))) = some (i6 (a1.kids.length : Int)))
 have q1 := ((lgr tr_map) : lnA (.p (.lst 3 (eTrees a2.kids))) = some (i6 (a2.kids.length : Int)))
 apply bi h <;> intro h1 h
 ·
  rw [← sj h]
  exact fq [(10, .d true)] (av h1 apn)
 ·
  apply bi h <;> intro h2 h
  ·
   rw [← sj h]
   exact fq [(10, .d false), (16, .d true)] (av h1 (av h2 apn))
  ·
   have k2 := ka [(10, .d false), (16, .d false), (21, .v (i6 (a1.kids.length : Int))), (24, .v (i6 (a2.kids.length : Int)))] (av h1 (av h2 (apc q0 (apc q1 apn))))
   apply bi h <;> intro h3 h
   ·
    rw [← sj h]
    exact fq ([(25, .d true)] ++ kH k2) (k2.b (av h3 apn))
   ·
    apply bn h; intro r4 h4 h
    cases r4 with
    | k0 =>
     obtain ⟨g4, y4, e4⟩ := L14_0_run rF14 hF14 a1 a2 0 _ h4
     rw [← sj h]
     exact fq ([(25, .d false), (2000, .l .ret ⟨fr 46 g4 [(4, vb false)], y4⟩), (6000, .d true)] ++ kH k2) (k2.b (av h3 (apc (L14_0_k a1 a2 0) (apc (e4 : L14_0_e a1 a2 0 = some (.ret, ⟨fr 46 g4 [(4, vb false)], y4⟩)) apn))))
    | k1 =>
     obtain ⟨g4, e4⟩ := L14_0_run rF14 hF14 a1 a2 0 _ h4
     rw [← sj h]
     exact fq ([(25, .d false), (2000, .l (.brk 0) (F14_d0 g4 a1 a2)), (6000, .d true)] ++ kH k2) (k2.b (av h3 (apc (L14_0_k a1 a2 0) (apc (e4 : L14_0_e a1 a2 0 = some ((.brk 0), F14_d0 g4 a1 a2)) apn))))
def F14 : Nat → T_F14
  | 0 => fun _ _ => none
  | Nf + 1 => F14_b (F14 Nf)
theorem F14_ok (Nf : Nat) : H_F14 (F14 Nf) := by
  induction Nf with
  | zero => intro a1 a2 r h; have h : (none : Option Bool) = some r := h; cases h
  | succ Nf ih => intro a1 a2 r h; exact F14_bok (F14 Nf) ih a1 a2 h
end
end
end Go.Proofs.Tryd
