/- Decompiled by a program: functions as plain data see them, part 1. -/
import Derived.Test.YtcdebkkjbminoaaDoorW92
namespace Go.Proofs.Tryd
set_option linter.unusedSimpArgs false
set_option linter.unusedVariables false
set_option linter.unusedSectionVars false
set_option maxHeartbeats 4000000
open Go Go.Vs
noncomputable section
section
variable [ErC]
def F28_2_v (a1 : TreeD) (a2 : Int) (x0 : Int) : AV := (i6 x0)
abbrev T_F28_2 := TreeD → Int → Option Int
abbrev H_F28_2 (f : T_F28_2) : Prop := ∀ (a1 : TreeD) (a2 : Int) {r : Int}, f a1 a2 = some r → PR1 pg 28 [(.agg ((cT a1).map .p)), i6 a2] (F28_2_v a1 a2 r)
inductive E_L28_0_2 where
  | k0 (x0 : Int)
def L28_0_2 (rF28_2 : T_F28_2) (a1 : Int) (a2 : TreeD) (v1 v2 : Int) : Option (E_L28_0_2 ⊕ (Int × Int)) :=
  (bif (decide (v2 < (a2.kids.length : Int))) then (bif (decide (v1 ≤ a1)) then ((getI a2.kids v2).bind fun x3 => ((rF28_2 x3 (IntKind.wrap .i64 (a1 - v1))).bind fun x4 => (some (.inr ((IntKind.wrap .i64 (v1 + x4)), (IntKind.wrap .i64 (v2 + 1))))))) else (some (.inl (.k0 v1)))) else (some (.inl (.k0 v1))))
def L28_0_2_s (a1 : Int) (a2 : TreeD) (v1 v2 : Int) : St := ⟨fr 31 ug [(1, i6 a1), (2, .ptr 0 0), (5, i6 v1), (6, i6 v2)], [.cells 25 ((cT a2).map .p)]⟩
theorem L28_0_2_k (a1 : Int) (a2 : TreeD) (v1 v2 : Int) : okT 1 (L28_0_2_s a1 a2 v1 v2).h = true := (okT_of rfl (ac rfl))
abbrev L28_0_2_e (a1 : Int) (a2 : TreeD) (v1 v2 : Int) := evH pg 1 [1, 2, 5, 6] ir28_l0 (L28_0_2_s a1 a2 v1 v2)
def L28_0_2_x (a1 : Int) (a2 : TreeD) (e : E_L28_0_2) (r : Option (Out × St)) : Prop := match e with | .k0 x0 => ∃ g, r = some ((.brk 0), ⟨fr 31 g [(5, i6 x0)], [.cells 25 ((cT a2).map .p)]⟩)
theorem L28_0_2_ok (rF28_2 : T_F28_2) (hF28_2 : H_F28_2 rF28_2) (a1 : Int) (a2 : TreeD) (v1 v2 : Int) {r : E_L28_0_2 ⊕ (Int × Int)} (h : L28_0_2 rF28_2 a1 a2 v1 v2 = some r) : OkR (fun e => L28_0_2_x a1 a2 e (L28_0_2_e a1 a2 v1 v2)) (fun s => L28_0_2_e a1 a2 v1 v2 = L28_0_2_e a1 a2 s.1 s.2) r := by
 unfold L28_0_2 at h
 have q0 := ((lgr tr_map) : lnA (.p (.lst 3 (eTrees a2.kids))) = some (i6 (a2.kids.length : Int)))
 apply bi h <;> intro h1 h
 ·
  have k1 := ka [(10, .v (i6 (a2.kids.length : Int))), (11, .d true)] (apc q0 (av h1 apn))
  apply bi h <;> intro h2 h
  ·
   apply bn h; intro x3 h3 h
   apply bn h; intro x4 h4 h
   rw [← sj h]
   exact rn ([(15, .d true), (23, .v (.ro (cT x3))), (28, .v (i6 x4)), (6000, .d true)] ++ kH k1) (k1.b (av h2 (apc ((igr tr_map h3) : idxA 3 (.p (.lst 3 (eTrees a2.kids))) (i6 v2) = some (.ro (cT x3))) (apc (((hF28_2 x3 (w6 (a1 - v1)) h4).cp rfl _) : CP pg 28 [(.agg ((cT x3).map .p)), (i6 (w6 (a1 - v1)))] [.cells 25 ((cT a2).map .p)] = some (i6 x4)) (apc (L28_0_2_k a1 a2 (w6 (v1 + x4)) (w6 (v2 + 1))) apn)))))
  ·
   rw [← sj h]
   exact xb ([(15, .d false), (6000, .d true)] ++ kH k1) (k1.b (av h2 apn))
 ·
  rw [← sj h]
  exact xb [(10, .v (i6 (a2.kids.length : Int))), (11, .d false), (6000, .d true)] (apc q0 (av h1 apn))
theorem L28_0_2_run (rF28_2 : T_F28_2) (hF28_2 : H_F28_2 rF28_2) (a1 : Int) (a2 : TreeD) (s0 : Int × Int) (e : E_L28_0_2) (h : runL (fun s => L28_0_2 rF28_2 a1 a2 s.1 s.2) s0 = some e) : L28_0_2_x a1 a2 e (L28_0_2_e a1 a2 s0.1 s0.2) := by
  have q := @loop_sound' (Int × Int) E_L28_0_2 (fun s => L28_0_2 rF28_2 a1 a2 s.1 s.2) (fun s => L28_0_2_e a1 a2 s.1 s.2) (L28_0_2_x a1 a2) (fun s r h => L28_0_2_ok rF28_2 hF28_2 a1 a2 s.1 s.2 h) s0 e h
  exact q
def F28_2_b (rF28_2 : T_F28_2) (a1 : TreeD) (a2 : Int) : Option Int :=
  ((runL (fun s => L28_0_2 rF28_2 a2 a1 s.1 s.2) (1, 0)).bind fun r1 => match r1 with | .k0 x1_0 => (some x1_0))
theorem F28_2_bok (rF28_2 : T_F28_2) (hF28_2 : H_F28_2 rF28_2) (a1 : TreeD) (a2 : Int) {r : Int} (h : F28_2_b rF28_2 a1 a2 = some r) : PR1 pg 28 [(.agg ((cT a1).map .p)), i6 a2] (F28_2_v a1 a2 r) := by
 unfold F28_2_b at h
 apply bn h; intro r1 h1 h
 cases r1 with
 | k0 x1_0 =>
  obtain ⟨g1, e1⟩ := L28_0_2_run rF28_2 hF28_2 a2 a1 (1, 0) _ h1
  rw [← sj h]
  exact fq [(2000, .l (.brk 0) ⟨fr 31 g1 [(5, i6 x1_0)], [.cells 25 ((cT a1).map .p)]⟩), (6000, .d true)] (apc (L28_0_2_k a2 a1 1 0) (apc (e1 : L28_0_2_e a2 a1 1 0 = some ((.brk 0), ⟨fr 31 g1 [(5, i6 x1_0)], [.cells 25 ((cT a1).map .p)]⟩)) apn))
def F28_2 : Nat → T_F28_2
  | 0 => fun _ _ => none
  | Nf + 1 => F28_2_b (F28_2 Nf)
theorem F28_2_ok (Nf : Nat) : H_F28_2 (F28_2 Nf) := by
  induction Nf with
  | zero => intro a1 a2 r h; have h : (none : Option Int) = some r := h; cases h
  | succ Nf ih => intro a1 a2 r h; exact F28_2_bok (F28_2 Nf) ih a1 a2 h
inductive E_L16_0 where
  | k0
  | k1
def L16_0 (Nf : Nat) (a1 : List TreeD) (v1 : Int) : Option (E_L16_0 ⊕ (Int)) :=
  (bif (decide (v1 < (a1.length : Int))) then ((getI a1 v1).bind fun x2 => ((F28_2 Nf x2 2000).bind fun x3 => (bif (decide (x3 > 2000)) then (some (.inl (.k0))) else (some (.inr ((IntKind.wrap .i64 (v1 + 1)))))))) else (some (.inl (.k1))))
def L16_0_s (a1 : List TreeD) (v1 : Int) : St := ⟨fr 16 ug [(0, (.p (.lst 3 (eTrees a1)))), (3, i6 v1)], []⟩
theorem L16_0_k (a1 : List TreeD) (v1 : Int) : okT 0 (L16_0_s a1 v1).h = true := (okT_of rfl rfl)
abbrev L16_0_e (a1 : List TreeD) (v1 : Int) := evH pg 0 [0, 3] ir16_l0 (L16_0_s a1 v1)
def L16_0_x (a1 : List TreeD) (e : E_L16_0) (r : Option (Out × St)) : Prop := match e with | .k0 => ∃ g y, r = some (.ret, ⟨fr 16 g [(2, vb false)], y⟩) | .k1 => ∃ g, r = some ((.brk 0), ⟨fr 16 g [], []⟩)
theorem L16_0_ok (Nf : Nat) (a1 : List TreeD) (v1 : Int) {r : E_L16_0 ⊕ (Int)} (h : L16_0 Nf a1 v1 = some r) : OkR (fun e => L16_0_x a1 e (L16_0_e a1 v1)) (fun s => L16_0_e a1 v1 = L16_0_e a1 s) r := by
 unfold L16_0 at h
 have q0 := ((lgr tr_map) : lnA (.p (.lst 3 (eTrees a1))) = some (i6 (a1.length : Int)))
 apply bi h <;> intro h1 h
 ·
  have k1 := ka [(6, .v (i6 (a1.length : Int))), (7, .d true)] (apc q0 (av h1 apn))
  apply bn h; intro x2 h2 h
  have q2 := ((igr tr_map h2) : idxA 3 (.p (.lst 3 (eTrees a1))) (i6 v1) = some (.ro (cT x2)))
  apply bn h; intro x3 h3 h
  have q3 := (((F28_2_ok Nf x2 2000 h3).cp rfl _) : CP pg 28 [(.agg ((cT x2).map .p)), i6 2000] [] = some (i6 x3))
  have k4 := k1.a [(12, .v (.ro (cT x2))), (14, .v (i6 x3))] (apc q2 (apc q3 apn))
  apply bi h <;> intro h4 h
  ·
   rw [← sj h]
   exact xy ([(15, .d true), (6000, .d true)] ++ kH k4) (k4.b (av h4 apn))
  ·
   rw [← sj h]
   exact rn ([(15, .d false), (6000, .d true)] ++ kH k4) (k4.b (av h4 (apc (L16_0_k a1 (w6 (v1 + 1))) apn)))
 ·
  rw [← sj h]
  exact xb [(6, .v (i6 (a1.length : Int))), (7, .d false), (6000, .d true)] (apc q0 (av h1 apn))
theorem L16_0_run (Nf : Nat) (a1 : List TreeD) (s0 : Int) (e : E_L16_0) (h : runL (fun s => L16_0 Nf a1 s) s0 = some e) : L16_0_x a1 e (L16_0_e a1 s0) := by
  have q := @loop_sound' (Int) E_L16_0 (fun s => L16_0 Nf a1 s) (fun s => L16_0_e a1 s) (L16_0_x a1) (fun s r h => L16_0_ok Nf a1 s h) s0 e h
  exact q
def F16_v (a1 : List TreeD) (x0 : Bool) : AV := (vb x0)
def F16 (Nf : Nat) (a1 : List TreeD) : Option Bool :=
  ((runL (fun s => L16_0 Nf a1 s) 0).bind fun r1 => match r1 with | .k0 => (some false) | .k1 => (some true))
theorem F16_ok (Nf : Nat) (a1 : List TreeD) {r : Bool} (h : F16 Nf a1 = some r) : PR1 pg 16 [(.p (.lst 3 (eTrees a1)))] (F16_v a1 r) := by
 unfold F16 at h
 apply bn h; intro r1 h1 h
 cases r1 with
 | k0 =>
  obtain ⟨g1, y1, e1⟩ := L16_0_run Nf a1 0 _ h1
  rw [← sj h]
  exact fq [(2000, .l .ret ⟨fr 16 g1 [(2, vb false)], y1⟩), (6000, .d true)] (apc (L16_0_k a1 0) (apc (e1 : L16_0_e a1 0 = some (.ret, ⟨fr 16 g1 [(2, vb false)], y1⟩)) apn))
 | k1 =>
  obtain ⟨g1, e1⟩ := L16_0_run Nf a1 0 _ h1
  rw [← sj h]
  exact fq [(2000, .l (.brk 0) ⟨fr 16 g1 [], []⟩), (6000, .d true)] (apc (L16_0_k a1 0) (apc (e1 : L16_0_e a1 0 = some ((.brk 0), ⟨fr 16 g1 [], []⟩)) apn))
def F15_v (a1 : Int) (x0 : Int) : AV := (i6 x0)
def F15 (a1 : Int) : Option Int :=
  (some a1)
theorem F15_ok (a1 : Int) {r : Int} (h : F15 a1 = some r) : PR1 pg 15 [i6 a1] (F15_v a1 r) := by
 unfold F15 at h
 rw [← sj h]
 exact fq [] apn
section
variable (a1 : ByteArray) (a2 a3 : TreeD)
end
end
end
end Go.Proofs.Tryd
