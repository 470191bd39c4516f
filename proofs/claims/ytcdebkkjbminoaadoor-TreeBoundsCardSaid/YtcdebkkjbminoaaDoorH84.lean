/- What the texts of TreeWalk and TreeTells stand on. -/
import Derived.Test.YtcdebkkjbminoaaDoorH83
import Derived.Test.YtcdebkkjbminoaaDoorT8
namespace Go.Proofs.Tryd
set_option linter.unusedSimpArgs false
set_option linter.unusedVariables false
set_option linter.unusedSectionVars false
set_option maxHeartbeats 4000000
open Go Go.Vs
noncomputable section
section
variable [ErC]
inductive R_F47 where
  | k0 (x0 x1 x2 : Int)
def F47_v (a1 : TreeD) (r : R_F47) : AV := match r with | .k0 x0 x1 x2 => (.tup [i6 x0, i6 x1, i6 x2])
abbrev T_F47 := TreeD → Option R_F47
abbrev H_F47 (f : T_F47) : Prop := ∀ (a1 : TreeD) {r : R_F47}, f a1 = some r → PR1 pg 47 [(.agg ((cT a1).map .p))] (F47_v a1 r)
inductive E_L47_0 where
  | k0 (x0 x1 x2 : Int)
def L47_0 (rF47 : T_F47) (a1 : TreeD) (a2 : Int) (v1 v2 v3 v4 : Int) : Option (E_L47_0 ⊕ (Int × Int × Int × Int)) :=
  (bif (decide (v4 < a2)) then ((getI a1.kids v4).bind fun x2 => ((rF47 x2).bind fun r3 => match r3 with | .k0 x3_0 x3_1 x3_2 => (some (.inr ((IntKind.wrap .i64 (v1 + x3_0)), (IntKind.wrap .i64 (v2 + x3_1)), (if v3 < x3_2 then x3_2 else v3), (IntKind.wrap .i64 (v4 + 1))))))) else (some (.inl (.k0 v1 v2 v3))))
def L47_0_s (a1 : TreeD) (a2 : Int) (v1 v2 v3 v4 : Int) : St := ⟨fr 43 ug [(5, i6 v1), (6, i6 v2), (7, i6 v3), (17, (.p (.lst 3 (eTrees a1.kids)))), (18, i6 a2), (19, i6 v4)], [.cells 25 ((cT a1).map .p)]⟩
theorem L47_0_k (a1 : TreeD) (a2 : Int) (v1 v2 v3 v4 : Int) : okT 1 (L47_0_s a1 a2 v1 v2 v3 v4).h = true := (okT_of rfl (ac rfl))
abbrev L47_0_e (a1 : TreeD) (a2 : Int) (v1 v2 v3 v4 : Int) := evH pg 1 [5, 6, 7, 17, 18, 19] ir47_l0 (L47_0_s a1 a2 v1 v2 v3 v4)
def L47_0_x (a1 : TreeD) (a2 : Int) (e : E_L47_0) (r : Option (Out × St)) : Prop := match e with | .k0 x0 x1 x2 => ∃ g, r = some ((.brk 0), ⟨fr 43 g [(5, i6 x0), (6, i6 x1), (7, i6 x2), (17, (.p (.lst 3 (eTrees a1.kids))))], [.cells 25 ((cT a1).map .p)]⟩)
theorem L47_0_ok (rF47 : T_F47) (hF47 : H_F47 rF47) (a1 : TreeD) (a2 : Int) (v1 v2 v3 v4 : Int) {r : E_L47_0 ⊕ (Int × Int × Int × Int)} (h : L47_0 rF47 a1 a2 v1 v2 v3 v4 = some r) : OkR (fun e => L47_0_x a1 a2 e (L47_0_e a1 a2 v1 v2 v3 v4)) (fun s => L47_0_e a1 a2 v1 v2 v3 v4 = L47_0_e a1 a2 s.1 s.2.1 s.2.2.1 s.2.2.2) r := by
 unfold L47_0 at h
 apply bi h <;> intro h1 h
 ·
  apply bn h; intro x2 h2 h
  apply bn h; intro r3 h3 h
  cases r3 with
  | k0 x3_0 x3_1 x3_2 =>
   rw [← sj h]
   exact rn [(20, .d true), (21, .v (.ro (cT x2))), (25, .v (.tup [i6 x3_0, i6 x3_1, i6 x3_2])), (6000, .d true)] (av h1 (apc ((igr tr_map h2) : idxA 3 (.p (.lst 3 (eTrees a1.kids))) (i6 v4) = some (.ro (cT x2))) (apc (((hF47 x2 h3).cp rfl _) : CP pg 47 [(.agg ((cT x2).map .p))] [.cells 25 ((cT a1).map .p), yT0, .cells 25 ((cT x2).map .p)] = some (.tup [i6 x3_0, i6 x3_1, i6 x3_2])) (apc (L47_0_k a1 a2 (w6 (v1 + x3_0)) (w6 (v2 + x3_1)) (if v3 < x3_2 then x3_2 else v3) (w6 (v4 + 1))) apn))))
 ·
  rw [← sj h]
  exact xb [(20, .d false), (6000, .d true)] (av h1 apn)
theorem L47_0_run (rF47 : T_F47) (hF47 : H_F47 rF47) (a1 : TreeD) (a2 : Int) (s0 : Int × Int × Int × Int) (e : E_L47_0) (h : runL (fun s => L47_0 rF47 a1 a2 s.1 s.2.1 s.2.2.1 s.2.2.2) s0 = some e) : L47_0_x a1 a2 e (L47_0_e a1 a2 s0.1 s0.2.1 s0.2.2.1 s0.2.2.2) := by
  have q := @loop_sound' (Int × Int × Int × Int) E_L47_0 (fun s => L47_0 rF47 a1 a2 s.1 s.2.1 s.2.2.1 s.2.2.2) (fun s => L47_0_e a1 a2 s.1 s.2.1 s.2.2.1 s.2.2.2) (L47_0_x a1 a2) (fun s r h => L47_0_ok rF47 hF47 a1 a2 s.1 s.2.1 s.2.2.1 s.2.2.2 h) s0 e h
  exact q
inductive E_L47_0_2 where
  | k0 (x0 x1 x2 : Int)
def L47_0_2 (rF47 : T_F47) (a1 : TreeD) (a2 : Int) (v1 v2 v3 v4 : Int) : Option (E_L47_0_2 ⊕ (Int × Int × Int × Int)) :=
  (bif (decide (v4 < a2)) then ((getI a1.kids v4).bind fun x2 => ((rF47 x2).bind fun r3 => match r3 with | .k0 x3_0 x3_1 x3_2 => (some (.inr ((IntKind.wrap .i64 (v1 + x3_0)), (IntKind.wrap .i64 (v2 + x3_1)), (if v3 < x3_2 then x3_2 else v3), (IntKind.wrap .i64 (v4 + 1))))))) else (some (.inl (.k0 v1 v2 v3))))
def L47_0_2_s (a1 : TreeD) (a2 : Int) (v1 v2 v3 v4 : Int) : St := ⟨fr 43 ug [(5, i6 v1), (6, i6 v2), (7, i6 v3), (17, (.p (.lst 3 (eTrees a1.kids)))), (18, i6 a2), (19, i6 v4)], [.cells 25 ((cT a1).map .p)]⟩
theorem L47_0_2_k (a1 : TreeD) (a2 : Int) (v1 v2 v3 v4 : Int) : okT 1 (L47_0_2_s a1 a2 v1 v2 v3 v4).h = true := (okT_of rfl (ac rfl))
abbrev L47_0_2_e (a1 : TreeD) (a2 : Int) (v1 v2 v3 v4 : Int) := evH pg 1 [5, 6, 7, 17, 18, 19] ir47_l0 (L47_0_2_s a1 a2 v1 v2 v3 v4)
def L47_0_2_x (a1 : TreeD) (a2 : Int) (e : E_L47_0_2) (r : Option (Out × St)) : Prop := match e with | .k0 x0 x1 x2 => ∃ g, r = some ((.brk 0), ⟨fr 43 g [(5, i6 x0), (6, i6 x1), (7, i6 x2), (17, (.p (.lst 3 (eTrees a1.kids))))], [.cells 25 ((cT a1).map .p)]⟩)
theorem L47_0_2_ok (rF47 : T_F47) (hF47 : H_F47 rF47) (a1 : TreeD) (a2 : Int) (v1 v2 v3 v4 : Int) {r : E_L47_0_2 ⊕ (Int × Int × Int × Int)} (h : L47_0_2 rF47 a1 a2 v1 v2 v3 v4 = some r) : OkR (fun e => L47_0_2_x a1 a2 e (L47_0_2_e a1 a2 v1 v2 v3 v4)) (fun s => L47_0_2_e a1 a2 v1 v2 v3 v4 = L47_0_2_e a1 a2 s.1 s.2.1 s.2.2.1 s.2.2.2) r := by
 unfold L47_0_2 at h
 apply bi h <;> intro h1 h
 ·
  apply bn h; intro x2 h2 h
  apply bn h; intro r3 h3 h
  cases r3 with
  | k0 x3_0 x3_1 x3_2 =>
   rw [← sj h]
   exact rn [(20, .d true), (21, .v (.ro (cT x2))), (25, .v (.tup [i6 x3_0, i6 x3_1, i6 x3_2])), (6000, .d true)] (av h1 (apc ((igr tr_map h2) : idxA 3 (.p (.lst 3 (eTrees a1.kids))) (i6 v4) = some (.ro (cT x2))) (apc (((hF47 x2 h3).cp rfl _) : CP pg 47 [(.agg ((cT x2).map .p))] [.cells 25 ((cT a1).map .p), yT0, .cells 25 ((cT x2).map .p)] = some (.tup [i6 x3_0, i6 x3_1, i6 x3_2])) (apc (L47_0_2_k a1 a2 (w6 (v1 + x3_0)) (w6 (v2 + x3_1)) (if v3 < x3_2 then x3_2 else v3) (w6 (v4 + 1))) apn))))
 ·
  rw [← sj h]
  exact xb [(20, .d false), (6000, .d true)] (av h1 apn)
theorem L47_0_2_run (rF47 : T_F47) (hF47 : H_F47 rF47) (a1 : TreeD) (a2 : Int) (s0 : Int × Int × Int × Int) (e : E_L47_0_2) (h : runL (fun s => L47_0_2 rF47 a1 a2 s.1 s.2.1 s.2.2.1 s.2.2.2) s0 = some e) : L47_0_2_x a1 a2 e (L47_0_2_e a1 a2 s0.1 s0.2.1 s0.2.2.1 s0.2.2.2) := by
  have q := @loop_sound' (Int × Int × Int × Int) E_L47_0_2 (fun s => L47_0_2 rF47 a1 a2 s.1 s.2.1 s.2.2.1 s.2.2.2) (fun s => L47_0_2_e a1 a2 s.1 s.2.1 s.2.2.1 s.2.2.2) (L47_0_2_x a1 a2) (fun s r h => L47_0_2_ok rF47 hF47 a1 a2 s.1 s.2.1 s.2.2.1 s.2.2.2 h) s0 e h
  exact q
def F47_b (rF47 : T_F47) (a1 : TreeD) : Option R_F47 :=
  (bif (decide (a1.prod < 0)) then ((runL (fun s => L47_0 rF47 a1 (a1.kids.length : Int) s.1 s.2.1 s.2.2.1 s.2.2.2) (1, 1, 0, 0)).bind fun r2 => match r2 with | .k0 x2_0 x2_1 x2_2 => (some (.k0 x2_0 x2_1 (IntKind.wrap .i64 (x2_2 + 1))))) else ((runL (fun s => L47_0_2 rF47 a1 (a1.kids.length : Int) s.1 s.2.1 s.2.2.1 s.2.2.2) (1, 0, 0, 0)).bind fun r2 => match r2 with | .k0 x2_0 x2_1 x2_2 => (some (.k0 x2_0 x2_1 (IntKind.wrap .i64 (x2_2 + 1))))))
abbrev F47_d0 (g2 : Nat → AV) (x2_0 x2_1 x2_2 : Int) (a1 : TreeD) : St := ⟨fr 43 g2 [(5, i6 x2_0), (6, i6 x2_1), (7, i6 x2_2), (17, (.p (.lst 3 (eTrees a1.kids))))], [.cells 25 ((cT a1).map .p)]⟩
theorem F47_bok (rF47 : T_F47) (hF47 : H_F47 rF47) (a1 : TreeD) {r : R_F47} (h : F47_b rF47 a1 = some r) : PR1 pg 47 [(.agg ((cT a1).map .p))] (F47_v a1 r) := by
 unfold F47_b at h
 have q0 := ((lgr tr_map) : lnA (.p (.lst 3 (eTrees a1.kids))) = some (i6 (a1.kids.length : Int)))
 apply bi h <;> intro h1 h
 ·
  apply bn h; intro r2 h2 h
  cases r2 with
  | k0 x2_0 x2_1 x2_2 =>
   obtain ⟨g2, e2⟩ := L47_0_run rF47 hF47 a1 (a1.kids.length : Int) (1, 1, 0, 0) _ h2
   rw [← sj h]
   exact fq [(15, .d true), (18, .v (i6 (a1.kids.length : Int))), (2000, .l (.brk 0) (F47_d0 g2 x2_0 x2_1 x2_2 a1)), (6000, .d true)] (av h1 (apc q0 (apc (L47_0_k a1 (a1.kids.length : Int) 1 1 0 0) (apc (e2 : L47_0_e a1 (a1.kids.length : Int) 1 1 0 0 = some ((.brk 0), F47_d0 g2 x2_0 x2_1 x2_2 a1)) apn))))
 ·
  apply bn h; intro r2 h2 h
  cases r2 with
  | k0 x2_0 x2_1 x2_2 =>
   obtain ⟨g2, e2⟩ := L47_0_2_run rF47 hF47 a1 (a1.kids.length : Int) (1, 0, 0, 0) _ h2
   rw [← sj h]
   exact fq [(15, .d false), (18, .v (i6 (a1.kids.length : Int))), (2000, .l (.brk 0) (F47_d0 g2 x2_0 x2_1 x2_2 a1)), (6000, .d true)] (av h1 (apc q0 (apc (L47_0_2_k a1 (a1.kids.length : Int) 1 0 0 0) (apc (e2 : L47_0_2_e a1 (a1.kids.length : Int) 1 0 0 0 = some ((.brk 0), F47_d0 g2 x2_0 x2_1 x2_2 a1)) apn))))
def F47 : Nat → T_F47
  | 0 => fun _ => none
  | Nf + 1 => F47_b (F47 Nf)
theorem F47_ok (Nf : Nat) : H_F47 (F47 Nf) := by
  induction Nf with
  | zero => intro a1 r h; have h : (none : Option R_F47) = some r := h; cases h
  | succ Nf ih => intro a1 r h; exact F47_bok (F47 Nf) ih a1 h
inductive E_L56_0_3 where
  | k0 (x0 : Int)
def L56_0_3 (Nf : Nat) (a6 : List TreeD) (a7 : Int) (v1 v2 : Int) : Option (E_L56_0_3 ⊕ (Int × Int)) :=
  (bif (decide (v2 < a7)) then ((getI a6 v2).bind fun x2 => ((F47 Nf x2).bind fun r3 => match r3 with | .k0 x3_0 x3_1 x3_2 => (some (.inr ((IntKind.wrap .i64 (v1 + x3_1)), (IntKind.wrap .i64 (v2 + 1))))))) else (some (.inl (.k0 v1))))
def L56_0_3_s (a2 : Int) (a3 : List Int) (a4 a5 : Int) (a6 : List TreeD) (a7 a8 a9 : Int) (a10 : List TreeD) (v1 v2 : Int) : St := ⟨fr 65 ug [(2, .ptr 0 0), (4, .ptr 2 0), (8, i6 v1), (10, i6 a2), (22, ls 1 eI64 a3), (23, i6 a4), (24, i6 a5), (41, (.p (.lst 3 (eTrees a6)))), (42, i6 a7), (43, i6 v2)], [.cells 25 [i6 a8, vi .u8 a9, (.p (.lst 3 (eTrees a10)))], yT0, .cells 25 [i6 0, vi .u8 0, .sl 1 0 3 0 0]]⟩
theorem L56_0_3_k (a2 : Int) (a3 : List Int) (a4 a5 : Int) (a6 : List TreeD) (a7 a8 a9 : Int) (a10 : List TreeD) (v1 v2 : Int) : okT 3 (L56_0_3_s a2 a3 a4 a5 a6 a7 a8 a9 a10 v1 v2).h = true := (okT_of rfl (ac (ar (ac rfl))))
abbrev L56_0_3_e (a2 : Int) (a3 : List Int) (a4 a5 : Int) (a6 : List TreeD) (a7 a8 a9 : Int) (a10 : List TreeD) (v1 v2 : Int) := evH pg 3 [2, 4, 8, 10, 22, 23, 24, 41, 42, 43] ir56_l0 (L56_0_3_s a2 a3 a4 a5 a6 a7 a8 a9 a10 v1 v2)
def L56_0_3_x (a2 : Int) (a3 : List Int) (a4 a5 : Int) (a6 : List TreeD) (a7 a8 a9 : Int) (a10 : List TreeD) (e : E_L56_0_3) (r : Option (Out × St)) : Prop := match e with | .k0 x0 => ∃ g, r = some ((.brk 2), ⟨fr 65 g [(2, .ptr 0 0), (4, .ptr 2 0), (8, i6 x0), (10, i6 a2), (22, ls 1 eI64 a3), (23, i6 a4), (24, i6 a5), (41, (.p (.lst 3 (eTrees a6))))], [.cells 25 [i6 a8, vi .u8 a9, (.p (.lst 3 (eTrees a10)))], yT0, .cells 25 [i6 0, vi .u8 0, .sl 1 0 3 0 0]]⟩)
theorem L56_0_3_ok (Nf : Nat) (a2 : Int) (a3 : List Int) (a4 a5 : Int) (a6 : List TreeD) (a7 a8 a9 : Int) (a10 : List TreeD) (v1 v2 : Int) {r : E_L56_0_3 ⊕ (Int × Int)} (h : L56_0_3 Nf a6 a7 v1 v2 = some r) : OkR (fun e => L56_0_3_x a2 a3 a4 a5 a6 a7 a8 a9 a10 e (L56_0_3_e a2 a3 a4 a5 a6 a7 a8 a9 a10 v1 v2)) (fun s => L56_0_3_e a2 a3 a4 a5 a6 a7 a8 a9 a10 v1 v2 = L56_0_3_e a2 a3 a4 a5 a6 a7 a8 a9 a10 s.1 s.2) r := by
 unfold L56_0_3 at h
 apply bi h <;> intro h1 h
 ·
  apply bn h; intro x2 h2 h
  apply bn h; intro r3 h3 h
  cases r3 with
  | k0 x3_0 x3_1 x3_2 =>
   rw [← sj h]
   exact rn [(44, .d true), (45, .v (.ro (cT x2))), (49, .v (.tup [i6 x3_0, i6 x3_1, i6 x3_2])), (6000, .d true)] (av h1 (apc ((igr tr_map h2) : idxA 3 (.p (.lst 3 (eTrees a6))) (i6 v2) = some (.ro (cT x2))) (apc (((F47_ok Nf x2 h3).cp rfl _) : CP pg 47 [(.agg ((cT x2).map .p))] [.cells 25 [i6 a8, vi .u8 a9, (.p (.lst 3 (eTrees a10)))], yT0, .cells 25 [i6 0, vi .u8 0, .sl 1 0 3 0 0], yT0, .cells 25 ((cT x2).map .p)] = some (.tup [i6 x3_0, i6 x3_1, i6 x3_2])) (apc (L56_0_3_k a2 a3 a4 a5 a6 a7 a8 a9 a10 (w6 (v1 + x3_1)) (w6 (v2 + 1))) apn))))
 ·
  rw [← sj h]
  exact xb [(44, .d false), (6000, .d true)] (av h1 apn)
theorem L56_0_3_run (Nf : Nat) (a2 : Int) (a3 : List Int) (a4 a5 : Int) (a6 : List TreeD) (a7 a8 a9 : Int) (a10 : List TreeD) (s0 : Int × Int) (e : E_L56_0_3) (h : runL (fun s => L56_0_3 Nf a6 a7 s.1 s.2) s0 = some e) : L56_0_3_x a2 a3 a4 a5 a6 a7 a8 a9 a10 e (L56_0_3_e a2 a3 a4 a5 a6 a7 a8 a9 a10 s0.1 s0.2) := by
  have q := @loop_sound' (Int × Int) E_L56_0_3 (fun s => L56_0_3 Nf a6 a7 s.1 s.2) (fun s => L56_0_3_e a2 a3 a4 a5 a6 a7 a8 a9 a10 s.1 s.2) (L56_0_3_x a2 a3 a4 a5 a6 a7 a8 a9 a10) (fun s r h => L56_0_3_ok Nf a2 a3 a4 a5 a6 a7 a8 a9 a10 s.1 s.2 h) s0 e h
  exact q
inductive E_L56_1 where
  | k0 (x0 x1 : Int) (x2 : List TreeD)
  | k1 (x0 x1 x2 : Int) (x3 : List TreeD)
def L56_1 (Nf : Nat) (a1 : List Int) (a2 : Int) (v1 v2 v3 v4 : Int) (v5 : List TreeD) : Option (E_L56_1 ⊕ (Int × Int × Int × Int × (List TreeD))) :=
  (bif (decide (v2 < a2)) then ((getI a1 v2).bind fun x2 => (bif (decide (x2 < 0)) then (some (.inl (.k0 v3 v4 v5))) else (bif (decide (x2 ≥ (v5.length : Int))) then (some (.inl (.k0 v3 v4 v5))) else (bif (sl_ok 0 x2 v5.length) then ((runL (fun s => L56_0_3 Nf ((v5.take (Int.toNat x2)).drop (Int.toNat 0)) (((v5.take (Int.toNat x2)).drop (Int.toNat 0)).length : Int) s.1 s.2) (v1, 0)).bind fun r6 => match r6 with | .k0 x6_0 => ((getI v5 x2).bind fun x7 => (some (.inr (x6_0, (IntKind.wrap .i64 (v2 + 1)), x7.prod, x7.byte, x7.kids))))) else none)))) else (some (.inl (.k1 v1 v3 v4 v5))))
def L56_1_s (a1 : List Int) (a2 : Int) (v1 v2 v3 v4 : Int) (v5 : List TreeD) : St := ⟨fr 65 ug [(2, .ptr 0 0), (4, .ptr 2 0), (8, i6 v1), (22, ls 1 eI64 a1), (23, i6 a2), (24, i6 v2)], [.cells 25 [i6 v3, vi .u8 v4, (.p (.lst 3 (eTrees v5)))], yT0, .cells 25 [i6 0, vi .u8 0, .sl 1 0 3 0 0]]⟩
theorem L56_1_k (a1 : List Int) (a2 : Int) (v1 v2 v3 v4 : Int) (v5 : List TreeD) : okT 3 (L56_1_s a1 a2 v1 v2 v3 v4 v5).h = true := (okT_of rfl (ac (ar (ac rfl))))
abbrev L56_1_e (a1 : List Int) (a2 : Int) (v1 v2 v3 v4 : Int) (v5 : List TreeD) := evH pg 3 [2, 4, 8, 22, 23, 24] ir56_l1 (L56_1_s a1 a2 v1 v2 v3 v4 v5)
def L56_1_x (a1 : List Int) (a2 : Int) (e : E_L56_1) (r : Option (Out × St)) : Prop := match e with | .k0 x0 x1 x2 => ∃ g, r = some (.ret, ⟨fr 65 g [(4, .ptr 2 0), (5, i6 0), (6, i6 5)], [.cells 25 [i6 x0, vi .u8 x1, (.p (.lst 3 (eTrees x2)))], yT0, .cells 25 [i6 0, vi .u8 0, (.p (.lst 3 (eTrees ([]))))]]⟩) | .k1 x0 x1 x2 x3 => ∃ g, r = some ((.brk 0), ⟨fr 65 g [(2, .ptr 0 0), (4, .ptr 2 0), (8, i6 x0), (22, ls 1 eI64 a1)], [.cells 25 [i6 x1, vi .u8 x2, (.p (.lst 3 (eTrees x3)))], yT0, .cells 25 [i6 0, vi .u8 0, .sl 1 0 3 0 0]]⟩)
abbrev L56_1_d0 (g6 : Nat → AV) (x6_0 x2 : Int) (a1 : List Int) (a2 v2 : Int) (v5 : List TreeD) (v3 v4 : Int) : St := ⟨fr 65 g6 [(2, .ptr 0 0), (4, .ptr 2 0), (8, i6 x6_0), (10, i6 x2), (22, ls 1 eI64 a1), (23, i6 a2), (24, i6 v2), (41, (.p (.lst 3 (eTrees ((v5.take (Int.toNat x2)).drop (Int.toNat 0))))))], [.cells 25 [i6 v3, vi .u8 v4, (.p (.lst 3 (eTrees v5)))], yT0, .cells 25 [i6 0, vi .u8 0, .sl 1 0 3 0 0]]⟩
theorem L56_1_ok (Nf : Nat) (a1 : List Int) (a2 : Int) (v1 v2 v3 v4 : Int) (v5 : List TreeD) {r : E_L56_1 ⊕ (Int × Int × Int × Int × (List TreeD))} (h : L56_1 Nf a1 a2 v1 v2 v3 v4 v5 = some r) : OkR (fun e => L56_1_x a1 a2 e (L56_1_e a1 a2 v1 v2 v3 v4 v5)) (fun s => L56_1_e a1 a2 v1 v2 v3 v4 v5 = L56_1_e a1 a2 s.1 s.2.1 s.2.2.1 s.2.2.2.1 s.2.2.2.2) r := by
 unfold L56_1 at h
 have q0 := ((lgr tr_map) : lnA (.p (.lst 3 (eTrees v5))) = some (i6 (v5.length : Int)))
 apply bi h <;> intro h1 h
 ·
  apply bn h; intro x2 h2 h
  have k1 := ka [(25, .d true), (26, .v (.ro [.val (.int .i64 x2)]))] (av h1 (apc (ig eI64 1 .i64 h2) apn))
  apply bi h <;> intro h3 h
  ·
   rw [← sj h]
   exact xr ([(29, .d true), (6000, .d true)] ++ kH k1) (k1.b (av h3 apn))
  ·
   have k2 := k1.a [(29, .d false), (34, .v (i6 (v5.length : Int)))] (av h3 (apc q0 apn))
   apply bi h <;> intro h4 h
   ·
    rw [← sj h]
    exact xr ([(35, .d true), (6000, .d true)] ++ kH k2) (k2.b (av h4 apn))
   ·
    apply bi h <;> intro h5 h
    ·
     apply bn h; intro r6 h6 h
     cases r6 with
     | k0 x6_0 =>
      obtain ⟨g6, e6⟩ := L56_0_3_run Nf x2 a1 a2 v2 ((v5.take (Int.toNat x2)).drop (Int.toNat 0)) (((v5.take (Int.toNat x2)).drop (Int.toNat 0)).length : Int) v3 v4 v5 (v1, 0) _ h6
      apply bn h; intro x7 h7 h
      rw [← sj h]
      exact rn ([(35, .d false), (41, .v (.p (.lst 3 (eTrees ((v5.take (Int.toNat x2)).drop (Int.toNat 0)))))), (42, .v (i6 (((v5.take (Int.toNat x2)).drop (Int.toNat 0)).length : Int))), (2002, .l (.brk 2) (L56_1_d0 g6 x6_0 x2 a1 a2 v2 v5 v3 v4)), (60, .v (.ro (cT x7))), (6000, .d true)] ++ kH k2) (k2.b (av h4 (apc ((slr tr_map h5) : slL 3 (.p (.lst 3 (eTrees v5))) (some 0) (some x2) = some (.p (.lst 3 (eTrees ((v5.take (Int.toNat x2)).drop (Int.toNat 0)))))) (apc ((lgr tr_map) : lnA (.p (.lst 3 (eTrees ((v5.take (Int.toNat x2)).drop (Int.toNat 0))))) = some (i6 (((v5.take (Int.toNat x2)).drop (Int.toNat 0)).length : Int))) (apc (L56_0_3_k x2 a1 a2 v2 ((v5.take (Int.toNat x2)).drop (Int.toNat 0)) (((v5.take (Int.toNat x2)).drop (Int.toNat 0)).length : Int) v3 v4 v5 v1 0) (apc (e6 : L56_0_3_e x2 a1 a2 v2 ((v5.take (Int.toNat x2)).drop (Int.toNat 0)) (((v5.take (Int.toNat x2)).drop (Int.toNat 0)).length : Int) v3 v4 v5 v1 0 = some ((.brk 2), L56_1_d0 g6 x6_0 x2 a1 a2 v2 v5 v3 v4)) (apc ((igr tr_map h7) : idxA 3 (.p (.lst 3 (eTrees v5))) (i6 x2) = some (.ro (cT x7))) (apc (L56_1_k a1 a2 x6_0 (w6 (v2 + 1)) x7.prod x7.byte x7.kids) apn))))))))
    ·
     cases h
 ·
  rw [← sj h]
  exact xb [(25, .d false), (6000, .d true)] (av h1 apn)
theorem L56_1_run (Nf : Nat) (a1 : List Int) (a2 : Int) (s0 : Int × Int × Int × Int × (List TreeD)) (e : E_L56_1) (h : runL (fun s => L56_1 Nf a1 a2 s.1 s.2.1 s.2.2.1 s.2.2.2.1 s.2.2.2.2) s0 = some e) : L56_1_x a1 a2 e (L56_1_e a1 a2 s0.1 s0.2.1 s0.2.2.1 s0.2.2.2.1 s0.2.2.2.2) := by
  have q := @loop_sound' (Int × Int × Int × Int × (List TreeD)) E_L56_1 (fun s => L56_1 Nf a1 a2 s.1 s.2.1 s.2.2.1 s.2.2.2.1 s.2.2.2.2) (fun s => L56_1_e a1 a2 s.1 s.2.1 s.2.2.1 s.2.2.2.1 s.2.2.2.2) (L56_1_x a1 a2) (fun s r h => L56_1_ok Nf a1 a2 s.1 s.2.1 s.2.2.1 s.2.2.2.1 s.2.2.2.2 h) s0 e h
  exact q
inductive R_F56 where
  | k0 (x0 x1 : Int) (x2 : List TreeD) (x3 x4 : Int)
def F56_v (a1 : TreeD) (a2 : List Int) (r : R_F56) : AV := match r with | .k0 x0 x1 x2 x3 x4 => (.tup [(.agg [i6 x0, vi .u8 x1, (.p (.lst 3 (eTrees x2)))]), i6 x3, i6 x4])
def F56 (Nf : Nat) (a1 : TreeD) (a2 : List Int) : Option R_F56 :=
  ((F23 a1).bind fun x1 => (bif (x1 != 0) then (some (.k0 0 0 ([]) 0 x1)) else ((runL (fun s => L56_1 Nf a2 (a2.length : Int) s.1 s.2.1 s.2.2.1 s.2.2.2.1 s.2.2.2.2) (0, 0, a1.prod, a1.byte, a1.kids)).bind fun r3 => match r3 with | .k0 x3_0 x3_1 x3_2 => (some (.k0 0 0 ([]) 0 5)) | .k1 x3_0 x3_1 x3_2 x3_3 => (some (.k0 x3_1 x3_2 x3_3 x3_0 0)))))
theorem F56_ok (Nf : Nat) (a1 : TreeD) (a2 : List Int) {r : R_F56} (h : F56 Nf a1 a2 = some r) : PR1 pg 56 [(.agg ((cT a1).map .p)), ls 1 eI64 a2] (F56_v a1 a2 r) := by
 unfold F56 at h
 apply bn h; intro x1 h1 h
 have q0 := (((F23_ok a1 h1).cp rfl _) : CP pg 23 [(.agg ((cT a1).map .p))] [.cells 25 ((cT a1).map .p), yT0, .cells 25 [i6 0, vi .u8 0, .sl 1 0 3 0 0]] = some (i6 x1))
 apply bi h <;> intro h2 h
 ·
  rw [← sj h]
  exact fq [(17, .v (i6 x1)), (19, .d true)] (apc q0 (av h2 apn))
 ·
  have k1 := ka [(17, .v (i6 x1)), (19, .d false), (23, .v (i6 (a2.length : Int)))] (apc q0 (av h2 (apc (lg a2 eI64 1) apn)))
  apply bn h; intro r3 h3 h
  cases r3 with
  | k0 x3_0 x3_1 x3_2 =>
   obtain ⟨g3, e3⟩ := L56_1_run Nf a2 (a2.length : Int) (0, 0, a1.prod, a1.byte, a1.kids) _ h3
   rw [← sj h]
   exact fq ([(2000, .l .ret ⟨fr 65 g3 [(4, .ptr 2 0), (5, i6 0), (6, i6 5)], [.cells 25 [i6 x3_0, vi .u8 x3_1, (.p (.lst 3 (eTrees x3_2)))], yT0, .cells 25 [i6 0, vi .u8 0, (.p (.lst 3 (eTrees ([]))))]]⟩), (6000, .d true)] ++ kH k1) (k1.b (apc (L56_1_k a2 (a2.length : Int) 0 0 a1.prod a1.byte a1.kids) (apc (e3 : L56_1_e a2 (a2.length : Int) 0 0 a1.prod a1.byte a1.kids = some (.ret, ⟨fr 65 g3 [(4, .ptr 2 0), (5, i6 0), (6, i6 5)], [.cells 25 [i6 x3_0, vi .u8 x3_1, (.p (.lst 3 (eTrees x3_2)))], yT0, .cells 25 [i6 0, vi .u8 0, (.p (.lst 3 (eTrees ([]))))]]⟩)) apn)))
  | k1 x3_0 x3_1 x3_2 x3_3 =>
   obtain ⟨g3, e3⟩ := L56_1_run Nf a2 (a2.length : Int) (0, 0, a1.prod, a1.byte, a1.kids) _ h3
   rw [← sj h]
   exact fq ([(2000, .l (.brk 0) ⟨fr 65 g3 [(2, .ptr 0 0), (4, .ptr 2 0), (8, i6 x3_0), (22, ls 1 eI64 a2)], [.cells 25 [i6 x3_1, vi .u8 x3_2, (.p (.lst 3 (eTrees x3_3)))], yT0, .cells 25 [i6 0, vi .u8 0, .sl 1 0 3 0 0]]⟩), (6000, .d true)] ++ kH k1) (k1.b (apc (L56_1_k a2 (a2.length : Int) 0 0 a1.prod a1.byte a1.kids) (apc (e3 : L56_1_e a2 (a2.length : Int) 0 0 a1.prod a1.byte a1.kids = some ((.brk 0), ⟨fr 65 g3 [(2, .ptr 0 0), (4, .ptr 2 0), (8, i6 x3_0), (22, ls 1 eI64 a2)], [.cells 25 [i6 x3_1, vi .u8 x3_2, (.p (.lst 3 (eTrees x3_3)))], yT0, .cells 25 [i6 0, vi .u8 0, .sl 1 0 3 0 0]]⟩)) apn)))
inductive R_F19 where
  | k0 (x0 x1 x2 : Int)
def F19_v (a1 : TreeD) (r : R_F19) : AV := match r with | .k0 x0 x1 x2 => (.tup [i6 x0, i6 x1, i6 x2])
def F19 (Nf : Nat) (a1 : TreeD) : Option R_F19 :=
  ((F23 a1).bind fun x1 => (bif (x1 != 0) then (some (.k0 0 0 0)) else ((F47 Nf a1).bind fun r3 => match r3 with | .k0 x3_0 x3_1 x3_2 => (some (.k0 x3_0 x3_1 x3_2)))))
theorem F19_ok (Nf : Nat) (a1 : TreeD) {r : R_F19} (h : F19 Nf a1 = some r) : PR1 pg 19 [(.agg ((cT a1).map .p))] (F19_v a1 r) := by
 unfold F19 at h
 apply bn h; intro x1 h1 h
 have q0 := (((F23_ok a1 h1).cp rfl _) : CP pg 23 [(.agg ((cT a1).map .p))] [.cells 25 ((cT a1).map .p)] = some (i6 x1))
 apply bi h <;> intro h2 h
 ·
  rw [← sj h]
  exact fq [(6, .v (i6 x1)), (7, .d true)] (apc q0 (av h2 apn))
 ·
  apply bn h; intro r3 h3 h
  cases r3 with
  | k0 x3_0 x3_1 x3_2 =>
   rw [← sj h]
   exact fq [(6, .v (i6 x1)), (7, .d false), (9, .v (.tup [i6 x3_0, i6 x3_1, i6 x3_2]))] (apc q0 (av h2 (apc (((F47_ok Nf a1 h3).cp rfl _) : CP pg 47 [(.agg ((cT a1).map .p))] [.cells 25 ((cT a1).map .p)] = some (.tup [i6 x3_0, i6 x3_1, i6 x3_2])) apn)))
end
end
end Go.Proofs.Tryd
