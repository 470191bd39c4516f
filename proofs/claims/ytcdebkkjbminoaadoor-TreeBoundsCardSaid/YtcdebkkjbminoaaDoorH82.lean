/- Decompiled by a program: functions as plain data see them, part 1. -/
import Derived.Test.YtcdebkkjbminoaaDoorW81
namespace Go.Proofs.Tryd
set_option linter.unusedSimpArgs false
set_option linter.unusedVariables false
set_option maxHeartbeats 4000000
open Go Go.Vs
noncomputable section
section
variable [ErC]
def F72_v (a1 : TreeD) (a2 : Int) (a3 : TreeD) (a4 : Bool) (x0 : Bool) : AV := (.tup [])
def F72_h (a1 : TreeD) (a2 : Int) (a3 : TreeD) (a4 : Bool) (x0 : Bool) : List AB := [.cells 25 ((cT a3).map .p), .cells 4 [(vb x0)]]
abbrev T_F72 := TreeD → Int → TreeD → Bool → Option Bool
abbrev H_F72 (f : T_F72) : Prop := ∀ (a1 : TreeD) (a2 : Int) (a3 : TreeD) (a4 : Bool) {r : Bool}, f a1 a2 a3 a4 = some r → ∀ hx : List AB, CS pgR 72 [(.agg ((cT a1).map .p)), (i6 a2), (.fn 54 [(.ptr 1 0)])] ([.cells 25 ((cT a3).map .p), .cells 4 [(vb a4)]] ++ hx) = some (F72_v a1 a2 a3 a4 r, F72_h a1 a2 a3 a4 r ++ hx)
def F54_v (a1 : TreeD) (a2 : TreeD) (a3 : Bool) (x0 : Bool) : AV := (.tup [])
def F54_h (a1 : TreeD) (a2 : TreeD) (a3 : Bool) (x0 : Bool) : List AB := [.cells 25 ((cT a2).map .p), .cells 4 [(vb x0)], .cells 25 ((cT a1).map .p), .cells 25 ((cT a1).map .p)]
def F54 (a1 : TreeD) (a3 : Bool) : Option Bool :=
  (bif (decide (a1.prod < (-1))) then (some true) else (bif (decide (a1.prod > 2147483647)) then (some true) else (bif (a1.prod == (-1)) then (bif (decide ((a1.kids.length : Int) > 0)) then (some true) else (bif (decide (a1.prod ≥ 0)) then (bif (a1.byte != 0) then (some true) else (some a3)) else (some a3))) else (bif (decide (a1.prod ≥ 0)) then (bif (a1.byte != 0) then (some true) else (some a3)) else (some a3)))))
theorem F54_ok (a1 : TreeD) (a2 : TreeD) (a3 : Bool) {r : Bool} (h : F54 a1 a3 = some r) : CS pgR 54 [(.agg ((cT a1).map .p)), (.ptr 1 0)] [.cells 25 ((cT a2).map .p), .cells 4 [(vb a3)], .cells 25 ((cT a1).map .p)] = some (F54_v a1 a2 a3 r, F54_h a1 a2 a3 r) := by
 unfold F54 at h
 refine bi h (fun h1 h => ?_) fun h1 h => ?_
 ·
  rw [← sj h]
  exact fcs [(5, .d true)] (apc (cv h1) apn) (by kernel_rfl)
 ·
  refine bi h (fun h2 h => ?_) fun h2 h => ?_
  ·
   rw [← sj h]
   exact fcs [(5, .d false), (9, .d true)] (apc (cv h1) (apc (cv h2) apn)) (by kernel_rfl)
  ·
   refine bi h (fun h3 h => ?_) fun h3 h => ?_
   ·
    have q3 := ((lgr tr_map) : lnA (.p (.lst 3 (eTrees a1.kids))) = some (i6 (a1.kids.length : Int)))
    refine bi h (fun h4 h => ?_) fun h4 h => ?_
    ·
     rw [← sj h]
     exact fcs [(5, .d false), (9, .d false), (14, .d true), (18, .v (i6 (a1.kids.length : Int))), (19, .d true)] (apc (cv h1) (apc (cv h2) (apc (cv h3) (apc q3 (apc (cv h4) apn))))) (by kernel_rfl)
    ·
     refine bi h (fun h5 h => ?_) fun h5 h => ?_
     ·
      refine bi h (fun h6 h => ?_) fun h6 h => ?_
      ·
       rw [← sj h]
       exact fcs [(5, .d false), (9, .d false), (14, .d true), (18, .v (i6 (a1.kids.length : Int))), (19, .d false), (25, .d true), (29, .d true)] (apc (cv h1) (apc (cv h2) (apc (cv h3) (apc q3 (apc (cv h4) (apc (cv h5) (apc (cv h6) apn))))))) (by kernel_rfl)
      ·
       rw [← sj h]
       exact fcs [(5, .d false), (9, .d false), (14, .d true), (18, .v (i6 (a1.kids.length : Int))), (19, .d false), (25, .d true), (29, .d false)] (apc (cv h1) (apc (cv h2) (apc (cv h3) (apc q3 (apc (cv h4) (apc (cv h5) (apc (cv h6) apn))))))) (by kernel_rfl)
     ·
      rw [← sj h]
      exact fcs [(5, .d false), (9, .d false), (14, .d true), (18, .v (i6 (a1.kids.length : Int))), (19, .d false), (25, .d false)] (apc (cv h1) (apc (cv h2) (apc (cv h3) (apc q3 (apc (cv h4) (apc (cv h5) apn)))))) (by kernel_rfl)
   ·
    refine bi h (fun h4 h => ?_) fun h4 h => ?_
    ·
     refine bi h (fun h5 h => ?_) fun h5 h => ?_
     ·
      rw [← sj h]
      exact fcs [(5, .d false), (9, .d false), (14, .d false), (25, .d true), (29, .d true)] (apc (cv h1) (apc (cv h2) (apc (cv h3) (apc (cv h4) (apc (cv h5) apn))))) (by kernel_rfl)
     ·
      rw [← sj h]
      exact fcs [(5, .d false), (9, .d false), (14, .d false), (25, .d true), (29, .d false)] (apc (cv h1) (apc (cv h2) (apc (cv h3) (apc (cv h4) (apc (cv h5) apn))))) (by kernel_rfl)
    ·
     rw [← sj h]
     exact fcs [(5, .d false), (9, .d false), (14, .d false), (25, .d false)] (apc (cv h1) (apc (cv h2) (apc (cv h3) (apc (cv h4) apn)))) (by kernel_rfl)
inductive E_L72_0 where
  | k0 (x0 : Bool)
def L72_0 (rF72 : T_F72) (a1 : Int) (a2 : TreeD) (a3 : Int) (a4 : TreeD) (v1 : Int) (v2 : Bool) : Option (E_L72_0 ⊕ (Int × Bool)) :=
  (bif (decide (v1 < a3)) then ((getI a2.kids v1).bind fun x2 => ((rF72 x2 (IntKind.wrap .i64 (a1 - 1)) a4 v2).bind fun x3 => (some (.inr ((IntKind.wrap .i64 (v1 + 1)), x3))))) else (some (.inl (.k0 v2))))
def L72_0_s (a1 : Int) (a2 : TreeD) (a3 : Int) (a4 : TreeD) (v1 : Int) (v2 : Bool) : St := ⟨fr 28 ug [(1, (i6 a1)), (2, (.fn 54 [(.ptr 1 0)])), (16, (.p (.lst 3 (eTrees a2.kids)))), (17, (i6 a3)), (18, (i6 v1))], [.cells 25 ((cT a4).map .p), .cells 4 [(vb v2)], .cells 25 ((cT a2).map .p), .cells 25 ((cT a2).map .p)]⟩
def L72_0_x (a1 : Int) (a2 : TreeD) (a3 : Int) (a4 : TreeD) (e : E_L72_0) (r : Option (Out × St)) : Prop := match e with | .k0 x0 => ∃ g, r = some ((.brk 0), ⟨fr 28 g [(1, (i6 a1)), (2, (.fn 54 [(.ptr 1 0)])), (16, (.p (.lst 3 (eTrees a2.kids))))], [.cells 25 ((cT a4).map .p), .cells 4 [(vb x0)], .cells 25 ((cT a2).map .p), .cells 25 ((cT a2).map .p)]⟩)
abbrev L72_0_d0 (a4 : TreeD) (x3 : Bool) (a2 : TreeD) (x2 : TreeD) : List AB := [.cells 25 ((cT a4).map .p), .cells 4 [(vb x3)], .cells 25 ((cT a2).map .p), .cells 25 ((cT a2).map .p), .row 25 3 0 (ra cT []), .cells 25 ((cT x2).map .p)]
theorem L72_0_ok (rF72 : T_F72) (hF72 : H_F72 rF72) (a1 : Int) (a2 : TreeD) (a3 : Int) (a4 : TreeD) (v1 : Int) (v2 : Bool) {r : E_L72_0 ⊕ (Int × Bool)} (h : L72_0 rF72 a1 a2 a3 a4 v1 v2 = some r) : OkR (fun e => L72_0_x a1 a2 a3 a4 e (evH pgR 4 [1, 2, 16, 17, 18] ir72_l0 (L72_0_s a1 a2 a3 a4 v1 v2))) (fun s => evH pgR 4 [1, 2, 16, 17, 18] ir72_l0 (L72_0_s a1 a2 a3 a4 v1 v2) = evH pgR 4 [1, 2, 16, 17, 18] ir72_l0 (L72_0_s a1 a2 a3 a4 s.1 s.2)) r := by
 unfold L72_0 at h
 refine bi h (fun h1 h => ?_) fun h1 h => ?_
 ·
  refine bn h fun x2 h2 h => ?_
  refine bn h fun x3 h3 h => ?_
  rw [← sj h]
  exact rnd [(19, .d true), (20, .v (.ro (cT x2))), (26, .r (.tup []) (L72_0_d0 a4 x3 a2 x2)), (6000, .d true)] (apc (cv h1) (apc ((igr tr_map h2) : idxA 3 (.p (.lst 3 (eTrees a2.kids))) (i6 v1) = some (.ro (cT x2))) (apc ((hF72 x2 (w6 (a1 - 1)) a4 v2 h3 [.cells 25 ((cT a2).map .p), .cells 25 ((cT a2).map .p), .row 25 3 0 (ra cT []), .cells 25 ((cT x2).map .p)]) : CS pgR 72 [(.agg ((cT x2).map .p)), (i6 (w6 (a1 - 1))), (.fn 54 [(.ptr 1 0)])] [.cells 25 ((cT a4).map .p), .cells 4 [(vb v2)], .cells 25 ((cT a2).map .p), .cells 25 ((cT a2).map .p), .row 25 3 0 (ra cT []), .cells 25 ((cT x2).map .p)] = some ((.tup []), (L72_0_d0 a4 x3 a2 x2))) (apc ((okT_of rfl (abl_cons rfl (abl_cons rfl (abl_cons rfl (abl_cons rfl rfl))))) : okT 4 (L72_0_d0 a4 x3 a2 x2) = true) apn)))) (by kernel_rfl)
 ·
  rw [← sj h]
  exact xbrk [(19, .d false), (6000, .d true)] (apc (cv h1) apn) (by kernel_rfl)
theorem L72_0_run (rF72 : T_F72) (hF72 : H_F72 rF72) (a1 : Int) (a2 : TreeD) (a3 : Int) (a4 : TreeD) (s0 : Int × Bool) (e : E_L72_0) (h : runL (fun s => L72_0 rF72 a1 a2 a3 a4 s.1 s.2) s0 = some e) : L72_0_x a1 a2 a3 a4 e (evH pgR 4 [1, 2, 16, 17, 18] ir72_l0 (L72_0_s a1 a2 a3 a4 s0.1 s0.2)) := by
  have q := @loop_sound' (Int × Bool) E_L72_0 (fun s => L72_0 rF72 a1 a2 a3 a4 s.1 s.2) (fun s => evH pgR 4 [1, 2, 16, 17, 18] ir72_l0 (L72_0_s a1 a2 a3 a4 s.1 s.2)) (L72_0_x a1 a2 a3 a4) (fun s r h => L72_0_ok rF72 hF72 a1 a2 a3 a4 s.1 s.2 h) s0 e h
  exact q
def F72_b (rF72 : T_F72) (a1 : TreeD) (a2 : Int) (a3 : TreeD) (a4 : Bool) : Option Bool :=
  (bif (a2 == 0) then none else ((F54 a1 a4).bind fun x2 => ((runL (fun s => L72_0 rF72 a2 a1 (a1.kids.length : Int) a3 s.1 s.2) (0, x2)).bind fun r3 => match r3 with | .k0 x3_0 => (some x3_0))))
abbrev F72_d0 (a3 : TreeD) (x2 : Bool) (a1 : TreeD) : List AB := [.cells 25 ((cT a3).map .p), .cells 4 [(vb x2)], .cells 25 ((cT a1).map .p), .cells 25 ((cT a1).map .p)]
abbrev F72_d1 (g3 : Nat → AV) (a2 : Int) (a1 : TreeD) (a3 : TreeD) (x3_0 : Bool) : St := ⟨fr 28 g3 [(1, (i6 a2)), (2, (.fn 54 [(.ptr 1 0)])), (16, (.p (.lst 3 (eTrees a1.kids))))], [.cells 25 ((cT a3).map .p), .cells 4 [(vb x3_0)], .cells 25 ((cT a1).map .p), .cells 25 ((cT a1).map .p)]⟩
theorem F72_bok (rF72 : T_F72) (hF72 : H_F72 rF72) (a1 : TreeD) (a2 : Int) (a3 : TreeD) (a4 : Bool) {r : Bool} (h : F72_b rF72 a1 a2 a3 a4 = some r) : ∀ hx : List AB, CS pgR 72 [(.agg ((cT a1).map .p)), (i6 a2), (.fn 54 [(.ptr 1 0)])] ([.cells 25 ((cT a3).map .p), .cells 4 [(vb a4)]] ++ hx) = some (F72_v a1 a2 a3 a4 r, F72_h a1 a2 a3 a4 r ++ hx) := by
 unfold F72_b at h
 refine bi h (fun h1 h => ?_) fun h1 h => ?_
 ·
  cases h
 ·
  refine bn h fun x2 h2 h => ?_
  refine bn h fun r3 h3 h => ?_
  cases r3 with
  | k0 x3_0 =>
   obtain ⟨g3, e3⟩ := L72_0_run rF72 hF72 a2 a1 (a1.kids.length : Int) a3 (0, x2) _ h3
   rw [← sj h]
   exact fcF (m := 2) (v := (.tup [])) (h' := [.cells 25 ((cT a3).map .p), .cells 4 [(vb x3_0)], .cells 25 ((cT a1).map .p), .cells 25 ((cT a1).map .p)]) [(9, .d false), (14, .r (.tup []) (F72_d0 a3 x2 a1)), (17, .v (i6 (a1.kids.length : Int))), (2000, .l (.brk 0) (F72_d1 g3 a2 a1 a3 x3_0)), (6000, .d true)] (apc (cv h1) (apc ((F54_ok a1 a3 a4 h2) : CS pgR 54 [(.agg ((cT a1).map .p)), (.ptr 1 0)] [.cells 25 ((cT a3).map .p), .cells 4 [(vb a4)], .cells 25 ((cT a1).map .p)] = some ((.tup []), (F72_d0 a3 x2 a1))) (apc ((lgr tr_map) : lnA (.p (.lst 3 (eTrees a1.kids))) = some (i6 (a1.kids.length : Int))) (apc ((okT_of rfl (abl_cons rfl (abl_cons rfl (abl_cons rfl (abl_cons rfl rfl))))) : okT 4 (F72_d0 a3 x2 a1) = true) (apc (e3 : evH pgR 4 [1, 2, 16, 17, 18] ir72_l0 (L72_0_s a2 a1 (a1.kids.length : Int) a3 0 x2) = some ((.brk 0), (F72_d1 g3 a2 a1 a3 x3_0))) apn))))) rfl (abl_cons rfl (abl_cons rfl rfl)) rfl (abl_cons rfl (abl_cons rfl rfl)) rfl (by kernel_rfl)
def F72 : Nat → T_F72
  | 0 => fun _ _ _ _ => none
  | Nf + 1 => F72_b (F72 Nf)
theorem F72_ok (Nf : Nat) : H_F72 (F72 Nf) := by
  induction Nf with
  | zero => intro a1 a2 a3 a4 r h; have h : (none : Option Bool) = some r := h; cases h
  | succ Nf ih => intro a1 a2 a3 a4 r h; exact F72_bok (F72 Nf) ih a1 a2 a3 a4 h
end
set_option linter.unusedSectionVars false
set_option maxHeartbeats 4000000
section
variable [ErC]
end
end
end Go.Proofs.Tryd
