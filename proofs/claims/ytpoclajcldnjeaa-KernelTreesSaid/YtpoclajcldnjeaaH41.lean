/- Decompiled by a program: functions as plain data see them, part 1. -/
import Derived.Test.YtpoclajcldnjeaaW4
namespace Go.Proofs.Try
set_option linter.unusedSimpArgs false
set_option linter.unusedVariables false
open Go Go.Vs
inductive E_L9_1 where
  | k0
  | k1
noncomputable def L9_1 (a1 : GramD) (v1 : Int) : Option (E_L9_1 ⊕ (Int)) :=
  (bif (decide (v1 < (a1.sorts.length : Int))) then ((getI a1.sorts v1).bind fun x2 => (bif (decide ((x2.size : Int) > 1500)) then (some (.inl (.k0))) else (some (.inr ((IntKind.wrap .i64 (v1 + 1))))))) else (some (.inl (.k1))))
def L9_1_s (a1 : GramD) (v1 : Int) : St := ⟨fr 66 ug [(1, (.ptr 0 0)), (3, (i6 v1))], [bG a1]⟩
def L9_1_x (a1 : GramD) (e : E_L9_1) (r : Option (Out × St)) : Prop := match e with | .k0 => ∃ g y, r = some (.ret, ⟨fr 66 g [(2, (vb true))], y⟩) | .k1 => ∃ g, r = some ((.brk 0), ⟨fr 66 g [(1, (.ptr 0 0))], [bG a1]⟩)
theorem L9_1_ok (a1 : GramD) (v1 : Int) {r : E_L9_1 ⊕ (Int)} (h : L9_1 a1 v1 = some r) : OkR (fun e => L9_1_x a1 e (evH prg 1 [1, 3] ir9_l1 (L9_1_s a1 v1))) (fun s => evH prg 1 [1, 3] ir9_l1 (L9_1_s a1 v1) = evH prg 1 [1, 3] ir9_l1 (L9_1_s a1 s)) r := by
 unfold L9_1 at h
 refine bi h (fun h1 h => ?_) fun h1 h => ?_
 ·
  refine bn h fun x2 h2 h => ?_
  refine bi h (fun h3 h => ?_) fun h3 h => ?_
  ·
   rw [← sj h]
   exact xretY (n := 30) [(30, .v (i6 (a1.sorts.length : Int))), (31, .d true), (37, .v (.ro [.val (.string x2)])), (40, .d true), (6000, .d true)] (apc (lg a1.sorts eStr 1) (apc (cv h1) (apc (ig eStr 1 .i64 h2) (apc (cv h3) apn)))) (by kernel_rfl)
  ·
   rw [← sj h]
   exact rnd (n := 30) [(30, .v (i6 (a1.sorts.length : Int))), (31, .d true), (37, .v (.ro [.val (.string x2)])), (40, .d false), (6000, .d true)] (apc (lg a1.sorts eStr 1) (apc (cv h1) (apc (ig eStr 1 .i64 h2) (apc (cv h3) (apc ((okT_of rfl (abl_cons rfl rfl)) : okT 1 [bG a1] = true) apn))))) (by kernel_rfl)
 ·
  rw [← sj h]
  exact xbrk (n := 30) [(30, .v (i6 (a1.sorts.length : Int))), (31, .d false), (6000, .d true)] (apc (lg a1.sorts eStr 1) (apc (cv h1) apn)) (by kernel_rfl)
theorem L9_1_run (a1 : GramD) (s0 : Int) (e : E_L9_1) (h : runL (fun s => L9_1 a1 s) s0 = some e) : L9_1_x a1 e (evH prg 1 [1, 3] ir9_l1 (L9_1_s a1 s0)) := by
  have q := @loop_sound' (Int) E_L9_1 (fun s => L9_1 a1 s) (fun s => evH prg 1 [1, 3] ir9_l1 (L9_1_s a1 s)) (L9_1_x a1) (fun s r h => L9_1_ok a1 s h) s0 e h
  exact q
inductive E_L9_0 where
  | k0
  | k1
noncomputable def L9_0 (a1 : GramD) (v1 : Int) : Option (E_L9_0 ⊕ (Int)) :=
  (bif (decide (v1 < (a1.prods.length : Int))) then ((getI a1.prods v1).bind fun x2 => (bif (decide ((x2.right.length : Int) > 40)) then (some (.inl (.k0))) else (bif (decide ((x2.cons.size : Int) > 1500)) then (some (.inl (.k0))) else (some (.inr ((IntKind.wrap .i64 (v1 + 1)))))))) else (some (.inl (.k1))))
def L9_0_s (a1 : GramD) (v1 : Int) : St := ⟨fr 66 ug [(1, (.ptr 0 0)), (4, (i6 v1))], [bG a1]⟩
def L9_0_x (a1 : GramD) (e : E_L9_0) (r : Option (Out × St)) : Prop := match e with | .k0 => ∃ g y, r = some (.ret, ⟨fr 66 g [(2, (vb true))], y⟩) | .k1 => ∃ g, r = some ((.brk 2), ⟨fr 66 g [(1, (.ptr 0 0))], [bG a1]⟩)
theorem L9_0_ok (a1 : GramD) (v1 : Int) {r : E_L9_0 ⊕ (Int)} (h : L9_0 a1 v1 = some r) : OkR (fun e => L9_0_x a1 e (evH prg 1 [1, 4] ir9_l0 (L9_0_s a1 v1))) (fun s => evH prg 1 [1, 4] ir9_l0 (L9_0_s a1 v1) = evH prg 1 [1, 4] ir9_l0 (L9_0_s a1 s)) r := by
 unfold L9_0 at h
 refine bi h (fun h1 h => ?_) fun h1 h => ?_
 ·
  refine bn h fun x2 h2 h => ?_
  refine bi h (fun h3 h => ?_) fun h3 h => ?_
  ·
   rw [← sj h]
   exact xretY (n := 30) [(44, .v (i6 (a1.prods.length : Int))), (45, .d true), (51, .v (.ro (eProd x2))), (54, .v (i6 (x2.right.length : Int))), (55, .d true), (6000, .d true)] (apc (lg a1.prods eProd 7) (apc (cv h1) (apc (ig eProd 7 .i64 h2) (apc (lg x2.right eSym 6) (apc (cv h3) apn))))) (by kernel_rfl)
  ·
   refine bi h (fun h4 h => ?_) fun h4 h => ?_
   ·
    rw [← sj h]
    exact xretY (n := 30) [(44, .v (i6 (a1.prods.length : Int))), (45, .d true), (51, .v (.ro (eProd x2))), (54, .v (i6 (x2.right.length : Int))), (55, .d false), (60, .v (.ro (eProd x2))), (64, .d true), (6000, .d true)] (apc (lg a1.prods eProd 7) (apc (cv h1) (apc (ig eProd 7 .i64 h2) (apc (lg x2.right eSym 6) (apc (cv h3) (apc (ig eProd 7 .i64 h2) (apc (cv h4) apn))))))) (by kernel_rfl)
   ·
    rw [← sj h]
    exact rnd (n := 30) [(44, .v (i6 (a1.prods.length : Int))), (45, .d true), (51, .v (.ro (eProd x2))), (54, .v (i6 (x2.right.length : Int))), (55, .d false), (60, .v (.ro (eProd x2))), (64, .d false), (6000, .d true)] (apc (lg a1.prods eProd 7) (apc (cv h1) (apc (ig eProd 7 .i64 h2) (apc (lg x2.right eSym 6) (apc (cv h3) (apc (ig eProd 7 .i64 h2) (apc (cv h4) (apc ((okT_of rfl (abl_cons rfl rfl)) : okT 1 [bG a1] = true) apn)))))))) (by kernel_rfl)
 ·
  rw [← sj h]
  exact xbrk (n := 30) [(44, .v (i6 (a1.prods.length : Int))), (45, .d false), (6000, .d true)] (apc (lg a1.prods eProd 7) (apc (cv h1) apn)) (by kernel_rfl)
theorem L9_0_run (a1 : GramD) (s0 : Int) (e : E_L9_0) (h : runL (fun s => L9_0 a1 s) s0 = some e) : L9_0_x a1 e (evH prg 1 [1, 4] ir9_l0 (L9_0_s a1 s0)) := by
  have q := @loop_sound' (Int) E_L9_0 (fun s => L9_0 a1 s) (fun s => evH prg 1 [1, 4] ir9_l0 (L9_0_s a1 s)) (L9_0_x a1) (fun s r h => L9_0_ok a1 s h) s0 e h
  exact q
def F9_v (a1 : GramD) (x0 : Bool) : AV := (vb x0)
noncomputable def F9 (a1 : GramD) : Option Bool :=
  (bif (decide ((a1.sorts.length : Int) > 40)) then (some true) else (bif (decide ((a1.prods.length : Int) > 60)) then (some true) else (bif (decide ((a1.forbid.length : Int) > 40)) then (some true) else (bif (decide ((a1.follow.length : Int) > 40)) then (some true) else ((runL (fun s => L9_1 a1 s) 0).bind fun r5 => match r5 with | .k0 => (some true) | .k1 => ((runL (fun s => L9_0 a1 s) 0).bind fun r6 => match r6 with | .k0 => (some true) | .k1 => (some false)))))))
theorem F9_ok (a1 : GramD) {r : Bool} (h : F9 a1 = some r) : PR1 prg 9 [(aG a1)] (F9_v a1 r) := by
 unfold F9 at h
 refine bi h (fun h1 h => ?_) fun h1 h => ?_
 ·
  rw [← sj h]
  exact fpr (n := 30) [(7, .v (i6 (a1.sorts.length : Int))), (8, .d true)] (apc (lg a1.sorts eStr 1) (apc (cv h1) apn)) rfl (by kernel_rfl)
 ·
  refine bi h (fun h2 h => ?_) fun h2 h => ?_
  ·
   rw [← sj h]
   exact fpr (n := 30) [(7, .v (i6 (a1.sorts.length : Int))), (8, .d false), (12, .v (i6 (a1.prods.length : Int))), (13, .d true)] (apc (lg a1.sorts eStr 1) (apc (cv h1) (apc (lg a1.prods eProd 7) (apc (cv h2) apn)))) rfl (by kernel_rfl)
  ·
   refine bi h (fun h3 h => ?_) fun h3 h => ?_
   ·
    rw [← sj h]
    exact fpr (n := 30) [(7, .v (i6 (a1.sorts.length : Int))), (8, .d false), (12, .v (i6 (a1.prods.length : Int))), (13, .d false), (18, .v (i6 (a1.forbid.length : Int))), (19, .d true)] (apc (lg a1.sorts eStr 1) (apc (cv h1) (apc (lg a1.prods eProd 7) (apc (cv h2) (apc (lg a1.forbid eForb 3) (apc (cv h3) apn)))))) rfl (by kernel_rfl)
   ·
    refine bi h (fun h4 h => ?_) fun h4 h => ?_
    ·
     rw [← sj h]
     exact fpr (n := 30) [(7, .v (i6 (a1.sorts.length : Int))), (8, .d false), (12, .v (i6 (a1.prods.length : Int))), (13, .d false), (18, .v (i6 (a1.forbid.length : Int))), (19, .d false), (24, .v (i6 (a1.follow.length : Int))), (25, .d true)] (apc (lg a1.sorts eStr 1) (apc (cv h1) (apc (lg a1.prods eProd 7) (apc (cv h2) (apc (lg a1.forbid eForb 3) (apc (cv h3) (apc (lg a1.follow eFoll 5) (apc (cv h4) apn)))))))) rfl (by kernel_rfl)
    ·
     refine bn h fun r5 h5 h => ?_
     cases r5 with
     | k0 =>
      obtain ⟨g5, y5, e5⟩ := L9_1_run a1 0 _ h5
      rw [← sj h]
      exact fpr (n := 30) [(7, .v (i6 (a1.sorts.length : Int))), (8, .d false), (12, .v (i6 (a1.prods.length : Int))), (13, .d false), (18, .v (i6 (a1.forbid.length : Int))), (19, .d false), (24, .v (i6 (a1.follow.length : Int))), (25, .d false), (2000, .l .ret ⟨fr 66 g5 [(2, (vb true))], y5⟩), (6000, .d true)] (apc (lg a1.sorts eStr 1) (apc (cv h1) (apc (lg a1.prods eProd 7) (apc (cv h2) (apc (lg a1.forbid eForb 3) (apc (cv h3) (apc (lg a1.follow eFoll 5) (apc (cv h4) (apc ((okT_of rfl (abl_cons rfl rfl)) : okT 1 [bG a1] = true) (apc (e5 : evH prg 1 [1, 3] ir9_l1 (L9_1_s a1 0) = some (.ret, ⟨fr 66 g5 [(2, (vb true))], y5⟩)) apn)))))))))) rfl (by kernel_rfl)
     | k1 =>
      obtain ⟨g5, e5⟩ := L9_1_run a1 0 _ h5
      have q8 := ((okT_of rfl (abl_cons rfl rfl)) : okT 1 [bG a1] = true)
      have q9 := (e5 : evH prg 1 [1, 3] ir9_l1 (L9_1_s a1 0) = some ((.brk 0), ⟨fr 66 g5 [(1, (.ptr 0 0))], [bG a1]⟩))
      refine bn h fun r6 h6 h => ?_
      cases r6 with
      | k0 =>
       obtain ⟨g6, y6, e6⟩ := L9_0_run a1 0 _ h6
       rw [← sj h]
       exact fpr (n := 30) [(7, .v (i6 (a1.sorts.length : Int))), (8, .d false), (12, .v (i6 (a1.prods.length : Int))), (13, .d false), (18, .v (i6 (a1.forbid.length : Int))), (19, .d false), (24, .v (i6 (a1.follow.length : Int))), (25, .d false), (2000, .l (.brk 0) ⟨fr 66 g5 [(1, (.ptr 0 0))], [bG a1]⟩), (2002, .l .ret ⟨fr 66 g6 [(2, (vb true))], y6⟩), (6000, .d true)] (apc (lg a1.sorts eStr 1) (apc (cv h1) (apc (lg a1.prods eProd 7) (apc (cv h2) (apc (lg a1.forbid eForb 3) (apc (cv h3) (apc (lg a1.follow eFoll 5) (apc (cv h4) (apc q8 (apc q9 (apc ((okT_of rfl (abl_cons rfl rfl)) : okT 1 [bG a1] = true) (apc (e6 : evH prg 1 [1, 4] ir9_l0 (L9_0_s a1 0) = some (.ret, ⟨fr 66 g6 [(2, (vb true))], y6⟩)) apn)))))))))))) rfl (by kernel_rfl)
      | k1 =>
       obtain ⟨g6, e6⟩ := L9_0_run a1 0 _ h6
       rw [← sj h]
       exact fpr (n := 30) [(7, .v (i6 (a1.sorts.length : Int))), (8, .d false), (12, .v (i6 (a1.prods.length : Int))), (13, .d false), (18, .v (i6 (a1.forbid.length : Int))), (19, .d false), (24, .v (i6 (a1.follow.length : Int))), (25, .d false), (2000, .l (.brk 0) ⟨fr 66 g5 [(1, (.ptr 0 0))], [bG a1]⟩), (2002, .l (.brk 2) ⟨fr 66 g6 [(1, (.ptr 0 0))], [bG a1]⟩), (6000, .d true)] (apc (lg a1.sorts eStr 1) (apc (cv h1) (apc (lg a1.prods eProd 7) (apc (cv h2) (apc (lg a1.forbid eForb 3) (apc (cv h3) (apc (lg a1.follow eFoll 5) (apc (cv h4) (apc q8 (apc q9 (apc ((okT_of rfl (abl_cons rfl rfl)) : okT 1 [bG a1] = true) (apc (e6 : evH prg 1 [1, 4] ir9_l0 (L9_0_s a1 0) = some ((.brk 2), ⟨fr 66 g6 [(1, (.ptr 0 0))], [bG a1]⟩)) apn)))))))))))) rfl (by kernel_rfl)
def F19_2_v (a1 : TreeD) (a2 : Int) (x0 : Int) : AV := (i6 x0)
abbrev T_F19_2 := TreeD → Int → Option Int
abbrev H_F19_2 (f : T_F19_2) : Prop := ∀ (a1 : TreeD) (a2 : Int) {r : Int}, f a1 a2 = some r → PR1 prg 19 [(.agg ((cT a1).map .p)), (i6 a2)] (F19_2_v a1 a2 r)
inductive E_L19_0_2 where
  | k0 (x0 : Int)
noncomputable def L19_0_2 (rF19_2 : T_F19_2) (a1 : Int) (a2 : TreeD) (v1 : Int) (v2 : Int) : Option (E_L19_0_2 ⊕ (Int × Int)) :=
  (bif (decide (v2 < (a2.kids.length : Int))) then (bif (decide (v1 ≤ a1)) then ((getI a2.kids v2).bind fun x3 => ((rF19_2 x3 (IntKind.wrap .i64 (a1 - v1))).bind fun x4 => (some (.inr ((IntKind.wrap .i64 (v1 + x4)), (IntKind.wrap .i64 (v2 + 1))))))) else (some (.inl (.k0 v1)))) else (some (.inl (.k0 v1))))
def L19_0_2_s (a1 : Int) (a2 : TreeD) (v1 : Int) (v2 : Int) : St := ⟨fr 31 ug [(1, (i6 a1)), (2, (.ptr 0 0)), (5, (i6 v1)), (6, (i6 v2))], [.cells 51 ((cT a2).map .p)]⟩
def L19_0_2_x (a1 : Int) (a2 : TreeD) (e : E_L19_0_2) (r : Option (Out × St)) : Prop := match e with | .k0 x0 => ∃ g, r = some ((.brk 0), ⟨fr 31 g [(5, (i6 x0))], [.cells 51 ((cT a2).map .p)]⟩)
theorem L19_0_2_ok (rF19_2 : T_F19_2) (hF19_2 : H_F19_2 rF19_2) (a1 : Int) (a2 : TreeD) (v1 : Int) (v2 : Int) {r : E_L19_0_2 ⊕ (Int × Int)} (h : L19_0_2 rF19_2 a1 a2 v1 v2 = some r) : OkR (fun e => L19_0_2_x a1 a2 e (evH prg 1 [1, 2, 5, 6] ir19_l0 (L19_0_2_s a1 a2 v1 v2))) (fun s => evH prg 1 [1, 2, 5, 6] ir19_l0 (L19_0_2_s a1 a2 v1 v2) = evH prg 1 [1, 2, 5, 6] ir19_l0 (L19_0_2_s a1 a2 s.1 s.2)) r := by
 unfold L19_0_2 at h
 have q0 := ((lgr tr_map) : lnA (.p (.lst 3 (eTrees a2.kids))) = some (i6 (a2.kids.length : Int)))
 refine bi h (fun h1 h => ?_) fun h1 h => ?_
 ·
  refine bi h (fun h2 h => ?_) fun h2 h => ?_
  ·
   refine bn h fun x3 h3 h => ?_
   refine bn h fun x4 h4 h => ?_
   rw [← sj h]
   exact rnd (n := 30) [(10, .v (i6 (a2.kids.length : Int))), (11, .d true), (15, .d true), (23, .v (.ro (cT x3))), (28, .v (i6 x4)), (6000, .d true)] (apc q0 (apc (cv h1) (apc (cv h2) (apc ((igr tr_map h3) : idxA 3 (.p (.lst 3 (eTrees a2.kids))) (i6 v2) = some (.ro (cT x3))) (apc (((hF19_2 x3 (w6 (a1 - v1)) h4).cp rfl _) : CP prg 19 [(.agg ((cT x3).map .p)), (i6 (w6 (a1 - v1)))] [.cells 51 ((cT a2).map .p)] = some (i6 x4)) (apc ((okT_of rfl (abl_cons rfl rfl)) : okT 1 [.cells 51 ((cT a2).map .p)] = true) apn)))))) (by kernel_rfl)
  ·
   rw [← sj h]
   exact xbrk (n := 30) [(10, .v (i6 (a2.kids.length : Int))), (11, .d true), (15, .d false), (6000, .d true)] (apc q0 (apc (cv h1) (apc (cv h2) apn))) (by kernel_rfl)
 ·
  rw [← sj h]
  exact xbrk (n := 30) [(10, .v (i6 (a2.kids.length : Int))), (11, .d false), (6000, .d true)] (apc q0 (apc (cv h1) apn)) (by kernel_rfl)
theorem L19_0_2_run (rF19_2 : T_F19_2) (hF19_2 : H_F19_2 rF19_2) (a1 : Int) (a2 : TreeD) (s0 : Int × Int) (e : E_L19_0_2) (h : runL (fun s => L19_0_2 rF19_2 a1 a2 s.1 s.2) s0 = some e) : L19_0_2_x a1 a2 e (evH prg 1 [1, 2, 5, 6] ir19_l0 (L19_0_2_s a1 a2 s0.1 s0.2)) := by
  have q := @loop_sound' (Int × Int) E_L19_0_2 (fun s => L19_0_2 rF19_2 a1 a2 s.1 s.2) (fun s => evH prg 1 [1, 2, 5, 6] ir19_l0 (L19_0_2_s a1 a2 s.1 s.2)) (L19_0_2_x a1 a2) (fun s r h => L19_0_2_ok rF19_2 hF19_2 a1 a2 s.1 s.2 h) s0 e h
  exact q
noncomputable def F19_2_b (rF19_2 : T_F19_2) (a1 : TreeD) (a2 : Int) : Option Int :=
  ((runL (fun s => L19_0_2 rF19_2 a2 a1 s.1 s.2) (1, 0)).bind fun r1 => match r1 with | .k0 x1_0 => (some x1_0))
theorem F19_2_bok (rF19_2 : T_F19_2) (hF19_2 : H_F19_2 rF19_2) (a1 : TreeD) (a2 : Int) {r : Int} (h : F19_2_b rF19_2 a1 a2 = some r) : PR1 prg 19 [(.agg ((cT a1).map .p)), (i6 a2)] (F19_2_v a1 a2 r) := by
 unfold F19_2_b at h
 refine bn h fun r1 h1 h => ?_
 cases r1 with
 | k0 x1_0 =>
  obtain ⟨g1, e1⟩ := L19_0_2_run rF19_2 hF19_2 a2 a1 (1, 0) _ h1
  rw [← sj h]
  exact fpr (n := 30) [(2000, .l (.brk 0) ⟨fr 31 g1 [(5, (i6 x1_0))], [.cells 51 ((cT a1).map .p)]⟩), (6000, .d true)] (apc ((okT_of rfl (abl_cons rfl rfl)) : okT 1 [.cells 51 ((cT a1).map .p)] = true) (apc (e1 : evH prg 1 [1, 2, 5, 6] ir19_l0 (L19_0_2_s a2 a1 1 0) = some ((.brk 0), ⟨fr 31 g1 [(5, (i6 x1_0))], [.cells 51 ((cT a1).map .p)]⟩)) apn)) rfl (by kernel_rfl)
noncomputable def F19_2 : Nat → T_F19_2
  | 0 => fun _ _ => none
  | Nf + 1 => F19_2_b (F19_2 Nf)
theorem F19_2_ok (Nf : Nat) : H_F19_2 (F19_2 Nf) := by
  induction Nf with
  | zero => intro a1 a2 r h; have h : (none : Option Int) = some r := h; cases h
  | succ Nf ih => intro a1 a2 r h; exact F19_2_bok (F19_2 Nf) ih a1 a2 h
inductive E_L46_0_3 where
  | k0 (x0 : Nat) (x1 : Nat) (x2 : List AtD)
noncomputable def L46_0_3 (a4 : AtD) (a5 : Int) (v1 : Nat) (v2 : Nat) (v3 : Int) (v4 : List AtD) : Option (E_L46_0_3 ⊕ (Nat × Nat × Int × (List AtD))) :=
  (bif (decide (v3 < a5)) then ((getI a4.kids v3).bind fun x2 => (bif (apOk v2 1 v4.length 48) then (bif (decide (v2 + 1 ≤ v4.length)) then (some (.inr (v1, (v2 + 1), (IntKind.wrap .i64 (v3 + 1)), (splice v4 v2 [(⟨x2.prod, x2.byte, x2.kids, (IntKind.wrap .i64 (a4.n + 1))⟩ : AtD)])))) else (some (.inr ((v1 + 1), (v2 + 1), (IntKind.wrap .i64 (v3 + 1)), (v4.take v2 ++ [(⟨x2.prod, x2.byte, x2.kids, (IntKind.wrap .i64 (a4.n + 1))⟩ : AtD)]))))) else none)) else (some (.inl (.k0 v1 v2 v4))))
def L46_0_3_s (a1 : Int) (a4 : AtD) (a5 : Int) (a6 : TreeD) (v1 : Nat) (v2 : Nat) (v3 : Int) (v4 : List AtD) : St := ⟨fr 51 ug [(3, (i6 a1)), (4, (.sl 1 v1 4 0 v2)), (5, (.ptr 3 0)), (35, (.p (.lst 3 (eTrees a4.kids)))), (36, (i6 a5)), (37, (i6 v3))], [.cells 51 ((cT a6).map .p), .row 117 4 v1 (ra eAt v4), .row 51 3 0 (ra cT []), .cells 117 ((eAt a4).map .p)]⟩
def L46_0_3_x (a1 : Int) (a4 : AtD) (a5 : Int) (a6 : TreeD) (e : E_L46_0_3) (r : Option (Out × St)) : Prop := match e with | .k0 x0 x1 x2 => ∃ g, r = some ((.brk 2), ⟨fr 51 g [(3, (i6 a1)), (4, (.sl 1 x0 4 0 x1)), (5, (.ptr 3 0)), (35, (.p (.lst 3 (eTrees a4.kids))))], [.cells 51 ((cT a6).map .p), .row 117 4 x0 (ra eAt x2), .row 51 3 0 (ra cT []), .cells 117 ((eAt a4).map .p)]⟩)
abbrev L46_0_3_d0 (a6 : TreeD) (v1 : Nat) (v4 : List AtD) (v2 : Nat) (x2 : TreeD) (a4 : AtD) : List AB := [.cells 51 ((cT a6).map .p), .row 117 4 v1 (ra eAt (splice v4 v2 [(⟨x2.prod, x2.byte, x2.kids, (w6 (a4.n + 1))⟩ : AtD)])), .row 51 3 0 (ra cT []), .cells 117 ((eAt a4).map .p), .row 51 3 0 (ra cT []), .cells 51 ((cT x2).map .p), .row 117 4 0 [[(i6 x2.prod), (vi .u8 x2.byte), (.p (.lst 3 (eTrees x2.kids))), (i6 (w6 (a4.n + 1)))]]]
abbrev L46_0_3_d1 (a6 : TreeD) (v1 : Nat) (v4 : List AtD) (a4 : AtD) (x2 : TreeD) : List AB := [.cells 51 ((cT a6).map .p), .row 117 4 v1 (ra eAt v4), .row 51 3 0 (ra cT []), .cells 117 ((eAt a4).map .p), .row 51 3 0 (ra cT []), .cells 51 ((cT x2).map .p), .row 117 4 0 [[(i6 x2.prod), (vi .u8 x2.byte), (.p (.lst 3 (eTrees x2.kids))), (i6 (w6 (a4.n + 1)))]]]
abbrev L46_0_3_d2 (a6 : TreeD) (v1 : Nat) (v4 : List AtD) (v2 : Nat) (x2 : TreeD) (a4 : AtD) : List AB := [.cells 51 ((cT a6).map .p), .row 117 4 (v1 + 1) (ra eAt (v4.take v2 ++ [(⟨x2.prod, x2.byte, x2.kids, (w6 (a4.n + 1))⟩ : AtD)])), .row 51 3 0 (ra cT []), .cells 117 ((eAt a4).map .p), .row 51 3 0 (ra cT []), .cells 51 ((cT x2).map .p), .row 117 4 0 [[(i6 x2.prod), (vi .u8 x2.byte), (.p (.lst 3 (eTrees x2.kids))), (i6 (w6 (a4.n + 1)))]]]
theorem L46_0_3_ok (a1 : Int) (a4 : AtD) (a5 : Int) (a6 : TreeD) (v1 : Nat) (v2 : Nat) (v3 : Int) (v4 : List AtD) {r : E_L46_0_3 ⊕ (Nat × Nat × Int × (List AtD))} (h : L46_0_3 a4 a5 v1 v2 v3 v4 = some r) : OkR (fun e => L46_0_3_x a1 a4 a5 a6 e (evH prg 4 [3, 4, 5, 35, 36, 37] ir46_l0 (L46_0_3_s a1 a4 a5 a6 v1 v2 v3 v4))) (fun s => evH prg 4 [3, 4, 5, 35, 36, 37] ir46_l0 (L46_0_3_s a1 a4 a5 a6 v1 v2 v3 v4) = evH prg 4 [3, 4, 5, 35, 36, 37] ir46_l0 (L46_0_3_s a1 a4 a5 a6 s.1 s.2.1 s.2.2.1 s.2.2.2)) r := by
 unfold L46_0_3 at h
 refine bi h (fun h1 h => ?_) fun h1 h => ?_
 ·
  refine bn h fun x2 h2 h => ?_
  have q1 := ((igr tr_map h2) : idxA 3 (.p (.lst 3 (eTrees a4.kids))) (i6 v3) = some (.ro (cT x2)))
  refine bi h (fun h3 h => ?_) fun h3 h => ?_
  ·
   refine bi h (fun h4 h => ?_) fun h4 h => ?_
   ·
    rw [← sj h]
    exact rnd (n := 30) [(38, .d true), (39, .v (.ro (cT x2))), (48, .r (.sl 1 v1 4 0 (v2 + 1)) (L46_0_3_d0 a6 v1 v4 v2 x2 a4)), (6000, .d true)] (apc (cv h1) (apc q1 (apc ((ap_in (e := eAt) (xs := v4) (news := [(⟨x2.prod, x2.byte, x2.kids, (w6 (a4.n + 1))⟩ : AtD)]) rfl (rows_x (e := eAt) (xs := [(⟨x2.prod, x2.byte, x2.kids, (w6 (a4.n + 1))⟩ : AtD)]) rfl) rfl h3 h4) : appA (L46_0_3_d1 a6 v1 v4 a4 x2) 117 4 48 (.sl 1 v1 4 0 v2) (.sl 6 0 4 0 1) = some ((.sl 1 v1 4 0 (v2 + 1)), (L46_0_3_d0 a6 v1 v4 v2 x2 a4))) (apc ((okT_of rfl (abl_cons rfl (abl_cons abl_row (abl_cons abl_row (abl_cons rfl rfl))))) : okT 4 (L46_0_3_d0 a6 v1 v4 v2 x2 a4) = true) apn)))) (by kernel_rfl)
   ·
    rw [← sj h]
    exact rnd (n := 30) [(38, .d true), (39, .v (.ro (cT x2))), (48, .r (.sl 1 (v1 + 1) 4 0 (v2 + 1)) (L46_0_3_d2 a6 v1 v4 v2 x2 a4)), (6000, .d true)] (apc (cv h1) (apc q1 (apc ((ap_out (e := eAt) (xs := v4) (news := [(⟨x2.prod, x2.byte, x2.kids, (w6 (a4.n + 1))⟩ : AtD)]) rfl (rows_x (e := eAt) (xs := [(⟨x2.prod, x2.byte, x2.kids, (w6 (a4.n + 1))⟩ : AtD)]) rfl) rfl h3 h4) : appA (L46_0_3_d1 a6 v1 v4 a4 x2) 117 4 48 (.sl 1 v1 4 0 v2) (.sl 6 0 4 0 1) = some ((.sl 1 (v1 + 1) 4 0 (v2 + 1)), (L46_0_3_d2 a6 v1 v4 v2 x2 a4))) (apc ((okT_of rfl (abl_cons rfl (abl_cons abl_row (abl_cons abl_row (abl_cons rfl rfl))))) : okT 4 (L46_0_3_d2 a6 v1 v4 v2 x2 a4) = true) apn)))) (by kernel_rfl)
  ·
   cases h
 ·
  rw [← sj h]
  exact xbrk (n := 30) [(38, .d false), (6000, .d true)] (apc (cv h1) apn) (by kernel_rfl)
theorem L46_0_3_run (a1 : Int) (a4 : AtD) (a5 : Int) (a6 : TreeD) (s0 : Nat × Nat × Int × (List AtD)) (e : E_L46_0_3) (h : runL (fun s => L46_0_3 a4 a5 s.1 s.2.1 s.2.2.1 s.2.2.2) s0 = some e) : L46_0_3_x a1 a4 a5 a6 e (evH prg 4 [3, 4, 5, 35, 36, 37] ir46_l0 (L46_0_3_s a1 a4 a5 a6 s0.1 s0.2.1 s0.2.2.1 s0.2.2.2)) := by
  have q := @loop_sound' (Nat × Nat × Int × (List AtD)) E_L46_0_3 (fun s => L46_0_3 a4 a5 s.1 s.2.1 s.2.2.1 s.2.2.2) (fun s => evH prg 4 [3, 4, 5, 35, 36, 37] ir46_l0 (L46_0_3_s a1 a4 a5 a6 s.1 s.2.1 s.2.2.1 s.2.2.2)) (L46_0_3_x a1 a4 a5 a6) (fun s r h => L46_0_3_ok a1 a4 a5 a6 s.1 s.2.1 s.2.2.1 s.2.2.2 h) s0 e h
  exact q
inductive E_L46_1 where
  | k0 (x0 : Int) (x1 : Nat) (x2 : List AtD)
noncomputable def L46_1 (v1 : Int) (v2 : Nat) (v3 : Nat) (v4 : List AtD) : Option (E_L46_1 ⊕ (Int × Nat × Nat × (List AtD))) :=
  (bif (decide (((v3 : Nat) : Int) > 0)) then (bif (decide (v1 ≤ 16384)) then ((ixN v3 (IntKind.wrap .i64 (((v3 : Nat) : Int) - 1))).bind fun x3 => ((v4[x3]?).bind fun x4 => (bif (slOk (IntKind.wrap .i64 (((v3 : Nat) : Int) - 1)) v3 v4.length) then ((runL (fun s => L46_0_3 x4 (x4.kids.length : Int) s.1 s.2.1 s.2.2.1 s.2.2.2) (v2, (Int.toNat (IntKind.wrap .i64 (((v3 : Nat) : Int) - 1))), 0, v4)).bind fun r6 => match r6 with | .k0 x6_0 x6_1 x6_2 => (some (.inr ((if v1 < x4.n then x4.n else v1), x6_0, x6_1, x6_2)))) else none))) else (some (.inl (.k0 v1 v2 v4)))) else (some (.inl (.k0 v1 v2 v4))))
def L46_1_s (a1 : TreeD) (v1 : Int) (v2 : Nat) (v3 : Nat) (v4 : List AtD) : St := ⟨fr 51 ug [(3, (i6 v1)), (4, (.sl 1 v2 4 0 v3))], [.cells 51 ((cT a1).map .p), .row 117 4 v2 (ra eAt v4)]⟩
def L46_1_x (a1 : TreeD) (e : E_L46_1) (r : Option (Out × St)) : Prop := match e with | .k0 x0 x1 x2 => ∃ g, r = some ((.brk 0), ⟨fr 51 g [(3, (i6 x0))], [.cells 51 ((cT a1).map .p), .row 117 4 x1 (ra eAt x2)]⟩)
abbrev L46_1_d0 (g6 : Nat → AV) (v1 : Int) (x4 : AtD) (x6_0 : Nat) (x6_1 : Nat) (a1 : TreeD) (x6_2 : List AtD) : St := ⟨fr 51 g6 [(3, (i6 (if v1 < x4.n then x4.n else v1))), (4, (.sl 1 x6_0 4 0 x6_1)), (5, (.ptr 3 0)), (35, (.p (.lst 3 (eTrees x4.kids))))], [.cells 51 ((cT a1).map .p), .row 117 4 x6_0 (ra eAt x6_2), .row 51 3 0 (ra cT []), .cells 117 ((eAt x4).map .p)]⟩
abbrev L46_1_d1 (a1 : TreeD) (v2 : Nat) (v4 : List AtD) (x4 : AtD) : List AB := [.cells 51 ((cT a1).map .p), .row 117 4 v2 (ra eAt v4), .row 51 3 0 (ra cT []), .cells 117 ((eAt x4).map .p)]
theorem L46_1_ok (a1 : TreeD) (v1 : Int) (v2 : Nat) (v3 : Nat) (v4 : List AtD) {r : E_L46_1 ⊕ (Int × Nat × Nat × (List AtD))} (h : L46_1 v1 v2 v3 v4 = some r) : OkR (fun e => L46_1_x a1 e (evH prg 2 [3, 4] ir46_l1 (L46_1_s a1 v1 v2 v3 v4))) (fun s => evH prg 2 [3, 4] ir46_l1 (L46_1_s a1 v1 v2 v3 v4) = evH prg 2 [3, 4] ir46_l1 (L46_1_s a1 s.1 s.2.1 s.2.2.1 s.2.2.2)) r := by
 unfold L46_1 at h
 refine bi h (fun h1 h => ?_) fun h1 h => ?_
 ·
  refine bi h (fun h2 h => ?_) fun h2 h => ?_
  ·
   refine bn h fun x3 h3 h => ?_
   have q2 := ((idx_sl h3) : idxA 4 (.sl 1 v2 4 0 v3) (i6 (w6 (((v3 : Nat) : Int) - 1))) = some (.rp 1 v2 4 x3 0))
   refine bn h fun x4 h4 h => ?_
   have q3 := ((ld_row rfl h4 rfl) : ldA [.cells 51 ((cT a1).map .p), .row 117 4 v2 (ra eAt v4)] .true 4 (.rp 1 v2 4 x3 0) = some (.agg ((eAt x4).map .p)))
   refine bi h (fun h5 h => ?_) fun h5 h => ?_
   ·
    refine bn h fun r6 h6 h => ?_
    cases r6 with
    | k0 x6_0 x6_1 x6_2 =>
     obtain ⟨g6, e6⟩ := L46_0_3_run (if v1 < x4.n then x4.n else v1) x4 (x4.kids.length : Int) a1 (v2, (Int.toNat (w6 (((v3 : Nat) : Int) - 1))), 0, v4) _ h6
     rw [← sj h]
     exact rnd (n := 30) [(13, .d true), (16, .d true), (22, .v (.rp 1 v2 4 x3 0)), (23, .v (.agg ((eAt x4).map .p))), (28, .v (.sl 1 v2 4 0 (Int.toNat (w6 (((v3 : Nat) : Int) - 1))))), (36, .v (i6 (x4.kids.length : Int))), (2002, .l (.brk 2) (L46_1_d0 g6 v1 x4 x6_0 x6_1 a1 x6_2)), (6000, .d true)] (apc (cv h1) (apc (cv h2) (apc q2 (apc q3 (apc ((sl_own (e := eAt) (xs := v4) rfl h5) : slA (L46_1_d1 a1 v2 v4 x4) 4 (.sl 1 v2 4 0 v3) (some 0) (some (w6 (((v3 : Nat) : Int) - 1))) = some (.sl 1 v2 4 0 (Int.toNat (w6 (((v3 : Nat) : Int) - 1))))) (apc ((lgr tr_map) : lnA (.p (.lst 3 (eTrees x4.kids))) = some (i6 (x4.kids.length : Int))) (apc ((okT_of rfl (abl_cons rfl (abl_cons abl_row (abl_cons abl_row (abl_cons rfl rfl))))) : okT 4 (L46_1_d1 a1 v2 v4 x4) = true) (apc (e6 : evH prg 4 [3, 4, 5, 35, 36, 37] ir46_l0 (L46_0_3_s (if v1 < x4.n then x4.n else v1) x4 (x4.kids.length : Int) a1 v2 (Int.toNat (w6 (((v3 : Nat) : Int) - 1))) 0 v4) = some ((.brk 2), (L46_1_d0 g6 v1 x4 x6_0 x6_1 a1 x6_2))) (apc ((okT_of rfl (abl_cons rfl (abl_cons abl_row rfl))) : okT 2 [.cells 51 ((cT a1).map .p), .row 117 4 x6_0 (ra eAt x6_2), .row 51 3 0 (ra cT []), .cells 117 ((eAt x4).map .p)] = true) apn))))))))) (by kernel_rfl)
   ·
    cases h
  ·
   rw [← sj h]
   exact xbrk (n := 30) [(13, .d true), (16, .d false), (6000, .d true)] (apc (cv h1) (apc (cv h2) apn)) (by kernel_rfl)
 ·
  rw [← sj h]
  exact xbrk (n := 30) [(13, .d false), (6000, .d true)] (apc (cv h1) apn) (by kernel_rfl)
theorem L46_1_run (a1 : TreeD) (s0 : Int × Nat × Nat × (List AtD)) (e : E_L46_1) (h : runL (fun s => L46_1 s.1 s.2.1 s.2.2.1 s.2.2.2) s0 = some e) : L46_1_x a1 e (evH prg 2 [3, 4] ir46_l1 (L46_1_s a1 s0.1 s0.2.1 s0.2.2.1 s0.2.2.2)) := by
  have q := @loop_sound' (Int × Nat × Nat × (List AtD)) E_L46_1 (fun s => L46_1 s.1 s.2.1 s.2.2.1 s.2.2.2) (fun s => evH prg 2 [3, 4] ir46_l1 (L46_1_s a1 s.1 s.2.1 s.2.2.1 s.2.2.2)) (L46_1_x a1) (fun s r h => L46_1_ok a1 s.1 s.2.1 s.2.2.1 s.2.2.2 h) s0 e h
  exact q
def F46_v (a1 : TreeD) (x0 : Int) : AV := (i6 x0)
noncomputable def F46 (a1 : TreeD) : Option Int :=
  ((runL (fun s => L46_1 s.1 s.2.1 s.2.2.1 s.2.2.2) (0, 0, 1, [(⟨a1.prod, a1.byte, a1.kids, 1⟩ : AtD)])).bind fun r1 => match r1 with | .k0 x1_0 x1_1 x1_2 => (some x1_0))
abbrev F46_d0 (g1 : Nat → AV) (x1_0 : Int) (a1 : TreeD) (x1_1 : Nat) (x1_2 : List AtD) : St := ⟨fr 51 g1 [(3, (i6 x1_0))], [.cells 51 ((cT a1).map .p), .row 117 4 x1_1 (ra eAt x1_2)]⟩
theorem F46_ok (a1 : TreeD) {r : Int} (h : F46 a1 = some r) : PR1 prg 46 [(.agg ((cT a1).map .p))] (F46_v a1 r) := by
 unfold F46 at h
 refine bn h fun r1 h1 h => ?_
 cases r1 with
 | k0 x1_0 x1_1 x1_2 =>
  obtain ⟨g1, e1⟩ := L46_1_run a1 (0, 0, 1, [(⟨a1.prod, a1.byte, a1.kids, 1⟩ : AtD)]) _ h1
  rw [← sj h]
  exact fpr (n := 30) [(2000, .l (.brk 0) (F46_d0 g1 x1_0 a1 x1_1 x1_2)), (6000, .d true)] (apc ((okT_of rfl (abl_cons rfl (abl_cons rfl rfl))) : okT 2 [.cells 51 ((cT a1).map .p), .row 117 4 0 [[(i6 a1.prod), (vi .u8 a1.byte), (.p (.lst 3 (eTrees a1.kids))), (i6 1)]]] = true) (apc (e1 : evH prg 2 [3, 4] ir46_l1 (L46_1_s a1 0 0 1 ([(⟨a1.prod, a1.byte, a1.kids, 1⟩ : AtD)])) = some ((.brk 0), (F46_d0 g1 x1_0 a1 x1_1 x1_2))) apn)) rfl (by kernel_rfl)
inductive R_F47_4 where
  | k0 (x0 : Nat) (x1 : List Int) (x2 : Bool) (x3 : Nat)
def F47_4_v (a1 : TreeD) (a2 : TreeD) (a3 : Nat) (a4 : List Int) (a5 : Bool) (a6 : Nat) (r : R_F47_4) : AV := match r with | .k0 x0 x1 x2 x3 => (.tup [])
def F47_4_h (a1 : TreeD) (a2 : TreeD) (a3 : Nat) (a4 : List Int) (a5 : Bool) (a6 : Nat) (r : R_F47_4) : List AB := match r with | .k0 x0 x1 x2 x3 => [.cells 51 ((cT a2).map .p), .row 5 1 x0 (ra eU8 x1), .cells 94 [(sp x2 2 0), (.sl 1 x0 1 0 x3)], .cells 95 [(.fn 47 [(.ptr 2 0), (.ptr 3 0)])]]
abbrev T_F47_4 := TreeD → TreeD → Nat → (List Int) → Bool → Nat → Option R_F47_4
abbrev H_F47_4 (f : T_F47_4) : Prop := ∀ (a1 : TreeD) (a2 : TreeD) (a3 : Nat) (a4 : List Int) (a5 : Bool) (a6 : Nat) {r : R_F47_4}, f a1 a2 a3 a4 a5 a6 = some r → ∀ hx : List AB, CS prg 47 [(.agg ((cT a1).map .p)), (.ptr 2 0), (.ptr 3 0)] ([.cells 51 ((cT a2).map .p), .row 5 1 a3 (ra eU8 a4), .cells 94 [(sp a5 2 0), (.sl 1 a3 1 0 a6)], .cells 95 [(.fn 47 [(.ptr 2 0), (.ptr 3 0)])]] ++ hx) = some (F47_4_v a1 a2 a3 a4 a5 a6 r, F47_4_h a1 a2 a3 a4 a5 a6 r ++ hx)
def F69_4_v (a1 : TreeD) (a2 : Nat) (a3 : List Int) (a4 : Bool) (a5 : Nat) (a6 : TreeD) (x0 : Bool) : AV := (.tup [])
def F69_4_h (a1 : TreeD) (a2 : Nat) (a3 : List Int) (a4 : Bool) (a5 : Nat) (a6 : TreeD) (x0 : Bool) : List AB := [.cells 51 ((cT a1).map .p), .row 5 1 a2 (ra eU8 a3), .cells 94 [(sp x0 2 0), (.sl 1 a2 1 0 a5)], .cells 95 [(.fn 47 [(.ptr 2 0), (.ptr 3 0)])], .cells 51 ((cT a6).map .p)]
noncomputable def F69_4 (a4 : Bool) : Option Bool :=
  (bif a4 then (some a4) else (some true))
abbrev F69_4_d0 (a1 : TreeD) (a2 : Nat) (a3 : List Int) (a4 : Bool) (a5 : Nat) (a6 : TreeD) : List AB := [.cells 51 ((cT a1).map .p), .row 5 1 a2 (ra eU8 a3), .cells 94 [(sp a4 2 0), (.sl 1 a2 1 0 a5)], .cells 95 [(.fn 47 [(.ptr 2 0), (.ptr 3 0)])], .cells 51 ((cT a6).map .p)]
theorem F69_4_ok (a1 : TreeD) (a2 : Nat) (a3 : List Int) (a4 : Bool) (a5 : Nat) (a6 : TreeD) {r : Bool} (h : F69_4 a4 = some r) : CS prg 69 [(.ptr 2 0)] [.cells 51 ((cT a1).map .p), .row 5 1 a2 (ra eU8 a3), .cells 94 [(sp a4 2 0), (.sl 1 a2 1 0 a5)], .cells 95 [(.fn 47 [(.ptr 2 0), (.ptr 3 0)])], .cells 51 ((cT a6).map .p)] = some (F69_4_v a1 a2 a3 a4 a5 a6 r, F69_4_h a1 a2 a3 a4 a5 a6 r) := by
 unfold F69_4 at h
 refine bi h (fun h1 h => ?_) fun h1 h => ?_
 ·
  rw [← sj h]
  exact fcs (n := 30) [(5, .v (.ptr 2 0)), (17, .v (.ptr 2 0))] (apc (((rfl : ldA (F69_4_d0 a1 a2 a3 a4 a5 a6) .false 1 (.ptr 2 0) = some (sp a4 2 0)).trans (congrArg some (sp_t h1))) : ldA (F69_4_d0 a1 a2 a3 a4 a5 a6) .false 1 (.ptr 2 0) = some (.ptr 2 0)) (apc (((rfl : ldA (F69_4_d0 a1 a2 a3 a4 a5 a6) .false 1 (.ptr 2 0) = some (sp a4 2 0)).trans (congrArg some (sp_t h1))) : ldA (F69_4_d0 a1 a2 a3 a4 a5 a6) .false 1 (.ptr 2 0) = some (.ptr 2 0)) apn)) (by kernel_rfl)
 ·
  rw [← sj h]
  exact fcs (n := 30) [(5, .v (.p (.val (.pointer .none))))] (apc (((rfl : ldA (F69_4_d0 a1 a2 a3 a4 a5 a6) .false 1 (.ptr 2 0) = some (sp a4 2 0)).trans (congrArg some (sp_f h1))) : ldA (F69_4_d0 a1 a2 a3 a4 a5 a6) .false 1 (.ptr 2 0) = some (.p (.val (.pointer .none)))) apn) (by kernel_rfl)
inductive R_F48_4 where
  | k0 (x0 : Nat) (x1 : List Int) (x2 : Bool)
def F48_4_v (a1 : TreeD) (a2 : TreeD) (a3 : Nat) (a4 : List Int) (a5 : Bool) (a6 : Nat) (r : R_F48_4) : AV := match r with | .k0 x0 x1 x2 => (.p (.val .nilIface))
def F48_4_h (a1 : TreeD) (a2 : TreeD) (a3 : Nat) (a4 : List Int) (a5 : Bool) (a6 : Nat) (r : R_F48_4) : List AB := match r with | .k0 x0 x1 x2 => [.cells 51 ((cT a2).map .p), .row 5 1 x0 (ra eU8 x1), .cells 94 [(sp x2 2 0), (.sl 1 x0 1 0 (a6 + 1))], .cells 95 [(.fn 47 [(.ptr 2 0), (.ptr 3 0)])], .cells 51 ((cT a1).map .p), .row 5 1 0 [[(vi .u8 a1.byte)]]]
noncomputable def F48_4 (a1 : TreeD) (a3 : Nat) (a4 : List Int) (a5 : Bool) (a6 : Nat) : Option R_F48_4 :=
  ((F69_4 a5).bind fun x1 => (bif (apOk a6 1 a4.length 1) then (bif (decide (a6 + 1 ≤ a4.length)) then (some (.k0 a3 (splice a4 a6 [a1.byte]) x1)) else (some (.k0 (a3 + 1) (a4.take a6 ++ [a1.byte]) x1))) else none))
abbrev F48_4_d0 (a2 : TreeD) (a3 : Nat) (a4 : List Int) (x1 : Bool) (a6 : Nat) (a1 : TreeD) : List AB := [.cells 51 ((cT a2).map .p), .row 5 1 a3 (ra eU8 a4), .cells 94 [(sp x1 2 0), (.sl 1 a3 1 0 a6)], .cells 95 [(.fn 47 [(.ptr 2 0), (.ptr 3 0)])], .cells 51 ((cT a1).map .p)]
abbrev F48_4_d1 (a2 : TreeD) (a3 : Nat) (a4 : List Int) (a6 : Nat) (a1 : TreeD) (x1 : Bool) : List AB := [.cells 51 ((cT a2).map .p), .row 5 1 a3 (ra eU8 (splice a4 a6 [a1.byte])), .cells 94 [(sp x1 2 0), (.sl 1 a3 1 0 a6)], .cells 95 [(.fn 47 [(.ptr 2 0), (.ptr 3 0)])], .cells 51 ((cT a1).map .p), .row 5 1 0 [[(vi .u8 a1.byte)]]]
abbrev F48_4_d2 (a2 : TreeD) (a3 : Nat) (a4 : List Int) (x1 : Bool) (a6 : Nat) (a1 : TreeD) : List AB := [.cells 51 ((cT a2).map .p), .row 5 1 a3 (ra eU8 a4), .cells 94 [(sp x1 2 0), (.sl 1 a3 1 0 a6)], .cells 95 [(.fn 47 [(.ptr 2 0), (.ptr 3 0)])], .cells 51 ((cT a1).map .p), .row 5 1 0 [[(vi .u8 a1.byte)]]]
abbrev F48_4_d3 (a2 : TreeD) (a3 : Nat) (a4 : List Int) (a6 : Nat) (a1 : TreeD) (x1 : Bool) : List AB := [.cells 51 ((cT a2).map .p), .row 5 1 (a3 + 1) (ra eU8 (a4.take a6 ++ [a1.byte])), .cells 94 [(sp x1 2 0), (.sl 1 a3 1 0 a6)], .cells 95 [(.fn 47 [(.ptr 2 0), (.ptr 3 0)])], .cells 51 ((cT a1).map .p), .row 5 1 0 [[(vi .u8 a1.byte)]]]
abbrev F48_4_c0 (a2 : TreeD) (a3 : Nat) (a4 : List Int) (x1 : Bool) (a6 : Nat) (a1 : TreeD) : List (Nat × Hint) := [(6, .r (.tup []) (F48_4_d0 a2 a3 a4 x1 a6 a1))]
theorem F48_4_ok (a1 : TreeD) (a2 : TreeD) (a3 : Nat) (a4 : List Int) (a5 : Bool) (a6 : Nat) {r : R_F48_4} (h : F48_4 a1 a3 a4 a5 a6 = some r) : CS prg 48 [(.ptr 2 0), (vi .u8 a1.byte)] [.cells 51 ((cT a2).map .p), .row 5 1 a3 (ra eU8 a4), .cells 94 [(sp a5 2 0), (.sl 1 a3 1 0 a6)], .cells 95 [(.fn 47 [(.ptr 2 0), (.ptr 3 0)])], .cells 51 ((cT a1).map .p)] = some (F48_4_v a1 a2 a3 a4 a5 a6 r, F48_4_h a1 a2 a3 a4 a5 a6 r) := by
 unfold F48_4 at h
 refine bn h fun x1 h1 h => ?_
 have q0 := ((F69_4_ok a2 a3 a4 a5 a6 a1 h1) : CS prg 69 [(.ptr 2 0)] [.cells 51 ((cT a2).map .p), .row 5 1 a3 (ra eU8 a4), .cells 94 [(sp a5 2 0), (.sl 1 a3 1 0 a6)], .cells 95 [(.fn 47 [(.ptr 2 0), (.ptr 3 0)])], .cells 51 ((cT a1).map .p)] = some ((.tup []), (F48_4_d0 a2 a3 a4 x1 a6 a1)))
 refine bi h (fun h2 h => ?_) fun h2 h => ?_
 ·
  refine bi h (fun h3 h => ?_) fun h3 h => ?_
  ·
   rw [← sj h]
   exact fcs (n := 30) ((F48_4_c0 a2 a3 a4 x1 a6 a1) ++ [(14, .r (.sl 1 a3 1 0 (a6 + 1)) (F48_4_d1 a2 a3 a4 a6 a1 x1))]) (apc q0 (apc ((ap_in (e := eU8) (xs := a4) (news := [a1.byte]) rfl (rows_x (e := eU8) (xs := [a1.byte]) rfl) rfl h2 h3) : appA (F48_4_d2 a2 a3 a4 x1 a6 a1) 5 1 1 (.sl 1 a3 1 0 a6) (.sl 5 0 1 0 1) = some ((.sl 1 a3 1 0 (a6 + 1)), (F48_4_d1 a2 a3 a4 a6 a1 x1))) apn)) (by kernel_rfl)
  ·
   rw [← sj h]
   exact fcs (n := 30) ((F48_4_c0 a2 a3 a4 x1 a6 a1) ++ [(14, .r (.sl 1 (a3 + 1) 1 0 (a6 + 1)) (F48_4_d3 a2 a3 a4 a6 a1 x1))]) (apc q0 (apc ((ap_out (e := eU8) (xs := a4) (news := [a1.byte]) rfl (rows_x (e := eU8) (xs := [a1.byte]) rfl) rfl h2 h3) : appA (F48_4_d2 a2 a3 a4 x1 a6 a1) 5 1 1 (.sl 1 a3 1 0 a6) (.sl 5 0 1 0 1) = some ((.sl 1 (a3 + 1) 1 0 (a6 + 1)), (F48_4_d3 a2 a3 a4 a6 a1 x1))) apn)) (by kernel_rfl)
 ·
  cases h
inductive E_L47_0_4 where
  | k0 (x0 : Nat) (x1 : List Int) (x2 : Bool) (x3 : Nat)
noncomputable def L47_0_4 (rF47_4 : T_F47_4) (a1 : TreeD) (a2 : Int) (a3 : TreeD) (v1 : Int) (v2 : Nat) (v3 : List Int) (v4 : Bool) (v5 : Nat) : Option (E_L47_0_4 ⊕ (Int × Nat × (List Int) × Bool × Nat)) :=
  (bif (decide (v1 < a2)) then ((getI a1.kids v1).bind fun x2 => ((rF47_4 x2 a3 v2 v3 v4 v5).bind fun r3 => match r3 with | .k0 x3_0 x3_1 x3_2 x3_3 => (some (.inr ((IntKind.wrap .i64 (v1 + 1)), x3_0, x3_1, x3_2, x3_3))))) else (some (.inl (.k0 v2 v3 v4 v5))))
def L47_0_4_s (a1 : TreeD) (a2 : Int) (a3 : TreeD) (v1 : Int) (v2 : Nat) (v3 : List Int) (v4 : Bool) (v5 : Nat) : St := ⟨fr 23 ug [(2, (.ptr 3 0)), (13, (.p (.lst 3 (eTrees a1.kids)))), (14, (i6 a2)), (15, (i6 v1))], [.cells 51 ((cT a3).map .p), .row 5 1 v2 (ra eU8 v3), .cells 94 [(sp v4 2 0), (.sl 1 v2 1 0 v5)], .cells 95 [(.fn 47 [(.ptr 2 0), (.ptr 3 0)])], .cells 51 ((cT a1).map .p)]⟩
def L47_0_4_x (a1 : TreeD) (a2 : Int) (a3 : TreeD) (e : E_L47_0_4) (r : Option (Out × St)) : Prop := match e with | .k0 x0 x1 x2 x3 => ∃ g, r = some ((.brk 0), ⟨fr 23 g [(13, (.p (.lst 3 (eTrees a1.kids))))], [.cells 51 ((cT a3).map .p), .row 5 1 x0 (ra eU8 x1), .cells 94 [(sp x2 2 0), (.sl 1 x0 1 0 x3)], .cells 95 [(.fn 47 [(.ptr 2 0), (.ptr 3 0)])], .cells 51 ((cT a1).map .p)]⟩)
abbrev L47_0_4_d0 (a3 : TreeD) (x3_0 : Nat) (x3_1 : List Int) (x3_2 : Bool) (x3_3 : Nat) (a1 : TreeD) (x2 : TreeD) : List AB := [.cells 51 ((cT a3).map .p), .row 5 1 x3_0 (ra eU8 x3_1), .cells 94 [(sp x3_2 2 0), (.sl 1 x3_0 1 0 x3_3)], .cells 95 [(.fn 47 [(.ptr 2 0), (.ptr 3 0)])], .cells 51 ((cT a1).map .p), .row 51 3 0 (ra cT []), .cells 51 ((cT x2).map .p)]
theorem L47_0_4_ok (rF47_4 : T_F47_4) (hF47_4 : H_F47_4 rF47_4) (a1 : TreeD) (a2 : Int) (a3 : TreeD) (v1 : Int) (v2 : Nat) (v3 : List Int) (v4 : Bool) (v5 : Nat) {r : E_L47_0_4 ⊕ (Int × Nat × (List Int) × Bool × Nat)} (h : L47_0_4 rF47_4 a1 a2 a3 v1 v2 v3 v4 v5 = some r) : OkR (fun e => L47_0_4_x a1 a2 a3 e (evH prg 5 [2, 13, 14, 15] ir47_l0 (L47_0_4_s a1 a2 a3 v1 v2 v3 v4 v5))) (fun s => evH prg 5 [2, 13, 14, 15] ir47_l0 (L47_0_4_s a1 a2 a3 v1 v2 v3 v4 v5) = evH prg 5 [2, 13, 14, 15] ir47_l0 (L47_0_4_s a1 a2 a3 s.1 s.2.1 s.2.2.1 s.2.2.2.1 s.2.2.2.2)) r := by
 unfold L47_0_4 at h
 refine bi h (fun h1 h => ?_) fun h1 h => ?_
 ·
  refine bn h fun x2 h2 h => ?_
  refine bn h fun r3 h3 h => ?_
  cases r3 with
  | k0 x3_0 x3_1 x3_2 x3_3 =>
   rw [← sj h]
   exact rnd (n := 30) [(16, .d true), (17, .v (.ro (cT x2))), (21, .r (.tup []) (L47_0_4_d0 a3 x3_0 x3_1 x3_2 x3_3 a1 x2)), (6000, .d true)] (apc (cv h1) (apc ((igr tr_map h2) : idxA 3 (.p (.lst 3 (eTrees a1.kids))) (i6 v1) = some (.ro (cT x2))) (apc ((hF47_4 x2 a3 v2 v3 v4 v5 h3 [.cells 51 ((cT a1).map .p), .row 51 3 0 (ra cT []), .cells 51 ((cT x2).map .p)]) : CS prg 47 [(.agg ((cT x2).map .p)), (.ptr 2 0), (.ptr 3 0)] [.cells 51 ((cT a3).map .p), .row 5 1 v2 (ra eU8 v3), .cells 94 [(sp v4 2 0), (.sl 1 v2 1 0 v5)], .cells 95 [(.fn 47 [(.ptr 2 0), (.ptr 3 0)])], .cells 51 ((cT a1).map .p), .row 51 3 0 (ra cT []), .cells 51 ((cT x2).map .p)] = some ((.tup []), (L47_0_4_d0 a3 x3_0 x3_1 x3_2 x3_3 a1 x2))) (apc ((okT_of rfl (abl_cons rfl (abl_cons abl_row (abl_cons (blw_sp rfl (blw_c rfl rfl)) (abl_cons rfl (abl_cons rfl rfl)))))) : okT 5 (L47_0_4_d0 a3 x3_0 x3_1 x3_2 x3_3 a1 x2) = true) apn)))) (by kernel_rfl)
 ·
  rw [← sj h]
  exact xbrk (n := 30) [(16, .d false), (6000, .d true)] (apc (cv h1) apn) (by kernel_rfl)
theorem L47_0_4_run (rF47_4 : T_F47_4) (hF47_4 : H_F47_4 rF47_4) (a1 : TreeD) (a2 : Int) (a3 : TreeD) (s0 : Int × Nat × (List Int) × Bool × Nat) (e : E_L47_0_4) (h : runL (fun s => L47_0_4 rF47_4 a1 a2 a3 s.1 s.2.1 s.2.2.1 s.2.2.2.1 s.2.2.2.2) s0 = some e) : L47_0_4_x a1 a2 a3 e (evH prg 5 [2, 13, 14, 15] ir47_l0 (L47_0_4_s a1 a2 a3 s0.1 s0.2.1 s0.2.2.1 s0.2.2.2.1 s0.2.2.2.2)) := by
  have q := @loop_sound' (Int × Nat × (List Int) × Bool × Nat) E_L47_0_4 (fun s => L47_0_4 rF47_4 a1 a2 a3 s.1 s.2.1 s.2.2.1 s.2.2.2.1 s.2.2.2.2) (fun s => evH prg 5 [2, 13, 14, 15] ir47_l0 (L47_0_4_s a1 a2 a3 s.1 s.2.1 s.2.2.1 s.2.2.2.1 s.2.2.2.2)) (L47_0_4_x a1 a2 a3) (fun s r h => L47_0_4_ok rF47_4 hF47_4 a1 a2 a3 s.1 s.2.1 s.2.2.1 s.2.2.2.1 s.2.2.2.2 h) s0 e h
  exact q
noncomputable def F47_4_b (rF47_4 : T_F47_4) (a1 : TreeD) (a2 : TreeD) (a3 : Nat) (a4 : List Int) (a5 : Bool) (a6 : Nat) : Option R_F47_4 :=
  (bif (decide (a1.prod < 0)) then ((F48_4 a1 a3 a4 a5 a6).bind fun r2 => match r2 with | .k0 x2_0 x2_1 x2_2 => (some (.k0 x2_0 x2_1 x2_2 (a6 + 1)))) else ((runL (fun s => L47_0_4 rF47_4 a1 (a1.kids.length : Int) a2 s.1 s.2.1 s.2.2.1 s.2.2.2.1 s.2.2.2.2) (0, a3, a4, a5, a6)).bind fun r2 => match r2 with | .k0 x2_0 x2_1 x2_2 x2_3 => (some (.k0 x2_0 x2_1 x2_2 x2_3))))
abbrev F47_4_d0 (a2 : TreeD) (x2_0 : Nat) (x2_1 : List Int) (x2_2 : Bool) (a6 : Nat) (a1 : TreeD) : List AB := [.cells 51 ((cT a2).map .p), .row 5 1 x2_0 (ra eU8 x2_1), .cells 94 [(sp x2_2 2 0), (.sl 1 x2_0 1 0 (a6 + 1))], .cells 95 [(.fn 47 [(.ptr 2 0), (.ptr 3 0)])], .cells 51 ((cT a1).map .p), .row 5 1 0 [[(vi .u8 a1.byte)]]]
abbrev F47_4_d1 (a2 : TreeD) (a3 : Nat) (a4 : List Int) (a5 : Bool) (a6 : Nat) (a1 : TreeD) : List AB := [.cells 51 ((cT a2).map .p), .row 5 1 a3 (ra eU8 a4), .cells 94 [(sp a5 2 0), (.sl 1 a3 1 0 a6)], .cells 95 [(.fn 47 [(.ptr 2 0), (.ptr 3 0)])], .cells 51 ((cT a1).map .p)]
abbrev F47_4_d2 (g2 : Nat → AV) (a1 : TreeD) (a2 : TreeD) (x2_0 : Nat) (x2_1 : List Int) (x2_2 : Bool) (x2_3 : Nat) : St := ⟨fr 23 g2 [(13, (.p (.lst 3 (eTrees a1.kids))))], [.cells 51 ((cT a2).map .p), .row 5 1 x2_0 (ra eU8 x2_1), .cells 94 [(sp x2_2 2 0), (.sl 1 x2_0 1 0 x2_3)], .cells 95 [(.fn 47 [(.ptr 2 0), (.ptr 3 0)])], .cells 51 ((cT a1).map .p)]⟩
theorem F47_4_bok (rF47_4 : T_F47_4) (hF47_4 : H_F47_4 rF47_4) (a1 : TreeD) (a2 : TreeD) (a3 : Nat) (a4 : List Int) (a5 : Bool) (a6 : Nat) {r : R_F47_4} (h : F47_4_b rF47_4 a1 a2 a3 a4 a5 a6 = some r) : ∀ hx : List AB, CS prg 47 [(.agg ((cT a1).map .p)), (.ptr 2 0), (.ptr 3 0)] ([.cells 51 ((cT a2).map .p), .row 5 1 a3 (ra eU8 a4), .cells 94 [(sp a5 2 0), (.sl 1 a3 1 0 a6)], .cells 95 [(.fn 47 [(.ptr 2 0), (.ptr 3 0)])]] ++ hx) = some (F47_4_v a1 a2 a3 a4 a5 a6 r, F47_4_h a1 a2 a3 a4 a5 a6 r ++ hx) := by
 unfold F47_4_b at h
 refine bi h (fun h1 h => ?_) fun h1 h => ?_
 ·
  refine bn h fun r2 h2 h => ?_
  cases r2 with
  | k0 x2_0 x2_1 x2_2 =>
   rw [← sj h]
   exact fcF (n := 30) (m := 4) (v := (.tup [])) (h' := (F47_4_d0 a2 x2_0 x2_1 x2_2 a6 a1)) [(8, .d true), (11, .r (.p (.val .nilIface)) (F47_4_d0 a2 x2_0 x2_1 x2_2 a6 a1))] (apc (cv h1) (apc ((F48_4_ok a1 a2 a3 a4 a5 a6 h2) : CS prg 48 [(.ptr 2 0), (vi .u8 a1.byte)] (F47_4_d1 a2 a3 a4 a5 a6 a1) = some ((.p (.val .nilIface)), (F47_4_d0 a2 x2_0 x2_1 x2_2 a6 a1))) apn)) rfl (abl_cons rfl (abl_cons abl_row (abl_cons (blw_sp rfl (blw_c rfl rfl)) (abl_cons rfl rfl)))) rfl (abl_cons rfl (abl_cons abl_row (abl_cons (blw_sp rfl (blw_c rfl rfl)) (abl_cons rfl rfl)))) rfl (by kernel_rfl)
 ·
  refine bn h fun r2 h2 h => ?_
  cases r2 with
  | k0 x2_0 x2_1 x2_2 x2_3 =>
   obtain ⟨g2, e2⟩ := L47_0_4_run rF47_4 hF47_4 a1 (a1.kids.length : Int) a2 (0, a3, a4, a5, a6) _ h2
   rw [← sj h]
   exact fcF (n := 30) (m := 4) (v := (.tup [])) (h' := [.cells 51 ((cT a2).map .p), .row 5 1 x2_0 (ra eU8 x2_1), .cells 94 [(sp x2_2 2 0), (.sl 1 x2_0 1 0 x2_3)], .cells 95 [(.fn 47 [(.ptr 2 0), (.ptr 3 0)])], .cells 51 ((cT a1).map .p)]) [(8, .d false), (14, .v (i6 (a1.kids.length : Int))), (2000, .l (.brk 0) (F47_4_d2 g2 a1 a2 x2_0 x2_1 x2_2 x2_3)), (6000, .d true)] (apc (cv h1) (apc ((lgr tr_map) : lnA (.p (.lst 3 (eTrees a1.kids))) = some (i6 (a1.kids.length : Int))) (apc ((okT_of rfl (abl_cons rfl (abl_cons abl_row (abl_cons (blw_sp rfl (blw_c rfl rfl)) (abl_cons rfl (abl_cons rfl rfl)))))) : okT 5 (F47_4_d1 a2 a3 a4 a5 a6 a1) = true) (apc (e2 : evH prg 5 [2, 13, 14, 15] ir47_l0 (L47_0_4_s a1 (a1.kids.length : Int) a2 0 a3 a4 a5 a6) = some ((.brk 0), (F47_4_d2 g2 a1 a2 x2_0 x2_1 x2_2 x2_3))) apn)))) rfl (abl_cons rfl (abl_cons abl_row (abl_cons (blw_sp rfl (blw_c rfl rfl)) (abl_cons rfl rfl)))) rfl (abl_cons rfl (abl_cons abl_row (abl_cons (blw_sp rfl (blw_c rfl rfl)) (abl_cons rfl rfl)))) rfl (by kernel_rfl)
noncomputable def F47_4 : Nat → T_F47_4
  | 0 => fun _ _ _ _ _ _ => none
  | Nf + 1 => F47_4_b (F47_4 Nf)
theorem F47_4_ok (Nf : Nat) : H_F47_4 (F47_4 Nf) := by
  induction Nf with
  | zero => intro a1 a2 a3 a4 a5 a6 r h; have h : (none : Option R_F47_4) = some r := h; cases h
  | succ Nf ih => intro a1 a2 a3 a4 a5 a6 r h; exact F47_4_bok (F47_4 Nf) ih a1 a2 a3 a4 a5 a6 h
inductive R_F49_2 where
  | k0 (x0 : ByteArray)
  | k1 (x0 : ByteArray)
def F49_2_v (a1 : TreeD) (a2 : Nat) (a3 : List Int) (a4 : Bool) (a5 : Nat) (r : R_F49_2) : AV := match r with | .k0 x0 => (vs x0) | .k1 x0 => (vs x0)
def F49_2_h (a1 : TreeD) (a2 : Nat) (a3 : List Int) (a4 : Bool) (a5 : Nat) (r : R_F49_2) : List AB := match r with | .k0 x0 => [.cells 51 ((cT a1).map .p), .dead, .cells 94 [(sp a4 2 0), (.sl 1 a2 1 0 a5)], .cells 95 [(.fn 47 [(.ptr 2 0), (.ptr 3 0)])]] | .k1 x0 => [.cells 51 ((cT a1).map .p), .row 5 1 a2 (ra eU8 a3), .cells 94 [(sp a4 2 0), (.sl 1 a2 1 0 a5)], .cells 95 [(.fn 47 [(.ptr 2 0), (.ptr 3 0)])]]
noncomputable def F49_2 (a3 : List Int) (a5 : Nat) : Option R_F49_2 :=
  (bif (decide (0 < a5)) then (bif (usOk a5 a3.length) then (some (.k0 (bstr (a3.take a5)))) else none) else (some (.k1 ByteArray.empty)))
abbrev F49_2_d0 (a1 : TreeD) (a2 : Nat) (a3 : List Int) (a4 : Bool) (a5 : Nat) : List AB := [.cells 51 ((cT a1).map .p), .row 5 1 a2 (ra eU8 a3), .cells 94 [(sp a4 2 0), (.sl 1 a2 1 0 a5)], .cells 95 [(.fn 47 [(.ptr 2 0), (.ptr 3 0)])]]
abbrev F49_2_d1 (a1 : TreeD) (a4 : Bool) (a2 : Nat) (a5 : Nat) : List AB := [.cells 51 ((cT a1).map .p), .dead, .cells 94 [(sp a4 2 0), (.sl 1 a2 1 0 a5)], .cells 95 [(.fn 47 [(.ptr 2 0), (.ptr 3 0)])]]
theorem F49_2_ok (a1 : TreeD) (a2 : Nat) (a3 : List Int) (a4 : Bool) (a5 : Nat) {r : R_F49_2} (h : F49_2 a3 a5 = some r) : CS prg 49 [(.ptr 2 0)] [.cells 51 ((cT a1).map .p), .row 5 1 a2 (ra eU8 a3), .cells 94 [(sp a4 2 0), (.sl 1 a2 1 0 a5)], .cells 95 [(.fn 47 [(.ptr 2 0), (.ptr 3 0)])]] = some (F49_2_v a1 a2 a3 a4 a5 r, F49_2_h a1 a2 a3 a4 a5 r) := by
 unfold F49_2 at h
 refine bi h (fun h1 h => ?_) fun h1 h => ?_
 ·
  have q0 := ((sd_t (e := eU8) (xs := a3) rfl h1) : sdA (F49_2_d0 a1 a2 a3 a4 a5) (.sl 1 a2 1 0 a5) = some (.rp 1 a2 1 0 0))
  refine bi h (fun h2 h => ?_) fun h2 h => ?_
  ·
   rw [← sj h]
   exact fcs (n := 30) [(7, .v (.rp 1 a2 1 0 0)), (13, .r (vs (bstr (a3.take a5))) (F49_2_d1 a1 a4 a2 a5))] (apc q0 (apc ((us_t (e := eU8) (xs := a3) rfl h1 h2) : uSA (F49_2_d0 a1 a2 a3 a4 a5) 5 (.rp 1 a2 1 0 0) (i6 ((a5 : Nat) : Int)) = some ((vs (bstr (a3.take a5))), (F49_2_d1 a1 a4 a2 a5))) apn)) (by kernel_rfl)
  ·
   cases h
 ·
  rw [← sj h]
  exact fcs (n := 30) [(7, .v .anyp), (13, .r (vs ByteArray.empty) (F49_2_d0 a1 a2 a3 a4 a5))] (apc ((sd_f (e := eU8) (xs := a3) rfl h1) : sdA (F49_2_d0 a1 a2 a3 a4 a5) (.sl 1 a2 1 0 a5) = some .anyp) (apc ((us_f h1) : uSA (F49_2_d0 a1 a2 a3 a4 a5) 5 .anyp (i6 ((a5 : Nat) : Int)) = some ((vs ByteArray.empty), (F49_2_d0 a1 a2 a3 a4 a5))) apn)) (by kernel_rfl)
inductive R_F20 where
  | k0 (x0 : ByteArray) (x1 : Int)
def F20_v (a1 : TreeD) (r : R_F20) : AV := match r with | .k0 x0 x1 => (.tup [(vs x0), (i6 x1)])
noncomputable def F20 (Nf : Nat) (a1 : TreeD) : Option R_F20 :=
  ((F46 a1).bind fun x1 => (bif (decide (x1 > 16384)) then (some (.k0 (⟨([] : List UInt8).toArray⟩ : ByteArray) 3)) else ((F47_4 Nf a1 a1 0 ([]) false 0).bind fun r3 => match r3 with | .k0 x3_0 x3_1 x3_2 x3_3 => ((F49_2 x3_1 x3_3).bind fun r4 => match r4 with | .k0 x4_0 => (some (.k0 x4_0 0)) | .k1 x4_0 => (some (.k0 x4_0 0))))))
abbrev F20_d0 (a1 : TreeD) (x3_0 : Nat) (x3_1 : List Int) (x3_2 : Bool) (x3_3 : Nat) : List AB := [.cells 51 ((cT a1).map .p), .row 5 1 x3_0 (ra eU8 x3_1), .cells 94 [(sp x3_2 2 0), (.sl 1 x3_0 1 0 x3_3)], .cells 95 [(.fn 47 [(.ptr 2 0), (.ptr 3 0)])]]
abbrev F20_d1 (a1 : TreeD) (x3_2 : Bool) (x3_0 : Nat) (x3_3 : Nat) : List AB := [.cells 51 ((cT a1).map .p), .dead, .cells 94 [(sp x3_2 2 0), (.sl 1 x3_0 1 0 x3_3)], .cells 95 [(.fn 47 [(.ptr 2 0), (.ptr 3 0)])]]
abbrev F20_c0 (a1 : TreeD) (x3_0 : Nat) (x3_1 : List Int) (x3_2 : Bool) (x3_3 : Nat) : List (Nat × Hint) := [(12, .r (.tup []) (F20_d0 a1 x3_0 x3_1 x3_2 x3_3))]
theorem F20_ok (Nf : Nat) (a1 : TreeD) {r : R_F20} (h : F20 Nf a1 = some r) : PR1 prg 20 [(.agg ((cT a1).map .p))] (F20_v a1 r) := by
 unfold F20 at h
 refine bn h fun x1 h1 h => ?_
 have q0 := (((F46_ok a1 h1).cp rfl _) : CP prg 46 [(.agg ((cT a1).map .p))] [.cells 51 ((cT a1).map .p)] = some (i6 x1))
 refine bi h (fun h2 h => ?_) fun h2 h => ?_
 ·
  rw [← sj h]
  exact fpr (n := 30) [(7, .v (i6 x1)), (8, .d true)] (apc q0 (apc (cv h2) apn)) rfl (by kernel_rfl)
 ·
  refine bn h fun r3 h3 h => ?_
  cases r3 with
  | k0 x3_0 x3_1 x3_2 x3_3 =>
   have q2 := ((F47_4_ok Nf a1 a1 0 ([]) false 0 h3 []) : CS prg 47 [(.agg ((cT a1).map .p)), (.ptr 2 0), (.ptr 3 0)] [.cells 51 ((cT a1).map .p), .row 5 1 0 (ra eU8 []), .cells 94 [(sp false 2 0), (.sl 1 0 1 0 0)], .cells 95 [(.fn 47 [(.ptr 2 0), (.ptr 3 0)])]] = some ((.tup []), (F20_d0 a1 x3_0 x3_1 x3_2 x3_3)))
   refine bn h fun r4 h4 h => ?_
   cases r4 with
   | k0 x4_0 =>
    rw [← sj h]
    exact fpr (n := 30) ([(7, .v (i6 x1)), (8, .d false)] ++ ((F20_c0 a1 x3_0 x3_1 x3_2 x3_3) ++ [(13, .r (vs x4_0) (F20_d1 a1 x3_2 x3_0 x3_3))])) (apc q0 (apc (cv h2) (apc q2 (apc ((F49_2_ok a1 x3_0 x3_1 x3_2 x3_3 h4) : CS prg 49 [(.ptr 2 0)] (F20_d0 a1 x3_0 x3_1 x3_2 x3_3) = some ((vs x4_0), (F20_d1 a1 x3_2 x3_0 x3_3))) apn)))) rfl (by kernel_rfl)
   | k1 x4_0 =>
    rw [← sj h]
    exact fpr (n := 30) ([(7, .v (i6 x1)), (8, .d false)] ++ ((F20_c0 a1 x3_0 x3_1 x3_2 x3_3) ++ [(13, .r (vs x4_0) (F20_d0 a1 x3_0 x3_1 x3_2 x3_3))])) (apc q0 (apc (cv h2) (apc q2 (apc ((F49_2_ok a1 x3_0 x3_1 x3_2 x3_3 h4) : CS prg 49 [(.ptr 2 0)] (F20_d0 a1 x3_0 x3_1 x3_2 x3_3) = some ((vs x4_0), (F20_d0 a1 x3_0 x3_1 x3_2 x3_3))) apn)))) rfl (by kernel_rfl)
inductive E_L41_0 where
  | k0
  | k1 (x0 : List (ByteArray × Int))
noncomputable def L41_0 (a1 : GramD) (a2 : Int) (v1 : Int) (v2 : List (ByteArray × Int)) : Option (E_L41_0 ⊕ (Int × (List (ByteArray × Int)))) :=
  (bif (decide (v1 < a2)) then ((getI a1.sorts v1).bind fun x2 => (bif (x2.toList == (⟨([] : List UInt8).toArray⟩ : ByteArray).toList) then (some (.inl (.k0))) else (bif (decide ((x2.size : Int) > 1000)) then (some (.inl (.k0))) else (bif (decide ((mget 0 (mput x2 (IntKind.wrap .i64 ((mget 0 v2 x2) + 1)) v2) x2) > 1)) then (some (.inl (.k0))) else (some (.inr ((IntKind.wrap .i64 (v1 + 1)), (mput x2 (IntKind.wrap .i64 ((mget 0 v2 x2) + 1)) v2)))))))) else (some (.inl (.k1 v2))))
def L41_0_s (a1 : GramD) (a2 : Int) (v1 : Int) (v2 : List (ByteArray × Int)) : St := ⟨fr 55 ug [(1, (.ptr 0 0)), (3, (.mp 1)), (8, (.p (.lst 1 (a1.sorts.map eStr)))), (9, (i6 a2)), (10, (i6 v1))], [bG a1, .map (mrow (fun s => vs s) (fun n => vi .i64 n) v2)]⟩
def L41_0_x (a1 : GramD) (a2 : Int) (e : E_L41_0) (r : Option (Out × St)) : Prop := match e with | .k0 => ∃ g y, r = some (.ret, ⟨fr 55 g [(2, (vb false))], y⟩) | .k1 x0 => ∃ g, r = some ((.brk 0), ⟨fr 55 g [(1, (.ptr 0 0)), (8, (.p (.lst 1 (a1.sorts.map eStr))))], [bG a1, .map (mrow (fun s => vs s) (fun n => vi .i64 n) x0)]⟩)
abbrev L41_0_d0 (a1 : GramD) (v2 : List (ByteArray × Int)) : List AB := [bG a1, .map (mrow (fun s => vs s) (fun n => vi .i64 n) v2)]
abbrev L41_0_d1 (a1 : GramD) (x2 : ByteArray) (v2 : List (ByteArray × Int)) : List AB := [bG a1, .map (mrow (fun s => vs s) (fun n => vi .i64 n) (mput x2 (w6 ((mget 0 v2 x2) + 1)) v2))]
abbrev L41_0_c0 (x2 : ByteArray) (v2 : List (ByteArray × Int)) (a1 : GramD) : List (Nat × Hint) := [(12, .v (.ro [.val (.string x2)])), (16, .v (i6 (mget 0 v2 x2))), (7017, .r ud (L41_0_d1 a1 x2 v2))]
abbrev L41_0_c1 (x2 : ByteArray) (v2 : List (ByteArray × Int)) : List (Nat × Hint) := [(23, .d false), (28, .v (i6 (mget 0 (mput x2 (w6 ((mget 0 v2 x2) + 1)) v2) x2)))]
theorem L41_0_ok (a1 : GramD) (a2 : Int) (v1 : Int) (v2 : List (ByteArray × Int)) {r : E_L41_0 ⊕ (Int × (List (ByteArray × Int)))} (h : L41_0 a1 a2 v1 v2 = some r) : OkR (fun e => L41_0_x a1 a2 e (evH prg 2 [1, 3, 8, 9, 10] ir41_l0 (L41_0_s a1 a2 v1 v2))) (fun s => evH prg 2 [1, 3, 8, 9, 10] ir41_l0 (L41_0_s a1 a2 v1 v2) = evH prg 2 [1, 3, 8, 9, 10] ir41_l0 (L41_0_s a1 a2 s.1 s.2)) r := by
 unfold L41_0 at h
 refine bi h (fun h1 h => ?_) fun h1 h => ?_
 ·
  refine bn h fun x2 h2 h => ?_
  have q2 := ((lk_row key_str (es := v2) (k := x2) (z := 0) rfl rfl) : lkA (L41_0_d0 a1 v2) [2] .false .false [(.val (.int .i64 0))] .false (.mp 1) (vs x2) = some (i6 (mget 0 v2 x2)))
  have q3 := (⟨up_row key_str (es := v2) (k := x2) (v := (w6 ((mget 0 v2 x2) + 1))) rfl, rfl⟩ : upA (L41_0_d0 a1 v2) [2] .false (.mp 1) (vs x2) (i6 (w6 ((mget 0 v2 x2) + 1))) = some (L41_0_d1 a1 x2 v2) ∧ ud = ud)
  refine bi h (fun h3 h => ?_) fun h3 h => ?_
  ·
   rw [← sj h]
   exact xretY (n := 30) ([(11, .d true)] ++ ((L41_0_c0 x2 v2 a1) ++ [(19, .d true), (6000, .d true)])) (apc (cv h1) (apc (ig eStr 1 .i64 h2) (apc q2 (apc q3 (apc (cv h3) apn))))) (by kernel_rfl)
  ·
   refine bi h (fun h4 h => ?_) fun h4 h => ?_
   ·
    rw [← sj h]
    exact xretY (n := 30) ([(11, .d true)] ++ ((L41_0_c0 x2 v2 a1) ++ [(19, .d false), (23, .d true), (6000, .d true)])) (apc (cv h1) (apc (ig eStr 1 .i64 h2) (apc q2 (apc q3 (apc (cv h3) (apc (cv h4) apn)))))) (by kernel_rfl)
   ·
    have q6 := ((lk_row key_str (es := (mput x2 (w6 ((mget 0 v2 x2) + 1)) v2)) (k := x2) (z := 0) rfl rfl) : lkA (L41_0_d1 a1 x2 v2) [2] .false .false [(.val (.int .i64 0))] .false (.mp 1) (vs x2) = some (i6 (mget 0 (mput x2 (w6 ((mget 0 v2 x2) + 1)) v2) x2)))
    refine bi h (fun h5 h => ?_) fun h5 h => ?_
    ·
     rw [← sj h]
     exact xretY (n := 30) ([(11, .d true)] ++ ((L41_0_c0 x2 v2 a1) ++ ([(19, .d false)] ++ ((L41_0_c1 x2 v2) ++ [(29, .d true), (6000, .d true)])))) (apc (cv h1) (apc (ig eStr 1 .i64 h2) (apc q2 (apc q3 (apc (cv h3) (apc (cv h4) (apc q6 (apc (cv h5) apn)))))))) (by kernel_rfl)
    ·
     rw [← sj h]
     exact rnd (n := 30) ([(11, .d true)] ++ ((L41_0_c0 x2 v2 a1) ++ ([(19, .d false)] ++ ((L41_0_c1 x2 v2) ++ [(29, .d false), (6000, .d true)])))) (apc (cv h1) (apc (ig eStr 1 .i64 h2) (apc q2 (apc q3 (apc (cv h3) (apc (cv h4) (apc q6 (apc (cv h5) (apc ((okT_of rfl (abl_cons rfl (abl_cons (abl_map (fun _ => rfl) (fun _ => rfl)) rfl))) : okT 2 (L41_0_d1 a1 x2 v2) = true) apn))))))))) (by kernel_rfl)
 ·
  rw [← sj h]
  exact xbrk (n := 30) [(11, .d false), (6000, .d true)] (apc (cv h1) apn) (by kernel_rfl)
theorem L41_0_run (a1 : GramD) (a2 : Int) (s0 : Int × (List (ByteArray × Int))) (e : E_L41_0) (h : runL (fun s => L41_0 a1 a2 s.1 s.2) s0 = some e) : L41_0_x a1 a2 e (evH prg 2 [1, 3, 8, 9, 10] ir41_l0 (L41_0_s a1 a2 s0.1 s0.2)) := by
  have q := @loop_sound' (Int × (List (ByteArray × Int))) E_L41_0 (fun s => L41_0 a1 a2 s.1 s.2) (fun s => evH prg 2 [1, 3, 8, 9, 10] ir41_l0 (L41_0_s a1 a2 s.1 s.2)) (L41_0_x a1 a2) (fun s r h => L41_0_ok a1 a2 s.1 s.2 h) s0 e h
  exact q
def F41_v (a1 : GramD) (x0 : Bool) : AV := (vb x0)
noncomputable def F41 (a1 : GramD) : Option Bool :=
  ((runL (fun s => L41_0 a1 (a1.sorts.length : Int) s.1 s.2) (0, [])).bind fun r1 => match r1 with | .k0 => (some false) | .k1 x1_0 => (bif (decide ((a1.sorts.length : Int) ≥ 1)) then (bif (decide ((a1.sorts.length : Int) ≤ 1000)) then (bif (decide (a1.start ≥ 0)) then (some (decide (a1.start < (a1.sorts.length : Int)))) else (some false)) else (some false)) else (some false)))
abbrev F41_d0 (g1 : Nat → AV) (a1 : GramD) (x1_0 : List (ByteArray × Int)) : St := ⟨fr 55 g1 [(1, (.ptr 0 0)), (8, (.p (.lst 1 (a1.sorts.map eStr))))], [bG a1, .map (mrow (fun s => vs s) (fun n => vi .i64 n) x1_0)]⟩
abbrev F41_c0 (g1 : Nat → AV) (a1 : GramD) (x1_0 : List (ByteArray × Int)) : List (Nat × Hint) := [(2000, .l (.brk 0) (F41_d0 g1 a1 x1_0)), (34, .v (i6 (a1.sorts.length : Int)))]
theorem F41_ok (a1 : GramD) {r : Bool} (h : F41 a1 = some r) : PR1 prg 41 [(aG a1)] (F41_v a1 r) := by
 unfold F41 at h
 refine bn h fun r1 h1 h => ?_
 cases r1 with
 | k0 =>
  obtain ⟨g1, y1, e1⟩ := L41_0_run a1 (a1.sorts.length : Int) (0, []) _ h1
  rw [← sj h]
  exact fpr (n := 30) [(9, .v (i6 (a1.sorts.length : Int))), (2000, .l .ret ⟨fr 55 g1 [(2, (vb false))], y1⟩), (6000, .d true)] (apc (lg a1.sorts eStr 1) (apc ((okT_of rfl (abl_cons rfl (abl_cons rfl rfl))) : okT 2 [bG a1, .map []] = true) (apc (e1 : evH prg 2 [1, 3, 8, 9, 10] ir41_l0 (L41_0_s a1 (a1.sorts.length : Int) 0 ([])) = some (.ret, ⟨fr 55 g1 [(2, (vb false))], y1⟩)) apn))) rfl (by kernel_rfl)
 | k1 x1_0 =>
  obtain ⟨g1, e1⟩ := L41_0_run a1 (a1.sorts.length : Int) (0, []) _ h1
  have q1 := ((okT_of rfl (abl_cons rfl (abl_cons rfl rfl))) : okT 2 [bG a1, .map []] = true)
  have q2 := (e1 : evH prg 2 [1, 3, 8, 9, 10] ir41_l0 (L41_0_s a1 (a1.sorts.length : Int) 0 ([])) = some ((.brk 0), (F41_d0 g1 a1 x1_0)))
  refine bi h (fun h2 h => ?_) fun h2 h => ?_
  ·
   refine bi h (fun h3 h => ?_) fun h3 h => ?_
   ·
    refine bi h (fun h4 h => ?_) fun h4 h => ?_
    ·
     rw [← sj h]
     exact fpr (n := 30) ([(9, .v (i6 (a1.sorts.length : Int)))] ++ ((F41_c0 g1 a1 x1_0) ++ [(35, .d true), (39, .v (i6 (a1.sorts.length : Int))), (40, .d true), (45, .d true), (52, .v (i6 (a1.sorts.length : Int))), (6000, .d true)])) (apc (lg a1.sorts eStr 1) (apc q1 (apc q2 (apc (lg a1.sorts eStr 1) (apc (cv h2) (apc (lg a1.sorts eStr 1) (apc (cv h3) (apc (cv h4) (apc (lg a1.sorts eStr 1) apn))))))))) rfl (by kernel_rfl)
    ·
     rw [← sj h]
     exact fpr (n := 30) ([(9, .v (i6 (a1.sorts.length : Int)))] ++ ((F41_c0 g1 a1 x1_0) ++ [(35, .d true), (39, .v (i6 (a1.sorts.length : Int))), (40, .d true), (45, .d false), (6000, .d true)])) (apc (lg a1.sorts eStr 1) (apc q1 (apc q2 (apc (lg a1.sorts eStr 1) (apc (cv h2) (apc (lg a1.sorts eStr 1) (apc (cv h3) (apc (cv h4) apn)))))))) rfl (by kernel_rfl)
   ·
    rw [← sj h]
    exact fpr (n := 30) ([(9, .v (i6 (a1.sorts.length : Int)))] ++ ((F41_c0 g1 a1 x1_0) ++ [(35, .d true), (39, .v (i6 (a1.sorts.length : Int))), (40, .d false), (6000, .d true)])) (apc (lg a1.sorts eStr 1) (apc q1 (apc q2 (apc (lg a1.sorts eStr 1) (apc (cv h2) (apc (lg a1.sorts eStr 1) (apc (cv h3) apn))))))) rfl (by kernel_rfl)
  ·
   rw [← sj h]
   exact fpr (n := 30) ([(9, .v (i6 (a1.sorts.length : Int)))] ++ ((F41_c0 g1 a1 x1_0) ++ [(35, .d false), (6000, .d true)])) (apc (lg a1.sorts eStr 1) (apc q1 (apc q2 (apc (lg a1.sorts eStr 1) (apc (cv h2) apn))))) rfl (by kernel_rfl)
def F67_v (a1 : ProdD) (a2 : GramD) (x0 : Bool) : AV := (vb x0)
noncomputable def F67 (a1 : ProdD) (a2 : GramD) : Option Bool :=
  (bif (decide (a1.left ≥ 0)) then (some (decide (a1.left < (a2.sorts.length : Int)))) else (some false))
theorem F67_ok (a1 : ProdD) (a2 : GramD) {r : Bool} (h : F67 a1 a2 = some r) : PR1 prg 67 [(i6 a1.left), (.ro (eGram a2))] (F67_v a1 a2 r) := by
 unfold F67 at h
 refine bi h (fun h1 h => ?_) fun h1 h => ?_
 ·
  rw [← sj h]
  exact fpr (n := 30) [(5, .d true), (10, .v (i6 (a2.sorts.length : Int)))] (apc (cv h1) (apc (lg a2.sorts eStr 1) apn)) rfl (by kernel_rfl)
 ·
  rw [← sj h]
  exact fpr (n := 30) [(5, .d false)] (apc (cv h1) apn) rfl (by kernel_rfl)
def F67_2_v (a1 : SymD) (a2 : GramD) (x0 : Bool) : AV := (vb x0)
noncomputable def F67_2 (a1 : SymD) (a2 : GramD) : Option Bool :=
  (bif (decide (a1.sort ≥ 0)) then (some (decide (a1.sort < (a2.sorts.length : Int)))) else (some false))
theorem F67_2_ok (a1 : SymD) (a2 : GramD) {r : Bool} (h : F67_2 a1 a2 = some r) : PR1 prg 67 [(i6 a1.sort), (.ro (eGram a2))] (F67_2_v a1 a2 r) := by
 unfold F67_2 at h
 refine bi h (fun h1 h => ?_) fun h1 h => ?_
 ·
  rw [← sj h]
  exact fpr (n := 30) [(5, .d true), (10, .v (i6 (a2.sorts.length : Int)))] (apc (cv h1) (apc (lg a2.sorts eStr 1) apn)) rfl (by kernel_rfl)
 ·
  rw [← sj h]
  exact fpr (n := 30) [(5, .d false)] (apc (cv h1) apn) rfl (by kernel_rfl)
inductive E_L42_0_2 where
  | k0
  | k1
noncomputable def L42_0_2 (a1 : GramD) (a4 : ProdD) (a5 : Int) (v1 : Int) : Option (E_L42_0_2 ⊕ (Int)) :=
  (bif (decide (v1 < a5)) then ((getI a4.right v1).bind fun x2 => (bif (x2.kind == 0) then (bif ((x2.a == 0) && ((x2.b == 0) && ((x2.c == 0) && ((x2.d == 0) && true)))) then (some (.inl (.k0))) else (bif (x2.sort != 0) then (some (.inl (.k0))) else (some (.inr ((IntKind.wrap .i64 (v1 + 1))))))) else (bif (x2.kind == 1) then (bif (!((x2.a == 0) && ((x2.b == 0) && ((x2.c == 0) && ((x2.d == 0) && true))))) then (some (.inl (.k0))) else ((F67_2 x2 a1).bind fun x6 => (bif x6 then (bif (a4.role == 11) then (some (.inl (.k0))) else (some (.inr ((IntKind.wrap .i64 (v1 + 1)))))) else (some (.inl (.k0)))))) else (some (.inl (.k0)))))) else (some (.inl (.k1))))
def L42_0_2_s (a1 : GramD) (a2 : Int) (a3 : Int) (a4 : ProdD) (a5 : Int) (v1 : Int) : St := ⟨fr 110 ug [(1, (.ptr 0 0)), (3, (.fn 67 [(.ptr 0 0)])), (5, (.ptr 2 0)), (10, (.p (.lst 7 (a1.prods.map eProd)))), (11, (i6 a2)), (12, (i6 a3)), (67, (.p (.lst 6 (a4.right.map eSym)))), (68, (i6 a5)), (69, (i6 v1))], [bG a1, .row 68 6 0 (ra eSym []), bP a4]⟩
def L42_0_2_x (a1 : GramD) (a2 : Int) (a3 : Int) (a4 : ProdD) (a5 : Int) (e : E_L42_0_2) (r : Option (Out × St)) : Prop := match e with | .k0 => ∃ g y, r = some (.ret, ⟨fr 110 g [(2, (vb false))], y⟩) | .k1 => ∃ g, r = some ((.brk 2), ⟨fr 110 g [(1, (.ptr 0 0)), (3, (.fn 67 [(.ptr 0 0)])), (5, (.ptr 2 0)), (10, (.p (.lst 7 (a1.prods.map eProd)))), (11, (i6 a2)), (12, (i6 a3)), (67, (.p (.lst 6 (a4.right.map eSym))))], [bG a1, .row 68 6 0 (ra eSym []), bP a4]⟩)
abbrev L42_0_2_d0 (a1 : GramD) (a4 : ProdD) (x2 : SymD) : List AB := [bG a1, .row 68 6 0 (ra eSym []), bP a4, .cells 68 ((eSym x2).map .p)]
theorem L42_0_2_ok (a1 : GramD) (a2 : Int) (a3 : Int) (a4 : ProdD) (a5 : Int) (v1 : Int) {r : E_L42_0_2 ⊕ (Int)} (h : L42_0_2 a1 a4 a5 v1 = some r) : OkR (fun e => L42_0_2_x a1 a2 a3 a4 a5 e (evH prg 3 [1, 3, 5, 10, 11, 12, 67, 68, 69] ir42_l0 (L42_0_2_s a1 a2 a3 a4 a5 v1))) (fun s => evH prg 3 [1, 3, 5, 10, 11, 12, 67, 68, 69] ir42_l0 (L42_0_2_s a1 a2 a3 a4 a5 v1) = evH prg 3 [1, 3, 5, 10, 11, 12, 67, 68, 69] ir42_l0 (L42_0_2_s a1 a2 a3 a4 a5 s)) r := by
 unfold L42_0_2 at h
 refine bi h (fun h1 h => ?_) fun h1 h => ?_
 ·
  refine bn h fun x2 h2 h => ?_
  refine bi h (fun h3 h => ?_) fun h3 h => ?_
  ·
   refine bi h (fun h4 h => ?_) fun h4 h => ?_
   ·
    rw [← sj h]
    exact xretY (n := 30) [(70, .d true), (71, .v (.ro (eSym x2))), (76, .d true), (80, .d true), (6000, .d true)] (apc (cv h1) (apc (ig eSym 6 .i64 h2) (apc (cv h3) (apc (cv h4) apn)))) (by kernel_rfl)
   ·
    refine bi h (fun h5 h => ?_) fun h5 h => ?_
    ·
     rw [← sj h]
     exact xretY (n := 30) [(70, .d true), (71, .v (.ro (eSym x2))), (76, .d true), (80, .d false), (84, .d true), (6000, .d true)] (apc (cv h1) (apc (ig eSym 6 .i64 h2) (apc (cv h3) (apc (cv h4) (apc (cv h5) apn))))) (by kernel_rfl)
    ·
     rw [← sj h]
     exact rnd (n := 30) [(70, .d true), (71, .v (.ro (eSym x2))), (76, .d true), (80, .d false), (84, .d false), (6000, .d true)] (apc (cv h1) (apc (ig eSym 6 .i64 h2) (apc (cv h3) (apc (cv h4) (apc (cv h5) (apc ((okT_of rfl (abl_cons rfl (abl_cons abl_row (abl_cons rfl rfl)))) : okT 3 (L42_0_2_d0 a1 a4 x2) = true) apn)))))) (by kernel_rfl)
  ·
   refine bi h (fun h4 h => ?_) fun h4 h => ?_
   ·
    refine bi h (fun h5 h => ?_) fun h5 h => ?_
    ·
     rw [← sj h]
     exact xretY (n := 30) [(70, .d true), (71, .v (.ro (eSym x2))), (76, .d false), (87, .d true), (91, .d true), (6000, .d true)] (apc (cv h1) (apc (ig eSym 6 .i64 h2) (apc (cv h3) (apc (cv h4) (apc (cv h5) apn))))) (by kernel_rfl)
    ·
     refine bn h fun x6 h6 h => ?_
     refine bi h (fun h7 h => ?_) fun h7 h => ?_
     ·
      have q5 := ((((F67_2_ok x2 a1 h6).own rfl (purAs_cons rfl (purAs_cons (purA_ptr rfl (mapO_con rfl (mapO_con rfl (mapO_con rfl (mapO_con rfl (mapO_con rfl rfl)))))) purAs_nil)) rfl).trans (congrArg (fun z => some (vb z)) h7)) : CP prg 67 [(i6 x2.sort), (.ptr 0 0)] (L42_0_2_d0 a1 a4 x2) = some (vb true))
      refine bi h (fun h8 h => ?_) fun h8 h => ?_
      ·
       rw [← sj h]
       exact xretY (n := 30) [(70, .d true), (71, .v (.ro (eSym x2))), (76, .d false), (87, .d true), (91, .d false), (96, .v (vb true)), (102, .d true), (6000, .d true)] (apc (cv h1) (apc (ig eSym 6 .i64 h2) (apc (cv h3) (apc (cv h4) (apc (cv h5) (apc q5 (apc (cv h8) apn))))))) (by kernel_rfl)
      ·
       rw [← sj h]
       exact rnd (n := 30) [(70, .d true), (71, .v (.ro (eSym x2))), (76, .d false), (87, .d true), (91, .d false), (96, .v (vb true)), (102, .d false), (6000, .d true)] (apc (cv h1) (apc (ig eSym 6 .i64 h2) (apc (cv h3) (apc (cv h4) (apc (cv h5) (apc q5 (apc (cv h8) (apc ((okT_of rfl (abl_cons rfl (abl_cons abl_row (abl_cons rfl rfl)))) : okT 3 (L42_0_2_d0 a1 a4 x2) = true) apn)))))))) (by kernel_rfl)
     ·
      rw [← sj h]
      exact xretY (n := 30) [(70, .d true), (71, .v (.ro (eSym x2))), (76, .d false), (87, .d true), (91, .d false), (96, .v (vb false)), (6000, .d true)] (apc (cv h1) (apc (ig eSym 6 .i64 h2) (apc (cv h3) (apc (cv h4) (apc (cv h5) (apc ((((F67_2_ok x2 a1 h6).own rfl (purAs_cons rfl (purAs_cons (purA_ptr rfl (mapO_con rfl (mapO_con rfl (mapO_con rfl (mapO_con rfl (mapO_con rfl rfl)))))) purAs_nil)) rfl).trans (congrArg (fun z => some (vb z)) h7)) : CP prg 67 [(i6 x2.sort), (.ptr 0 0)] (L42_0_2_d0 a1 a4 x2) = some (vb false)) apn)))))) (by kernel_rfl)
   ·
    rw [← sj h]
    exact xretY (n := 30) [(70, .d true), (71, .v (.ro (eSym x2))), (76, .d false), (87, .d false), (6000, .d true)] (apc (cv h1) (apc (ig eSym 6 .i64 h2) (apc (cv h3) (apc (cv h4) apn)))) (by kernel_rfl)
 ·
  rw [← sj h]
  exact xbrk (n := 30) [(70, .d false), (6000, .d true)] (apc (cv h1) apn) (by kernel_rfl)
theorem L42_0_2_run (a1 : GramD) (a2 : Int) (a3 : Int) (a4 : ProdD) (a5 : Int) (s0 : Int) (e : E_L42_0_2) (h : runL (fun s => L42_0_2 a1 a4 a5 s) s0 = some e) : L42_0_2_x a1 a2 a3 a4 a5 e (evH prg 3 [1, 3, 5, 10, 11, 12, 67, 68, 69] ir42_l0 (L42_0_2_s a1 a2 a3 a4 a5 s0)) := by
  have q := @loop_sound' (Int) E_L42_0_2 (fun s => L42_0_2 a1 a4 a5 s) (fun s => evH prg 3 [1, 3, 5, 10, 11, 12, 67, 68, 69] ir42_l0 (L42_0_2_s a1 a2 a3 a4 a5 s)) (L42_0_2_x a1 a2 a3 a4 a5) (fun s r h => L42_0_2_ok a1 a2 a3 a4 a5 s h) s0 e h
  exact q
inductive E_L42_1 where
  | k0
  | k1
noncomputable def L42_1 (a1 : GramD) (a2 : Int) (v1 : Int) : Option (E_L42_1 ⊕ (Int)) :=
  (bif (decide (v1 < a2)) then ((getI a1.prods v1).bind fun x2 => ((F67 x2 a1).bind fun x3 => (bif x3 then (bif (decide ((x2.right.length : Int) > 30)) then (some (.inl (.k0))) else (bif (decide (x2.role < 0)) then (some (.inl (.k0))) else (bif (decide (x2.role > 11)) then (some (.inl (.k0))) else (bif (decide (x2.frm < (-1))) then (some (.inl (.k0))) else (bif (decide ((x2.cons.size : Int) > 64)) then (some (.inl (.k0))) else (bif (!(x2.cons.toList == (⟨([] : List UInt8).toArray⟩ : ByteArray).toList)) then (bif (x2.role != 0) then (some (.inl (.k0))) else (bif x2.prefer then (bif x2.avoid then (some (.inl (.k0))) else ((runL (fun s => L42_0_2 a1 x2 (x2.right.length : Int) s) 0).bind fun r14 => match r14 with | .k0 => (some (.inl (.k0))) | .k1 => (some (.inr ((IntKind.wrap .i64 (v1 + 1))))))) else ((runL (fun s => L42_0_2 a1 x2 (x2.right.length : Int) s) 0).bind fun r13 => match r13 with | .k0 => (some (.inl (.k0))) | .k1 => (some (.inr ((IntKind.wrap .i64 (v1 + 1)))))))) else (bif x2.prefer then (bif x2.avoid then (some (.inl (.k0))) else ((runL (fun s => L42_0_2 a1 x2 (x2.right.length : Int) s) 0).bind fun r13 => match r13 with | .k0 => (some (.inl (.k0))) | .k1 => (some (.inr ((IntKind.wrap .i64 (v1 + 1))))))) else ((runL (fun s => L42_0_2 a1 x2 (x2.right.length : Int) s) 0).bind fun r12 => match r12 with | .k0 => (some (.inl (.k0))) | .k1 => (some (.inr ((IntKind.wrap .i64 (v1 + 1))))))))))))) else (some (.inl (.k0)))))) else (some (.inl (.k1))))
def L42_1_s (a1 : GramD) (a2 : Int) (v1 : Int) : St := ⟨fr 110 ug [(1, (.ptr 0 0)), (3, (.fn 67 [(.ptr 0 0)])), (10, (.p (.lst 7 (a1.prods.map eProd)))), (11, (i6 a2)), (12, (i6 v1))], [bG a1]⟩
def L42_1_x (a1 : GramD) (a2 : Int) (e : E_L42_1) (r : Option (Out × St)) : Prop := match e with | .k0 => ∃ g y, r = some (.ret, ⟨fr 110 g [(2, (vb false))], y⟩) | .k1 => ∃ g, r = some ((.brk 0), ⟨fr 110 g [(1, (.ptr 0 0)), (10, (.p (.lst 7 (a1.prods.map eProd))))], [bG a1]⟩)
abbrev L42_1_d0 (a1 : GramD) (x2 : ProdD) : List AB := [bG a1, .row 68 6 0 (ra eSym []), bP x2]
abbrev L42_1_d1 (g14 : Nat → AV) (a1 : GramD) (a2 : Int) (v1 : Int) (x2 : ProdD) : St := ⟨fr 110 g14 [(1, (.ptr 0 0)), (3, (.fn 67 [(.ptr 0 0)])), (5, (.ptr 2 0)), (10, (.p (.lst 7 (a1.prods.map eProd)))), (11, (i6 a2)), (12, (i6 v1)), (67, (.p (.lst 6 (x2.right.map eSym))))], [bG a1, .row 68 6 0 (ra eSym []), bP x2]⟩
abbrev L42_1_d2 (g13 : Nat → AV) (a1 : GramD) (a2 : Int) (v1 : Int) (x2 : ProdD) : St := ⟨fr 110 g13 [(1, (.ptr 0 0)), (3, (.fn 67 [(.ptr 0 0)])), (5, (.ptr 2 0)), (10, (.p (.lst 7 (a1.prods.map eProd)))), (11, (i6 a2)), (12, (i6 v1)), (67, (.p (.lst 6 (x2.right.map eSym))))], [bG a1, .row 68 6 0 (ra eSym []), bP x2]⟩
abbrev L42_1_d3 (g12 : Nat → AV) (a1 : GramD) (a2 : Int) (v1 : Int) (x2 : ProdD) : St := ⟨fr 110 g12 [(1, (.ptr 0 0)), (3, (.fn 67 [(.ptr 0 0)])), (5, (.ptr 2 0)), (10, (.p (.lst 7 (a1.prods.map eProd)))), (11, (i6 a2)), (12, (i6 v1)), (67, (.p (.lst 6 (x2.right.map eSym))))], [bG a1, .row 68 6 0 (ra eSym []), bP x2]⟩
theorem L42_1_ok (a1 : GramD) (a2 : Int) (v1 : Int) {r : E_L42_1 ⊕ (Int)} (h : L42_1 a1 a2 v1 = some r) : OkR (fun e => L42_1_x a1 a2 e (evH prg 1 [1, 3, 10, 11, 12] ir42_l1 (L42_1_s a1 a2 v1))) (fun s => evH prg 1 [1, 3, 10, 11, 12] ir42_l1 (L42_1_s a1 a2 v1) = evH prg 1 [1, 3, 10, 11, 12] ir42_l1 (L42_1_s a1 a2 s)) r := by
 unfold L42_1 at h
 refine bi h (fun h1 h => ?_) fun h1 h => ?_
 ·
  refine bn h fun x2 h2 h => ?_
  refine bn h fun x3 h3 h => ?_
  refine bi h (fun h4 h => ?_) fun h4 h => ?_
  ·
   have q2 := ((((F67_ok x2 a1 h3).own rfl (purAs_cons rfl (purAs_cons (purA_ptr rfl (mapO_con rfl (mapO_con rfl (mapO_con rfl (mapO_con rfl (mapO_con rfl rfl)))))) purAs_nil)) rfl).trans (congrArg (fun z => some (vb z)) h4)) : CP prg 67 [(i6 x2.left), (.ptr 0 0)] (L42_1_d0 a1 x2) = some (vb true))
   refine bi h (fun h5 h => ?_) fun h5 h => ?_
   ·
    rw [← sj h]
    exact xretY (n := 30) [(13, .d true), (14, .v (.ro (eProd x2))), (19, .v (vb true)), (24, .v (i6 (x2.right.length : Int))), (25, .d true), (6000, .d true)] (apc (cv h1) (apc (ig eProd 7 .i64 h2) (apc q2 (apc (lg x2.right eSym 6) (apc (cv h5) apn))))) (by kernel_rfl)
   ·
    refine bi h (fun h6 h => ?_) fun h6 h => ?_
    ·
     rw [← sj h]
     exact xretY (n := 30) [(13, .d true), (14, .v (.ro (eProd x2))), (19, .v (vb true)), (24, .v (i6 (x2.right.length : Int))), (25, .d false), (30, .d true), (6000, .d true)] (apc (cv h1) (apc (ig eProd 7 .i64 h2) (apc q2 (apc (lg x2.right eSym 6) (apc (cv h5) (apc (cv h6) apn)))))) (by kernel_rfl)
    ·
     refine bi h (fun h7 h => ?_) fun h7 h => ?_
     ·
      rw [← sj h]
      exact xretY (n := 30) [(13, .d true), (14, .v (.ro (eProd x2))), (19, .v (vb true)), (24, .v (i6 (x2.right.length : Int))), (25, .d false), (30, .d false), (35, .d true), (6000, .d true)] (apc (cv h1) (apc (ig eProd 7 .i64 h2) (apc q2 (apc (lg x2.right eSym 6) (apc (cv h5) (apc (cv h6) (apc (cv h7) apn))))))) (by kernel_rfl)
     ·
      refine bi h (fun h8 h => ?_) fun h8 h => ?_
      ·
       rw [← sj h]
       exact xretY (n := 30) [(13, .d true), (14, .v (.ro (eProd x2))), (19, .v (vb true)), (24, .v (i6 (x2.right.length : Int))), (25, .d false), (30, .d false), (35, .d false), (40, .d true), (6000, .d true)] (apc (cv h1) (apc (ig eProd 7 .i64 h2) (apc q2 (apc (lg x2.right eSym 6) (apc (cv h5) (apc (cv h6) (apc (cv h7) (apc (cv h8) apn)))))))) (by kernel_rfl)
      ·
       refine bi h (fun h9 h => ?_) fun h9 h => ?_
       ·
        rw [← sj h]
        exact xretY (n := 30) [(13, .d true), (14, .v (.ro (eProd x2))), (19, .v (vb true)), (24, .v (i6 (x2.right.length : Int))), (25, .d false), (30, .d false), (35, .d false), (40, .d false), (46, .d true), (6000, .d true)] (apc (cv h1) (apc (ig eProd 7 .i64 h2) (apc q2 (apc (lg x2.right eSym 6) (apc (cv h5) (apc (cv h6) (apc (cv h7) (apc (cv h8) (apc (cv h9) apn))))))))) (by kernel_rfl)
       ·
        refine bi h (fun h10 h => ?_) fun h10 h => ?_
        ·
         refine bi h (fun h11 h => ?_) fun h11 h => ?_
         ·
          rw [← sj h]
          exact xretY (n := 30) [(13, .d true), (14, .v (.ro (eProd x2))), (19, .v (vb true)), (24, .v (i6 (x2.right.length : Int))), (25, .d false), (30, .d false), (35, .d false), (40, .d false), (46, .d false), (51, .d true), (55, .d true), (6000, .d true)] (apc (cv h1) (apc (ig eProd 7 .i64 h2) (apc q2 (apc (lg x2.right eSym 6) (apc (cv h5) (apc (cv h6) (apc (cv h7) (apc (cv h8) (apc (cv h9) (apc (cv h10) (apc (cv h11) apn))))))))))) (by kernel_rfl)
         ·
          refine bi h (fun h12 h => ?_) fun h12 h => ?_
          ·
           refine bi h (fun h13 h => ?_) fun h13 h => ?_
           ·
            rw [← sj h]
            exact xretY (n := 30) [(13, .d true), (14, .v (.ro (eProd x2))), (19, .v (vb true)), (24, .v (i6 (x2.right.length : Int))), (25, .d false), (30, .d false), (35, .d false), (40, .d false), (46, .d false), (51, .d true), (55, .d false), (60, .d true), (63, .d true), (6000, .d true)] (apc (cv h1) (apc (ig eProd 7 .i64 h2) (apc q2 (apc (lg x2.right eSym 6) (apc (cv h5) (apc (cv h6) (apc (cv h7) (apc (cv h8) (apc (cv h9) (apc (cv h10) (apc (cv h11) (apc (cv h12) (apc (cv h13) apn))))))))))))) (by kernel_rfl)
           ·
            refine bn h fun r14 h14 h => ?_
            cases r14 with
            | k0 =>
             obtain ⟨g14, y14, e14⟩ := L42_0_2_run a1 a2 v1 x2 (x2.right.length : Int) 0 _ h14
             rw [← sj h]
             exact xretY (n := 30) [(13, .d true), (14, .v (.ro (eProd x2))), (19, .v (vb true)), (24, .v (i6 (x2.right.length : Int))), (25, .d false), (30, .d false), (35, .d false), (40, .d false), (46, .d false), (51, .d true), (55, .d false), (60, .d true), (63, .d false), (68, .v (i6 (x2.right.length : Int))), (2002, .l .ret ⟨fr 110 g14 [(2, (vb false))], y14⟩), (6000, .d true)] (apc (cv h1) (apc (ig eProd 7 .i64 h2) (apc q2 (apc (lg x2.right eSym 6) (apc (cv h5) (apc (cv h6) (apc (cv h7) (apc (cv h8) (apc (cv h9) (apc (cv h10) (apc (cv h11) (apc (cv h12) (apc (cv h13) (apc (lg x2.right eSym 6) (apc ((okT_of rfl (abl_cons rfl (abl_cons abl_row (abl_cons rfl rfl)))) : okT 3 (L42_1_d0 a1 x2) = true) (apc (e14 : evH prg 3 [1, 3, 5, 10, 11, 12, 67, 68, 69] ir42_l0 (L42_0_2_s a1 a2 v1 x2 (x2.right.length : Int) 0) = some (.ret, ⟨fr 110 g14 [(2, (vb false))], y14⟩)) apn)))))))))))))))) (by kernel_rfl)
            | k1 =>
             obtain ⟨g14, e14⟩ := L42_0_2_run a1 a2 v1 x2 (x2.right.length : Int) 0 _ h14
             rw [← sj h]
             exact rnd (n := 30) [(13, .d true), (14, .v (.ro (eProd x2))), (19, .v (vb true)), (24, .v (i6 (x2.right.length : Int))), (25, .d false), (30, .d false), (35, .d false), (40, .d false), (46, .d false), (51, .d true), (55, .d false), (60, .d true), (63, .d false), (68, .v (i6 (x2.right.length : Int))), (2002, .l (.brk 2) (L42_1_d1 g14 a1 a2 v1 x2)), (6000, .d true)] (apc (cv h1) (apc (ig eProd 7 .i64 h2) (apc q2 (apc (lg x2.right eSym 6) (apc (cv h5) (apc (cv h6) (apc (cv h7) (apc (cv h8) (apc (cv h9) (apc (cv h10) (apc (cv h11) (apc (cv h12) (apc (cv h13) (apc (lg x2.right eSym 6) (apc ((okT_of rfl (abl_cons rfl (abl_cons abl_row (abl_cons rfl rfl)))) : okT 3 (L42_1_d0 a1 x2) = true) (apc (e14 : evH prg 3 [1, 3, 5, 10, 11, 12, 67, 68, 69] ir42_l0 (L42_0_2_s a1 a2 v1 x2 (x2.right.length : Int) 0) = some ((.brk 2), (L42_1_d1 g14 a1 a2 v1 x2))) (apc ((okT_of rfl (abl_cons rfl rfl)) : okT 1 (L42_1_d0 a1 x2) = true) apn))))))))))))))))) (by kernel_rfl)
          ·
           refine bn h fun r13 h13 h => ?_
           cases r13 with
           | k0 =>
            obtain ⟨g13, y13, e13⟩ := L42_0_2_run a1 a2 v1 x2 (x2.right.length : Int) 0 _ h13
            rw [← sj h]
            exact xretY (n := 30) [(13, .d true), (14, .v (.ro (eProd x2))), (19, .v (vb true)), (24, .v (i6 (x2.right.length : Int))), (25, .d false), (30, .d false), (35, .d false), (40, .d false), (46, .d false), (51, .d true), (55, .d false), (60, .d false), (68, .v (i6 (x2.right.length : Int))), (2002, .l .ret ⟨fr 110 g13 [(2, (vb false))], y13⟩), (6000, .d true)] (apc (cv h1) (apc (ig eProd 7 .i64 h2) (apc q2 (apc (lg x2.right eSym 6) (apc (cv h5) (apc (cv h6) (apc (cv h7) (apc (cv h8) (apc (cv h9) (apc (cv h10) (apc (cv h11) (apc (cv h12) (apc (lg x2.right eSym 6) (apc ((okT_of rfl (abl_cons rfl (abl_cons abl_row (abl_cons rfl rfl)))) : okT 3 (L42_1_d0 a1 x2) = true) (apc (e13 : evH prg 3 [1, 3, 5, 10, 11, 12, 67, 68, 69] ir42_l0 (L42_0_2_s a1 a2 v1 x2 (x2.right.length : Int) 0) = some (.ret, ⟨fr 110 g13 [(2, (vb false))], y13⟩)) apn))))))))))))))) (by kernel_rfl)
           | k1 =>
            obtain ⟨g13, e13⟩ := L42_0_2_run a1 a2 v1 x2 (x2.right.length : Int) 0 _ h13
            rw [← sj h]
            exact rnd (n := 30) [(13, .d true), (14, .v (.ro (eProd x2))), (19, .v (vb true)), (24, .v (i6 (x2.right.length : Int))), (25, .d false), (30, .d false), (35, .d false), (40, .d false), (46, .d false), (51, .d true), (55, .d false), (60, .d false), (68, .v (i6 (x2.right.length : Int))), (2002, .l (.brk 2) (L42_1_d2 g13 a1 a2 v1 x2)), (6000, .d true)] (apc (cv h1) (apc (ig eProd 7 .i64 h2) (apc q2 (apc (lg x2.right eSym 6) (apc (cv h5) (apc (cv h6) (apc (cv h7) (apc (cv h8) (apc (cv h9) (apc (cv h10) (apc (cv h11) (apc (cv h12) (apc (lg x2.right eSym 6) (apc ((okT_of rfl (abl_cons rfl (abl_cons abl_row (abl_cons rfl rfl)))) : okT 3 (L42_1_d0 a1 x2) = true) (apc (e13 : evH prg 3 [1, 3, 5, 10, 11, 12, 67, 68, 69] ir42_l0 (L42_0_2_s a1 a2 v1 x2 (x2.right.length : Int) 0) = some ((.brk 2), (L42_1_d2 g13 a1 a2 v1 x2))) (apc ((okT_of rfl (abl_cons rfl rfl)) : okT 1 (L42_1_d0 a1 x2) = true) apn)))))))))))))))) (by kernel_rfl)
        ·
         refine bi h (fun h11 h => ?_) fun h11 h => ?_
         ·
          refine bi h (fun h12 h => ?_) fun h12 h => ?_
          ·
           rw [← sj h]
           exact xretY (n := 30) [(13, .d true), (14, .v (.ro (eProd x2))), (19, .v (vb true)), (24, .v (i6 (x2.right.length : Int))), (25, .d false), (30, .d false), (35, .d false), (40, .d false), (46, .d false), (51, .d false), (60, .d true), (63, .d true), (6000, .d true)] (apc (cv h1) (apc (ig eProd 7 .i64 h2) (apc q2 (apc (lg x2.right eSym 6) (apc (cv h5) (apc (cv h6) (apc (cv h7) (apc (cv h8) (apc (cv h9) (apc (cv h10) (apc (cv h11) (apc (cv h12) apn)))))))))))) (by kernel_rfl)
          ·
           refine bn h fun r13 h13 h => ?_
           cases r13 with
           | k0 =>
            obtain ⟨g13, y13, e13⟩ := L42_0_2_run a1 a2 v1 x2 (x2.right.length : Int) 0 _ h13
            rw [← sj h]
            exact xretY (n := 30) [(13, .d true), (14, .v (.ro (eProd x2))), (19, .v (vb true)), (24, .v (i6 (x2.right.length : Int))), (25, .d false), (30, .d false), (35, .d false), (40, .d false), (46, .d false), (51, .d false), (60, .d true), (63, .d false), (68, .v (i6 (x2.right.length : Int))), (2002, .l .ret ⟨fr 110 g13 [(2, (vb false))], y13⟩), (6000, .d true)] (apc (cv h1) (apc (ig eProd 7 .i64 h2) (apc q2 (apc (lg x2.right eSym 6) (apc (cv h5) (apc (cv h6) (apc (cv h7) (apc (cv h8) (apc (cv h9) (apc (cv h10) (apc (cv h11) (apc (cv h12) (apc (lg x2.right eSym 6) (apc ((okT_of rfl (abl_cons rfl (abl_cons abl_row (abl_cons rfl rfl)))) : okT 3 (L42_1_d0 a1 x2) = true) (apc (e13 : evH prg 3 [1, 3, 5, 10, 11, 12, 67, 68, 69] ir42_l0 (L42_0_2_s a1 a2 v1 x2 (x2.right.length : Int) 0) = some (.ret, ⟨fr 110 g13 [(2, (vb false))], y13⟩)) apn))))))))))))))) (by kernel_rfl)
           | k1 =>
            obtain ⟨g13, e13⟩ := L42_0_2_run a1 a2 v1 x2 (x2.right.length : Int) 0 _ h13
            rw [← sj h]
            exact rnd (n := 30) [(13, .d true), (14, .v (.ro (eProd x2))), (19, .v (vb true)), (24, .v (i6 (x2.right.length : Int))), (25, .d false), (30, .d false), (35, .d false), (40, .d false), (46, .d false), (51, .d false), (60, .d true), (63, .d false), (68, .v (i6 (x2.right.length : Int))), (2002, .l (.brk 2) (L42_1_d2 g13 a1 a2 v1 x2)), (6000, .d true)] (apc (cv h1) (apc (ig eProd 7 .i64 h2) (apc q2 (apc (lg x2.right eSym 6) (apc (cv h5) (apc (cv h6) (apc (cv h7) (apc (cv h8) (apc (cv h9) (apc (cv h10) (apc (cv h11) (apc (cv h12) (apc (lg x2.right eSym 6) (apc ((okT_of rfl (abl_cons rfl (abl_cons abl_row (abl_cons rfl rfl)))) : okT 3 (L42_1_d0 a1 x2) = true) (apc (e13 : evH prg 3 [1, 3, 5, 10, 11, 12, 67, 68, 69] ir42_l0 (L42_0_2_s a1 a2 v1 x2 (x2.right.length : Int) 0) = some ((.brk 2), (L42_1_d2 g13 a1 a2 v1 x2))) (apc ((okT_of rfl (abl_cons rfl rfl)) : okT 1 (L42_1_d0 a1 x2) = true) apn)))))))))))))))) (by kernel_rfl)
         ·
          refine bn h fun r12 h12 h => ?_
          cases r12 with
          | k0 =>
           obtain ⟨g12, y12, e12⟩ := L42_0_2_run a1 a2 v1 x2 (x2.right.length : Int) 0 _ h12
           rw [← sj h]
           exact xretY (n := 30) [(13, .d true), (14, .v (.ro (eProd x2))), (19, .v (vb true)), (24, .v (i6 (x2.right.length : Int))), (25, .d false), (30, .d false), (35, .d false), (40, .d false), (46, .d false), (51, .d false), (60, .d false), (68, .v (i6 (x2.right.length : Int))), (2002, .l .ret ⟨fr 110 g12 [(2, (vb false))], y12⟩), (6000, .d true)] (apc (cv h1) (apc (ig eProd 7 .i64 h2) (apc q2 (apc (lg x2.right eSym 6) (apc (cv h5) (apc (cv h6) (apc (cv h7) (apc (cv h8) (apc (cv h9) (apc (cv h10) (apc (cv h11) (apc (lg x2.right eSym 6) (apc ((okT_of rfl (abl_cons rfl (abl_cons abl_row (abl_cons rfl rfl)))) : okT 3 (L42_1_d0 a1 x2) = true) (apc (e12 : evH prg 3 [1, 3, 5, 10, 11, 12, 67, 68, 69] ir42_l0 (L42_0_2_s a1 a2 v1 x2 (x2.right.length : Int) 0) = some (.ret, ⟨fr 110 g12 [(2, (vb false))], y12⟩)) apn)))))))))))))) (by kernel_rfl)
          | k1 =>
           obtain ⟨g12, e12⟩ := L42_0_2_run a1 a2 v1 x2 (x2.right.length : Int) 0 _ h12
           rw [← sj h]
           exact rnd (n := 30) [(13, .d true), (14, .v (.ro (eProd x2))), (19, .v (vb true)), (24, .v (i6 (x2.right.length : Int))), (25, .d false), (30, .d false), (35, .d false), (40, .d false), (46, .d false), (51, .d false), (60, .d false), (68, .v (i6 (x2.right.length : Int))), (2002, .l (.brk 2) (L42_1_d3 g12 a1 a2 v1 x2)), (6000, .d true)] (apc (cv h1) (apc (ig eProd 7 .i64 h2) (apc q2 (apc (lg x2.right eSym 6) (apc (cv h5) (apc (cv h6) (apc (cv h7) (apc (cv h8) (apc (cv h9) (apc (cv h10) (apc (cv h11) (apc (lg x2.right eSym 6) (apc ((okT_of rfl (abl_cons rfl (abl_cons abl_row (abl_cons rfl rfl)))) : okT 3 (L42_1_d0 a1 x2) = true) (apc (e12 : evH prg 3 [1, 3, 5, 10, 11, 12, 67, 68, 69] ir42_l0 (L42_0_2_s a1 a2 v1 x2 (x2.right.length : Int) 0) = some ((.brk 2), (L42_1_d3 g12 a1 a2 v1 x2))) (apc ((okT_of rfl (abl_cons rfl rfl)) : okT 1 (L42_1_d0 a1 x2) = true) apn))))))))))))))) (by kernel_rfl)
  ·
   rw [← sj h]
   exact xretY (n := 30) [(13, .d true), (14, .v (.ro (eProd x2))), (19, .v (vb false)), (6000, .d true)] (apc (cv h1) (apc (ig eProd 7 .i64 h2) (apc ((((F67_ok x2 a1 h3).own rfl (purAs_cons rfl (purAs_cons (purA_ptr rfl (mapO_con rfl (mapO_con rfl (mapO_con rfl (mapO_con rfl (mapO_con rfl rfl)))))) purAs_nil)) rfl).trans (congrArg (fun z => some (vb z)) h4)) : CP prg 67 [(i6 x2.left), (.ptr 0 0)] (L42_1_d0 a1 x2) = some (vb false)) apn))) (by kernel_rfl)
 ·
  rw [← sj h]
  exact xbrk (n := 30) [(13, .d false), (6000, .d true)] (apc (cv h1) apn) (by kernel_rfl)
theorem L42_1_run (a1 : GramD) (a2 : Int) (s0 : Int) (e : E_L42_1) (h : runL (fun s => L42_1 a1 a2 s) s0 = some e) : L42_1_x a1 a2 e (evH prg 1 [1, 3, 10, 11, 12] ir42_l1 (L42_1_s a1 a2 s0)) := by
  have q := @loop_sound' (Int) E_L42_1 (fun s => L42_1 a1 a2 s) (fun s => evH prg 1 [1, 3, 10, 11, 12] ir42_l1 (L42_1_s a1 a2 s)) (L42_1_x a1 a2) (fun s r h => L42_1_ok a1 a2 s h) s0 e h
  exact q
def F42_v (a1 : GramD) (x0 : Bool) : AV := (vb x0)
noncomputable def F42 (a1 : GramD) : Option Bool :=
  ((runL (fun s => L42_1 a1 (a1.prods.length : Int) s) 0).bind fun r1 => match r1 with | .k0 => (some false) | .k1 => (some (decide ((a1.prods.length : Int) ≤ 1000))))
abbrev F42_d0 (g1 : Nat → AV) (a1 : GramD) : St := ⟨fr 110 g1 [(1, (.ptr 0 0)), (10, (.p (.lst 7 (a1.prods.map eProd))))], [bG a1]⟩
theorem F42_ok (a1 : GramD) {r : Bool} (h : F42 a1 = some r) : PR1 prg 42 [(aG a1)] (F42_v a1 r) := by
 unfold F42 at h
 refine bn h fun r1 h1 h => ?_
 cases r1 with
 | k0 =>
  obtain ⟨g1, y1, e1⟩ := L42_1_run a1 (a1.prods.length : Int) 0 _ h1
  rw [← sj h]
  exact fpr (n := 30) [(11, .v (i6 (a1.prods.length : Int))), (2000, .l .ret ⟨fr 110 g1 [(2, (vb false))], y1⟩), (6000, .d true)] (apc (lg a1.prods eProd 7) (apc ((okT_of rfl (abl_cons rfl rfl)) : okT 1 [bG a1] = true) (apc (e1 : evH prg 1 [1, 3, 10, 11, 12] ir42_l1 (L42_1_s a1 (a1.prods.length : Int) 0) = some (.ret, ⟨fr 110 g1 [(2, (vb false))], y1⟩)) apn))) rfl (by kernel_rfl)
 | k1 =>
  obtain ⟨g1, e1⟩ := L42_1_run a1 (a1.prods.length : Int) 0 _ h1
  rw [← sj h]
  exact fpr (n := 30) [(11, .v (i6 (a1.prods.length : Int))), (2000, .l (.brk 0) (F42_d0 g1 a1)), (108, .v (i6 (a1.prods.length : Int))), (6000, .d true)] (apc (lg a1.prods eProd 7) (apc ((okT_of rfl (abl_cons rfl rfl)) : okT 1 [bG a1] = true) (apc (e1 : evH prg 1 [1, 3, 10, 11, 12] ir42_l1 (L42_1_s a1 (a1.prods.length : Int) 0) = some ((.brk 0), (F42_d0 g1 a1))) (apc (lg a1.prods eProd 7) apn)))) rfl (by kernel_rfl)
def F68_v (a1 : ForbD) (a2 : GramD) (x0 : Bool) : AV := (vb x0)
noncomputable def F68 (a1 : ForbD) (a2 : GramD) : Option Bool :=
  (bif (decide (a1.parent ≥ 0)) then (bif (decide (a1.parent < (a2.prods.length : Int))) then ((getI a2.prods a1.parent).bind fun x3 => (some (x3.role != 11))) else (some false)) else (some false))
theorem F68_ok (a1 : ForbD) (a2 : GramD) {r : Bool} (h : F68 a1 a2 = some r) : PR1 prg 68 [(i6 a1.parent), (.ro (eGram a2))] (F68_v a1 a2 r) := by
 unfold F68 at h
 refine bi h (fun h1 h => ?_) fun h1 h => ?_
 ·
  refine bi h (fun h2 h => ?_) fun h2 h => ?_
  ·
   refine bn h fun x3 h3 h => ?_
   rw [← sj h]
   exact fpr (n := 30) [(5, .d true), (10, .v (i6 (a2.prods.length : Int))), (11, .d true), (17, .v (.ro (eProd x3)))] (apc (cv h1) (apc (lg a2.prods eProd 7) (apc (cv h2) (apc (ig eProd 7 .i64 h3) apn)))) rfl (by kernel_rfl)
  ·
   rw [← sj h]
   exact fpr (n := 30) [(5, .d true), (10, .v (i6 (a2.prods.length : Int))), (11, .d false)] (apc (cv h1) (apc (lg a2.prods eProd 7) (apc (cv h2) apn))) rfl (by kernel_rfl)
 ·
  rw [← sj h]
  exact fpr (n := 30) [(5, .d false)] (apc (cv h1) apn) rfl (by kernel_rfl)
def F68_2_v (a1 : ForbD) (a2 : GramD) (x0 : Bool) : AV := (vb x0)
noncomputable def F68_2 (a1 : ForbD) (a2 : GramD) : Option Bool :=
  (bif (decide (a1.child ≥ 0)) then (bif (decide (a1.child < (a2.prods.length : Int))) then ((getI a2.prods a1.child).bind fun x3 => (some (x3.role != 11))) else (some false)) else (some false))
theorem F68_2_ok (a1 : ForbD) (a2 : GramD) {r : Bool} (h : F68_2 a1 a2 = some r) : PR1 prg 68 [(i6 a1.child), (.ro (eGram a2))] (F68_2_v a1 a2 r) := by
 unfold F68_2 at h
 refine bi h (fun h1 h => ?_) fun h1 h => ?_
 ·
  refine bi h (fun h2 h => ?_) fun h2 h => ?_
  ·
   refine bn h fun x3 h3 h => ?_
   rw [← sj h]
   exact fpr (n := 30) [(5, .d true), (10, .v (i6 (a2.prods.length : Int))), (11, .d true), (17, .v (.ro (eProd x3)))] (apc (cv h1) (apc (lg a2.prods eProd 7) (apc (cv h2) (apc (ig eProd 7 .i64 h3) apn)))) rfl (by kernel_rfl)
  ·
   rw [← sj h]
   exact fpr (n := 30) [(5, .d true), (10, .v (i6 (a2.prods.length : Int))), (11, .d false)] (apc (cv h1) (apc (lg a2.prods eProd 7) (apc (cv h2) apn))) rfl (by kernel_rfl)
 ·
  rw [← sj h]
  exact fpr (n := 30) [(5, .d false)] (apc (cv h1) apn) rfl (by kernel_rfl)
inductive E_L43_0 where
  | k0
  | k1 (x0 : List ((Int × Int × Int) × Int))
noncomputable def L43_0 (a1 : GramD) (a2 : Int) (v1 : Int) (v2 : List ((Int × Int × Int) × Int)) : Option (E_L43_0 ⊕ (Int × (List ((Int × Int × Int) × Int)))) :=
  (bif (decide (v1 < a2)) then ((getI a1.forbid v1).bind fun x2 => (bif (decide ((mget 0 (mput (x2.parent, x2.at_, x2.child) (IntKind.wrap .i64 ((mget 0 v2 (x2.parent, x2.at_, x2.child)) + 1)) v2) (x2.parent, x2.at_, x2.child)) > 1)) then (some (.inl (.k0))) else ((F68 x2 a1).bind fun x4 => (bif x4 then ((F68_2 x2 a1).bind fun x6 => (bif x6 then (bif (decide (x2.at_ < 1)) then (some (.inl (.k0))) else ((getI a1.prods x2.parent).bind fun x9 => (bif (decide (x2.at_ > (x9.right.length : Int))) then (some (.inl (.k0))) else ((getI x9.right (IntKind.wrap .i64 (x2.at_ - 1))).bind fun x11 => (bif (x11.kind != 1) then (some (.inl (.k0))) else ((getI a1.prods x2.child).bind fun x13 => (bif (x11.sort != x13.left) then (some (.inl (.k0))) else (some (.inr ((IntKind.wrap .i64 (v1 + 1)), (mput (x2.parent, x2.at_, x2.child) (IntKind.wrap .i64 ((mget 0 v2 (x2.parent, x2.at_, x2.child)) + 1)) v2))))))))))) else (some (.inl (.k0))))) else (some (.inl (.k0))))))) else (some (.inl (.k1 v2))))
def L43_0_s (a1 : GramD) (a2 : Int) (v1 : Int) (v2 : List ((Int × Int × Int) × Int)) : St := ⟨fr 87 ug [(1, (.ptr 0 0)), (3, (.mp 1)), (4, (.fn 68 [(.ptr 0 0)])), (11, (.p (.lst 3 (a1.forbid.map eForb)))), (12, (i6 a2)), (13, (i6 v1))], [bG a1, .map (mrow (fun n => .agg [vi .i64 n.1, vi .i64 n.2.1, vi .i64 n.2.2]) (fun n => vi .i64 n) v2)]⟩
def L43_0_x (a1 : GramD) (a2 : Int) (e : E_L43_0) (r : Option (Out × St)) : Prop := match e with | .k0 => ∃ g y, r = some (.ret, ⟨fr 87 g [(2, (vb false))], y⟩) | .k1 x0 => ∃ g, r = some ((.brk 0), ⟨fr 87 g [(1, (.ptr 0 0)), (11, (.p (.lst 3 (a1.forbid.map eForb))))], [bG a1, .map (mrow (fun n => .agg [vi .i64 n.1, vi .i64 n.2.1, vi .i64 n.2.2]) (fun n => vi .i64 n) x0)]⟩)
abbrev L43_0_d0 (a1 : GramD) (v2 : List ((Int × Int × Int) × Int)) (x2 : ForbD) : List AB := [bG a1, .map (mrow (fun n => .agg [vi .i64 n.1, vi .i64 n.2.1, vi .i64 n.2.2]) (fun n => vi .i64 n) v2), .cells 78 ((eForb x2).map .p)]
abbrev L43_0_d1 (a1 : GramD) (v2 : List ((Int × Int × Int) × Int)) (x2 : ForbD) : List AB := [bG a1, .map (mrow (fun n => .agg [vi .i64 n.1, vi .i64 n.2.1, vi .i64 n.2.2]) (fun n => vi .i64 n) (ment 0 v2 (x2.parent, x2.at_, x2.child))), .cells 78 ((eForb x2).map .p)]
abbrev L43_0_d2 (a1 : GramD) (x2 : ForbD) (v2 : List ((Int × Int × Int) × Int)) : List AB := [bG a1, .map (mrow (fun n => .agg [vi .i64 n.1, vi .i64 n.2.1, vi .i64 n.2.2]) (fun n => vi .i64 n) (mput (x2.parent, x2.at_, x2.child) (w6 ((mget 0 v2 (x2.parent, x2.at_, x2.child)) + 1)) v2)), .cells 78 ((eForb x2).map .p)]
abbrev L43_0_c0 (x2 : ForbD) (v2 : List ((Int × Int × Int) × Int)) (a1 : GramD) : List (Nat × Hint) := [(15, .v (.ro (eForb x2))), (19, .v (i6 (mget 0 v2 (x2.parent, x2.at_, x2.child)))), (21, .r (.tup [(i6 (mget 0 v2 (x2.parent, x2.at_, x2.child))), (i6 (midx v2 (x2.parent, x2.at_, x2.child) : Int))]) (L43_0_d1 a1 v2 x2)), (8020, .r ud (L43_0_d2 a1 x2 v2)), (25, .v (i6 (mget 0 (mput (x2.parent, x2.at_, x2.child) (w6 ((mget 0 v2 (x2.parent, x2.at_, x2.child)) + 1)) v2) (x2.parent, x2.at_, x2.child))))]
theorem L43_0_ok (a1 : GramD) (a2 : Int) (v1 : Int) (v2 : List ((Int × Int × Int) × Int)) {r : E_L43_0 ⊕ (Int × (List ((Int × Int × Int) × Int)))} (h : L43_0 a1 a2 v1 v2 = some r) : OkR (fun e => L43_0_x a1 a2 e (evH prg 2 [1, 3, 4, 11, 12, 13] ir43_l0 (L43_0_s a1 a2 v1 v2))) (fun s => evH prg 2 [1, 3, 4, 11, 12, 13] ir43_l0 (L43_0_s a1 a2 v1 v2) = evH prg 2 [1, 3, 4, 11, 12, 13] ir43_l0 (L43_0_s a1 a2 s.1 s.2)) r := by
 unfold L43_0 at h
 refine bi h (fun h1 h => ?_) fun h1 h => ?_
 ·
  refine bn h fun x2 h2 h => ?_
  have q2 := ((lk_row key_int3 (es := v2) (k := (x2.parent, x2.at_, x2.child)) (z := 0) rfl rfl) : lkA (L43_0_d0 a1 v2 x2) [1, 1, 1] .true .false [(.val (.int .i64 0))] .false (.mp 1) (.agg ((eForb x2).map .p)) = some (i6 (mget 0 v2 (x2.parent, x2.at_, x2.child))))
  have q3 := ((en_row key_int3 (es := v2) (k := (x2.parent, x2.at_, x2.child)) (z := 0) rfl rfl) : enA (L43_0_d0 a1 v2 x2) [1, 1, 1] .true .false [(.val (.int .i64 0))] (.mp 1) (.agg ((eForb x2).map .p)) = some ((.tup [(i6 (mget 0 v2 (x2.parent, x2.at_, x2.child))), (i6 (midx v2 (x2.parent, x2.at_, x2.child) : Int))]), (L43_0_d1 a1 v2 x2)))
  have q4 := (⟨es_row key_int3 (es := v2) (k := (x2.parent, x2.at_, x2.child)) (v := (w6 ((mget 0 v2 (x2.parent, x2.at_, x2.child)) + 1))) (z := 0) rfl, rfl⟩ : esA (L43_0_d1 a1 v2 x2) (.mp 1) (i6 (midx v2 (x2.parent, x2.at_, x2.child) : Int)) (i6 (w6 ((mget 0 v2 (x2.parent, x2.at_, x2.child)) + 1))) = some (L43_0_d2 a1 x2 v2) ∧ ud = ud)
  have q5 := ((lk_row key_int3 (es := (mput (x2.parent, x2.at_, x2.child) (w6 ((mget 0 v2 (x2.parent, x2.at_, x2.child)) + 1)) v2)) (k := (x2.parent, x2.at_, x2.child)) (z := 0) rfl rfl) : lkA (L43_0_d2 a1 x2 v2) [1, 1, 1] .true .false [(.val (.int .i64 0))] .false (.mp 1) (.agg ((eForb x2).map .p)) = some (i6 (mget 0 (mput (x2.parent, x2.at_, x2.child) (w6 ((mget 0 v2 (x2.parent, x2.at_, x2.child)) + 1)) v2) (x2.parent, x2.at_, x2.child))))
  refine bi h (fun h3 h => ?_) fun h3 h => ?_
  ·
   rw [← sj h]
   exact xretY (n := 30) ([(14, .d true)] ++ ((L43_0_c0 x2 v2 a1) ++ [(26, .d true), (6000, .d true)])) (apc (cv h1) (apc (ig eForb 3 .i64 h2) (apc q2 (apc q3 (apc q4 (apc q5 (apc (cv h3) apn))))))) (by kernel_rfl)
  ·
   refine bn h fun x4 h4 h => ?_
   refine bi h (fun h5 h => ?_) fun h5 h => ?_
   ·
    have q7 := ((((F68_ok x2 a1 h4).own rfl (purAs_cons rfl (purAs_cons (purA_ptr rfl (mapO_con rfl (mapO_con rfl (mapO_con rfl (mapO_con rfl (mapO_con rfl rfl)))))) purAs_nil)) rfl).trans (congrArg (fun z => some (vb z)) h5)) : CP prg 68 [(i6 x2.parent), (.ptr 0 0)] (L43_0_d2 a1 x2 v2) = some (vb true))
    refine bn h fun x6 h6 h => ?_
    refine bi h (fun h7 h => ?_) fun h7 h => ?_
    ·
     have q8 := ((((F68_2_ok x2 a1 h6).own rfl (purAs_cons rfl (purAs_cons (purA_ptr rfl (mapO_con rfl (mapO_con rfl (mapO_con rfl (mapO_con rfl (mapO_con rfl rfl)))))) purAs_nil)) rfl).trans (congrArg (fun z => some (vb z)) h7)) : CP prg 68 [(i6 x2.child), (.ptr 0 0)] (L43_0_d2 a1 x2 v2) = some (vb true))
     refine bi h (fun h8 h => ?_) fun h8 h => ?_
     ·
      rw [← sj h]
      exact xretY (n := 30) ([(14, .d true)] ++ ((L43_0_c0 x2 v2 a1) ++ [(26, .d false), (31, .v (vb true)), (38, .v (vb true)), (44, .d true), (6000, .d true)])) (apc (cv h1) (apc (ig eForb 3 .i64 h2) (apc q2 (apc q3 (apc q4 (apc q5 (apc (cv h3) (apc q7 (apc q8 (apc (cv h8) apn)))))))))) (by kernel_rfl)
     ·
      refine bn h fun x9 h9 h => ?_
      refine bi h (fun h10 h => ?_) fun h10 h => ?_
      ·
       rw [← sj h]
       exact xretY (n := 30) ([(14, .d true)] ++ ((L43_0_c0 x2 v2 a1) ++ [(26, .d false), (31, .v (vb true)), (38, .v (vb true)), (44, .d false), (53, .v (.ro (eProd x9))), (56, .v (i6 (x9.right.length : Int))), (57, .d true), (6000, .d true)])) (apc (cv h1) (apc (ig eForb 3 .i64 h2) (apc q2 (apc q3 (apc q4 (apc q5 (apc (cv h3) (apc q7 (apc q8 (apc (cv h8) (apc (ig eProd 7 .i64 h9) (apc (lg x9.right eSym 6) (apc (cv h10) apn))))))))))))) (by kernel_rfl)
      ·
       refine bn h fun x11 h11 h => ?_
       refine bi h (fun h12 h => ?_) fun h12 h => ?_
       ·
        rw [← sj h]
        exact xretY (n := 30) ([(14, .d true)] ++ ((L43_0_c0 x2 v2 a1) ++ [(26, .d false), (31, .v (vb true)), (38, .v (vb true)), (44, .d false), (53, .v (.ro (eProd x9))), (56, .v (i6 (x9.right.length : Int))), (57, .d false), (63, .v (.ro (eProd x9))), (69, .v (.ro (eSym x11))), (73, .d true), (6000, .d true)])) (apc (cv h1) (apc (ig eForb 3 .i64 h2) (apc q2 (apc q3 (apc q4 (apc q5 (apc (cv h3) (apc q7 (apc q8 (apc (cv h8) (apc (ig eProd 7 .i64 h9) (apc (lg x9.right eSym 6) (apc (cv h10) (apc (ig eProd 7 .i64 h9) (apc (ig eSym 6 .i64 h11) (apc (cv h12) apn)))))))))))))))) (by kernel_rfl)
       ·
        refine bn h fun x13 h13 h => ?_
        refine bi h (fun h14 h => ?_) fun h14 h => ?_
        ·
         rw [← sj h]
         exact xretY (n := 30) ([(14, .d true)] ++ ((L43_0_c0 x2 v2 a1) ++ [(26, .d false), (31, .v (vb true)), (38, .v (vb true)), (44, .d false), (53, .v (.ro (eProd x9))), (56, .v (i6 (x9.right.length : Int))), (57, .d false), (63, .v (.ro (eProd x9))), (69, .v (.ro (eSym x11))), (73, .d false), (81, .v (.ro (eProd x13))), (84, .d true), (6000, .d true)])) (apc (cv h1) (apc (ig eForb 3 .i64 h2) (apc q2 (apc q3 (apc q4 (apc q5 (apc (cv h3) (apc q7 (apc q8 (apc (cv h8) (apc (ig eProd 7 .i64 h9) (apc (lg x9.right eSym 6) (apc (cv h10) (apc (ig eProd 7 .i64 h9) (apc (ig eSym 6 .i64 h11) (apc (cv h12) (apc (ig eProd 7 .i64 h13) (apc (cv h14) apn)))))))))))))))))) (by kernel_rfl)
        ·
         rw [← sj h]
         exact rnd (n := 30) ([(14, .d true)] ++ ((L43_0_c0 x2 v2 a1) ++ [(26, .d false), (31, .v (vb true)), (38, .v (vb true)), (44, .d false), (53, .v (.ro (eProd x9))), (56, .v (i6 (x9.right.length : Int))), (57, .d false), (63, .v (.ro (eProd x9))), (69, .v (.ro (eSym x11))), (73, .d false), (81, .v (.ro (eProd x13))), (84, .d false), (6000, .d true)])) (apc (cv h1) (apc (ig eForb 3 .i64 h2) (apc q2 (apc q3 (apc q4 (apc q5 (apc (cv h3) (apc q7 (apc q8 (apc (cv h8) (apc (ig eProd 7 .i64 h9) (apc (lg x9.right eSym 6) (apc (cv h10) (apc (ig eProd 7 .i64 h9) (apc (ig eSym 6 .i64 h11) (apc (cv h12) (apc (ig eProd 7 .i64 h13) (apc (cv h14) (apc ((okT_of rfl (abl_cons rfl (abl_cons (abl_map (fun _ => rfl) (fun _ => rfl)) rfl))) : okT 2 [bG a1, .map (mrow (fun n => .agg [vi .i64 n.1, vi .i64 n.2.1, vi .i64 n.2.2]) (fun n => vi .i64 n) (mput (x2.parent, x2.at_, x2.child) (w6 ((mget 0 v2 (x2.parent, x2.at_, x2.child)) + 1)) v2)), .cells 78 ((eForb x2).map .p), .cells 68 ((eSym x11).map .p)] = true) apn))))))))))))))))))) (by kernel_rfl)
    ·
     rw [← sj h]
     exact xretY (n := 30) ([(14, .d true)] ++ ((L43_0_c0 x2 v2 a1) ++ [(26, .d false), (31, .v (vb true)), (38, .v (vb false)), (6000, .d true)])) (apc (cv h1) (apc (ig eForb 3 .i64 h2) (apc q2 (apc q3 (apc q4 (apc q5 (apc (cv h3) (apc q7 (apc ((((F68_2_ok x2 a1 h6).own rfl (purAs_cons rfl (purAs_cons (purA_ptr rfl (mapO_con rfl (mapO_con rfl (mapO_con rfl (mapO_con rfl (mapO_con rfl rfl)))))) purAs_nil)) rfl).trans (congrArg (fun z => some (vb z)) h7)) : CP prg 68 [(i6 x2.child), (.ptr 0 0)] (L43_0_d2 a1 x2 v2) = some (vb false)) apn))))))))) (by kernel_rfl)
   ·
    rw [← sj h]
    exact xretY (n := 30) ([(14, .d true)] ++ ((L43_0_c0 x2 v2 a1) ++ [(26, .d false), (31, .v (vb false)), (6000, .d true)])) (apc (cv h1) (apc (ig eForb 3 .i64 h2) (apc q2 (apc q3 (apc q4 (apc q5 (apc (cv h3) (apc ((((F68_ok x2 a1 h4).own rfl (purAs_cons rfl (purAs_cons (purA_ptr rfl (mapO_con rfl (mapO_con rfl (mapO_con rfl (mapO_con rfl (mapO_con rfl rfl)))))) purAs_nil)) rfl).trans (congrArg (fun z => some (vb z)) h5)) : CP prg 68 [(i6 x2.parent), (.ptr 0 0)] (L43_0_d2 a1 x2 v2) = some (vb false)) apn)))))))) (by kernel_rfl)
 ·
  rw [← sj h]
  exact xbrk (n := 30) [(14, .d false), (6000, .d true)] (apc (cv h1) apn) (by kernel_rfl)
theorem L43_0_run (a1 : GramD) (a2 : Int) (s0 : Int × (List ((Int × Int × Int) × Int))) (e : E_L43_0) (h : runL (fun s => L43_0 a1 a2 s.1 s.2) s0 = some e) : L43_0_x a1 a2 e (evH prg 2 [1, 3, 4, 11, 12, 13] ir43_l0 (L43_0_s a1 a2 s0.1 s0.2)) := by
  have q := @loop_sound' (Int × (List ((Int × Int × Int) × Int))) E_L43_0 (fun s => L43_0 a1 a2 s.1 s.2) (fun s => evH prg 2 [1, 3, 4, 11, 12, 13] ir43_l0 (L43_0_s a1 a2 s.1 s.2)) (L43_0_x a1 a2) (fun s r h => L43_0_ok a1 a2 s.1 s.2 h) s0 e h
  exact q
def F43_v (a1 : GramD) (x0 : Bool) : AV := (vb x0)
noncomputable def F43 (a1 : GramD) : Option Bool :=
  ((runL (fun s => L43_0 a1 (a1.forbid.length : Int) s.1 s.2) (0, [])).bind fun r1 => match r1 with | .k0 => (some false) | .k1 x1_0 => (some true))
abbrev F43_d0 (g1 : Nat → AV) (a1 : GramD) (x1_0 : List ((Int × Int × Int) × Int)) : St := ⟨fr 87 g1 [(1, (.ptr 0 0)), (11, (.p (.lst 3 (a1.forbid.map eForb))))], [bG a1, .map (mrow (fun n => .agg [vi .i64 n.1, vi .i64 n.2.1, vi .i64 n.2.2]) (fun n => vi .i64 n) x1_0)]⟩
theorem F43_ok (a1 : GramD) {r : Bool} (h : F43 a1 = some r) : PR1 prg 43 [(aG a1)] (F43_v a1 r) := by
 unfold F43 at h
 refine bn h fun r1 h1 h => ?_
 cases r1 with
 | k0 =>
  obtain ⟨g1, y1, e1⟩ := L43_0_run a1 (a1.forbid.length : Int) (0, []) _ h1
  rw [← sj h]
  exact fpr (n := 30) [(12, .v (i6 (a1.forbid.length : Int))), (2000, .l .ret ⟨fr 87 g1 [(2, (vb false))], y1⟩), (6000, .d true)] (apc (lg a1.forbid eForb 3) (apc ((okT_of rfl (abl_cons rfl (abl_cons rfl rfl))) : okT 2 [bG a1, .map []] = true) (apc (e1 : evH prg 2 [1, 3, 4, 11, 12, 13] ir43_l0 (L43_0_s a1 (a1.forbid.length : Int) 0 ([])) = some (.ret, ⟨fr 87 g1 [(2, (vb false))], y1⟩)) apn))) rfl (by kernel_rfl)
 | k1 x1_0 =>
  obtain ⟨g1, e1⟩ := L43_0_run a1 (a1.forbid.length : Int) (0, []) _ h1
  rw [← sj h]
  exact fpr (n := 30) [(12, .v (i6 (a1.forbid.length : Int))), (2000, .l (.brk 0) (F43_d0 g1 a1 x1_0)), (6000, .d true)] (apc (lg a1.forbid eForb 3) (apc ((okT_of rfl (abl_cons rfl (abl_cons rfl rfl))) : okT 2 [bG a1, .map []] = true) (apc (e1 : evH prg 2 [1, 3, 4, 11, 12, 13] ir43_l0 (L43_0_s a1 (a1.forbid.length : Int) 0 ([])) = some ((.brk 0), (F43_d0 g1 a1 x1_0))) apn))) rfl (by kernel_rfl)
inductive E_L44_0 where
  | k0
  | k1 (x0 : List (Int × Int))
noncomputable def L44_0 (a1 : GramD) (a2 : Int) (v1 : Int) (v2 : List (Int × Int)) : Option (E_L44_0 ⊕ (Int × (List (Int × Int)))) :=
  (bif (decide (v1 < a2)) then ((getI a1.follow v1).bind fun x2 => (bif (decide ((mget 0 (mput x2.sort (IntKind.wrap .i64 ((mget 0 v2 x2.sort) + 1)) v2) x2.sort) > 1)) then (some (.inl (.k0))) else (bif (decide (x2.sort < 0)) then (some (.inl (.k0))) else (bif (decide (x2.sort ≥ (a1.sorts.length : Int))) then (some (.inl (.k0))) else (bif ((x2.a == 0) && ((x2.b == 0) && ((x2.c == 0) && ((x2.d == 0) && true)))) then (some (.inl (.k0))) else (some (.inr ((IntKind.wrap .i64 (v1 + 1)), (mput x2.sort (IntKind.wrap .i64 ((mget 0 v2 x2.sort) + 1)) v2))))))))) else (some (.inl (.k1 v2))))
def L44_0_s (a1 : GramD) (a2 : Int) (v1 : Int) (v2 : List (Int × Int)) : St := ⟨fr 44 ug [(1, (.ptr 0 0)), (3, (.mp 1)), (8, (.p (.lst 5 (a1.follow.map eFoll)))), (9, (i6 a2)), (10, (i6 v1))], [bG a1, .map (mrow (fun n => vi .i64 n) (fun n => vi .i64 n) v2)]⟩
def L44_0_x (a1 : GramD) (a2 : Int) (e : E_L44_0) (r : Option (Out × St)) : Prop := match e with | .k0 => ∃ g y, r = some (.ret, ⟨fr 44 g [(2, (vb false))], y⟩) | .k1 x0 => ∃ g, r = some ((.brk 0), ⟨fr 44 g [(1, (.ptr 0 0)), (8, (.p (.lst 5 (a1.follow.map eFoll))))], [bG a1, .map (mrow (fun n => vi .i64 n) (fun n => vi .i64 n) x0)]⟩)
abbrev L44_0_d0 (a1 : GramD) (v2 : List (Int × Int)) (x2 : FollD) : List AB := [bG a1, .map (mrow (fun n => vi .i64 n) (fun n => vi .i64 n) v2), .cells 80 ((eFoll x2).map .p)]
abbrev L44_0_d1 (a1 : GramD) (x2 : FollD) (v2 : List (Int × Int)) : List AB := [bG a1, .map (mrow (fun n => vi .i64 n) (fun n => vi .i64 n) (mput x2.sort (w6 ((mget 0 v2 x2.sort) + 1)) v2)), .cells 80 ((eFoll x2).map .p)]
abbrev L44_0_c0 (x2 : FollD) (v2 : List (Int × Int)) (a1 : GramD) : List (Nat × Hint) := [(12, .v (.ro (eFoll x2))), (17, .v (i6 (mget 0 v2 x2.sort))), (7018, .r ud (L44_0_d1 a1 x2 v2)), (22, .v (i6 (mget 0 (mput x2.sort (w6 ((mget 0 v2 x2.sort) + 1)) v2) x2.sort)))]
theorem L44_0_ok (a1 : GramD) (a2 : Int) (v1 : Int) (v2 : List (Int × Int)) {r : E_L44_0 ⊕ (Int × (List (Int × Int)))} (h : L44_0 a1 a2 v1 v2 = some r) : OkR (fun e => L44_0_x a1 a2 e (evH prg 2 [1, 3, 8, 9, 10] ir44_l0 (L44_0_s a1 a2 v1 v2))) (fun s => evH prg 2 [1, 3, 8, 9, 10] ir44_l0 (L44_0_s a1 a2 v1 v2) = evH prg 2 [1, 3, 8, 9, 10] ir44_l0 (L44_0_s a1 a2 s.1 s.2)) r := by
 unfold L44_0 at h
 refine bi h (fun h1 h => ?_) fun h1 h => ?_
 ·
  refine bn h fun x2 h2 h => ?_
  have q2 := ((lk_row key_int (es := v2) (k := x2.sort) (z := 0) rfl rfl) : lkA (L44_0_d0 a1 v2 x2) [1] .false .false [(.val (.int .i64 0))] .false (.mp 1) (i6 x2.sort) = some (i6 (mget 0 v2 x2.sort)))
  have q3 := (⟨up_row key_int (es := v2) (k := x2.sort) (v := (w6 ((mget 0 v2 x2.sort) + 1))) rfl, rfl⟩ : upA (L44_0_d0 a1 v2 x2) [1] .false (.mp 1) (i6 x2.sort) (i6 (w6 ((mget 0 v2 x2.sort) + 1))) = some (L44_0_d1 a1 x2 v2) ∧ ud = ud)
  have q4 := ((lk_row key_int (es := (mput x2.sort (w6 ((mget 0 v2 x2.sort) + 1)) v2)) (k := x2.sort) (z := 0) rfl rfl) : lkA (L44_0_d1 a1 x2 v2) [1] .false .false [(.val (.int .i64 0))] .false (.mp 1) (i6 x2.sort) = some (i6 (mget 0 (mput x2.sort (w6 ((mget 0 v2 x2.sort) + 1)) v2) x2.sort)))
  refine bi h (fun h3 h => ?_) fun h3 h => ?_
  ·
   rw [← sj h]
   exact xretY (n := 30) ([(11, .d true)] ++ ((L44_0_c0 x2 v2 a1) ++ [(23, .d true), (6000, .d true)])) (apc (cv h1) (apc (ig eFoll 5 .i64 h2) (apc q2 (apc q3 (apc q4 (apc (cv h3) apn)))))) (by kernel_rfl)
  ·
   refine bi h (fun h4 h => ?_) fun h4 h => ?_
   ·
    rw [← sj h]
    exact xretY (n := 30) ([(11, .d true)] ++ ((L44_0_c0 x2 v2 a1) ++ [(23, .d false), (27, .d true), (6000, .d true)])) (apc (cv h1) (apc (ig eFoll 5 .i64 h2) (apc q2 (apc q3 (apc q4 (apc (cv h3) (apc (cv h4) apn))))))) (by kernel_rfl)
   ·
    refine bi h (fun h5 h => ?_) fun h5 h => ?_
    ·
     rw [← sj h]
     exact xretY (n := 30) ([(11, .d true)] ++ ((L44_0_c0 x2 v2 a1) ++ [(23, .d false), (27, .d false), (34, .v (i6 (a1.sorts.length : Int))), (35, .d true), (6000, .d true)])) (apc (cv h1) (apc (ig eFoll 5 .i64 h2) (apc q2 (apc q3 (apc q4 (apc (cv h3) (apc (cv h4) (apc (lg a1.sorts eStr 1) (apc (cv h5) apn))))))))) (by kernel_rfl)
    ·
     refine bi h (fun h6 h => ?_) fun h6 h => ?_
     ·
      rw [← sj h]
      exact xretY (n := 30) ([(11, .d true)] ++ ((L44_0_c0 x2 v2 a1) ++ [(23, .d false), (27, .d false), (34, .v (i6 (a1.sorts.length : Int))), (35, .d false), (41, .d true), (6000, .d true)])) (apc (cv h1) (apc (ig eFoll 5 .i64 h2) (apc q2 (apc q3 (apc q4 (apc (cv h3) (apc (cv h4) (apc (lg a1.sorts eStr 1) (apc (cv h5) (apc (cv h6) apn)))))))))) (by kernel_rfl)
     ·
      rw [← sj h]
      exact rnd (n := 30) ([(11, .d true)] ++ ((L44_0_c0 x2 v2 a1) ++ [(23, .d false), (27, .d false), (34, .v (i6 (a1.sorts.length : Int))), (35, .d false), (41, .d false), (6000, .d true)])) (apc (cv h1) (apc (ig eFoll 5 .i64 h2) (apc q2 (apc q3 (apc q4 (apc (cv h3) (apc (cv h4) (apc (lg a1.sorts eStr 1) (apc (cv h5) (apc (cv h6) (apc ((okT_of rfl (abl_cons rfl (abl_cons (abl_map (fun _ => rfl) (fun _ => rfl)) rfl))) : okT 2 (L44_0_d1 a1 x2 v2) = true) apn))))))))))) (by kernel_rfl)
 ·
  rw [← sj h]
  exact xbrk (n := 30) [(11, .d false), (6000, .d true)] (apc (cv h1) apn) (by kernel_rfl)
theorem L44_0_run (a1 : GramD) (a2 : Int) (s0 : Int × (List (Int × Int))) (e : E_L44_0) (h : runL (fun s => L44_0 a1 a2 s.1 s.2) s0 = some e) : L44_0_x a1 a2 e (evH prg 2 [1, 3, 8, 9, 10] ir44_l0 (L44_0_s a1 a2 s0.1 s0.2)) := by
  have q := @loop_sound' (Int × (List (Int × Int))) E_L44_0 (fun s => L44_0 a1 a2 s.1 s.2) (fun s => evH prg 2 [1, 3, 8, 9, 10] ir44_l0 (L44_0_s a1 a2 s.1 s.2)) (L44_0_x a1 a2) (fun s r h => L44_0_ok a1 a2 s.1 s.2 h) s0 e h
  exact q
def F44_v (a1 : GramD) (x0 : Bool) : AV := (vb x0)
noncomputable def F44 (a1 : GramD) : Option Bool :=
  ((runL (fun s => L44_0 a1 (a1.follow.length : Int) s.1 s.2) (0, [])).bind fun r1 => match r1 with | .k0 => (some false) | .k1 x1_0 => (some true))
abbrev F44_d0 (g1 : Nat → AV) (a1 : GramD) (x1_0 : List (Int × Int)) : St := ⟨fr 44 g1 [(1, (.ptr 0 0)), (8, (.p (.lst 5 (a1.follow.map eFoll))))], [bG a1, .map (mrow (fun n => vi .i64 n) (fun n => vi .i64 n) x1_0)]⟩
theorem F44_ok (a1 : GramD) {r : Bool} (h : F44 a1 = some r) : PR1 prg 44 [(aG a1)] (F44_v a1 r) := by
 unfold F44 at h
 refine bn h fun r1 h1 h => ?_
 cases r1 with
 | k0 =>
  obtain ⟨g1, y1, e1⟩ := L44_0_run a1 (a1.follow.length : Int) (0, []) _ h1
  rw [← sj h]
  exact fpr (n := 30) [(9, .v (i6 (a1.follow.length : Int))), (2000, .l .ret ⟨fr 44 g1 [(2, (vb false))], y1⟩), (6000, .d true)] (apc (lg a1.follow eFoll 5) (apc ((okT_of rfl (abl_cons rfl (abl_cons rfl rfl))) : okT 2 [bG a1, .map []] = true) (apc (e1 : evH prg 2 [1, 3, 8, 9, 10] ir44_l0 (L44_0_s a1 (a1.follow.length : Int) 0 ([])) = some (.ret, ⟨fr 44 g1 [(2, (vb false))], y1⟩)) apn))) rfl (by kernel_rfl)
 | k1 x1_0 =>
  obtain ⟨g1, e1⟩ := L44_0_run a1 (a1.follow.length : Int) (0, []) _ h1
  rw [← sj h]
  exact fpr (n := 30) [(9, .v (i6 (a1.follow.length : Int))), (2000, .l (.brk 0) (F44_d0 g1 a1 x1_0)), (6000, .d true)] (apc (lg a1.follow eFoll 5) (apc ((okT_of rfl (abl_cons rfl (abl_cons rfl rfl))) : okT 2 [bG a1, .map []] = true) (apc (e1 : evH prg 2 [1, 3, 8, 9, 10] ir44_l0 (L44_0_s a1 (a1.follow.length : Int) 0 ([])) = some ((.brk 0), (F44_d0 g1 a1 x1_0))) apn))) rfl (by kernel_rfl)
inductive E_L15_0 where
  | k0
  | k1
noncomputable def L15_0 (a1 : GramD) (v1 : Int) : Option (E_L15_0 ⊕ (Int)) :=
  (bif (decide (v1 < 4)) then (bif (v1 == 0) then ((F41 a1).bind fun x3 => (bif x3 then (some (.inr ((IntKind.wrap .i64 (v1 + 1))))) else (some (.inl (.k0))))) else (bif (v1 == 1) then ((F42 a1).bind fun x4 => (bif x4 then (some (.inr ((IntKind.wrap .i64 (v1 + 1))))) else (some (.inl (.k0))))) else (bif (v1 == 2) then ((F43 a1).bind fun x5 => (bif x5 then (some (.inr ((IntKind.wrap .i64 (v1 + 1))))) else (some (.inl (.k0))))) else (bif (v1 == 3) then ((F44 a1).bind fun x6 => (bif x6 then (some (.inr ((IntKind.wrap .i64 (v1 + 1))))) else (some (.inl (.k0))))) else none)))) else (some (.inl (.k1))))
def L15_0_s (a1 : GramD) (v1 : Int) : St := ⟨fr 14 ug [(1, (.ptr 0 0)), (5, (.agg [(.fn 41 []), (.fn 42 []), (.fn 43 []), (.fn 44 [])])), (6, (i6 v1))], [bG a1]⟩
def L15_0_x (a1 : GramD) (e : E_L15_0) (r : Option (Out × St)) : Prop := match e with | .k0 => ∃ g y, r = some (.ret, ⟨fr 14 g [(2, (i6 160))], y⟩) | .k1 => ∃ g, r = some ((.brk 0), ⟨fr 14 g [], [bG a1]⟩)
theorem L15_0_ok (a1 : GramD) (v1 : Int) {r : E_L15_0 ⊕ (Int)} (h : L15_0 a1 v1 = some r) : OkR (fun e => L15_0_x a1 e (evH prg 1 [1, 5, 6] ir15_l0 (L15_0_s a1 v1))) (fun s => evH prg 1 [1, 5, 6] ir15_l0 (L15_0_s a1 v1) = evH prg 1 [1, 5, 6] ir15_l0 (L15_0_s a1 s)) r := by
 unfold L15_0 at h
 refine bi h (fun h1 h => ?_) fun h1 h => ?_
 ·
  refine bi h (fun h2 h => ?_) fun h2 h => ?_
  ·
   have q1 := ((ix_lit h2 (fun z => ixG false 4 1 (.agg [(.fn 41 []), (.fn 42 []), (.fn 43 []), (.fn 44 [])]) (i6 z)) rfl) : ixG false 4 1 (.agg [(.fn 41 []), (.fn 42 []), (.fn 43 []), (.fn 44 [])]) (i6 v1) = some (.fn 41 []))
   refine bn h fun x3 h3 h => ?_
   refine bi h (fun h4 h => ?_) fun h4 h => ?_
   ·
    rw [← sj h]
    exact rnd (n := 30) [(7, .d true), (8, .v (.fn 41 [])), (11, .v (vb true)), (6000, .d true)] (apc (cv h1) (apc q1 (apc ((((F41_ok a1 h3).cp rfl _).trans (congrArg (fun z => some (vb z)) h4)) : CP prg 41 [(aG a1)] [bG a1] = some (vb true)) (apc ((okT_of rfl (abl_cons rfl rfl)) : okT 1 [bG a1] = true) apn)))) (by kernel_rfl)
   ·
    rw [← sj h]
    exact xretY (n := 30) [(7, .d true), (8, .v (.fn 41 [])), (11, .v (vb false)), (6000, .d true)] (apc (cv h1) (apc q1 (apc ((((F41_ok a1 h3).cp rfl _).trans (congrArg (fun z => some (vb z)) h4)) : CP prg 41 [(aG a1)] [bG a1] = some (vb false)) apn))) (by kernel_rfl)
  ·
   refine bi h (fun h3 h => ?_) fun h3 h => ?_
   ·
    have q1 := ((ix_lit h3 (fun z => ixG false 4 1 (.agg [(.fn 41 []), (.fn 42 []), (.fn 43 []), (.fn 44 [])]) (i6 z)) rfl) : ixG false 4 1 (.agg [(.fn 41 []), (.fn 42 []), (.fn 43 []), (.fn 44 [])]) (i6 v1) = some (.fn 42 []))
    refine bn h fun x4 h4 h => ?_
    refine bi h (fun h5 h => ?_) fun h5 h => ?_
    ·
     rw [← sj h]
     exact rnd (n := 30) [(7, .d true), (8, .v (.fn 42 [])), (11, .v (vb true)), (6000, .d true)] (apc (cv h1) (apc q1 (apc ((((F42_ok a1 h4).cp rfl _).trans (congrArg (fun z => some (vb z)) h5)) : CP prg 42 [(aG a1)] [bG a1] = some (vb true)) (apc ((okT_of rfl (abl_cons rfl rfl)) : okT 1 [bG a1] = true) apn)))) (by kernel_rfl)
    ·
     rw [← sj h]
     exact xretY (n := 30) [(7, .d true), (8, .v (.fn 42 [])), (11, .v (vb false)), (6000, .d true)] (apc (cv h1) (apc q1 (apc ((((F42_ok a1 h4).cp rfl _).trans (congrArg (fun z => some (vb z)) h5)) : CP prg 42 [(aG a1)] [bG a1] = some (vb false)) apn))) (by kernel_rfl)
   ·
    refine bi h (fun h4 h => ?_) fun h4 h => ?_
    ·
     have q1 := ((ix_lit h4 (fun z => ixG false 4 1 (.agg [(.fn 41 []), (.fn 42 []), (.fn 43 []), (.fn 44 [])]) (i6 z)) rfl) : ixG false 4 1 (.agg [(.fn 41 []), (.fn 42 []), (.fn 43 []), (.fn 44 [])]) (i6 v1) = some (.fn 43 []))
     refine bn h fun x5 h5 h => ?_
     refine bi h (fun h6 h => ?_) fun h6 h => ?_
     ·
      rw [← sj h]
      exact rnd (n := 30) [(7, .d true), (8, .v (.fn 43 [])), (11, .v (vb true)), (6000, .d true)] (apc (cv h1) (apc q1 (apc ((((F43_ok a1 h5).cp rfl _).trans (congrArg (fun z => some (vb z)) h6)) : CP prg 43 [(aG a1)] [bG a1] = some (vb true)) (apc ((okT_of rfl (abl_cons rfl rfl)) : okT 1 [bG a1] = true) apn)))) (by kernel_rfl)
     ·
      rw [← sj h]
      exact xretY (n := 30) [(7, .d true), (8, .v (.fn 43 [])), (11, .v (vb false)), (6000, .d true)] (apc (cv h1) (apc q1 (apc ((((F43_ok a1 h5).cp rfl _).trans (congrArg (fun z => some (vb z)) h6)) : CP prg 43 [(aG a1)] [bG a1] = some (vb false)) apn))) (by kernel_rfl)
    ·
     refine bi h (fun h5 h => ?_) fun h5 h => ?_
     ·
      have q1 := ((ix_lit h5 (fun z => ixG false 4 1 (.agg [(.fn 41 []), (.fn 42 []), (.fn 43 []), (.fn 44 [])]) (i6 z)) rfl) : ixG false 4 1 (.agg [(.fn 41 []), (.fn 42 []), (.fn 43 []), (.fn 44 [])]) (i6 v1) = some (.fn 44 []))
      refine bn h fun x6 h6 h => ?_
      refine bi h (fun h7 h => ?_) fun h7 h => ?_
      ·
       rw [← sj h]
       exact rnd (n := 30) [(7, .d true), (8, .v (.fn 44 [])), (11, .v (vb true)), (6000, .d true)] (apc (cv h1) (apc q1 (apc ((((F44_ok a1 h6).cp rfl _).trans (congrArg (fun z => some (vb z)) h7)) : CP prg 44 [(aG a1)] [bG a1] = some (vb true)) (apc ((okT_of rfl (abl_cons rfl rfl)) : okT 1 [bG a1] = true) apn)))) (by kernel_rfl)
      ·
       rw [← sj h]
       exact xretY (n := 30) [(7, .d true), (8, .v (.fn 44 [])), (11, .v (vb false)), (6000, .d true)] (apc (cv h1) (apc q1 (apc ((((F44_ok a1 h6).cp rfl _).trans (congrArg (fun z => some (vb z)) h7)) : CP prg 44 [(aG a1)] [bG a1] = some (vb false)) apn))) (by kernel_rfl)
     ·
      cases h
 ·
  rw [← sj h]
  exact xbrk (n := 30) [(7, .d false), (6000, .d true)] (apc (cv h1) apn) (by kernel_rfl)
theorem L15_0_run (a1 : GramD) (s0 : Int) (e : E_L15_0) (h : runL (fun s => L15_0 a1 s) s0 = some e) : L15_0_x a1 e (evH prg 1 [1, 5, 6] ir15_l0 (L15_0_s a1 s0)) := by
  have q := @loop_sound' (Int) E_L15_0 (fun s => L15_0 a1 s) (fun s => evH prg 1 [1, 5, 6] ir15_l0 (L15_0_s a1 s)) (L15_0_x a1) (fun s r h => L15_0_ok a1 s h) s0 e h
  exact q
def F15_v (a1 : GramD) (x0 : Int) : AV := (i6 x0)
noncomputable def F15 (a1 : GramD) : Option Int :=
  ((runL (fun s => L15_0 a1 s) 0).bind fun r1 => match r1 with | .k0 => (some 160) | .k1 => (some 0))
theorem F15_ok (a1 : GramD) {r : Int} (h : F15 a1 = some r) : PR1 prg 15 [(aG a1)] (F15_v a1 r) := by
 unfold F15 at h
 refine bn h fun r1 h1 h => ?_
 cases r1 with
 | k0 =>
  obtain ⟨g1, y1, e1⟩ := L15_0_run a1 0 _ h1
  rw [← sj h]
  exact fpr (n := 30) [(2000, .l .ret ⟨fr 14 g1 [(2, (i6 160))], y1⟩), (6000, .d true)] (apc ((okT_of rfl (abl_cons rfl rfl)) : okT 1 [bG a1] = true) (apc (e1 : evH prg 1 [1, 5, 6] ir15_l0 (L15_0_s a1 0) = some (.ret, ⟨fr 14 g1 [(2, (i6 160))], y1⟩)) apn)) rfl (by kernel_rfl)
 | k1 =>
  obtain ⟨g1, e1⟩ := L15_0_run a1 0 _ h1
  rw [← sj h]
  exact fpr (n := 30) [(2000, .l (.brk 0) ⟨fr 14 g1 [], [bG a1]⟩), (6000, .d true)] (apc ((okT_of rfl (abl_cons rfl rfl)) : okT 1 [bG a1] = true) (apc (e1 : evH prg 1 [1, 5, 6] ir15_l0 (L15_0_s a1 0) = some ((.brk 0), ⟨fr 14 g1 [], [bG a1]⟩)) apn)) rfl (by kernel_rfl)
def F50_v (a1 : GramD) (a2 : SymD) (a3 : TreeD) (x0 : Bool) : AV := (vb x0)
abbrev T_F50 := GramD → SymD → TreeD → Option Bool
abbrev H_F50 (f : T_F50) : Prop := ∀ (a1 : GramD) (a2 : SymD) (a3 : TreeD) {r : Bool}, f a1 a2 a3 = some r → PR1 prg 50 [(aG a1), (.agg ((eSym a2).map .p)), (.agg ((cT a3).map .p))] (F50_v a1 a2 a3 r)
def F70_v (a1 : SymD) (a2 : TreeD) (x0 : Bool) : AV := (vb x0)
noncomputable def F70 (a1 : SymD) (a2 : TreeD) : Option Bool :=
  (bif ((Int.fdiv a2.byte (2 ^ (min (Int.toNat 6) (IntKind.bits .u8)))) == 0) then (bif (decide ((IntKind.wrap .u8 ((BitVec.ofInt (IntKind.bits .u8) a2.byte &&& BitVec.ofInt (IntKind.bits .u8) 63).toNat : Int)) < 0)) then none else (some ((IntKind.wrap .u64 ((BitVec.ofInt (IntKind.bits .u64) (Int.fdiv a1.a (2 ^ (min (Int.toNat (IntKind.wrap .u8 ((BitVec.ofInt (IntKind.bits .u8) a2.byte &&& BitVec.ofInt (IntKind.bits .u8) 63).toNat : Int))) (IntKind.bits .u64)))) &&& BitVec.ofInt (IntKind.bits .u64) 1).toNat : Int)) == 1))) else (bif ((Int.fdiv a2.byte (2 ^ (min (Int.toNat 6) (IntKind.bits .u8)))) == 1) then (bif (decide ((IntKind.wrap .u8 ((BitVec.ofInt (IntKind.bits .u8) a2.byte &&& BitVec.ofInt (IntKind.bits .u8) 63).toNat : Int)) < 0)) then none else (some ((IntKind.wrap .u64 ((BitVec.ofInt (IntKind.bits .u64) (Int.fdiv a1.b (2 ^ (min (Int.toNat (IntKind.wrap .u8 ((BitVec.ofInt (IntKind.bits .u8) a2.byte &&& BitVec.ofInt (IntKind.bits .u8) 63).toNat : Int))) (IntKind.bits .u64)))) &&& BitVec.ofInt (IntKind.bits .u64) 1).toNat : Int)) == 1))) else (bif ((Int.fdiv a2.byte (2 ^ (min (Int.toNat 6) (IntKind.bits .u8)))) == 2) then (bif (decide ((IntKind.wrap .u8 ((BitVec.ofInt (IntKind.bits .u8) a2.byte &&& BitVec.ofInt (IntKind.bits .u8) 63).toNat : Int)) < 0)) then none else (some ((IntKind.wrap .u64 ((BitVec.ofInt (IntKind.bits .u64) (Int.fdiv a1.c (2 ^ (min (Int.toNat (IntKind.wrap .u8 ((BitVec.ofInt (IntKind.bits .u8) a2.byte &&& BitVec.ofInt (IntKind.bits .u8) 63).toNat : Int))) (IntKind.bits .u64)))) &&& BitVec.ofInt (IntKind.bits .u64) 1).toNat : Int)) == 1))) else (bif ((Int.fdiv a2.byte (2 ^ (min (Int.toNat 6) (IntKind.bits .u8)))) == 3) then (bif (decide ((IntKind.wrap .u8 ((BitVec.ofInt (IntKind.bits .u8) a2.byte &&& BitVec.ofInt (IntKind.bits .u8) 63).toNat : Int)) < 0)) then none else (some ((IntKind.wrap .u64 ((BitVec.ofInt (IntKind.bits .u64) (Int.fdiv a1.d (2 ^ (min (Int.toNat (IntKind.wrap .u8 ((BitVec.ofInt (IntKind.bits .u8) a2.byte &&& BitVec.ofInt (IntKind.bits .u8) 63).toNat : Int))) (IntKind.bits .u64)))) &&& BitVec.ofInt (IntKind.bits .u64) 1).toNat : Int)) == 1))) else none))))
theorem F70_ok (a1 : SymD) (a2 : TreeD) {r : Bool} (h : F70 a1 a2 = some r) : PR1 prg 70 [(.agg ((List.take 4 (List.drop 1 (eSym a1))).map .p)), (vi .u8 a2.byte)] (F70_v a1 a2 r) := by
 unfold F70 at h
 have q0 := ((sh_shr (by decide)) : binA .shr (vi .u8 a2.byte) (vi .u64 6) = some (vi .u8 (Int.fdiv a2.byte (2 ^ (min (Int.toNat 6) (IntKind.bits .u8))))))
 refine bi h (fun h1 h => ?_) fun h1 h => ?_
 ·
  have q1 := ((ix_lit h1 (fun z => ixP 4 1 (.ptr 0 0) (vi .u8 z)) rfl) : ixP 4 1 (.ptr 0 0) (vi .u8 (Int.fdiv a2.byte (2 ^ (min (Int.toNat 6) (IntKind.bits .u8))))) = some (.ptr 0 0))
  refine bi h (fun h2 h => ?_) fun h2 h => ?_
  ·
   cases h
  ·
   rw [← sj h]
   exact fpr (n := 30) [(6, .v (vi .u8 (Int.fdiv a2.byte (2 ^ (min (Int.toNat 6) (IntKind.bits .u8)))))), (7, .v (.ptr 0 0)), (11, .v (vi .u64 (Int.fdiv a1.a (2 ^ (min (Int.toNat (IntKind.wrap .u8 ((BitVec.ofInt (IntKind.bits .u8) a2.byte &&& BitVec.ofInt (IntKind.bits .u8) 63).toNat : Int))) (IntKind.bits .u64))))))] (apc q0 (apc q1 (apc ((sh_shr (of_decide_eq_false h2)) : binA .shr (vi .u64 a1.a) (vi .u8 (IntKind.wrap .u8 ((BitVec.ofInt (IntKind.bits .u8) a2.byte &&& BitVec.ofInt (IntKind.bits .u8) 63).toNat : Int))) = some (vi .u64 (Int.fdiv a1.a (2 ^ (min (Int.toNat (IntKind.wrap .u8 ((BitVec.ofInt (IntKind.bits .u8) a2.byte &&& BitVec.ofInt (IntKind.bits .u8) 63).toNat : Int))) (IntKind.bits .u64)))))) apn))) rfl (by kernel_rfl)
 ·
  refine bi h (fun h2 h => ?_) fun h2 h => ?_
  ·
   have q1 := ((ix_lit h2 (fun z => ixP 4 1 (.ptr 0 0) (vi .u8 z)) rfl) : ixP 4 1 (.ptr 0 0) (vi .u8 (Int.fdiv a2.byte (2 ^ (min (Int.toNat 6) (IntKind.bits .u8))))) = some (.ptr 0 1))
   refine bi h (fun h3 h => ?_) fun h3 h => ?_
   ·
    cases h
   ·
    rw [← sj h]
    exact fpr (n := 30) [(6, .v (vi .u8 (Int.fdiv a2.byte (2 ^ (min (Int.toNat 6) (IntKind.bits .u8)))))), (7, .v (.ptr 0 1)), (11, .v (vi .u64 (Int.fdiv a1.b (2 ^ (min (Int.toNat (IntKind.wrap .u8 ((BitVec.ofInt (IntKind.bits .u8) a2.byte &&& BitVec.ofInt (IntKind.bits .u8) 63).toNat : Int))) (IntKind.bits .u64))))))] (apc q0 (apc q1 (apc ((sh_shr (of_decide_eq_false h3)) : binA .shr (vi .u64 a1.b) (vi .u8 (IntKind.wrap .u8 ((BitVec.ofInt (IntKind.bits .u8) a2.byte &&& BitVec.ofInt (IntKind.bits .u8) 63).toNat : Int))) = some (vi .u64 (Int.fdiv a1.b (2 ^ (min (Int.toNat (IntKind.wrap .u8 ((BitVec.ofInt (IntKind.bits .u8) a2.byte &&& BitVec.ofInt (IntKind.bits .u8) 63).toNat : Int))) (IntKind.bits .u64)))))) apn))) rfl (by kernel_rfl)
  ·
   refine bi h (fun h3 h => ?_) fun h3 h => ?_
   ·
    have q1 := ((ix_lit h3 (fun z => ixP 4 1 (.ptr 0 0) (vi .u8 z)) rfl) : ixP 4 1 (.ptr 0 0) (vi .u8 (Int.fdiv a2.byte (2 ^ (min (Int.toNat 6) (IntKind.bits .u8))))) = some (.ptr 0 2))
    refine bi h (fun h4 h => ?_) fun h4 h => ?_
    ·
     cases h
    ·
     rw [← sj h]
     exact fpr (n := 30) [(6, .v (vi .u8 (Int.fdiv a2.byte (2 ^ (min (Int.toNat 6) (IntKind.bits .u8)))))), (7, .v (.ptr 0 2)), (11, .v (vi .u64 (Int.fdiv a1.c (2 ^ (min (Int.toNat (IntKind.wrap .u8 ((BitVec.ofInt (IntKind.bits .u8) a2.byte &&& BitVec.ofInt (IntKind.bits .u8) 63).toNat : Int))) (IntKind.bits .u64))))))] (apc q0 (apc q1 (apc ((sh_shr (of_decide_eq_false h4)) : binA .shr (vi .u64 a1.c) (vi .u8 (IntKind.wrap .u8 ((BitVec.ofInt (IntKind.bits .u8) a2.byte &&& BitVec.ofInt (IntKind.bits .u8) 63).toNat : Int))) = some (vi .u64 (Int.fdiv a1.c (2 ^ (min (Int.toNat (IntKind.wrap .u8 ((BitVec.ofInt (IntKind.bits .u8) a2.byte &&& BitVec.ofInt (IntKind.bits .u8) 63).toNat : Int))) (IntKind.bits .u64)))))) apn))) rfl (by kernel_rfl)
   ·
    refine bi h (fun h4 h => ?_) fun h4 h => ?_
    ·
     have q1 := ((ix_lit h4 (fun z => ixP 4 1 (.ptr 0 0) (vi .u8 z)) rfl) : ixP 4 1 (.ptr 0 0) (vi .u8 (Int.fdiv a2.byte (2 ^ (min (Int.toNat 6) (IntKind.bits .u8))))) = some (.ptr 0 3))
     refine bi h (fun h5 h => ?_) fun h5 h => ?_
     ·
      cases h
     ·
      rw [← sj h]
      exact fpr (n := 30) [(6, .v (vi .u8 (Int.fdiv a2.byte (2 ^ (min (Int.toNat 6) (IntKind.bits .u8)))))), (7, .v (.ptr 0 3)), (11, .v (vi .u64 (Int.fdiv a1.d (2 ^ (min (Int.toNat (IntKind.wrap .u8 ((BitVec.ofInt (IntKind.bits .u8) a2.byte &&& BitVec.ofInt (IntKind.bits .u8) 63).toNat : Int))) (IntKind.bits .u64))))))] (apc q0 (apc q1 (apc ((sh_shr (of_decide_eq_false h5)) : binA .shr (vi .u64 a1.d) (vi .u8 (IntKind.wrap .u8 ((BitVec.ofInt (IntKind.bits .u8) a2.byte &&& BitVec.ofInt (IntKind.bits .u8) 63).toNat : Int))) = some (vi .u64 (Int.fdiv a1.d (2 ^ (min (Int.toNat (IntKind.wrap .u8 ((BitVec.ofInt (IntKind.bits .u8) a2.byte &&& BitVec.ofInt (IntKind.bits .u8) 63).toNat : Int))) (IntKind.bits .u64)))))) apn))) rfl (by kernel_rfl)
    ·
     cases h
inductive E_L50_0 where
  | k0
  | k1
noncomputable def L50_0 (rF50 : T_F50) (a1 : TreeD) (a2 : Int) (a3 : GramD) (a5 : ProdD) (v1 : Int) : Option (E_L50_0 ⊕ (Int)) :=
  (bif (decide (v1 < a2)) then ((getI a1.kids v1).bind fun x2 => ((getI a5.right v1).bind fun x3 => ((rF50 a3 x3 x2).bind fun x4 => (bif x4 then (some (.inr ((IntKind.wrap .i64 (v1 + 1))))) else (some (.inl (.k0))))))) else (some (.inl (.k1))))
def L50_0_s (a1 : TreeD) (a2 : Int) (a3 : GramD) (a4 : SymD) (a5 : ProdD) (v1 : Int) : St := ⟨fr 88 ug [(3, (.ptr 0 0)), (7, (.ptr 4 0)), (71, (.p (.lst 3 (eTrees a1.kids)))), (72, (i6 a2)), (73, (i6 v1))], [bG a3, .cells 68 ((eSym a4).map .p), .cells 51 ((cT a1).map .p), .row 68 6 0 (ra eSym []), bP a5]⟩
def L50_0_x (a1 : TreeD) (a2 : Int) (a3 : GramD) (a4 : SymD) (a5 : ProdD) (e : E_L50_0) (r : Option (Out × St)) : Prop := match e with | .k0 => ∃ g y, r = some (.ret, ⟨fr 88 g [(6, (vb false))], y⟩) | .k1 => ∃ g, r = some ((.brk 0), ⟨fr 88 g [(3, (.ptr 0 0)), (7, (.ptr 4 0)), (71, (.p (.lst 3 (eTrees a1.kids))))], [bG a3, .cells 68 ((eSym a4).map .p), .cells 51 ((cT a1).map .p), .row 68 6 0 (ra eSym []), bP a5]⟩)
abbrev L50_0_d0 (a3 : GramD) (a4 : SymD) (a1 : TreeD) (a5 : ProdD) (x2 : TreeD) : List AB := [bG a3, .cells 68 ((eSym a4).map .p), .cells 51 ((cT a1).map .p), .row 68 6 0 (ra eSym []), bP a5, .row 51 3 0 (ra cT []), .cells 51 ((cT x2).map .p)]
theorem L50_0_ok (rF50 : T_F50) (hF50 : H_F50 rF50) (a1 : TreeD) (a2 : Int) (a3 : GramD) (a4 : SymD) (a5 : ProdD) (v1 : Int) {r : E_L50_0 ⊕ (Int)} (h : L50_0 rF50 a1 a2 a3 a5 v1 = some r) : OkR (fun e => L50_0_x a1 a2 a3 a4 a5 e (evH prg 5 [3, 7, 71, 72, 73] ir50_l0 (L50_0_s a1 a2 a3 a4 a5 v1))) (fun s => evH prg 5 [3, 7, 71, 72, 73] ir50_l0 (L50_0_s a1 a2 a3 a4 a5 v1) = evH prg 5 [3, 7, 71, 72, 73] ir50_l0 (L50_0_s a1 a2 a3 a4 a5 s)) r := by
 unfold L50_0 at h
 refine bi h (fun h1 h => ?_) fun h1 h => ?_
 ·
  refine bn h fun x2 h2 h => ?_
  have q1 := ((igr tr_map h2) : idxA 3 (.p (.lst 3 (eTrees a1.kids))) (i6 v1) = some (.ro (cT x2)))
  refine bn h fun x3 h3 h => ?_
  refine bn h fun x4 h4 h => ?_
  refine bi h (fun h5 h => ?_) fun h5 h => ?_
  ·
   rw [← sj h]
   exact rnd (n := 30) [(74, .d true), (76, .v (.ro (cT x2))), (82, .v (.ro (eSym x3))), (85, .v (vb true)), (6000, .d true)] (apc (cv h1) (apc q1 (apc (ig eSym 6 .i64 h3) (apc ((((hF50 a3 x3 x2 h4).cp rfl _).trans (congrArg (fun z => some (vb z)) h5)) : CP prg 50 [(aG a3), (.agg ((eSym x3).map .p)), (.agg ((cT x2).map .p))] (L50_0_d0 a3 a4 a1 a5 x2) = some (vb true)) (apc ((okT_of rfl (abl_cons rfl (abl_cons rfl (abl_cons rfl (abl_cons abl_row (abl_cons rfl rfl)))))) : okT 5 (L50_0_d0 a3 a4 a1 a5 x2) = true) apn))))) (by kernel_rfl)
  ·
   rw [← sj h]
   exact xretY (n := 30) [(74, .d true), (76, .v (.ro (cT x2))), (82, .v (.ro (eSym x3))), (85, .v (vb false)), (6000, .d true)] (apc (cv h1) (apc q1 (apc (ig eSym 6 .i64 h3) (apc ((((hF50 a3 x3 x2 h4).cp rfl _).trans (congrArg (fun z => some (vb z)) h5)) : CP prg 50 [(aG a3), (.agg ((eSym x3).map .p)), (.agg ((cT x2).map .p))] (L50_0_d0 a3 a4 a1 a5 x2) = some (vb false)) apn)))) (by kernel_rfl)
 ·
  rw [← sj h]
  exact xbrk (n := 30) [(74, .d false), (6000, .d true)] (apc (cv h1) apn) (by kernel_rfl)
theorem L50_0_run (rF50 : T_F50) (hF50 : H_F50 rF50) (a1 : TreeD) (a2 : Int) (a3 : GramD) (a4 : SymD) (a5 : ProdD) (s0 : Int) (e : E_L50_0) (h : runL (fun s => L50_0 rF50 a1 a2 a3 a5 s) s0 = some e) : L50_0_x a1 a2 a3 a4 a5 e (evH prg 5 [3, 7, 71, 72, 73] ir50_l0 (L50_0_s a1 a2 a3 a4 a5 s0)) := by
  have q := @loop_sound' (Int) E_L50_0 (fun s => L50_0 rF50 a1 a2 a3 a5 s) (fun s => evH prg 5 [3, 7, 71, 72, 73] ir50_l0 (L50_0_s a1 a2 a3 a4 a5 s)) (L50_0_x a1 a2 a3 a4 a5) (fun s r h => L50_0_ok rF50 hF50 a1 a2 a3 a4 a5 s h) s0 e h
  exact q
noncomputable def F50_b (rF50 : T_F50) (a1 : GramD) (a2 : SymD) (a3 : TreeD) : Option Bool :=
  (bif (a2.kind == 0) then (bif (a3.prod == (-1)) then (bif ((a3.kids.length : Int) == 0) then ((F70 a2 a3).bind fun x4 => (some x4)) else (some false)) else (some false)) else (bif (decide (a3.prod < 0)) then (some false) else (bif (decide (a3.prod ≥ (a1.prods.length : Int))) then (some false) else (bif (a3.byte != 0) then (some false) else ((getI a1.prods a3.prod).bind fun x5 => (bif (x5.left != a2.sort) then (some false) else (bif (x5.role == 11) then (some false) else (bif ((a3.kids.length : Int) != (x5.right.length : Int)) then (some false) else ((runL (fun s => L50_0 rF50 a3 (a3.kids.length : Int) a1 x5 s) 0).bind fun r9 => match r9 with | .k0 => (some false) | .k1 => (some true))))))))))
abbrev F50_d0 (a1 : GramD) (a2 : SymD) (a3 : TreeD) (x5 : ProdD) : List AB := [bG a1, .cells 68 ((eSym a2).map .p), .cells 51 ((cT a3).map .p), .row 68 6 0 (ra eSym []), bP x5]
abbrev F50_d1 (g9 : Nat → AV) (a3 : TreeD) (a1 : GramD) (a2 : SymD) (x5 : ProdD) : St := ⟨fr 88 g9 [(3, (.ptr 0 0)), (7, (.ptr 4 0)), (71, (.p (.lst 3 (eTrees a3.kids))))], [bG a1, .cells 68 ((eSym a2).map .p), .cells 51 ((cT a3).map .p), .row 68 6 0 (ra eSym []), bP x5]⟩
abbrev F50_c0 (a3 : TreeD) (x5 : ProdD) : List (Nat × Hint) := [(59, .d false), (64, .v (i6 (a3.kids.length : Int))), (67, .v (i6 (x5.right.length : Int)))]
theorem F50_bok (rF50 : T_F50) (hF50 : H_F50 rF50) (a1 : GramD) (a2 : SymD) (a3 : TreeD) {r : Bool} (h : F50_b rF50 a1 a2 a3 = some r) : PR1 prg 50 [(aG a1), (.agg ((eSym a2).map .p)), (.agg ((cT a3).map .p))] (F50_v a1 a2 a3 r) := by
 unfold F50_b at h
 refine bi h (fun h1 h => ?_) fun h1 h => ?_
 ·
  refine bi h (fun h2 h => ?_) fun h2 h => ?_
  ·
   have q2 := ((lgr tr_map) : lnA (.p (.lst 3 (eTrees a3.kids))) = some (i6 (a3.kids.length : Int)))
   refine bi h (fun h3 h => ?_) fun h3 h => ?_
   ·
    refine bn h fun x4 h4 h => ?_
    rw [← sj h]
    exact fpr (n := 30) [(12, .d true), (15, .d true), (19, .v (i6 (a3.kids.length : Int))), (20, .d true), (27, .v (vb x4))] (apc (cv h1) (apc (cv h2) (apc q2 (apc (cv h3) (apc (((F70_ok a2 a3 h4).cp rfl _) : CP prg 70 [(.agg ((List.take 4 (List.drop 1 (eSym a2))).map .p)), (vi .u8 a3.byte)] [bG a1, .cells 68 ((eSym a2).map .p), .cells 51 ((cT a3).map .p)] = some (vb x4)) apn))))) rfl (by kernel_rfl)
   ·
    rw [← sj h]
    exact fpr (n := 30) [(12, .d true), (15, .d true), (19, .v (i6 (a3.kids.length : Int))), (20, .d false)] (apc (cv h1) (apc (cv h2) (apc q2 (apc (cv h3) apn)))) rfl (by kernel_rfl)
  ·
   rw [← sj h]
   exact fpr (n := 30) [(12, .d true), (15, .d false)] (apc (cv h1) (apc (cv h2) apn)) rfl (by kernel_rfl)
 ·
  refine bi h (fun h2 h => ?_) fun h2 h => ?_
  ·
   rw [← sj h]
   exact fpr (n := 30) [(12, .d false), (31, .d true)] (apc (cv h1) (apc (cv h2) apn)) rfl (by kernel_rfl)
  ·
   refine bi h (fun h3 h => ?_) fun h3 h => ?_
   ·
    rw [← sj h]
    exact fpr (n := 30) [(12, .d false), (31, .d false), (37, .v (i6 (a1.prods.length : Int))), (38, .d true)] (apc (cv h1) (apc (cv h2) (apc (lg a1.prods eProd 7) (apc (cv h3) apn)))) rfl (by kernel_rfl)
   ·
    refine bi h (fun h4 h => ?_) fun h4 h => ?_
    ·
     rw [← sj h]
     exact fpr (n := 30) [(12, .d false), (31, .d false), (37, .v (i6 (a1.prods.length : Int))), (38, .d false), (43, .d true)] (apc (cv h1) (apc (cv h2) (apc (lg a1.prods eProd 7) (apc (cv h3) (apc (cv h4) apn))))) rfl (by kernel_rfl)
    ·
     refine bn h fun x5 h5 h => ?_
     refine bi h (fun h6 h => ?_) fun h6 h => ?_
     ·
      rw [← sj h]
      exact fpr (n := 30) [(12, .d false), (31, .d false), (37, .v (i6 (a1.prods.length : Int))), (38, .d false), (43, .d false), (49, .v (.ro (eProd x5))), (55, .d true)] (apc (cv h1) (apc (cv h2) (apc (lg a1.prods eProd 7) (apc (cv h3) (apc (cv h4) (apc (ig eProd 7 .i64 h5) (apc (cv h6) apn))))))) rfl (by kernel_rfl)
     ·
      refine bi h (fun h7 h => ?_) fun h7 h => ?_
      ·
       rw [← sj h]
       exact fpr (n := 30) [(12, .d false), (31, .d false), (37, .v (i6 (a1.prods.length : Int))), (38, .d false), (43, .d false), (49, .v (.ro (eProd x5))), (55, .d false), (59, .d true)] (apc (cv h1) (apc (cv h2) (apc (lg a1.prods eProd 7) (apc (cv h3) (apc (cv h4) (apc (ig eProd 7 .i64 h5) (apc (cv h6) (apc (cv h7) apn)))))))) rfl (by kernel_rfl)
      ·
       have q8 := ((lgr tr_map) : lnA (.p (.lst 3 (eTrees a3.kids))) = some (i6 (a3.kids.length : Int)))
       refine bi h (fun h8 h => ?_) fun h8 h => ?_
       ·
        rw [← sj h]
        exact fpr (n := 30) ([(12, .d false), (31, .d false), (37, .v (i6 (a1.prods.length : Int))), (38, .d false), (43, .d false), (49, .v (.ro (eProd x5))), (55, .d false)] ++ ((F50_c0 a3 x5) ++ [(68, .d true)])) (apc (cv h1) (apc (cv h2) (apc (lg a1.prods eProd 7) (apc (cv h3) (apc (cv h4) (apc (ig eProd 7 .i64 h5) (apc (cv h6) (apc (cv h7) (apc q8 (apc (lg x5.right eSym 6) (apc (cv h8) apn))))))))))) rfl (by kernel_rfl)
       ·
        have q11 := ((lgr tr_map) : lnA (.p (.lst 3 (eTrees a3.kids))) = some (i6 (a3.kids.length : Int)))
        refine bn h fun r9 h9 h => ?_
        cases r9 with
        | k0 =>
         obtain ⟨g9, y9, e9⟩ := L50_0_run rF50 hF50 a3 (a3.kids.length : Int) a1 a2 x5 0 _ h9
         rw [← sj h]
         exact fpr (n := 30) ([(12, .d false), (31, .d false), (37, .v (i6 (a1.prods.length : Int))), (38, .d false), (43, .d false), (49, .v (.ro (eProd x5))), (55, .d false)] ++ ((F50_c0 a3 x5) ++ [(68, .d false), (72, .v (i6 (a3.kids.length : Int))), (2000, .l .ret ⟨fr 88 g9 [(6, (vb false))], y9⟩), (6000, .d true)])) (apc (cv h1) (apc (cv h2) (apc (lg a1.prods eProd 7) (apc (cv h3) (apc (cv h4) (apc (ig eProd 7 .i64 h5) (apc (cv h6) (apc (cv h7) (apc q8 (apc (lg x5.right eSym 6) (apc (cv h8) (apc q11 (apc ((okT_of rfl (abl_cons rfl (abl_cons rfl (abl_cons rfl (abl_cons abl_row (abl_cons rfl rfl)))))) : okT 5 (F50_d0 a1 a2 a3 x5) = true) (apc (e9 : evH prg 5 [3, 7, 71, 72, 73] ir50_l0 (L50_0_s a3 (a3.kids.length : Int) a1 a2 x5 0) = some (.ret, ⟨fr 88 g9 [(6, (vb false))], y9⟩)) apn)))))))))))))) rfl (by kernel_rfl)
        | k1 =>
         obtain ⟨g9, e9⟩ := L50_0_run rF50 hF50 a3 (a3.kids.length : Int) a1 a2 x5 0 _ h9
         rw [← sj h]
         exact fpr (n := 30) ([(12, .d false), (31, .d false), (37, .v (i6 (a1.prods.length : Int))), (38, .d false), (43, .d false), (49, .v (.ro (eProd x5))), (55, .d false)] ++ ((F50_c0 a3 x5) ++ [(68, .d false), (72, .v (i6 (a3.kids.length : Int))), (2000, .l (.brk 0) (F50_d1 g9 a3 a1 a2 x5)), (6000, .d true)])) (apc (cv h1) (apc (cv h2) (apc (lg a1.prods eProd 7) (apc (cv h3) (apc (cv h4) (apc (ig eProd 7 .i64 h5) (apc (cv h6) (apc (cv h7) (apc q8 (apc (lg x5.right eSym 6) (apc (cv h8) (apc q11 (apc ((okT_of rfl (abl_cons rfl (abl_cons rfl (abl_cons rfl (abl_cons abl_row (abl_cons rfl rfl)))))) : okT 5 (F50_d0 a1 a2 a3 x5) = true) (apc (e9 : evH prg 5 [3, 7, 71, 72, 73] ir50_l0 (L50_0_s a3 (a3.kids.length : Int) a1 a2 x5 0) = some ((.brk 0), (F50_d1 g9 a3 a1 a2 x5))) apn)))))))))))))) rfl (by kernel_rfl)
noncomputable def F50 : Nat → T_F50
  | 0 => fun _ _ _ => none
  | Nf + 1 => F50_b (F50 Nf)
theorem F50_ok (Nf : Nat) : H_F50 (F50 Nf) := by
  induction Nf with
  | zero => intro a1 a2 a3 r h; have h : (none : Option Bool) = some r := h; cases h
  | succ Nf ih => intro a1 a2 a3 r h; exact F50_bok (F50 Nf) ih a1 a2 a3 h
def F21_v (a1 : GramD) (a2 : TreeD) (x0 : Int) : AV := (i6 x0)
noncomputable def F21 (Nf : Nat) (a1 : GramD) (a2 : TreeD) : Option Int :=
  ((F15 a1).bind fun x1 => (bif (x1 != 0) then (some 160) else ((F46 a2).bind fun x3 => (bif (decide (x3 > 16384)) then (some 3) else (bif (decide (a2.prod < 0)) then (some 163) else (bif (decide (a2.prod ≥ (a1.prods.length : Int))) then (some 163) else ((getI a1.prods a2.prod).bind fun x7 => ((F50 Nf a1 (⟨1, 0, 0, 0, 0, x7.left⟩ : SymD) a2).bind fun x8 => (bif x8 then (some 0) else (some 163))))))))))
theorem F21_ok (Nf : Nat) (a1 : GramD) (a2 : TreeD) {r : Int} (h : F21 Nf a1 a2 = some r) : PR1 prg 21 [(aG a1), (.agg ((cT a2).map .p))] (F21_v a1 a2 r) := by
 unfold F21 at h
 refine bn h fun x1 h1 h => ?_
 have q0 := (((F15_ok a1 h1).cp rfl _) : CP prg 15 [(aG a1)] [bG a1, .cells 51 ((cT a2).map .p)] = some (i6 x1))
 refine bi h (fun h2 h => ?_) fun h2 h => ?_
 ·
  rw [← sj h]
  exact fpr (n := 30) [(7, .v (i6 x1)), (8, .d true)] (apc q0 (apc (cv h2) apn)) rfl (by kernel_rfl)
 ·
  refine bn h fun x3 h3 h => ?_
  have q2 := (((F46_ok a2 h3).cp rfl _) : CP prg 46 [(.agg ((cT a2).map .p))] [bG a1, .cells 51 ((cT a2).map .p)] = some (i6 x3))
  refine bi h (fun h4 h => ?_) fun h4 h => ?_
  ·
   rw [← sj h]
   exact fpr (n := 30) [(7, .v (i6 x1)), (8, .d false), (11, .v (i6 x3)), (12, .d true)] (apc q0 (apc (cv h2) (apc q2 (apc (cv h4) apn)))) rfl (by kernel_rfl)
  ·
   refine bi h (fun h5 h => ?_) fun h5 h => ?_
   ·
    rw [← sj h]
    exact fpr (n := 30) [(7, .v (i6 x1)), (8, .d false), (11, .v (i6 x3)), (12, .d false), (16, .d true)] (apc q0 (apc (cv h2) (apc q2 (apc (cv h4) (apc (cv h5) apn))))) rfl (by kernel_rfl)
   ·
    refine bi h (fun h6 h => ?_) fun h6 h => ?_
    ·
     rw [← sj h]
     exact fpr (n := 30) [(7, .v (i6 x1)), (8, .d false), (11, .v (i6 x3)), (12, .d false), (16, .d false), (22, .v (i6 (a1.prods.length : Int))), (23, .d true)] (apc q0 (apc (cv h2) (apc q2 (apc (cv h4) (apc (cv h5) (apc (lg a1.prods eProd 7) (apc (cv h6) apn))))))) rfl (by kernel_rfl)
    ·
     refine bn h fun x7 h7 h => ?_
     refine bn h fun x8 h8 h => ?_
     refine bi h (fun h9 h => ?_) fun h9 h => ?_
     ·
      rw [← sj h]
      exact fpr (n := 30) [(7, .v (i6 x1)), (8, .d false), (11, .v (i6 x3)), (12, .d false), (16, .d false), (22, .v (i6 (a1.prods.length : Int))), (23, .d false), (31, .v (.ro (eProd x7))), (36, .v (vb true))] (apc q0 (apc (cv h2) (apc q2 (apc (cv h4) (apc (cv h5) (apc (lg a1.prods eProd 7) (apc (cv h6) (apc (ig eProd 7 .i64 h7) (apc ((((F50_ok Nf a1 (⟨1, 0, 0, 0, 0, x7.left⟩ : SymD) a2 h8).cp rfl _).trans (congrArg (fun z => some (vb z)) h9)) : CP prg 50 [(aG a1), (.agg [(i6 1), (vi .u64 0), (vi .u64 0), (vi .u64 0), (vi .u64 0), (i6 x7.left)]), (.agg ((cT a2).map .p))] [bG a1, .cells 51 ((cT a2).map .p)] = some (vb true)) apn))))))))) rfl (by kernel_rfl)
     ·
      rw [← sj h]
      exact fpr (n := 30) [(7, .v (i6 x1)), (8, .d false), (11, .v (i6 x3)), (12, .d false), (16, .d false), (22, .v (i6 (a1.prods.length : Int))), (23, .d false), (31, .v (.ro (eProd x7))), (36, .v (vb false))] (apc q0 (apc (cv h2) (apc q2 (apc (cv h4) (apc (cv h5) (apc (lg a1.prods eProd 7) (apc (cv h6) (apc (ig eProd 7 .i64 h7) (apc ((((F50_ok Nf a1 (⟨1, 0, 0, 0, 0, x7.left⟩ : SymD) a2 h8).cp rfl _).trans (congrArg (fun z => some (vb z)) h9)) : CP prg 50 [(aG a1), (.agg [(i6 1), (vi .u64 0), (vi .u64 0), (vi .u64 0), (vi .u64 0), (i6 x7.left)]), (.agg ((cT a2).map .p))] [bG a1, .cells 51 ((cT a2).map .p)] = some (vb false)) apn))))))))) rfl (by kernel_rfl)
def F31_v (a1 : GramD) (x0 : Bool) : AV := (vb x0)
noncomputable def F31 (a1 : GramD) : Option Bool :=
  (bif (decide (a1.start ≥ 0)) then (some (decide (a1.start < (a1.sorts.length : Int)))) else (some false))
theorem F31_ok (a1 : GramD) {r : Bool} (h : F31 a1 = some r) : PR1 prg 31 [(aG a1), (i6 a1.start)] (F31_v a1 r) := by
 unfold F31 at h
 refine bi h (fun h1 h => ?_) fun h1 h => ?_
 ·
  rw [← sj h]
  exact fpr (n := 30) [(6, .d true), (11, .v (i6 (a1.sorts.length : Int)))] (apc (cv h1) (apc (lg a1.sorts eStr 1) apn)) rfl (by kernel_rfl)
 ·
  rw [← sj h]
  exact fpr (n := 30) [(6, .d false)] (apc (cv h1) apn) rfl (by kernel_rfl)
inductive E_L12_5_2 where
  | k0
  | k1
noncomputable def L12_5_2 (a1 : Int) (a2 : GramD) (v1 : Int) : Option (E_L12_5_2 ⊕ (Int)) :=
  (bif (decide (v1 < a1)) then ((getI a2.sorts v1).bind fun x2 => ((getI a2.sorts a1).bind fun x3 => (bif (x2.toList == x3.toList) then (some (.inl (.k0))) else (some (.inr ((IntKind.wrap .i64 (v1 + 1)))))))) else (some (.inl (.k1))))
def L12_5_2_s (a1 : Int) (a2 : GramD) (v1 : Int) : St := ⟨fr 160 ug [(1, (.ptr 0 0)), (3, (i6 a1)), (4, (i6 v1))], [bG a2]⟩
def L12_5_2_x (a1 : Int) (a2 : GramD) (e : E_L12_5_2) (r : Option (Out × St)) : Prop := match e with | .k0 => ∃ g y, r = some (.ret, ⟨fr 160 g [(2, (i6 160))], y⟩) | .k1 => ∃ g, r = some ((.brk 2), ⟨fr 160 g [(1, (.ptr 0 0)), (3, (i6 a1))], [bG a2]⟩)
theorem L12_5_2_ok (a1 : Int) (a2 : GramD) (v1 : Int) {r : E_L12_5_2 ⊕ (Int)} (h : L12_5_2 a1 a2 v1 = some r) : OkR (fun e => L12_5_2_x a1 a2 e (evH prg 1 [1, 3, 4] ir12_l5 (L12_5_2_s a1 a2 v1))) (fun s => evH prg 1 [1, 3, 4] ir12_l5 (L12_5_2_s a1 a2 v1) = evH prg 1 [1, 3, 4] ir12_l5 (L12_5_2_s a1 a2 s)) r := by
 unfold L12_5_2 at h
 refine bi h (fun h1 h => ?_) fun h1 h => ?_
 ·
  refine bn h fun x2 h2 h => ?_
  refine bn h fun x3 h3 h => ?_
  refine bi h (fun h4 h => ?_) fun h4 h => ?_
  ·
   rw [← sj h]
   exact xretY (n := 30) [(57, .d true), (63, .v (.ro [.val (.string x2)])), (68, .v (.ro [.val (.string x3)])), (70, .d true), (6000, .d true)] (apc (cv h1) (apc (ig eStr 1 .i64 h2) (apc (ig eStr 1 .i64 h3) (apc (cv h4) apn)))) (by kernel_rfl)
  ·
   rw [← sj h]
   exact rnd (n := 30) [(57, .d true), (63, .v (.ro [.val (.string x2)])), (68, .v (.ro [.val (.string x3)])), (70, .d false), (6000, .d true)] (apc (cv h1) (apc (ig eStr 1 .i64 h2) (apc (ig eStr 1 .i64 h3) (apc (cv h4) (apc ((okT_of rfl (abl_cons rfl rfl)) : okT 1 [bG a2] = true) apn))))) (by kernel_rfl)
 ·
  rw [← sj h]
  exact xbrk (n := 30) [(57, .d false), (6000, .d true)] (apc (cv h1) apn) (by kernel_rfl)
theorem L12_5_2_run (a1 : Int) (a2 : GramD) (s0 : Int) (e : E_L12_5_2) (h : runL (fun s => L12_5_2 a1 a2 s) s0 = some e) : L12_5_2_x a1 a2 e (evH prg 1 [1, 3, 4] ir12_l5 (L12_5_2_s a1 a2 s0)) := by
  have q := @loop_sound' (Int) E_L12_5_2 (fun s => L12_5_2 a1 a2 s) (fun s => evH prg 1 [1, 3, 4] ir12_l5 (L12_5_2_s a1 a2 s)) (L12_5_2_x a1 a2) (fun s r h => L12_5_2_ok a1 a2 s h) s0 e h
  exact q
inductive E_L12_6 where
  | k0
  | k1
noncomputable def L12_6 (a1 : GramD) (v1 : Int) : Option (E_L12_6 ⊕ (Int)) :=
  (bif (decide (v1 < (a1.sorts.length : Int))) then ((getI a1.sorts v1).bind fun x2 => (bif (x2.toList == (⟨([] : List UInt8).toArray⟩ : ByteArray).toList) then (some (.inl (.k0))) else (bif (decide ((x2.size : Int) > 1000)) then (some (.inl (.k0))) else ((runL (fun s => L12_5_2 v1 a1 s) 0).bind fun r5 => match r5 with | .k0 => (some (.inl (.k0))) | .k1 => (some (.inr ((IntKind.wrap .i64 (v1 + 1))))))))) else (some (.inl (.k1))))
def L12_6_s (a1 : GramD) (v1 : Int) : St := ⟨fr 160 ug [(1, (.ptr 0 0)), (3, (i6 v1))], [bG a1]⟩
def L12_6_x (a1 : GramD) (e : E_L12_6) (r : Option (Out × St)) : Prop := match e with | .k0 => ∃ g y, r = some (.ret, ⟨fr 160 g [(2, (i6 160))], y⟩) | .k1 => ∃ g, r = some ((.brk 0), ⟨fr 160 g [(1, (.ptr 0 0))], [bG a1]⟩)
abbrev L12_6_d0 (g5 : Nat → AV) (v1 : Int) (a1 : GramD) : St := ⟨fr 160 g5 [(1, (.ptr 0 0)), (3, (i6 v1))], [bG a1]⟩
theorem L12_6_ok (a1 : GramD) (v1 : Int) {r : E_L12_6 ⊕ (Int)} (h : L12_6 a1 v1 = some r) : OkR (fun e => L12_6_x a1 e (evH prg 1 [1, 3] ir12_l6 (L12_6_s a1 v1))) (fun s => evH prg 1 [1, 3] ir12_l6 (L12_6_s a1 v1) = evH prg 1 [1, 3] ir12_l6 (L12_6_s a1 s)) r := by
 unfold L12_6 at h
 refine bi h (fun h1 h => ?_) fun h1 h => ?_
 ·
  refine bn h fun x2 h2 h => ?_
  refine bi h (fun h3 h => ?_) fun h3 h => ?_
  ·
   rw [← sj h]
   exact xretY (n := 30) [(36, .v (i6 (a1.sorts.length : Int))), (37, .d true), (43, .v (.ro [.val (.string x2)])), (45, .d true), (6000, .d true)] (apc (lg a1.sorts eStr 1) (apc (cv h1) (apc (ig eStr 1 .i64 h2) (apc (cv h3) apn)))) (by kernel_rfl)
  ·
   refine bi h (fun h4 h => ?_) fun h4 h => ?_
   ·
    rw [← sj h]
    exact xretY (n := 30) [(36, .v (i6 (a1.sorts.length : Int))), (37, .d true), (43, .v (.ro [.val (.string x2)])), (45, .d false), (50, .v (.ro [.val (.string x2)])), (53, .d true), (6000, .d true)] (apc (lg a1.sorts eStr 1) (apc (cv h1) (apc (ig eStr 1 .i64 h2) (apc (cv h3) (apc (ig eStr 1 .i64 h2) (apc (cv h4) apn)))))) (by kernel_rfl)
   ·
    refine bn h fun r5 h5 h => ?_
    cases r5 with
    | k0 =>
     obtain ⟨g5, y5, e5⟩ := L12_5_2_run v1 a1 0 _ h5
     rw [← sj h]
     exact xretY (n := 30) [(36, .v (i6 (a1.sorts.length : Int))), (37, .d true), (43, .v (.ro [.val (.string x2)])), (45, .d false), (50, .v (.ro [.val (.string x2)])), (53, .d false), (2002, .l .ret ⟨fr 160 g5 [(2, (i6 160))], y5⟩), (6000, .d true)] (apc (lg a1.sorts eStr 1) (apc (cv h1) (apc (ig eStr 1 .i64 h2) (apc (cv h3) (apc (ig eStr 1 .i64 h2) (apc (cv h4) (apc ((okT_of rfl (abl_cons rfl rfl)) : okT 1 [bG a1] = true) (apc (e5 : evH prg 1 [1, 3, 4] ir12_l5 (L12_5_2_s v1 a1 0) = some (.ret, ⟨fr 160 g5 [(2, (i6 160))], y5⟩)) apn)))))))) (by kernel_rfl)
    | k1 =>
     obtain ⟨g5, e5⟩ := L12_5_2_run v1 a1 0 _ h5
     rw [← sj h]
     exact rnd (n := 30) [(36, .v (i6 (a1.sorts.length : Int))), (37, .d true), (43, .v (.ro [.val (.string x2)])), (45, .d false), (50, .v (.ro [.val (.string x2)])), (53, .d false), (2002, .l (.brk 2) (L12_6_d0 g5 v1 a1)), (6000, .d true)] (apc (lg a1.sorts eStr 1) (apc (cv h1) (apc (ig eStr 1 .i64 h2) (apc (cv h3) (apc (ig eStr 1 .i64 h2) (apc (cv h4) (apc ((okT_of rfl (abl_cons rfl rfl)) : okT 1 [bG a1] = true) (apc (e5 : evH prg 1 [1, 3, 4] ir12_l5 (L12_5_2_s v1 a1 0) = some ((.brk 2), (L12_6_d0 g5 v1 a1))) (apc ((okT_of rfl (abl_cons rfl rfl)) : okT 1 [bG a1] = true) apn))))))))) (by kernel_rfl)
 ·
  rw [← sj h]
  exact xbrk (n := 30) [(36, .v (i6 (a1.sorts.length : Int))), (37, .d false), (6000, .d true)] (apc (lg a1.sorts eStr 1) (apc (cv h1) apn)) (by kernel_rfl)
theorem L12_6_run (a1 : GramD) (s0 : Int) (e : E_L12_6) (h : runL (fun s => L12_6 a1 s) s0 = some e) : L12_6_x a1 e (evH prg 1 [1, 3] ir12_l6 (L12_6_s a1 s0)) := by
  have q := @loop_sound' (Int) E_L12_6 (fun s => L12_6 a1 s) (fun s => evH prg 1 [1, 3] ir12_l6 (L12_6_s a1 s)) (L12_6_x a1) (fun s r h => L12_6_ok a1 s h) s0 e h
  exact q
def F31_2_v (a1 : GramD) (a2 : ProdD) (x0 : Bool) : AV := (vb x0)
noncomputable def F31_2 (a1 : GramD) (a2 : ProdD) : Option Bool :=
  (bif (decide (a2.left ≥ 0)) then (some (decide (a2.left < (a1.sorts.length : Int)))) else (some false))
theorem F31_2_ok (a1 : GramD) (a2 : ProdD) {r : Bool} (h : F31_2 a1 a2 = some r) : PR1 prg 31 [(aG a1), (i6 a2.left)] (F31_2_v a1 a2 r) := by
 unfold F31_2 at h
 refine bi h (fun h1 h => ?_) fun h1 h => ?_
 ·
  rw [← sj h]
  exact fpr (n := 30) [(6, .d true), (11, .v (i6 (a1.sorts.length : Int)))] (apc (cv h1) (apc (lg a1.sorts eStr 1) apn)) rfl (by kernel_rfl)
 ·
  rw [← sj h]
  exact fpr (n := 30) [(6, .d false)] (apc (cv h1) apn) rfl (by kernel_rfl)
def F34_v (a1 : SymD) (x0 : Bool) : AV := (vb x0)
noncomputable def F34 (a1 : SymD) : Option Bool :=
  (some ((IntKind.wrap .u64 ((BitVec.ofInt (IntKind.bits .u64) (IntKind.wrap .u64 ((BitVec.ofInt (IntKind.bits .u64) (IntKind.wrap .u64 ((BitVec.ofInt (IntKind.bits .u64) a1.a ||| BitVec.ofInt (IntKind.bits .u64) a1.b).toNat : Int)) ||| BitVec.ofInt (IntKind.bits .u64) a1.c).toNat : Int)) ||| BitVec.ofInt (IntKind.bits .u64) a1.d).toNat : Int)) == 0))
theorem F34_ok (a1 : SymD) {r : Bool} (h : F34 a1 = some r) : PR1 prg 34 [(.agg ((List.take 4 (List.drop 1 (eSym a1))).map .p))] (F34_v a1 r) := by
 unfold F34 at h
 rw [← sj h]
 exact fpr (n := 30) [] apn rfl (by kernel_rfl)
def F31_3_v (a1 : GramD) (a2 : SymD) (x0 : Bool) : AV := (vb x0)
noncomputable def F31_3 (a1 : GramD) (a2 : SymD) : Option Bool :=
  (bif (decide (a2.sort ≥ 0)) then (some (decide (a2.sort < (a1.sorts.length : Int)))) else (some false))
theorem F31_3_ok (a1 : GramD) (a2 : SymD) {r : Bool} (h : F31_3 a1 a2 = some r) : PR1 prg 31 [(aG a1), (i6 a2.sort)] (F31_3_v a1 a2 r) := by
 unfold F31_3 at h
 refine bi h (fun h1 h => ?_) fun h1 h => ?_
 ·
  rw [← sj h]
  exact fpr (n := 30) [(6, .d true), (11, .v (i6 (a1.sorts.length : Int)))] (apc (cv h1) (apc (lg a1.sorts eStr 1) apn)) rfl (by kernel_rfl)
 ·
  rw [← sj h]
  exact fpr (n := 30) [(6, .d false)] (apc (cv h1) apn) rfl (by kernel_rfl)
inductive E_L32_0 where
  | k0
  | k1
noncomputable def L32_0 (a1 : GramD) (a2 : ProdD) (v1 : Int) : Option (E_L32_0 ⊕ (Int)) :=
  (bif (decide (v1 < (a2.right.length : Int))) then ((getI a2.right v1).bind fun x2 => (bif (x2.kind == 0) then ((F34 x2).bind fun x4 => (bif x4 then (some (.inl (.k0))) else (bif (x2.sort != 0) then (some (.inl (.k0))) else (bif (x2.kind == 1) then ((F34 x2).bind fun x8 => (bif x8 then ((F31_3 a1 x2).bind fun x10 => (bif x10 then (bif (a2.role == 11) then (some (.inl (.k0))) else (bif (x2.kind != 0) then (bif (x2.kind != 1) then (some (.inl (.k0))) else (some (.inr ((IntKind.wrap .i64 (v1 + 1)))))) else (some (.inr ((IntKind.wrap .i64 (v1 + 1))))))) else (some (.inl (.k0))))) else (some (.inl (.k0))))) else (bif (x2.kind != 0) then (bif (x2.kind != 1) then (some (.inl (.k0))) else (some (.inr ((IntKind.wrap .i64 (v1 + 1)))))) else (some (.inr ((IntKind.wrap .i64 (v1 + 1)))))))))) else (bif (x2.kind == 1) then ((F34 x2).bind fun x5 => (bif x5 then ((F31_3 a1 x2).bind fun x7 => (bif x7 then (bif (a2.role == 11) then (some (.inl (.k0))) else (bif (x2.kind != 0) then (bif (x2.kind != 1) then (some (.inl (.k0))) else (some (.inr ((IntKind.wrap .i64 (v1 + 1)))))) else (some (.inr ((IntKind.wrap .i64 (v1 + 1))))))) else (some (.inl (.k0))))) else (some (.inl (.k0))))) else (bif (x2.kind != 0) then (bif (x2.kind != 1) then (some (.inl (.k0))) else (some (.inr ((IntKind.wrap .i64 (v1 + 1)))))) else (some (.inr ((IntKind.wrap .i64 (v1 + 1))))))))) else (some (.inl (.k1))))
def L32_0_s (a1 : GramD) (a2 : ProdD) (v1 : Int) : St := ⟨fr 111 ug [(2, (.ptr 0 0)), (3, (.ptr 1 0)), (5, (i6 v1))], [bG a1, bP a2]⟩
def L32_0_x (a1 : GramD) (a2 : ProdD) (e : E_L32_0) (r : Option (Out × St)) : Prop := match e with | .k0 => ∃ g y, r = some (.ret, ⟨fr 111 g [(4, (vb false))], y⟩) | .k1 => ∃ g, r = some ((.brk 0), ⟨fr 111 g [(2, (.ptr 0 0)), (3, (.ptr 1 0))], [bG a1, bP a2]⟩)
abbrev L32_0_d0 (a1 : GramD) (a2 : ProdD) (x2 : SymD) : List AB := [bG a1, bP a2, .cells 68 ((eSym x2).map .p)]
theorem L32_0_ok (a1 : GramD) (a2 : ProdD) (v1 : Int) {r : E_L32_0 ⊕ (Int)} (h : L32_0 a1 a2 v1 = some r) : OkR (fun e => L32_0_x a1 a2 e (evH prg 2 [2, 3, 5] ir32_l0 (L32_0_s a1 a2 v1))) (fun s => evH prg 2 [2, 3, 5] ir32_l0 (L32_0_s a1 a2 v1) = evH prg 2 [2, 3, 5] ir32_l0 (L32_0_s a1 a2 s)) r := by
 unfold L32_0 at h
 refine bi h (fun h1 h => ?_) fun h1 h => ?_
 ·
  refine bn h fun x2 h2 h => ?_
  refine bi h (fun h3 h => ?_) fun h3 h => ?_
  ·
   refine bn h fun x4 h4 h => ?_
   refine bi h (fun h5 h => ?_) fun h5 h => ?_
   ·
    rw [← sj h]
    exact xretY (n := 30) [(60, .v (i6 (a2.right.length : Int))), (61, .d true), (67, .v (.ro (eSym x2))), (71, .d true), (75, .v (vb true)), (6000, .d true)] (apc (lg a2.right eSym 6) (apc (cv h1) (apc (ig eSym 6 .i64 h2) (apc (cv h3) (apc ((((F34_ok x2 h4).cp rfl _).trans (congrArg (fun z => some (vb z)) h5)) : CP prg 34 [(.agg ((List.take 4 (List.drop 1 (eSym x2))).map .p))] (L32_0_d0 a1 a2 x2) = some (vb true)) apn))))) (by kernel_rfl)
   ·
    have q4 := ((((F34_ok x2 h4).cp rfl _).trans (congrArg (fun z => some (vb z)) h5)) : CP prg 34 [(.agg ((List.take 4 (List.drop 1 (eSym x2))).map .p))] (L32_0_d0 a1 a2 x2) = some (vb false))
    refine bi h (fun h6 h => ?_) fun h6 h => ?_
    ·
     rw [← sj h]
     exact xretY (n := 30) [(60, .v (i6 (a2.right.length : Int))), (61, .d true), (67, .v (.ro (eSym x2))), (71, .d true), (75, .v (vb false)), (79, .d true), (6000, .d true)] (apc (lg a2.right eSym 6) (apc (cv h1) (apc (ig eSym 6 .i64 h2) (apc (cv h3) (apc q4 (apc (cv h6) apn)))))) (by kernel_rfl)
    ·
     refine bi h (fun h7 h => ?_) fun h7 h => ?_
     ·
      refine bn h fun x8 h8 h => ?_
      refine bi h (fun h9 h => ?_) fun h9 h => ?_
      ·
       have q7 := ((((F34_ok x2 h8).cp rfl _).trans (congrArg (fun z => some (vb z)) h9)) : CP prg 34 [(.agg ((List.take 4 (List.drop 1 (eSym x2))).map .p))] (L32_0_d0 a1 a2 x2) = some (vb true))
       refine bn h fun x10 h10 h => ?_
       refine bi h (fun h11 h => ?_) fun h11 h => ?_
       ·
        have q8 := ((((F31_3_ok a1 x2 h10).cp rfl _).trans (congrArg (fun z => some (vb z)) h11)) : CP prg 31 [(aG a1), (i6 x2.sort)] (L32_0_d0 a1 a2 x2) = some (vb true))
        refine bi h (fun h12 h => ?_) fun h12 h => ?_
        ·
         rw [← sj h]
         exact xretY (n := 30) [(60, .v (i6 (a2.right.length : Int))), (61, .d true), (67, .v (.ro (eSym x2))), (71, .d true), (75, .v (vb false)), (79, .d false), (84, .d true), (88, .v (vb true)), (94, .v (vb true)), (100, .d true), (6000, .d true)] (apc (lg a2.right eSym 6) (apc (cv h1) (apc (ig eSym 6 .i64 h2) (apc (cv h3) (apc q4 (apc (cv h6) (apc (cv h7) (apc q7 (apc q8 (apc (cv h12) apn)))))))))) (by kernel_rfl)
        ·
         refine bi h (fun h13 h => ?_) fun h13 h => ?_
         ·
          refine bi h (fun h14 h => ?_) fun h14 h => ?_
          ·
           rw [← sj h]
           exact xretY (n := 30) [(60, .v (i6 (a2.right.length : Int))), (61, .d true), (67, .v (.ro (eSym x2))), (71, .d true), (75, .v (vb false)), (79, .d false), (84, .d true), (88, .v (vb true)), (94, .v (vb true)), (100, .d false), (105, .d true), (109, .d true), (6000, .d true)] (apc (lg a2.right eSym 6) (apc (cv h1) (apc (ig eSym 6 .i64 h2) (apc (cv h3) (apc q4 (apc (cv h6) (apc (cv h7) (apc q7 (apc q8 (apc (cv h12) (apc (cv h13) (apc (cv h14) apn)))))))))))) (by kernel_rfl)
          ·
           rw [← sj h]
           exact rnd (n := 30) [(60, .v (i6 (a2.right.length : Int))), (61, .d true), (67, .v (.ro (eSym x2))), (71, .d true), (75, .v (vb false)), (79, .d false), (84, .d true), (88, .v (vb true)), (94, .v (vb true)), (100, .d false), (105, .d true), (109, .d false), (6000, .d true)] (apc (lg a2.right eSym 6) (apc (cv h1) (apc (ig eSym 6 .i64 h2) (apc (cv h3) (apc q4 (apc (cv h6) (apc (cv h7) (apc q7 (apc q8 (apc (cv h12) (apc (cv h13) (apc (cv h14) (apc ((okT_of rfl (abl_cons rfl (abl_cons rfl rfl))) : okT 2 (L32_0_d0 a1 a2 x2) = true) apn))))))))))))) (by kernel_rfl)
         ·
          rw [← sj h]
          exact rnd (n := 30) [(60, .v (i6 (a2.right.length : Int))), (61, .d true), (67, .v (.ro (eSym x2))), (71, .d true), (75, .v (vb false)), (79, .d false), (84, .d true), (88, .v (vb true)), (94, .v (vb true)), (100, .d false), (105, .d false), (6000, .d true)] (apc (lg a2.right eSym 6) (apc (cv h1) (apc (ig eSym 6 .i64 h2) (apc (cv h3) (apc q4 (apc (cv h6) (apc (cv h7) (apc q7 (apc q8 (apc (cv h12) (apc (cv h13) (apc ((okT_of rfl (abl_cons rfl (abl_cons rfl rfl))) : okT 2 (L32_0_d0 a1 a2 x2) = true) apn)))))))))))) (by kernel_rfl)
       ·
        rw [← sj h]
        exact xretY (n := 30) [(60, .v (i6 (a2.right.length : Int))), (61, .d true), (67, .v (.ro (eSym x2))), (71, .d true), (75, .v (vb false)), (79, .d false), (84, .d true), (88, .v (vb true)), (94, .v (vb false)), (6000, .d true)] (apc (lg a2.right eSym 6) (apc (cv h1) (apc (ig eSym 6 .i64 h2) (apc (cv h3) (apc q4 (apc (cv h6) (apc (cv h7) (apc q7 (apc ((((F31_3_ok a1 x2 h10).cp rfl _).trans (congrArg (fun z => some (vb z)) h11)) : CP prg 31 [(aG a1), (i6 x2.sort)] (L32_0_d0 a1 a2 x2) = some (vb false)) apn))))))))) (by kernel_rfl)
      ·
       rw [← sj h]
       exact xretY (n := 30) [(60, .v (i6 (a2.right.length : Int))), (61, .d true), (67, .v (.ro (eSym x2))), (71, .d true), (75, .v (vb false)), (79, .d false), (84, .d true), (88, .v (vb false)), (6000, .d true)] (apc (lg a2.right eSym 6) (apc (cv h1) (apc (ig eSym 6 .i64 h2) (apc (cv h3) (apc q4 (apc (cv h6) (apc (cv h7) (apc ((((F34_ok x2 h8).cp rfl _).trans (congrArg (fun z => some (vb z)) h9)) : CP prg 34 [(.agg ((List.take 4 (List.drop 1 (eSym x2))).map .p))] (L32_0_d0 a1 a2 x2) = some (vb false)) apn)))))))) (by kernel_rfl)
     ·
      refine bi h (fun h8 h => ?_) fun h8 h => ?_
      ·
       refine bi h (fun h9 h => ?_) fun h9 h => ?_
       ·
        rw [← sj h]
        exact xretY (n := 30) [(60, .v (i6 (a2.right.length : Int))), (61, .d true), (67, .v (.ro (eSym x2))), (71, .d true), (75, .v (vb false)), (79, .d false), (84, .d false), (105, .d true), (109, .d true), (6000, .d true)] (apc (lg a2.right eSym 6) (apc (cv h1) (apc (ig eSym 6 .i64 h2) (apc (cv h3) (apc q4 (apc (cv h6) (apc (cv h7) (apc (cv h8) (apc (cv h9) apn))))))))) (by kernel_rfl)
       ·
        rw [← sj h]
        exact rnd (n := 30) [(60, .v (i6 (a2.right.length : Int))), (61, .d true), (67, .v (.ro (eSym x2))), (71, .d true), (75, .v (vb false)), (79, .d false), (84, .d false), (105, .d true), (109, .d false), (6000, .d true)] (apc (lg a2.right eSym 6) (apc (cv h1) (apc (ig eSym 6 .i64 h2) (apc (cv h3) (apc q4 (apc (cv h6) (apc (cv h7) (apc (cv h8) (apc (cv h9) (apc ((okT_of rfl (abl_cons rfl (abl_cons rfl rfl))) : okT 2 (L32_0_d0 a1 a2 x2) = true) apn)))))))))) (by kernel_rfl)
      ·
       rw [← sj h]
       exact rnd (n := 30) [(60, .v (i6 (a2.right.length : Int))), (61, .d true), (67, .v (.ro (eSym x2))), (71, .d true), (75, .v (vb false)), (79, .d false), (84, .d false), (105, .d false), (6000, .d true)] (apc (lg a2.right eSym 6) (apc (cv h1) (apc (ig eSym 6 .i64 h2) (apc (cv h3) (apc q4 (apc (cv h6) (apc (cv h7) (apc (cv h8) (apc ((okT_of rfl (abl_cons rfl (abl_cons rfl rfl))) : okT 2 (L32_0_d0 a1 a2 x2) = true) apn))))))))) (by kernel_rfl)
  ·
   refine bi h (fun h4 h => ?_) fun h4 h => ?_
   ·
    refine bn h fun x5 h5 h => ?_
    refine bi h (fun h6 h => ?_) fun h6 h => ?_
    ·
     have q5 := ((((F34_ok x2 h5).cp rfl _).trans (congrArg (fun z => some (vb z)) h6)) : CP prg 34 [(.agg ((List.take 4 (List.drop 1 (eSym x2))).map .p))] (L32_0_d0 a1 a2 x2) = some (vb true))
     refine bn h fun x7 h7 h => ?_
     refine bi h (fun h8 h => ?_) fun h8 h => ?_
     ·
      have q6 := ((((F31_3_ok a1 x2 h7).cp rfl _).trans (congrArg (fun z => some (vb z)) h8)) : CP prg 31 [(aG a1), (i6 x2.sort)] (L32_0_d0 a1 a2 x2) = some (vb true))
      refine bi h (fun h9 h => ?_) fun h9 h => ?_
      ·
       rw [← sj h]
       exact xretY (n := 30) [(60, .v (i6 (a2.right.length : Int))), (61, .d true), (67, .v (.ro (eSym x2))), (71, .d false), (84, .d true), (88, .v (vb true)), (94, .v (vb true)), (100, .d true), (6000, .d true)] (apc (lg a2.right eSym 6) (apc (cv h1) (apc (ig eSym 6 .i64 h2) (apc (cv h3) (apc (cv h4) (apc q5 (apc q6 (apc (cv h9) apn)))))))) (by kernel_rfl)
      ·
       refine bi h (fun h10 h => ?_) fun h10 h => ?_
       ·
        refine bi h (fun h11 h => ?_) fun h11 h => ?_
        ·
         rw [← sj h]
         exact xretY (n := 30) [(60, .v (i6 (a2.right.length : Int))), (61, .d true), (67, .v (.ro (eSym x2))), (71, .d false), (84, .d true), (88, .v (vb true)), (94, .v (vb true)), (100, .d false), (105, .d true), (109, .d true), (6000, .d true)] (apc (lg a2.right eSym 6) (apc (cv h1) (apc (ig eSym 6 .i64 h2) (apc (cv h3) (apc (cv h4) (apc q5 (apc q6 (apc (cv h9) (apc (cv h10) (apc (cv h11) apn)))))))))) (by kernel_rfl)
        ·
         rw [← sj h]
         exact rnd (n := 30) [(60, .v (i6 (a2.right.length : Int))), (61, .d true), (67, .v (.ro (eSym x2))), (71, .d false), (84, .d true), (88, .v (vb true)), (94, .v (vb true)), (100, .d false), (105, .d true), (109, .d false), (6000, .d true)] (apc (lg a2.right eSym 6) (apc (cv h1) (apc (ig eSym 6 .i64 h2) (apc (cv h3) (apc (cv h4) (apc q5 (apc q6 (apc (cv h9) (apc (cv h10) (apc (cv h11) (apc ((okT_of rfl (abl_cons rfl (abl_cons rfl rfl))) : okT 2 (L32_0_d0 a1 a2 x2) = true) apn))))))))))) (by kernel_rfl)
       ·
        rw [← sj h]
        exact rnd (n := 30) [(60, .v (i6 (a2.right.length : Int))), (61, .d true), (67, .v (.ro (eSym x2))), (71, .d false), (84, .d true), (88, .v (vb true)), (94, .v (vb true)), (100, .d false), (105, .d false), (6000, .d true)] (apc (lg a2.right eSym 6) (apc (cv h1) (apc (ig eSym 6 .i64 h2) (apc (cv h3) (apc (cv h4) (apc q5 (apc q6 (apc (cv h9) (apc (cv h10) (apc ((okT_of rfl (abl_cons rfl (abl_cons rfl rfl))) : okT 2 (L32_0_d0 a1 a2 x2) = true) apn)))))))))) (by kernel_rfl)
     ·
      rw [← sj h]
      exact xretY (n := 30) [(60, .v (i6 (a2.right.length : Int))), (61, .d true), (67, .v (.ro (eSym x2))), (71, .d false), (84, .d true), (88, .v (vb true)), (94, .v (vb false)), (6000, .d true)] (apc (lg a2.right eSym 6) (apc (cv h1) (apc (ig eSym 6 .i64 h2) (apc (cv h3) (apc (cv h4) (apc q5 (apc ((((F31_3_ok a1 x2 h7).cp rfl _).trans (congrArg (fun z => some (vb z)) h8)) : CP prg 31 [(aG a1), (i6 x2.sort)] (L32_0_d0 a1 a2 x2) = some (vb false)) apn))))))) (by kernel_rfl)
    ·
     rw [← sj h]
     exact xretY (n := 30) [(60, .v (i6 (a2.right.length : Int))), (61, .d true), (67, .v (.ro (eSym x2))), (71, .d false), (84, .d true), (88, .v (vb false)), (6000, .d true)] (apc (lg a2.right eSym 6) (apc (cv h1) (apc (ig eSym 6 .i64 h2) (apc (cv h3) (apc (cv h4) (apc ((((F34_ok x2 h5).cp rfl _).trans (congrArg (fun z => some (vb z)) h6)) : CP prg 34 [(.agg ((List.take 4 (List.drop 1 (eSym x2))).map .p))] (L32_0_d0 a1 a2 x2) = some (vb false)) apn)))))) (by kernel_rfl)
   ·
    refine bi h (fun h5 h => ?_) fun h5 h => ?_
    ·
     refine bi h (fun h6 h => ?_) fun h6 h => ?_
     ·
      rw [← sj h]
      exact xretY (n := 30) [(60, .v (i6 (a2.right.length : Int))), (61, .d true), (67, .v (.ro (eSym x2))), (71, .d false), (84, .d false), (105, .d true), (109, .d true), (6000, .d true)] (apc (lg a2.right eSym 6) (apc (cv h1) (apc (ig eSym 6 .i64 h2) (apc (cv h3) (apc (cv h4) (apc (cv h5) (apc (cv h6) apn))))))) (by kernel_rfl)
     ·
      rw [← sj h]
      exact rnd (n := 30) [(60, .v (i6 (a2.right.length : Int))), (61, .d true), (67, .v (.ro (eSym x2))), (71, .d false), (84, .d false), (105, .d true), (109, .d false), (6000, .d true)] (apc (lg a2.right eSym 6) (apc (cv h1) (apc (ig eSym 6 .i64 h2) (apc (cv h3) (apc (cv h4) (apc (cv h5) (apc (cv h6) (apc ((okT_of rfl (abl_cons rfl (abl_cons rfl rfl))) : okT 2 (L32_0_d0 a1 a2 x2) = true) apn)))))))) (by kernel_rfl)
    ·
     rw [← sj h]
     exact rnd (n := 30) [(60, .v (i6 (a2.right.length : Int))), (61, .d true), (67, .v (.ro (eSym x2))), (71, .d false), (84, .d false), (105, .d false), (6000, .d true)] (apc (lg a2.right eSym 6) (apc (cv h1) (apc (ig eSym 6 .i64 h2) (apc (cv h3) (apc (cv h4) (apc (cv h5) (apc ((okT_of rfl (abl_cons rfl (abl_cons rfl rfl))) : okT 2 (L32_0_d0 a1 a2 x2) = true) apn))))))) (by kernel_rfl)
 ·
  rw [← sj h]
  exact xbrk (n := 30) [(60, .v (i6 (a2.right.length : Int))), (61, .d false), (6000, .d true)] (apc (lg a2.right eSym 6) (apc (cv h1) apn)) (by kernel_rfl)
theorem L32_0_run (a1 : GramD) (a2 : ProdD) (s0 : Int) (e : E_L32_0) (h : runL (fun s => L32_0 a1 a2 s) s0 = some e) : L32_0_x a1 a2 e (evH prg 2 [2, 3, 5] ir32_l0 (L32_0_s a1 a2 s0)) := by
  have q := @loop_sound' (Int) E_L32_0 (fun s => L32_0 a1 a2 s) (fun s => evH prg 2 [2, 3, 5] ir32_l0 (L32_0_s a1 a2 s)) (L32_0_x a1 a2) (fun s r h => L32_0_ok a1 a2 s h) s0 e h
  exact q
def F32_v (a1 : GramD) (a2 : ProdD) (x0 : Bool) : AV := (vb x0)
noncomputable def F32 (a1 : GramD) (a2 : ProdD) : Option Bool :=
  ((F31_2 a1 a2).bind fun x1 => (bif x1 then (bif (decide ((a2.right.length : Int) > 30)) then (some false) else (bif (decide (a2.role < 0)) then (some false) else (bif (decide (a2.role > 11)) then (some false) else (bif (decide (a2.frm < (-1))) then (some false) else (bif (decide ((a2.cons.size : Int) > 64)) then (some false) else (bif (!(a2.cons.toList == (⟨([] : List UInt8).toArray⟩ : ByteArray).toList)) then (bif (a2.role != 0) then (some false) else (bif a2.prefer then (bif a2.avoid then (some false) else ((runL (fun s => L32_0 a1 a2 s) 0).bind fun r12 => match r12 with | .k0 => (some false) | .k1 => (some true))) else ((runL (fun s => L32_0 a1 a2 s) 0).bind fun r11 => match r11 with | .k0 => (some false) | .k1 => (some true)))) else (bif a2.prefer then (bif a2.avoid then (some false) else ((runL (fun s => L32_0 a1 a2 s) 0).bind fun r11 => match r11 with | .k0 => (some false) | .k1 => (some true))) else ((runL (fun s => L32_0 a1 a2 s) 0).bind fun r10 => match r10 with | .k0 => (some false) | .k1 => (some true))))))))) else (some false)))
abbrev F32_d0 (g12 : Nat → AV) (a1 : GramD) (a2 : ProdD) : St := ⟨fr 111 g12 [(2, (.ptr 0 0)), (3, (.ptr 1 0))], [bG a1, bP a2]⟩
abbrev F32_d1 (g11 : Nat → AV) (a1 : GramD) (a2 : ProdD) : St := ⟨fr 111 g11 [(2, (.ptr 0 0)), (3, (.ptr 1 0))], [bG a1, bP a2]⟩
abbrev F32_d2 (g10 : Nat → AV) (a1 : GramD) (a2 : ProdD) : St := ⟨fr 111 g10 [(2, (.ptr 0 0)), (3, (.ptr 1 0))], [bG a1, bP a2]⟩
theorem F32_ok (a1 : GramD) (a2 : ProdD) {r : Bool} (h : F32 a1 a2 = some r) : PR1 prg 32 [(aG a1), (aP a2)] (F32_v a1 a2 r) := by
 unfold F32 at h
 refine bn h fun x1 h1 h => ?_
 refine bi h (fun h2 h => ?_) fun h2 h => ?_
 ·
  have q0 := ((((F31_2_ok a1 a2 h1).cp rfl _).trans (congrArg (fun z => some (vb z)) h2)) : CP prg 31 [(aG a1), (i6 a2.left)] [bG a1, bP a2] = some (vb true))
  refine bi h (fun h3 h => ?_) fun h3 h => ?_
  ·
   rw [← sj h]
   exact fpr (n := 30) [(10, .v (vb true)), (15, .v (i6 (a2.right.length : Int))), (16, .d true)] (apc q0 (apc (lg a2.right eSym 6) (apc (cv h3) apn))) rfl (by kernel_rfl)
  ·
   refine bi h (fun h4 h => ?_) fun h4 h => ?_
   ·
    rw [← sj h]
    exact fpr (n := 30) [(10, .v (vb true)), (15, .v (i6 (a2.right.length : Int))), (16, .d false), (21, .d true)] (apc q0 (apc (lg a2.right eSym 6) (apc (cv h3) (apc (cv h4) apn)))) rfl (by kernel_rfl)
   ·
    refine bi h (fun h5 h => ?_) fun h5 h => ?_
    ·
     rw [← sj h]
     exact fpr (n := 30) [(10, .v (vb true)), (15, .v (i6 (a2.right.length : Int))), (16, .d false), (21, .d false), (26, .d true)] (apc q0 (apc (lg a2.right eSym 6) (apc (cv h3) (apc (cv h4) (apc (cv h5) apn))))) rfl (by kernel_rfl)
    ·
     refine bi h (fun h6 h => ?_) fun h6 h => ?_
     ·
      rw [← sj h]
      exact fpr (n := 30) [(10, .v (vb true)), (15, .v (i6 (a2.right.length : Int))), (16, .d false), (21, .d false), (26, .d false), (31, .d true)] (apc q0 (apc (lg a2.right eSym 6) (apc (cv h3) (apc (cv h4) (apc (cv h5) (apc (cv h6) apn)))))) rfl (by kernel_rfl)
     ·
      refine bi h (fun h7 h => ?_) fun h7 h => ?_
      ·
       rw [← sj h]
       exact fpr (n := 30) [(10, .v (vb true)), (15, .v (i6 (a2.right.length : Int))), (16, .d false), (21, .d false), (26, .d false), (31, .d false), (37, .d true)] (apc q0 (apc (lg a2.right eSym 6) (apc (cv h3) (apc (cv h4) (apc (cv h5) (apc (cv h6) (apc (cv h7) apn))))))) rfl (by kernel_rfl)
      ·
       refine bi h (fun h8 h => ?_) fun h8 h => ?_
       ·
        refine bi h (fun h9 h => ?_) fun h9 h => ?_
        ·
         rw [← sj h]
         exact fpr (n := 30) [(10, .v (vb true)), (15, .v (i6 (a2.right.length : Int))), (16, .d false), (21, .d false), (26, .d false), (31, .d false), (37, .d false), (42, .d true), (46, .d true)] (apc q0 (apc (lg a2.right eSym 6) (apc (cv h3) (apc (cv h4) (apc (cv h5) (apc (cv h6) (apc (cv h7) (apc (cv h8) (apc (cv h9) apn))))))))) rfl (by kernel_rfl)
        ·
         refine bi h (fun h10 h => ?_) fun h10 h => ?_
         ·
          refine bi h (fun h11 h => ?_) fun h11 h => ?_
          ·
           rw [← sj h]
           exact fpr (n := 30) [(10, .v (vb true)), (15, .v (i6 (a2.right.length : Int))), (16, .d false), (21, .d false), (26, .d false), (31, .d false), (37, .d false), (42, .d true), (46, .d false), (51, .d true), (54, .d true)] (apc q0 (apc (lg a2.right eSym 6) (apc (cv h3) (apc (cv h4) (apc (cv h5) (apc (cv h6) (apc (cv h7) (apc (cv h8) (apc (cv h9) (apc (cv h10) (apc (cv h11) apn))))))))))) rfl (by kernel_rfl)
          ·
           refine bn h fun r12 h12 h => ?_
           cases r12 with
           | k0 =>
            obtain ⟨g12, y12, e12⟩ := L32_0_run a1 a2 0 _ h12
            rw [← sj h]
            exact fpr (n := 30) [(10, .v (vb true)), (15, .v (i6 (a2.right.length : Int))), (16, .d false), (21, .d false), (26, .d false), (31, .d false), (37, .d false), (42, .d true), (46, .d false), (51, .d true), (54, .d false), (2000, .l .ret ⟨fr 111 g12 [(4, (vb false))], y12⟩), (6000, .d true)] (apc q0 (apc (lg a2.right eSym 6) (apc (cv h3) (apc (cv h4) (apc (cv h5) (apc (cv h6) (apc (cv h7) (apc (cv h8) (apc (cv h9) (apc (cv h10) (apc (cv h11) (apc ((okT_of rfl (abl_cons rfl (abl_cons rfl rfl))) : okT 2 [bG a1, bP a2] = true) (apc (e12 : evH prg 2 [2, 3, 5] ir32_l0 (L32_0_s a1 a2 0) = some (.ret, ⟨fr 111 g12 [(4, (vb false))], y12⟩)) apn))))))))))))) rfl (by kernel_rfl)
           | k1 =>
            obtain ⟨g12, e12⟩ := L32_0_run a1 a2 0 _ h12
            rw [← sj h]
            exact fpr (n := 30) [(10, .v (vb true)), (15, .v (i6 (a2.right.length : Int))), (16, .d false), (21, .d false), (26, .d false), (31, .d false), (37, .d false), (42, .d true), (46, .d false), (51, .d true), (54, .d false), (2000, .l (.brk 0) (F32_d0 g12 a1 a2)), (6000, .d true)] (apc q0 (apc (lg a2.right eSym 6) (apc (cv h3) (apc (cv h4) (apc (cv h5) (apc (cv h6) (apc (cv h7) (apc (cv h8) (apc (cv h9) (apc (cv h10) (apc (cv h11) (apc ((okT_of rfl (abl_cons rfl (abl_cons rfl rfl))) : okT 2 [bG a1, bP a2] = true) (apc (e12 : evH prg 2 [2, 3, 5] ir32_l0 (L32_0_s a1 a2 0) = some ((.brk 0), (F32_d0 g12 a1 a2))) apn))))))))))))) rfl (by kernel_rfl)
         ·
          refine bn h fun r11 h11 h => ?_
          cases r11 with
          | k0 =>
           obtain ⟨g11, y11, e11⟩ := L32_0_run a1 a2 0 _ h11
           rw [← sj h]
           exact fpr (n := 30) [(10, .v (vb true)), (15, .v (i6 (a2.right.length : Int))), (16, .d false), (21, .d false), (26, .d false), (31, .d false), (37, .d false), (42, .d true), (46, .d false), (51, .d false), (2000, .l .ret ⟨fr 111 g11 [(4, (vb false))], y11⟩), (6000, .d true)] (apc q0 (apc (lg a2.right eSym 6) (apc (cv h3) (apc (cv h4) (apc (cv h5) (apc (cv h6) (apc (cv h7) (apc (cv h8) (apc (cv h9) (apc (cv h10) (apc ((okT_of rfl (abl_cons rfl (abl_cons rfl rfl))) : okT 2 [bG a1, bP a2] = true) (apc (e11 : evH prg 2 [2, 3, 5] ir32_l0 (L32_0_s a1 a2 0) = some (.ret, ⟨fr 111 g11 [(4, (vb false))], y11⟩)) apn)))))))))))) rfl (by kernel_rfl)
          | k1 =>
           obtain ⟨g11, e11⟩ := L32_0_run a1 a2 0 _ h11
           rw [← sj h]
           exact fpr (n := 30) [(10, .v (vb true)), (15, .v (i6 (a2.right.length : Int))), (16, .d false), (21, .d false), (26, .d false), (31, .d false), (37, .d false), (42, .d true), (46, .d false), (51, .d false), (2000, .l (.brk 0) (F32_d1 g11 a1 a2)), (6000, .d true)] (apc q0 (apc (lg a2.right eSym 6) (apc (cv h3) (apc (cv h4) (apc (cv h5) (apc (cv h6) (apc (cv h7) (apc (cv h8) (apc (cv h9) (apc (cv h10) (apc ((okT_of rfl (abl_cons rfl (abl_cons rfl rfl))) : okT 2 [bG a1, bP a2] = true) (apc (e11 : evH prg 2 [2, 3, 5] ir32_l0 (L32_0_s a1 a2 0) = some ((.brk 0), (F32_d1 g11 a1 a2))) apn)))))))))))) rfl (by kernel_rfl)
       ·
        refine bi h (fun h9 h => ?_) fun h9 h => ?_
        ·
         refine bi h (fun h10 h => ?_) fun h10 h => ?_
         ·
          rw [← sj h]
          exact fpr (n := 30) [(10, .v (vb true)), (15, .v (i6 (a2.right.length : Int))), (16, .d false), (21, .d false), (26, .d false), (31, .d false), (37, .d false), (42, .d false), (51, .d true), (54, .d true)] (apc q0 (apc (lg a2.right eSym 6) (apc (cv h3) (apc (cv h4) (apc (cv h5) (apc (cv h6) (apc (cv h7) (apc (cv h8) (apc (cv h9) (apc (cv h10) apn)))))))))) rfl (by kernel_rfl)
         ·
          refine bn h fun r11 h11 h => ?_
          cases r11 with
          | k0 =>
           obtain ⟨g11, y11, e11⟩ := L32_0_run a1 a2 0 _ h11
           rw [← sj h]
           exact fpr (n := 30) [(10, .v (vb true)), (15, .v (i6 (a2.right.length : Int))), (16, .d false), (21, .d false), (26, .d false), (31, .d false), (37, .d false), (42, .d false), (51, .d true), (54, .d false), (2000, .l .ret ⟨fr 111 g11 [(4, (vb false))], y11⟩), (6000, .d true)] (apc q0 (apc (lg a2.right eSym 6) (apc (cv h3) (apc (cv h4) (apc (cv h5) (apc (cv h6) (apc (cv h7) (apc (cv h8) (apc (cv h9) (apc (cv h10) (apc ((okT_of rfl (abl_cons rfl (abl_cons rfl rfl))) : okT 2 [bG a1, bP a2] = true) (apc (e11 : evH prg 2 [2, 3, 5] ir32_l0 (L32_0_s a1 a2 0) = some (.ret, ⟨fr 111 g11 [(4, (vb false))], y11⟩)) apn)))))))))))) rfl (by kernel_rfl)
          | k1 =>
           obtain ⟨g11, e11⟩ := L32_0_run a1 a2 0 _ h11
           rw [← sj h]
           exact fpr (n := 30) [(10, .v (vb true)), (15, .v (i6 (a2.right.length : Int))), (16, .d false), (21, .d false), (26, .d false), (31, .d false), (37, .d false), (42, .d false), (51, .d true), (54, .d false), (2000, .l (.brk 0) (F32_d1 g11 a1 a2)), (6000, .d true)] (apc q0 (apc (lg a2.right eSym 6) (apc (cv h3) (apc (cv h4) (apc (cv h5) (apc (cv h6) (apc (cv h7) (apc (cv h8) (apc (cv h9) (apc (cv h10) (apc ((okT_of rfl (abl_cons rfl (abl_cons rfl rfl))) : okT 2 [bG a1, bP a2] = true) (apc (e11 : evH prg 2 [2, 3, 5] ir32_l0 (L32_0_s a1 a2 0) = some ((.brk 0), (F32_d1 g11 a1 a2))) apn)))))))))))) rfl (by kernel_rfl)
        ·
         refine bn h fun r10 h10 h => ?_
         cases r10 with
         | k0 =>
          obtain ⟨g10, y10, e10⟩ := L32_0_run a1 a2 0 _ h10
          rw [← sj h]
          exact fpr (n := 30) [(10, .v (vb true)), (15, .v (i6 (a2.right.length : Int))), (16, .d false), (21, .d false), (26, .d false), (31, .d false), (37, .d false), (42, .d false), (51, .d false), (2000, .l .ret ⟨fr 111 g10 [(4, (vb false))], y10⟩), (6000, .d true)] (apc q0 (apc (lg a2.right eSym 6) (apc (cv h3) (apc (cv h4) (apc (cv h5) (apc (cv h6) (apc (cv h7) (apc (cv h8) (apc (cv h9) (apc ((okT_of rfl (abl_cons rfl (abl_cons rfl rfl))) : okT 2 [bG a1, bP a2] = true) (apc (e10 : evH prg 2 [2, 3, 5] ir32_l0 (L32_0_s a1 a2 0) = some (.ret, ⟨fr 111 g10 [(4, (vb false))], y10⟩)) apn))))))))))) rfl (by kernel_rfl)
         | k1 =>
          obtain ⟨g10, e10⟩ := L32_0_run a1 a2 0 _ h10
          rw [← sj h]
          exact fpr (n := 30) [(10, .v (vb true)), (15, .v (i6 (a2.right.length : Int))), (16, .d false), (21, .d false), (26, .d false), (31, .d false), (37, .d false), (42, .d false), (51, .d false), (2000, .l (.brk 0) (F32_d2 g10 a1 a2)), (6000, .d true)] (apc q0 (apc (lg a2.right eSym 6) (apc (cv h3) (apc (cv h4) (apc (cv h5) (apc (cv h6) (apc (cv h7) (apc (cv h8) (apc (cv h9) (apc ((okT_of rfl (abl_cons rfl (abl_cons rfl rfl))) : okT 2 [bG a1, bP a2] = true) (apc (e10 : evH prg 2 [2, 3, 5] ir32_l0 (L32_0_s a1 a2 0) = some ((.brk 0), (F32_d2 g10 a1 a2))) apn))))))))))) rfl (by kernel_rfl)
 ·
  rw [← sj h]
  exact fpr (n := 30) [(10, .v (vb false))] (apc ((((F31_2_ok a1 a2 h1).cp rfl _).trans (congrArg (fun z => some (vb z)) h2)) : CP prg 31 [(aG a1), (i6 a2.left)] [bG a1, bP a2] = some (vb false)) apn) rfl (by kernel_rfl)
inductive E_L12_4 where
  | k0
  | k1
noncomputable def L12_4 (a1 : GramD) (v1 : Int) : Option (E_L12_4 ⊕ (Int)) :=
  (bif (decide (v1 < (a1.prods.length : Int))) then ((getI a1.prods v1).bind fun x2 => ((F32 a1 x2).bind fun x3 => (bif x3 then (some (.inr ((IntKind.wrap .i64 (v1 + 1))))) else (some (.inl (.k0)))))) else (some (.inl (.k1))))
def L12_4_s (a1 : GramD) (v1 : Int) : St := ⟨fr 160 ug [(1, (.ptr 0 0)), (5, (i6 v1))], [bG a1]⟩
def L12_4_x (a1 : GramD) (e : E_L12_4) (r : Option (Out × St)) : Prop := match e with | .k0 => ∃ g y, r = some (.ret, ⟨fr 160 g [(2, (i6 160))], y⟩) | .k1 => ∃ g, r = some ((.brk 4), ⟨fr 160 g [(1, (.ptr 0 0))], [bG a1]⟩)
theorem L12_4_ok (a1 : GramD) (v1 : Int) {r : E_L12_4 ⊕ (Int)} (h : L12_4 a1 v1 = some r) : OkR (fun e => L12_4_x a1 e (evH prg 1 [1, 5] ir12_l4 (L12_4_s a1 v1))) (fun s => evH prg 1 [1, 5] ir12_l4 (L12_4_s a1 v1) = evH prg 1 [1, 5] ir12_l4 (L12_4_s a1 s)) r := by
 unfold L12_4 at h
 refine bi h (fun h1 h => ?_) fun h1 h => ?_
 ·
  refine bn h fun x2 h2 h => ?_
  refine bn h fun x3 h3 h => ?_
  refine bi h (fun h4 h => ?_) fun h4 h => ?_
  ·
   rw [← sj h]
   exact rnd (n := 30) [(74, .v (i6 (a1.prods.length : Int))), (75, .d true), (82, .v (.ro (eProd x2))), (84, .v (vb true)), (6000, .d true)] (apc (lg a1.prods eProd 7) (apc (cv h1) (apc (ig eProd 7 .i64 h2) (apc ((((F32_ok a1 x2 h3).cp rfl _).trans (congrArg (fun z => some (vb z)) h4)) : CP prg 32 [(aG a1), (aP x2)] [bG a1] = some (vb true)) (apc ((okT_of rfl (abl_cons rfl rfl)) : okT 1 [bG a1] = true) apn))))) (by kernel_rfl)
  ·
   rw [← sj h]
   exact xretY (n := 30) [(74, .v (i6 (a1.prods.length : Int))), (75, .d true), (82, .v (.ro (eProd x2))), (84, .v (vb false)), (6000, .d true)] (apc (lg a1.prods eProd 7) (apc (cv h1) (apc (ig eProd 7 .i64 h2) (apc ((((F32_ok a1 x2 h3).cp rfl _).trans (congrArg (fun z => some (vb z)) h4)) : CP prg 32 [(aG a1), (aP x2)] [bG a1] = some (vb false)) apn)))) (by kernel_rfl)
 ·
  rw [← sj h]
  exact xbrk (n := 30) [(74, .v (i6 (a1.prods.length : Int))), (75, .d false), (6000, .d true)] (apc (lg a1.prods eProd 7) (apc (cv h1) apn)) (by kernel_rfl)
theorem L12_4_run (a1 : GramD) (s0 : Int) (e : E_L12_4) (h : runL (fun s => L12_4 a1 s) s0 = some e) : L12_4_x a1 e (evH prg 1 [1, 5] ir12_l4 (L12_4_s a1 s0)) := by
  have q := @loop_sound' (Int) E_L12_4 (fun s => L12_4 a1 s) (fun s => evH prg 1 [1, 5] ir12_l4 (L12_4_s a1 s)) (L12_4_x a1) (fun s r h => L12_4_ok a1 s h) s0 e h
  exact q
def F33_v (a1 : GramD) (a2 : ForbD) (x0 : Bool) : AV := (vb x0)
noncomputable def F33 (a1 : GramD) (a2 : ForbD) : Option Bool :=
  (bif (decide (a2.parent < 0)) then (some false) else (bif (decide (a2.parent ≥ (a1.prods.length : Int))) then (some false) else (bif (decide (a2.child < 0)) then (some false) else (bif (decide (a2.child ≥ (a1.prods.length : Int))) then (some false) else ((getI a1.prods a2.parent).bind fun x5 => (bif (x5.role == 11) then (some false) else ((getI a1.prods a2.child).bind fun x7 => (bif (x7.role == 11) then (some false) else (bif (decide (a2.at_ < 1)) then (some false) else (bif (decide (a2.at_ > (x5.right.length : Int))) then (some false) else ((getI x5.right (IntKind.wrap .i64 (a2.at_ - 1))).bind fun x11 => (bif (x11.kind == 1) then (some (x11.sort == x7.left)) else (some false)))))))))))))
theorem F33_ok (a1 : GramD) (a2 : ForbD) {r : Bool} (h : F33 a1 a2 = some r) : PR1 prg 33 [(aG a1), (.agg ((eForb a2).map .p))] (F33_v a1 a2 r) := by
 unfold F33 at h
 refine bi h (fun h1 h => ?_) fun h1 h => ?_
 ·
  rw [← sj h]
  exact fpr (n := 30) [(8, .d true)] (apc (cv h1) apn) rfl (by kernel_rfl)
 ·
  refine bi h (fun h2 h => ?_) fun h2 h => ?_
  ·
   rw [← sj h]
   exact fpr (n := 30) [(8, .d false), (14, .v (i6 (a1.prods.length : Int))), (15, .d true)] (apc (cv h1) (apc (lg a1.prods eProd 7) (apc (cv h2) apn))) rfl (by kernel_rfl)
  ·
   refine bi h (fun h3 h => ?_) fun h3 h => ?_
   ·
    rw [← sj h]
    exact fpr (n := 30) [(8, .d false), (14, .v (i6 (a1.prods.length : Int))), (15, .d false), (20, .d true)] (apc (cv h1) (apc (lg a1.prods eProd 7) (apc (cv h2) (apc (cv h3) apn)))) rfl (by kernel_rfl)
   ·
    refine bi h (fun h4 h => ?_) fun h4 h => ?_
    ·
     rw [← sj h]
     exact fpr (n := 30) [(8, .d false), (14, .v (i6 (a1.prods.length : Int))), (15, .d false), (20, .d false), (27, .v (i6 (a1.prods.length : Int))), (28, .d true)] (apc (cv h1) (apc (lg a1.prods eProd 7) (apc (cv h2) (apc (cv h3) (apc (lg a1.prods eProd 7) (apc (cv h4) apn)))))) rfl (by kernel_rfl)
    ·
     refine bn h fun x5 h5 h => ?_
     refine bi h (fun h6 h => ?_) fun h6 h => ?_
     ·
      rw [← sj h]
      exact fpr (n := 30) [(8, .d false), (14, .v (i6 (a1.prods.length : Int))), (15, .d false), (20, .d false), (27, .v (i6 (a1.prods.length : Int))), (28, .d false), (35, .v (.ro (eProd x5))), (38, .d true)] (apc (cv h1) (apc (lg a1.prods eProd 7) (apc (cv h2) (apc (cv h3) (apc (lg a1.prods eProd 7) (apc (cv h4) (apc (ig eProd 7 .i64 h5) (apc (cv h6) apn)))))))) rfl (by kernel_rfl)
     ·
      refine bn h fun x7 h7 h => ?_
      refine bi h (fun h8 h => ?_) fun h8 h => ?_
      ·
       rw [← sj h]
       exact fpr (n := 30) [(8, .d false), (14, .v (i6 (a1.prods.length : Int))), (15, .d false), (20, .d false), (27, .v (i6 (a1.prods.length : Int))), (28, .d false), (35, .v (.ro (eProd x5))), (38, .d false), (45, .v (.ro (eProd x7))), (48, .d true)] (apc (cv h1) (apc (lg a1.prods eProd 7) (apc (cv h2) (apc (cv h3) (apc (lg a1.prods eProd 7) (apc (cv h4) (apc (ig eProd 7 .i64 h5) (apc (cv h6) (apc (ig eProd 7 .i64 h7) (apc (cv h8) apn)))))))))) rfl (by kernel_rfl)
      ·
       refine bi h (fun h9 h => ?_) fun h9 h => ?_
       ·
        rw [← sj h]
        exact fpr (n := 30) [(8, .d false), (14, .v (i6 (a1.prods.length : Int))), (15, .d false), (20, .d false), (27, .v (i6 (a1.prods.length : Int))), (28, .d false), (35, .v (.ro (eProd x5))), (38, .d false), (45, .v (.ro (eProd x7))), (48, .d false), (52, .d true)] (apc (cv h1) (apc (lg a1.prods eProd 7) (apc (cv h2) (apc (cv h3) (apc (lg a1.prods eProd 7) (apc (cv h4) (apc (ig eProd 7 .i64 h5) (apc (cv h6) (apc (ig eProd 7 .i64 h7) (apc (cv h8) (apc (cv h9) apn))))))))))) rfl (by kernel_rfl)
       ·
        refine bi h (fun h10 h => ?_) fun h10 h => ?_
        ·
         rw [← sj h]
         exact fpr (n := 30) [(8, .d false), (14, .v (i6 (a1.prods.length : Int))), (15, .d false), (20, .d false), (27, .v (i6 (a1.prods.length : Int))), (28, .d false), (35, .v (.ro (eProd x5))), (38, .d false), (45, .v (.ro (eProd x7))), (48, .d false), (52, .d false), (60, .v (.ro (eProd x5))), (63, .v (i6 (x5.right.length : Int))), (64, .d true)] (apc (cv h1) (apc (lg a1.prods eProd 7) (apc (cv h2) (apc (cv h3) (apc (lg a1.prods eProd 7) (apc (cv h4) (apc (ig eProd 7 .i64 h5) (apc (cv h6) (apc (ig eProd 7 .i64 h7) (apc (cv h8) (apc (cv h9) (apc (ig eProd 7 .i64 h5) (apc (lg x5.right eSym 6) (apc (cv h10) apn)))))))))))))) rfl (by kernel_rfl)
        ·
         refine bn h fun x11 h11 h => ?_
         refine bi h (fun h12 h => ?_) fun h12 h => ?_
         ·
          rw [← sj h]
          exact fpr (n := 30) [(8, .d false), (14, .v (i6 (a1.prods.length : Int))), (15, .d false), (20, .d false), (27, .v (i6 (a1.prods.length : Int))), (28, .d false), (35, .v (.ro (eProd x5))), (38, .d false), (45, .v (.ro (eProd x7))), (48, .d false), (52, .d false), (60, .v (.ro (eProd x5))), (63, .v (i6 (x5.right.length : Int))), (64, .d false), (70, .v (.ro (eProd x5))), (76, .v (.ro (eSym x11))), (80, .d true), (88, .v (.ro (eProd x7)))] (apc (cv h1) (apc (lg a1.prods eProd 7) (apc (cv h2) (apc (cv h3) (apc (lg a1.prods eProd 7) (apc (cv h4) (apc (ig eProd 7 .i64 h5) (apc (cv h6) (apc (ig eProd 7 .i64 h7) (apc (cv h8) (apc (cv h9) (apc (ig eProd 7 .i64 h5) (apc (lg x5.right eSym 6) (apc (cv h10) (apc (ig eProd 7 .i64 h5) (apc (ig eSym 6 .i64 h11) (apc (cv h12) (apc (ig eProd 7 .i64 h7) apn)))))))))))))))))) rfl (by kernel_rfl)
         ·
          rw [← sj h]
          exact fpr (n := 30) [(8, .d false), (14, .v (i6 (a1.prods.length : Int))), (15, .d false), (20, .d false), (27, .v (i6 (a1.prods.length : Int))), (28, .d false), (35, .v (.ro (eProd x5))), (38, .d false), (45, .v (.ro (eProd x7))), (48, .d false), (52, .d false), (60, .v (.ro (eProd x5))), (63, .v (i6 (x5.right.length : Int))), (64, .d false), (70, .v (.ro (eProd x5))), (76, .v (.ro (eSym x11))), (80, .d false)] (apc (cv h1) (apc (lg a1.prods eProd 7) (apc (cv h2) (apc (cv h3) (apc (lg a1.prods eProd 7) (apc (cv h4) (apc (ig eProd 7 .i64 h5) (apc (cv h6) (apc (ig eProd 7 .i64 h7) (apc (cv h8) (apc (cv h9) (apc (ig eProd 7 .i64 h5) (apc (lg x5.right eSym 6) (apc (cv h10) (apc (ig eProd 7 .i64 h5) (apc (ig eSym 6 .i64 h11) (apc (cv h12) apn))))))))))))))))) rfl (by kernel_rfl)
inductive E_L12_2_2 where
  | k0
  | k1
noncomputable def L12_2_2 (a1 : Int) (a2 : GramD) (v1 : Int) : Option (E_L12_2_2 ⊕ (Int)) :=
  (bif (decide (v1 < a1)) then ((getI a2.forbid v1).bind fun x2 => ((getI a2.forbid a1).bind fun x3 => (bif ((x2.parent == x3.parent) && ((x2.at_ == x3.at_) && ((x2.child == x3.child) && true))) then (some (.inl (.k0))) else (some (.inr ((IntKind.wrap .i64 (v1 + 1)))))))) else (some (.inl (.k1))))
def L12_2_2_s (a1 : Int) (a2 : GramD) (v1 : Int) : St := ⟨fr 160 ug [(1, (.ptr 0 0)), (6, (i6 a1)), (7, (i6 v1))], [bG a2]⟩
def L12_2_2_x (a1 : Int) (a2 : GramD) (e : E_L12_2_2) (r : Option (Out × St)) : Prop := match e with | .k0 => ∃ g y, r = some (.ret, ⟨fr 160 g [(2, (i6 160))], y⟩) | .k1 => ∃ g, r = some ((.brk 8), ⟨fr 160 g [(1, (.ptr 0 0)), (6, (i6 a1))], [bG a2]⟩)
theorem L12_2_2_ok (a1 : Int) (a2 : GramD) (v1 : Int) {r : E_L12_2_2 ⊕ (Int)} (h : L12_2_2 a1 a2 v1 = some r) : OkR (fun e => L12_2_2_x a1 a2 e (evH prg 1 [1, 6, 7] ir12_l2 (L12_2_2_s a1 a2 v1))) (fun s => evH prg 1 [1, 6, 7] ir12_l2 (L12_2_2_s a1 a2 v1) = evH prg 1 [1, 6, 7] ir12_l2 (L12_2_2_s a1 a2 s)) r := by
 unfold L12_2_2 at h
 refine bi h (fun h1 h => ?_) fun h1 h => ?_
 ·
  refine bn h fun x2 h2 h => ?_
  refine bn h fun x3 h3 h => ?_
  refine bi h (fun h4 h => ?_) fun h4 h => ?_
  ·
   rw [← sj h]
   exact xretY (n := 30) [(103, .d true), (109, .v (.ro (eForb x2))), (114, .v (.ro (eForb x3))), (116, .d true), (6000, .d true)] (apc (cv h1) (apc (ig eForb 3 .i64 h2) (apc (ig eForb 3 .i64 h3) (apc (cv h4) apn)))) (by kernel_rfl)
  ·
   rw [← sj h]
   exact rnd (n := 30) [(103, .d true), (109, .v (.ro (eForb x2))), (114, .v (.ro (eForb x3))), (116, .d false), (6000, .d true)] (apc (cv h1) (apc (ig eForb 3 .i64 h2) (apc (ig eForb 3 .i64 h3) (apc (cv h4) (apc ((okT_of rfl (abl_cons rfl rfl)) : okT 1 [bG a2] = true) apn))))) (by kernel_rfl)
 ·
  rw [← sj h]
  exact xbrk (n := 30) [(103, .d false), (6000, .d true)] (apc (cv h1) apn) (by kernel_rfl)
theorem L12_2_2_run (a1 : Int) (a2 : GramD) (s0 : Int) (e : E_L12_2_2) (h : runL (fun s => L12_2_2 a1 a2 s) s0 = some e) : L12_2_2_x a1 a2 e (evH prg 1 [1, 6, 7] ir12_l2 (L12_2_2_s a1 a2 s0)) := by
  have q := @loop_sound' (Int) E_L12_2_2 (fun s => L12_2_2 a1 a2 s) (fun s => evH prg 1 [1, 6, 7] ir12_l2 (L12_2_2_s a1 a2 s)) (L12_2_2_x a1 a2) (fun s r h => L12_2_2_ok a1 a2 s h) s0 e h
  exact q
inductive E_L12_3 where
  | k0
  | k1
noncomputable def L12_3 (a1 : GramD) (v1 : Int) : Option (E_L12_3 ⊕ (Int)) :=
  (bif (decide (v1 < (a1.forbid.length : Int))) then ((getI a1.forbid v1).bind fun x2 => ((F33 a1 x2).bind fun x3 => (bif x3 then ((runL (fun s => L12_2_2 v1 a1 s) 0).bind fun r5 => match r5 with | .k0 => (some (.inl (.k0))) | .k1 => (some (.inr ((IntKind.wrap .i64 (v1 + 1)))))) else (some (.inl (.k0)))))) else (some (.inl (.k1))))
def L12_3_s (a1 : GramD) (v1 : Int) : St := ⟨fr 160 ug [(1, (.ptr 0 0)), (6, (i6 v1))], [bG a1]⟩
def L12_3_x (a1 : GramD) (e : E_L12_3) (r : Option (Out × St)) : Prop := match e with | .k0 => ∃ g y, r = some (.ret, ⟨fr 160 g [(2, (i6 160))], y⟩) | .k1 => ∃ g, r = some ((.brk 6), ⟨fr 160 g [(1, (.ptr 0 0))], [bG a1]⟩)
abbrev L12_3_d0 (g5 : Nat → AV) (v1 : Int) (a1 : GramD) : St := ⟨fr 160 g5 [(1, (.ptr 0 0)), (6, (i6 v1))], [bG a1]⟩
theorem L12_3_ok (a1 : GramD) (v1 : Int) {r : E_L12_3 ⊕ (Int)} (h : L12_3 a1 v1 = some r) : OkR (fun e => L12_3_x a1 e (evH prg 1 [1, 6] ir12_l3 (L12_3_s a1 v1))) (fun s => evH prg 1 [1, 6] ir12_l3 (L12_3_s a1 v1) = evH prg 1 [1, 6] ir12_l3 (L12_3_s a1 s)) r := by
 unfold L12_3 at h
 refine bi h (fun h1 h => ?_) fun h1 h => ?_
 ·
  refine bn h fun x2 h2 h => ?_
  refine bn h fun x3 h3 h => ?_
  refine bi h (fun h4 h => ?_) fun h4 h => ?_
  ·
   have q3 := ((((F33_ok a1 x2 h3).cp rfl _).trans (congrArg (fun z => some (vb z)) h4)) : CP prg 33 [(aG a1), (.agg ((eForb x2).map .p))] [bG a1] = some (vb true))
   refine bn h fun r5 h5 h => ?_
   cases r5 with
   | k0 =>
    obtain ⟨g5, y5, e5⟩ := L12_2_2_run v1 a1 0 _ h5
    rw [← sj h]
    exact xretY (n := 30) [(89, .v (i6 (a1.forbid.length : Int))), (90, .d true), (97, .v (.ro (eForb x2))), (99, .v (vb true)), (2008, .l .ret ⟨fr 160 g5 [(2, (i6 160))], y5⟩), (6000, .d true)] (apc (lg a1.forbid eForb 3) (apc (cv h1) (apc (ig eForb 3 .i64 h2) (apc q3 (apc ((okT_of rfl (abl_cons rfl rfl)) : okT 1 [bG a1] = true) (apc (e5 : evH prg 1 [1, 6, 7] ir12_l2 (L12_2_2_s v1 a1 0) = some (.ret, ⟨fr 160 g5 [(2, (i6 160))], y5⟩)) apn)))))) (by kernel_rfl)
   | k1 =>
    obtain ⟨g5, e5⟩ := L12_2_2_run v1 a1 0 _ h5
    rw [← sj h]
    exact rnd (n := 30) [(89, .v (i6 (a1.forbid.length : Int))), (90, .d true), (97, .v (.ro (eForb x2))), (99, .v (vb true)), (2008, .l (.brk 8) (L12_3_d0 g5 v1 a1)), (6000, .d true)] (apc (lg a1.forbid eForb 3) (apc (cv h1) (apc (ig eForb 3 .i64 h2) (apc q3 (apc ((okT_of rfl (abl_cons rfl rfl)) : okT 1 [bG a1] = true) (apc (e5 : evH prg 1 [1, 6, 7] ir12_l2 (L12_2_2_s v1 a1 0) = some ((.brk 8), (L12_3_d0 g5 v1 a1))) (apc ((okT_of rfl (abl_cons rfl rfl)) : okT 1 [bG a1] = true) apn))))))) (by kernel_rfl)
  ·
   rw [← sj h]
   exact xretY (n := 30) [(89, .v (i6 (a1.forbid.length : Int))), (90, .d true), (97, .v (.ro (eForb x2))), (99, .v (vb false)), (6000, .d true)] (apc (lg a1.forbid eForb 3) (apc (cv h1) (apc (ig eForb 3 .i64 h2) (apc ((((F33_ok a1 x2 h3).cp rfl _).trans (congrArg (fun z => some (vb z)) h4)) : CP prg 33 [(aG a1), (.agg ((eForb x2).map .p))] [bG a1] = some (vb false)) apn)))) (by kernel_rfl)
 ·
  rw [← sj h]
  exact xbrk (n := 30) [(89, .v (i6 (a1.forbid.length : Int))), (90, .d false), (6000, .d true)] (apc (lg a1.forbid eForb 3) (apc (cv h1) apn)) (by kernel_rfl)
theorem L12_3_run (a1 : GramD) (s0 : Int) (e : E_L12_3) (h : runL (fun s => L12_3 a1 s) s0 = some e) : L12_3_x a1 e (evH prg 1 [1, 6] ir12_l3 (L12_3_s a1 s0)) := by
  have q := @loop_sound' (Int) E_L12_3 (fun s => L12_3 a1 s) (fun s => evH prg 1 [1, 6] ir12_l3 (L12_3_s a1 s)) (L12_3_x a1) (fun s r h => L12_3_ok a1 s h) s0 e h
  exact q
def F31_4_v (a1 : GramD) (a2 : FollD) (x0 : Bool) : AV := (vb x0)
noncomputable def F31_4 (a1 : GramD) (a2 : FollD) : Option Bool :=
  (bif (decide (a2.sort ≥ 0)) then (some (decide (a2.sort < (a1.sorts.length : Int)))) else (some false))
theorem F31_4_ok (a1 : GramD) (a2 : FollD) {r : Bool} (h : F31_4 a1 a2 = some r) : PR1 prg 31 [(aG a1), (i6 a2.sort)] (F31_4_v a1 a2 r) := by
 unfold F31_4 at h
 refine bi h (fun h1 h => ?_) fun h1 h => ?_
 ·
  rw [← sj h]
  exact fpr (n := 30) [(6, .d true), (11, .v (i6 (a1.sorts.length : Int)))] (apc (cv h1) (apc (lg a1.sorts eStr 1) apn)) rfl (by kernel_rfl)
 ·
  rw [← sj h]
  exact fpr (n := 30) [(6, .d false)] (apc (cv h1) apn) rfl (by kernel_rfl)
def F34_2_v (a1 : FollD) (x0 : Bool) : AV := (vb x0)
noncomputable def F34_2 (a1 : FollD) : Option Bool :=
  (some ((IntKind.wrap .u64 ((BitVec.ofInt (IntKind.bits .u64) (IntKind.wrap .u64 ((BitVec.ofInt (IntKind.bits .u64) (IntKind.wrap .u64 ((BitVec.ofInt (IntKind.bits .u64) a1.a ||| BitVec.ofInt (IntKind.bits .u64) a1.b).toNat : Int)) ||| BitVec.ofInt (IntKind.bits .u64) a1.c).toNat : Int)) ||| BitVec.ofInt (IntKind.bits .u64) a1.d).toNat : Int)) == 0))
theorem F34_2_ok (a1 : FollD) {r : Bool} (h : F34_2 a1 = some r) : PR1 prg 34 [(.agg ((List.drop 1 (eFoll a1)).map .p))] (F34_2_v a1 r) := by
 unfold F34_2 at h
 rw [← sj h]
 exact fpr (n := 30) [] apn rfl (by kernel_rfl)
inductive E_L12_0_2 where
  | k0
  | k1
noncomputable def L12_0_2 (a1 : Int) (a2 : GramD) (v1 : Int) : Option (E_L12_0_2 ⊕ (Int)) :=
  (bif (decide (v1 < a1)) then ((getI a2.follow v1).bind fun x2 => ((getI a2.follow a1).bind fun x3 => (bif (x2.sort == x3.sort) then (some (.inl (.k0))) else (some (.inr ((IntKind.wrap .i64 (v1 + 1)))))))) else (some (.inl (.k1))))
def L12_0_2_s (a1 : Int) (a2 : GramD) (v1 : Int) : St := ⟨fr 160 ug [(1, (.ptr 0 0)), (8, (i6 a1)), (9, (i6 v1))], [bG a2]⟩
def L12_0_2_x (a1 : Int) (a2 : GramD) (e : E_L12_0_2) (r : Option (Out × St)) : Prop := match e with | .k0 => ∃ g y, r = some (.ret, ⟨fr 160 g [(2, (i6 160))], y⟩) | .k1 => ∃ g, r = some ((.brk 12), ⟨fr 160 g [(1, (.ptr 0 0)), (8, (i6 a1))], [bG a2]⟩)
theorem L12_0_2_ok (a1 : Int) (a2 : GramD) (v1 : Int) {r : E_L12_0_2 ⊕ (Int)} (h : L12_0_2 a1 a2 v1 = some r) : OkR (fun e => L12_0_2_x a1 a2 e (evH prg 1 [1, 8, 9] ir12_l0 (L12_0_2_s a1 a2 v1))) (fun s => evH prg 1 [1, 8, 9] ir12_l0 (L12_0_2_s a1 a2 v1) = evH prg 1 [1, 8, 9] ir12_l0 (L12_0_2_s a1 a2 s)) r := by
 unfold L12_0_2 at h
 refine bi h (fun h1 h => ?_) fun h1 h => ?_
 ·
  refine bn h fun x2 h2 h => ?_
  refine bn h fun x3 h3 h => ?_
  refine bi h (fun h4 h => ?_) fun h4 h => ?_
  ·
   rw [← sj h]
   exact xretY (n := 30) [(144, .d true), (150, .v (.ro (eFoll x2))), (156, .v (.ro (eFoll x3))), (159, .d true), (6000, .d true)] (apc (cv h1) (apc (ig eFoll 5 .i64 h2) (apc (ig eFoll 5 .i64 h3) (apc (cv h4) apn)))) (by kernel_rfl)
  ·
   rw [← sj h]
   exact rnd (n := 30) [(144, .d true), (150, .v (.ro (eFoll x2))), (156, .v (.ro (eFoll x3))), (159, .d false), (6000, .d true)] (apc (cv h1) (apc (ig eFoll 5 .i64 h2) (apc (ig eFoll 5 .i64 h3) (apc (cv h4) (apc ((okT_of rfl (abl_cons rfl rfl)) : okT 1 [bG a2] = true) apn))))) (by kernel_rfl)
 ·
  rw [← sj h]
  exact xbrk (n := 30) [(144, .d false), (6000, .d true)] (apc (cv h1) apn) (by kernel_rfl)
theorem L12_0_2_run (a1 : Int) (a2 : GramD) (s0 : Int) (e : E_L12_0_2) (h : runL (fun s => L12_0_2 a1 a2 s) s0 = some e) : L12_0_2_x a1 a2 e (evH prg 1 [1, 8, 9] ir12_l0 (L12_0_2_s a1 a2 s0)) := by
  have q := @loop_sound' (Int) E_L12_0_2 (fun s => L12_0_2 a1 a2 s) (fun s => evH prg 1 [1, 8, 9] ir12_l0 (L12_0_2_s a1 a2 s)) (L12_0_2_x a1 a2) (fun s r h => L12_0_2_ok a1 a2 s h) s0 e h
  exact q
inductive E_L12_1 where
  | k0
  | k1
noncomputable def L12_1 (a1 : GramD) (v1 : Int) : Option (E_L12_1 ⊕ (Int)) :=
  (bif (decide (v1 < (a1.follow.length : Int))) then ((getI a1.follow v1).bind fun x2 => ((F31_4 a1 x2).bind fun x3 => (bif x3 then ((F34_2 x2).bind fun x5 => (bif x5 then (some (.inl (.k0))) else ((runL (fun s => L12_0_2 v1 a1 s) 0).bind fun r7 => match r7 with | .k0 => (some (.inl (.k0))) | .k1 => (some (.inr ((IntKind.wrap .i64 (v1 + 1)))))))) else (some (.inl (.k0)))))) else (some (.inl (.k1))))
def L12_1_s (a1 : GramD) (v1 : Int) : St := ⟨fr 160 ug [(1, (.ptr 0 0)), (8, (i6 v1))], [bG a1]⟩
def L12_1_x (a1 : GramD) (e : E_L12_1) (r : Option (Out × St)) : Prop := match e with | .k0 => ∃ g y, r = some (.ret, ⟨fr 160 g [(2, (i6 160))], y⟩) | .k1 => ∃ g, r = some ((.brk 10), ⟨fr 160 g [(1, (.ptr 0 0))], [bG a1]⟩)
abbrev L12_1_d0 (g7 : Nat → AV) (v1 : Int) (a1 : GramD) : St := ⟨fr 160 g7 [(1, (.ptr 0 0)), (8, (i6 v1))], [bG a1]⟩
theorem L12_1_ok (a1 : GramD) (v1 : Int) {r : E_L12_1 ⊕ (Int)} (h : L12_1 a1 v1 = some r) : OkR (fun e => L12_1_x a1 e (evH prg 1 [1, 8] ir12_l1 (L12_1_s a1 v1))) (fun s => evH prg 1 [1, 8] ir12_l1 (L12_1_s a1 v1) = evH prg 1 [1, 8] ir12_l1 (L12_1_s a1 s)) r := by
 unfold L12_1 at h
 refine bi h (fun h1 h => ?_) fun h1 h => ?_
 ·
  refine bn h fun x2 h2 h => ?_
  refine bn h fun x3 h3 h => ?_
  refine bi h (fun h4 h => ?_) fun h4 h => ?_
  ·
   have q3 := ((((F31_4_ok a1 x2 h3).cp rfl _).trans (congrArg (fun z => some (vb z)) h4)) : CP prg 31 [(aG a1), (i6 x2.sort)] [bG a1] = some (vb true))
   refine bn h fun x5 h5 h => ?_
   refine bi h (fun h6 h => ?_) fun h6 h => ?_
   ·
    rw [← sj h]
    exact xretY (n := 30) [(120, .v (i6 (a1.follow.length : Int))), (121, .d true), (128, .v (.ro (eFoll x2))), (131, .v (vb true)), (137, .v (.ro (eFoll x2))), (140, .v (vb true)), (6000, .d true)] (apc (lg a1.follow eFoll 5) (apc (cv h1) (apc (ig eFoll 5 .i64 h2) (apc q3 (apc (ig eFoll 5 .i64 h2) (apc ((((F34_2_ok x2 h5).cp rfl _).trans (congrArg (fun z => some (vb z)) h6)) : CP prg 34 [(.agg ((List.drop 1 (eFoll x2)).map .p))] [bG a1] = some (vb true)) apn)))))) (by kernel_rfl)
   ·
    have q5 := ((((F34_2_ok x2 h5).cp rfl _).trans (congrArg (fun z => some (vb z)) h6)) : CP prg 34 [(.agg ((List.drop 1 (eFoll x2)).map .p))] [bG a1] = some (vb false))
    refine bn h fun r7 h7 h => ?_
    cases r7 with
    | k0 =>
     obtain ⟨g7, y7, e7⟩ := L12_0_2_run v1 a1 0 _ h7
     rw [← sj h]
     exact xretY (n := 30) [(120, .v (i6 (a1.follow.length : Int))), (121, .d true), (128, .v (.ro (eFoll x2))), (131, .v (vb true)), (137, .v (.ro (eFoll x2))), (140, .v (vb false)), (2012, .l .ret ⟨fr 160 g7 [(2, (i6 160))], y7⟩), (6000, .d true)] (apc (lg a1.follow eFoll 5) (apc (cv h1) (apc (ig eFoll 5 .i64 h2) (apc q3 (apc (ig eFoll 5 .i64 h2) (apc q5 (apc ((okT_of rfl (abl_cons rfl rfl)) : okT 1 [bG a1] = true) (apc (e7 : evH prg 1 [1, 8, 9] ir12_l0 (L12_0_2_s v1 a1 0) = some (.ret, ⟨fr 160 g7 [(2, (i6 160))], y7⟩)) apn)))))))) (by kernel_rfl)
    | k1 =>
     obtain ⟨g7, e7⟩ := L12_0_2_run v1 a1 0 _ h7
     rw [← sj h]
     exact rnd (n := 30) [(120, .v (i6 (a1.follow.length : Int))), (121, .d true), (128, .v (.ro (eFoll x2))), (131, .v (vb true)), (137, .v (.ro (eFoll x2))), (140, .v (vb false)), (2012, .l (.brk 12) (L12_1_d0 g7 v1 a1)), (6000, .d true)] (apc (lg a1.follow eFoll 5) (apc (cv h1) (apc (ig eFoll 5 .i64 h2) (apc q3 (apc (ig eFoll 5 .i64 h2) (apc q5 (apc ((okT_of rfl (abl_cons rfl rfl)) : okT 1 [bG a1] = true) (apc (e7 : evH prg 1 [1, 8, 9] ir12_l0 (L12_0_2_s v1 a1 0) = some ((.brk 12), (L12_1_d0 g7 v1 a1))) (apc ((okT_of rfl (abl_cons rfl rfl)) : okT 1 [bG a1] = true) apn))))))))) (by kernel_rfl)
  ·
   rw [← sj h]
   exact xretY (n := 30) [(120, .v (i6 (a1.follow.length : Int))), (121, .d true), (128, .v (.ro (eFoll x2))), (131, .v (vb false)), (6000, .d true)] (apc (lg a1.follow eFoll 5) (apc (cv h1) (apc (ig eFoll 5 .i64 h2) (apc ((((F31_4_ok a1 x2 h3).cp rfl _).trans (congrArg (fun z => some (vb z)) h4)) : CP prg 31 [(aG a1), (i6 x2.sort)] [bG a1] = some (vb false)) apn)))) (by kernel_rfl)
 ·
  rw [← sj h]
  exact xbrk (n := 30) [(120, .v (i6 (a1.follow.length : Int))), (121, .d false), (6000, .d true)] (apc (lg a1.follow eFoll 5) (apc (cv h1) apn)) (by kernel_rfl)
theorem L12_1_run (a1 : GramD) (s0 : Int) (e : E_L12_1) (h : runL (fun s => L12_1 a1 s) s0 = some e) : L12_1_x a1 e (evH prg 1 [1, 8] ir12_l1 (L12_1_s a1 s0)) := by
  have q := @loop_sound' (Int) E_L12_1 (fun s => L12_1 a1 s) (fun s => evH prg 1 [1, 8] ir12_l1 (L12_1_s a1 s)) (L12_1_x a1) (fun s r h => L12_1_ok a1 s h) s0 e h
  exact q
def F12_v (a1 : GramD) (x0 : Int) : AV := (i6 x0)
noncomputable def F12 (a1 : GramD) : Option Int :=
  (bif (decide ((a1.sorts.length : Int) < 1)) then (some 160) else (bif (decide ((a1.sorts.length : Int) > 1000)) then (some 160) else (bif (decide ((a1.prods.length : Int) > 1000)) then (some 160) else ((F31 a1).bind fun x4 => (bif x4 then ((runL (fun s => L12_6 a1 s) 0).bind fun r6 => match r6 with | .k0 => (some 160) | .k1 => ((runL (fun s => L12_4 a1 s) 0).bind fun r7 => match r7 with | .k0 => (some 160) | .k1 => ((runL (fun s => L12_3 a1 s) 0).bind fun r8 => match r8 with | .k0 => (some 160) | .k1 => ((runL (fun s => L12_1 a1 s) 0).bind fun r9 => match r9 with | .k0 => (some 160) | .k1 => (some 0))))) else (some 160))))))
theorem F12_ok (a1 : GramD) {r : Int} (h : F12 a1 = some r) : PR1 prg 12 [(aG a1)] (F12_v a1 r) := by
 unfold F12 at h
 refine bi h (fun h1 h => ?_) fun h1 h => ?_
 ·
  rw [← sj h]
  exact fpr (n := 30) [(12, .v (i6 (a1.sorts.length : Int))), (13, .d true)] (apc (lg a1.sorts eStr 1) (apc (cv h1) apn)) rfl (by kernel_rfl)
 ·
  refine bi h (fun h2 h => ?_) fun h2 h => ?_
  ·
   rw [← sj h]
   exact fpr (n := 30) [(12, .v (i6 (a1.sorts.length : Int))), (13, .d false), (17, .v (i6 (a1.sorts.length : Int))), (18, .d true)] (apc (lg a1.sorts eStr 1) (apc (cv h1) (apc (lg a1.sorts eStr 1) (apc (cv h2) apn)))) rfl (by kernel_rfl)
  ·
   refine bi h (fun h3 h => ?_) fun h3 h => ?_
   ·
    rw [← sj h]
    exact fpr (n := 30) [(12, .v (i6 (a1.sorts.length : Int))), (13, .d false), (17, .v (i6 (a1.sorts.length : Int))), (18, .d false), (23, .v (i6 (a1.prods.length : Int))), (24, .d true)] (apc (lg a1.sorts eStr 1) (apc (cv h1) (apc (lg a1.sorts eStr 1) (apc (cv h2) (apc (lg a1.prods eProd 7) (apc (cv h3) apn)))))) rfl (by kernel_rfl)
   ·
    refine bn h fun x4 h4 h => ?_
    refine bi h (fun h5 h => ?_) fun h5 h => ?_
    ·
     have q6 := ((((F31_ok a1 h4).cp rfl _).trans (congrArg (fun z => some (vb z)) h5)) : CP prg 31 [(aG a1), (i6 a1.start)] [bG a1] = some (vb true))
     refine bn h fun r6 h6 h => ?_
     cases r6 with
     | k0 =>
      obtain ⟨g6, y6, e6⟩ := L12_6_run a1 0 _ h6
      rw [← sj h]
      exact fpr (n := 30) [(12, .v (i6 (a1.sorts.length : Int))), (13, .d false), (17, .v (i6 (a1.sorts.length : Int))), (18, .d false), (23, .v (i6 (a1.prods.length : Int))), (24, .d false), (30, .v (vb true)), (2000, .l .ret ⟨fr 160 g6 [(2, (i6 160))], y6⟩), (6000, .d true)] (apc (lg a1.sorts eStr 1) (apc (cv h1) (apc (lg a1.sorts eStr 1) (apc (cv h2) (apc (lg a1.prods eProd 7) (apc (cv h3) (apc q6 (apc ((okT_of rfl (abl_cons rfl rfl)) : okT 1 [bG a1] = true) (apc (e6 : evH prg 1 [1, 3] ir12_l6 (L12_6_s a1 0) = some (.ret, ⟨fr 160 g6 [(2, (i6 160))], y6⟩)) apn))))))))) rfl (by kernel_rfl)
     | k1 =>
      obtain ⟨g6, e6⟩ := L12_6_run a1 0 _ h6
      have q7 := ((okT_of rfl (abl_cons rfl rfl)) : okT 1 [bG a1] = true)
      have q8 := (e6 : evH prg 1 [1, 3] ir12_l6 (L12_6_s a1 0) = some ((.brk 0), ⟨fr 160 g6 [(1, (.ptr 0 0))], [bG a1]⟩))
      refine bn h fun r7 h7 h => ?_
      cases r7 with
      | k0 =>
       obtain ⟨g7, y7, e7⟩ := L12_4_run a1 0 _ h7
       rw [← sj h]
       exact fpr (n := 30) [(12, .v (i6 (a1.sorts.length : Int))), (13, .d false), (17, .v (i6 (a1.sorts.length : Int))), (18, .d false), (23, .v (i6 (a1.prods.length : Int))), (24, .d false), (30, .v (vb true)), (2000, .l (.brk 0) ⟨fr 160 g6 [(1, (.ptr 0 0))], [bG a1]⟩), (2004, .l .ret ⟨fr 160 g7 [(2, (i6 160))], y7⟩), (6000, .d true)] (apc (lg a1.sorts eStr 1) (apc (cv h1) (apc (lg a1.sorts eStr 1) (apc (cv h2) (apc (lg a1.prods eProd 7) (apc (cv h3) (apc q6 (apc q7 (apc q8 (apc ((okT_of rfl (abl_cons rfl rfl)) : okT 1 [bG a1] = true) (apc (e7 : evH prg 1 [1, 5] ir12_l4 (L12_4_s a1 0) = some (.ret, ⟨fr 160 g7 [(2, (i6 160))], y7⟩)) apn))))))))))) rfl (by kernel_rfl)
      | k1 =>
       obtain ⟨g7, e7⟩ := L12_4_run a1 0 _ h7
       have q9 := ((okT_of rfl (abl_cons rfl rfl)) : okT 1 [bG a1] = true)
       have q10 := (e7 : evH prg 1 [1, 5] ir12_l4 (L12_4_s a1 0) = some ((.brk 4), ⟨fr 160 g7 [(1, (.ptr 0 0))], [bG a1]⟩))
       refine bn h fun r8 h8 h => ?_
       cases r8 with
       | k0 =>
        obtain ⟨g8, y8, e8⟩ := L12_3_run a1 0 _ h8
        rw [← sj h]
        exact fpr (n := 30) [(12, .v (i6 (a1.sorts.length : Int))), (13, .d false), (17, .v (i6 (a1.sorts.length : Int))), (18, .d false), (23, .v (i6 (a1.prods.length : Int))), (24, .d false), (30, .v (vb true)), (2000, .l (.brk 0) ⟨fr 160 g6 [(1, (.ptr 0 0))], [bG a1]⟩), (2004, .l (.brk 4) ⟨fr 160 g7 [(1, (.ptr 0 0))], [bG a1]⟩), (2006, .l .ret ⟨fr 160 g8 [(2, (i6 160))], y8⟩), (6000, .d true)] (apc (lg a1.sorts eStr 1) (apc (cv h1) (apc (lg a1.sorts eStr 1) (apc (cv h2) (apc (lg a1.prods eProd 7) (apc (cv h3) (apc q6 (apc q7 (apc q8 (apc q9 (apc q10 (apc ((okT_of rfl (abl_cons rfl rfl)) : okT 1 [bG a1] = true) (apc (e8 : evH prg 1 [1, 6] ir12_l3 (L12_3_s a1 0) = some (.ret, ⟨fr 160 g8 [(2, (i6 160))], y8⟩)) apn))))))))))))) rfl (by kernel_rfl)
       | k1 =>
        obtain ⟨g8, e8⟩ := L12_3_run a1 0 _ h8
        have q11 := ((okT_of rfl (abl_cons rfl rfl)) : okT 1 [bG a1] = true)
        have q12 := (e8 : evH prg 1 [1, 6] ir12_l3 (L12_3_s a1 0) = some ((.brk 6), ⟨fr 160 g8 [(1, (.ptr 0 0))], [bG a1]⟩))
        refine bn h fun r9 h9 h => ?_
        cases r9 with
        | k0 =>
         obtain ⟨g9, y9, e9⟩ := L12_1_run a1 0 _ h9
         rw [← sj h]
         exact fpr (n := 30) [(12, .v (i6 (a1.sorts.length : Int))), (13, .d false), (17, .v (i6 (a1.sorts.length : Int))), (18, .d false), (23, .v (i6 (a1.prods.length : Int))), (24, .d false), (30, .v (vb true)), (2000, .l (.brk 0) ⟨fr 160 g6 [(1, (.ptr 0 0))], [bG a1]⟩), (2004, .l (.brk 4) ⟨fr 160 g7 [(1, (.ptr 0 0))], [bG a1]⟩), (2006, .l (.brk 6) ⟨fr 160 g8 [(1, (.ptr 0 0))], [bG a1]⟩), (2010, .l .ret ⟨fr 160 g9 [(2, (i6 160))], y9⟩), (6000, .d true)] (apc (lg a1.sorts eStr 1) (apc (cv h1) (apc (lg a1.sorts eStr 1) (apc (cv h2) (apc (lg a1.prods eProd 7) (apc (cv h3) (apc q6 (apc q7 (apc q8 (apc q9 (apc q10 (apc q11 (apc q12 (apc ((okT_of rfl (abl_cons rfl rfl)) : okT 1 [bG a1] = true) (apc (e9 : evH prg 1 [1, 8] ir12_l1 (L12_1_s a1 0) = some (.ret, ⟨fr 160 g9 [(2, (i6 160))], y9⟩)) apn))))))))))))))) rfl (by kernel_rfl)
        | k1 =>
         obtain ⟨g9, e9⟩ := L12_1_run a1 0 _ h9
         rw [← sj h]
         exact fpr (n := 30) [(12, .v (i6 (a1.sorts.length : Int))), (13, .d false), (17, .v (i6 (a1.sorts.length : Int))), (18, .d false), (23, .v (i6 (a1.prods.length : Int))), (24, .d false), (30, .v (vb true)), (2000, .l (.brk 0) ⟨fr 160 g6 [(1, (.ptr 0 0))], [bG a1]⟩), (2004, .l (.brk 4) ⟨fr 160 g7 [(1, (.ptr 0 0))], [bG a1]⟩), (2006, .l (.brk 6) ⟨fr 160 g8 [(1, (.ptr 0 0))], [bG a1]⟩), (2010, .l (.brk 10) ⟨fr 160 g9 [(1, (.ptr 0 0))], [bG a1]⟩), (6000, .d true)] (apc (lg a1.sorts eStr 1) (apc (cv h1) (apc (lg a1.sorts eStr 1) (apc (cv h2) (apc (lg a1.prods eProd 7) (apc (cv h3) (apc q6 (apc q7 (apc q8 (apc q9 (apc q10 (apc q11 (apc q12 (apc ((okT_of rfl (abl_cons rfl rfl)) : okT 1 [bG a1] = true) (apc (e9 : evH prg 1 [1, 8] ir12_l1 (L12_1_s a1 0) = some ((.brk 10), ⟨fr 160 g9 [(1, (.ptr 0 0))], [bG a1]⟩)) apn))))))))))))))) rfl (by kernel_rfl)
    ·
     rw [← sj h]
     exact fpr (n := 30) [(12, .v (i6 (a1.sorts.length : Int))), (13, .d false), (17, .v (i6 (a1.sorts.length : Int))), (18, .d false), (23, .v (i6 (a1.prods.length : Int))), (24, .d false), (30, .v (vb false))] (apc (lg a1.sorts eStr 1) (apc (cv h1) (apc (lg a1.sorts eStr 1) (apc (cv h2) (apc (lg a1.prods eProd 7) (apc (cv h3) (apc ((((F31_ok a1 h4).cp rfl _).trans (congrArg (fun z => some (vb z)) h5)) : CP prg 31 [(aG a1), (i6 a1.start)] [bG a1] = some (vb false)) apn))))))) rfl (by kernel_rfl)
def F51_2_v (a1 : TreeD) (a2 : Int) (x0 : Bool) : AV := (vb x0)
abbrev T_F51_2 := TreeD → Int → Option Bool
abbrev H_F51_2 (f : T_F51_2) : Prop := ∀ (a1 : TreeD) (a2 : Int) {r : Bool}, f a1 a2 = some r → PR1 prg 51 [(.agg ((cT a1).map .p)), (i6 a2)] (F51_2_v a1 a2 r)
inductive E_L51_0_2 where
  | k0
  | k1
noncomputable def L51_0_2 (rF51_2 : T_F51_2) (a1 : Int) (a2 : TreeD) (v1 : Int) : Option (E_L51_0_2 ⊕ (Int)) :=
  (bif (decide (v1 < (a2.kids.length : Int))) then ((getI a2.kids v1).bind fun x2 => ((rF51_2 x2 (IntKind.wrap .i64 (a1 - 1))).bind fun x3 => (bif x3 then (some (.inl (.k0))) else (some (.inr ((IntKind.wrap .i64 (v1 + 1)))))))) else (some (.inl (.k1))))
def L51_0_2_s (a1 : Int) (a2 : TreeD) (v1 : Int) : St := ⟨fr 23 ug [(1, (i6 a1)), (2, (.ptr 0 0)), (5, (i6 v1))], [.cells 51 ((cT a2).map .p)]⟩
def L51_0_2_x (a1 : Int) (a2 : TreeD) (e : E_L51_0_2) (r : Option (Out × St)) : Prop := match e with | .k0 => ∃ g y, r = some (.ret, ⟨fr 23 g [(4, (vb true))], y⟩) | .k1 => ∃ g, r = some ((.brk 0), ⟨fr 23 g [(1, (i6 a1))], [.cells 51 ((cT a2).map .p)]⟩)
theorem L51_0_2_ok (rF51_2 : T_F51_2) (hF51_2 : H_F51_2 rF51_2) (a1 : Int) (a2 : TreeD) (v1 : Int) {r : E_L51_0_2 ⊕ (Int)} (h : L51_0_2 rF51_2 a1 a2 v1 = some r) : OkR (fun e => L51_0_2_x a1 a2 e (evH prg 1 [1, 2, 5] ir51_l0 (L51_0_2_s a1 a2 v1))) (fun s => evH prg 1 [1, 2, 5] ir51_l0 (L51_0_2_s a1 a2 v1) = evH prg 1 [1, 2, 5] ir51_l0 (L51_0_2_s a1 a2 s)) r := by
 unfold L51_0_2 at h
 have q0 := ((lgr tr_map) : lnA (.p (.lst 3 (eTrees a2.kids))) = some (i6 (a2.kids.length : Int)))
 refine bi h (fun h1 h => ?_) fun h1 h => ?_
 ·
  refine bn h fun x2 h2 h => ?_
  have q2 := ((igr tr_map h2) : idxA 3 (.p (.lst 3 (eTrees a2.kids))) (i6 v1) = some (.ro (cT x2)))
  refine bn h fun x3 h3 h => ?_
  refine bi h (fun h4 h => ?_) fun h4 h => ?_
  ·
   rw [← sj h]
   exact xretY (n := 30) [(11, .v (i6 (a2.kids.length : Int))), (12, .d true), (18, .v (.ro (cT x2))), (22, .v (vb true)), (6000, .d true)] (apc q0 (apc (cv h1) (apc q2 (apc ((((hF51_2 x2 (w6 (a1 - 1)) h3).cp rfl _).trans (congrArg (fun z => some (vb z)) h4)) : CP prg 51 [(.agg ((cT x2).map .p)), (i6 (w6 (a1 - 1)))] [.cells 51 ((cT a2).map .p)] = some (vb true)) apn)))) (by kernel_rfl)
  ·
   rw [← sj h]
   exact rnd (n := 30) [(11, .v (i6 (a2.kids.length : Int))), (12, .d true), (18, .v (.ro (cT x2))), (22, .v (vb false)), (6000, .d true)] (apc q0 (apc (cv h1) (apc q2 (apc ((((hF51_2 x2 (w6 (a1 - 1)) h3).cp rfl _).trans (congrArg (fun z => some (vb z)) h4)) : CP prg 51 [(.agg ((cT x2).map .p)), (i6 (w6 (a1 - 1)))] [.cells 51 ((cT a2).map .p)] = some (vb false)) (apc ((okT_of rfl (abl_cons rfl rfl)) : okT 1 [.cells 51 ((cT a2).map .p)] = true) apn))))) (by kernel_rfl)
 ·
  rw [← sj h]
  exact xbrk (n := 30) [(11, .v (i6 (a2.kids.length : Int))), (12, .d false), (6000, .d true)] (apc q0 (apc (cv h1) apn)) (by kernel_rfl)
theorem L51_0_2_run (rF51_2 : T_F51_2) (hF51_2 : H_F51_2 rF51_2) (a1 : Int) (a2 : TreeD) (s0 : Int) (e : E_L51_0_2) (h : runL (fun s => L51_0_2 rF51_2 a1 a2 s) s0 = some e) : L51_0_2_x a1 a2 e (evH prg 1 [1, 2, 5] ir51_l0 (L51_0_2_s a1 a2 s0)) := by
  have q := @loop_sound' (Int) E_L51_0_2 (fun s => L51_0_2 rF51_2 a1 a2 s) (fun s => evH prg 1 [1, 2, 5] ir51_l0 (L51_0_2_s a1 a2 s)) (L51_0_2_x a1 a2) (fun s r h => L51_0_2_ok rF51_2 hF51_2 a1 a2 s h) s0 e h
  exact q
noncomputable def F51_2_b (rF51_2 : T_F51_2) (a1 : TreeD) (a2 : Int) : Option Bool :=
  (bif (decide (a2 < 1)) then (some true) else ((runL (fun s => L51_0_2 rF51_2 a2 a1 s) 0).bind fun r2 => match r2 with | .k0 => (some true) | .k1 => (some false)))
theorem F51_2_bok (rF51_2 : T_F51_2) (hF51_2 : H_F51_2 rF51_2) (a1 : TreeD) (a2 : Int) {r : Bool} (h : F51_2_b rF51_2 a1 a2 = some r) : PR1 prg 51 [(.agg ((cT a1).map .p)), (i6 a2)] (F51_2_v a1 a2 r) := by
 unfold F51_2_b at h
 refine bi h (fun h1 h => ?_) fun h1 h => ?_
 ·
  rw [← sj h]
  exact fpr (n := 30) [(7, .d true)] (apc (cv h1) apn) rfl (by kernel_rfl)
 ·
  refine bn h fun r2 h2 h => ?_
  cases r2 with
  | k0 =>
   obtain ⟨g2, y2, e2⟩ := L51_0_2_run rF51_2 hF51_2 a2 a1 0 _ h2
   rw [← sj h]
   exact fpr (n := 30) [(7, .d false), (2000, .l .ret ⟨fr 23 g2 [(4, (vb true))], y2⟩), (6000, .d true)] (apc (cv h1) (apc ((okT_of rfl (abl_cons rfl rfl)) : okT 1 [.cells 51 ((cT a1).map .p)] = true) (apc (e2 : evH prg 1 [1, 2, 5] ir51_l0 (L51_0_2_s a2 a1 0) = some (.ret, ⟨fr 23 g2 [(4, (vb true))], y2⟩)) apn))) rfl (by kernel_rfl)
  | k1 =>
   obtain ⟨g2, e2⟩ := L51_0_2_run rF51_2 hF51_2 a2 a1 0 _ h2
   rw [← sj h]
   exact fpr (n := 30) [(7, .d false), (2000, .l (.brk 0) ⟨fr 23 g2 [(1, (i6 a2))], [.cells 51 ((cT a1).map .p)]⟩), (6000, .d true)] (apc (cv h1) (apc ((okT_of rfl (abl_cons rfl rfl)) : okT 1 [.cells 51 ((cT a1).map .p)] = true) (apc (e2 : evH prg 1 [1, 2, 5] ir51_l0 (L51_0_2_s a2 a1 0) = some ((.brk 0), ⟨fr 23 g2 [(1, (i6 a2))], [.cells 51 ((cT a1).map .p)]⟩)) apn))) rfl (by kernel_rfl)
noncomputable def F51_2 : Nat → T_F51_2
  | 0 => fun _ _ => none
  | Nf + 1 => F51_2_b (F51_2 Nf)
theorem F51_2_ok (Nf : Nat) : H_F51_2 (F51_2 Nf) := by
  induction Nf with
  | zero => intro a1 a2 r h; have h : (none : Option Bool) = some r := h; cases h
  | succ Nf ih => intro a1 a2 r h; exact F51_2_bok (F51_2 Nf) ih a1 a2 h
def F52_v (a1 : GramD) (a2 : SymD) (a3 : TreeD) (x0 : Bool) : AV := (vb x0)
abbrev T_F52 := GramD → SymD → TreeD → Option Bool
abbrev H_F52 (f : T_F52) : Prop := ∀ (a1 : GramD) (a2 : SymD) (a3 : TreeD) {r : Bool}, f a1 a2 a3 = some r → PR1 prg 52 [(aG a1), (.agg ((eSym a2).map .p)), (.agg ((cT a3).map .p))] (F52_v a1 a2 a3 r)
def F71_v (a1 : SymD) (a2 : TreeD) (x0 : Bool) : AV := (vb x0)
noncomputable def F71 (a1 : SymD) (a2 : TreeD) : Option Bool :=
  (bif ((IntKind.wrap .u8 (Int.tdiv a2.byte 64)) == 0) then (bif (decide ((Int.tmod a2.byte 64) < 0)) then none else (some ((Int.tmod (Int.fdiv a1.a (2 ^ (min (Int.toNat (Int.tmod a2.byte 64)) (IntKind.bits .u64)))) 2) == 1))) else (bif ((IntKind.wrap .u8 (Int.tdiv a2.byte 64)) == 1) then (bif (decide ((Int.tmod a2.byte 64) < 0)) then none else (some ((Int.tmod (Int.fdiv a1.b (2 ^ (min (Int.toNat (Int.tmod a2.byte 64)) (IntKind.bits .u64)))) 2) == 1))) else (bif ((IntKind.wrap .u8 (Int.tdiv a2.byte 64)) == 2) then (bif (decide ((Int.tmod a2.byte 64) < 0)) then none else (some ((Int.tmod (Int.fdiv a1.c (2 ^ (min (Int.toNat (Int.tmod a2.byte 64)) (IntKind.bits .u64)))) 2) == 1))) else (bif ((IntKind.wrap .u8 (Int.tdiv a2.byte 64)) == 3) then (bif (decide ((Int.tmod a2.byte 64) < 0)) then none else (some ((Int.tmod (Int.fdiv a1.d (2 ^ (min (Int.toNat (Int.tmod a2.byte 64)) (IntKind.bits .u64)))) 2) == 1))) else none))))
theorem F71_ok (a1 : SymD) (a2 : TreeD) {r : Bool} (h : F71 a1 a2 = some r) : PR1 prg 71 [(.agg ((List.take 4 (List.drop 1 (eSym a1))).map .p)), (vi .u8 a2.byte)] (F71_v a1 a2 r) := by
 unfold F71 at h
 refine bi h (fun h1 h => ?_) fun h1 h => ?_
 ·
  have q0 := ((ix_lit h1 (fun z => ixP 4 1 (.ptr 0 0) (vi .u8 z)) rfl) : ixP 4 1 (.ptr 0 0) (vi .u8 (IntKind.wrap .u8 (Int.tdiv a2.byte 64))) = some (.ptr 0 0))
  refine bi h (fun h2 h => ?_) fun h2 h => ?_
  ·
   cases h
  ·
   rw [← sj h]
   exact fpr (n := 30) [(7, .v (.ptr 0 0)), (11, .v (vi .u64 (Int.fdiv a1.a (2 ^ (min (Int.toNat (Int.tmod a2.byte 64)) (IntKind.bits .u64))))))] (apc q0 (apc ((sh_shr (of_decide_eq_false h2)) : binA .shr (vi .u64 a1.a) (vi .u8 (Int.tmod a2.byte 64)) = some (vi .u64 (Int.fdiv a1.a (2 ^ (min (Int.toNat (Int.tmod a2.byte 64)) (IntKind.bits .u64)))))) apn)) rfl (by kernel_rfl)
 ·
  refine bi h (fun h2 h => ?_) fun h2 h => ?_
  ·
   have q0 := ((ix_lit h2 (fun z => ixP 4 1 (.ptr 0 0) (vi .u8 z)) rfl) : ixP 4 1 (.ptr 0 0) (vi .u8 (IntKind.wrap .u8 (Int.tdiv a2.byte 64))) = some (.ptr 0 1))
   refine bi h (fun h3 h => ?_) fun h3 h => ?_
   ·
    cases h
   ·
    rw [← sj h]
    exact fpr (n := 30) [(7, .v (.ptr 0 1)), (11, .v (vi .u64 (Int.fdiv a1.b (2 ^ (min (Int.toNat (Int.tmod a2.byte 64)) (IntKind.bits .u64))))))] (apc q0 (apc ((sh_shr (of_decide_eq_false h3)) : binA .shr (vi .u64 a1.b) (vi .u8 (Int.tmod a2.byte 64)) = some (vi .u64 (Int.fdiv a1.b (2 ^ (min (Int.toNat (Int.tmod a2.byte 64)) (IntKind.bits .u64)))))) apn)) rfl (by kernel_rfl)
  ·
   refine bi h (fun h3 h => ?_) fun h3 h => ?_
   ·
    have q0 := ((ix_lit h3 (fun z => ixP 4 1 (.ptr 0 0) (vi .u8 z)) rfl) : ixP 4 1 (.ptr 0 0) (vi .u8 (IntKind.wrap .u8 (Int.tdiv a2.byte 64))) = some (.ptr 0 2))
    refine bi h (fun h4 h => ?_) fun h4 h => ?_
    ·
     cases h
    ·
     rw [← sj h]
     exact fpr (n := 30) [(7, .v (.ptr 0 2)), (11, .v (vi .u64 (Int.fdiv a1.c (2 ^ (min (Int.toNat (Int.tmod a2.byte 64)) (IntKind.bits .u64))))))] (apc q0 (apc ((sh_shr (of_decide_eq_false h4)) : binA .shr (vi .u64 a1.c) (vi .u8 (Int.tmod a2.byte 64)) = some (vi .u64 (Int.fdiv a1.c (2 ^ (min (Int.toNat (Int.tmod a2.byte 64)) (IntKind.bits .u64)))))) apn)) rfl (by kernel_rfl)
   ·
    refine bi h (fun h4 h => ?_) fun h4 h => ?_
    ·
     have q0 := ((ix_lit h4 (fun z => ixP 4 1 (.ptr 0 0) (vi .u8 z)) rfl) : ixP 4 1 (.ptr 0 0) (vi .u8 (IntKind.wrap .u8 (Int.tdiv a2.byte 64))) = some (.ptr 0 3))
     refine bi h (fun h5 h => ?_) fun h5 h => ?_
     ·
      cases h
     ·
      rw [← sj h]
      exact fpr (n := 30) [(7, .v (.ptr 0 3)), (11, .v (vi .u64 (Int.fdiv a1.d (2 ^ (min (Int.toNat (Int.tmod a2.byte 64)) (IntKind.bits .u64))))))] (apc q0 (apc ((sh_shr (of_decide_eq_false h5)) : binA .shr (vi .u64 a1.d) (vi .u8 (Int.tmod a2.byte 64)) = some (vi .u64 (Int.fdiv a1.d (2 ^ (min (Int.toNat (Int.tmod a2.byte 64)) (IntKind.bits .u64)))))) apn)) rfl (by kernel_rfl)
    ·
     cases h
inductive E_L52_0 where
  | k0
  | k1
noncomputable def L52_0 (rF52 : T_F52) (a1 : GramD) (a3 : TreeD) (a4 : ProdD) (v1 : Int) : Option (E_L52_0 ⊕ (Int)) :=
  (bif (decide (v1 < (a3.kids.length : Int))) then ((getI a4.right v1).bind fun x2 => ((getI a3.kids v1).bind fun x3 => ((rF52 a1 x2 x3).bind fun x4 => (bif x4 then (some (.inr ((IntKind.wrap .i64 (v1 + 1))))) else (some (.inl (.k0))))))) else (some (.inl (.k1))))
def L52_0_s (a1 : GramD) (a2 : SymD) (a3 : TreeD) (a4 : ProdD) (v1 : Int) : St := ⟨fr 89 ug [(3, (.ptr 0 0)), (5, (.ptr 2 0)), (7, (.ptr 4 0)), (8, (i6 v1))], [bG a1, .cells 68 ((eSym a2).map .p), .cells 51 ((cT a3).map .p), .row 68 6 0 (ra eSym []), bP a4]⟩
def L52_0_x (a1 : GramD) (a2 : SymD) (a3 : TreeD) (a4 : ProdD) (e : E_L52_0) (r : Option (Out × St)) : Prop := match e with | .k0 => ∃ g y, r = some (.ret, ⟨fr 89 g [(6, (vb false))], y⟩) | .k1 => ∃ g, r = some ((.brk 0), ⟨fr 89 g [(3, (.ptr 0 0)), (5, (.ptr 2 0)), (7, (.ptr 4 0))], [bG a1, .cells 68 ((eSym a2).map .p), .cells 51 ((cT a3).map .p), .row 68 6 0 (ra eSym []), bP a4]⟩)
abbrev L52_0_d0 (a1 : GramD) (a2 : SymD) (a3 : TreeD) (a4 : ProdD) : List AB := [bG a1, .cells 68 ((eSym a2).map .p), .cells 51 ((cT a3).map .p), .row 68 6 0 (ra eSym []), bP a4]
theorem L52_0_ok (rF52 : T_F52) (hF52 : H_F52 rF52) (a1 : GramD) (a2 : SymD) (a3 : TreeD) (a4 : ProdD) (v1 : Int) {r : E_L52_0 ⊕ (Int)} (h : L52_0 rF52 a1 a3 a4 v1 = some r) : OkR (fun e => L52_0_x a1 a2 a3 a4 e (evH prg 5 [3, 5, 7, 8] ir52_l0 (L52_0_s a1 a2 a3 a4 v1))) (fun s => evH prg 5 [3, 5, 7, 8] ir52_l0 (L52_0_s a1 a2 a3 a4 v1) = evH prg 5 [3, 5, 7, 8] ir52_l0 (L52_0_s a1 a2 a3 a4 s)) r := by
 unfold L52_0 at h
 have q0 := ((lgr tr_map) : lnA (.p (.lst 3 (eTrees a3.kids))) = some (i6 (a3.kids.length : Int)))
 refine bi h (fun h1 h => ?_) fun h1 h => ?_
 ·
  refine bn h fun x2 h2 h => ?_
  refine bn h fun x3 h3 h => ?_
  have q3 := ((igr tr_map h3) : idxA 3 (.p (.lst 3 (eTrees a3.kids))) (i6 v1) = some (.ro (cT x3)))
  refine bn h fun x4 h4 h => ?_
  refine bi h (fun h5 h => ?_) fun h5 h => ?_
  ·
   rw [← sj h]
   exact rnd (n := 30) [(72, .v (i6 (a3.kids.length : Int))), (73, .d true), (80, .v (.ro (eSym x2))), (85, .v (.ro (cT x3))), (87, .v (vb true)), (6000, .d true)] (apc q0 (apc (cv h1) (apc (ig eSym 6 .i64 h2) (apc q3 (apc ((((hF52 a1 x2 x3 h4).cp rfl _).trans (congrArg (fun z => some (vb z)) h5)) : CP prg 52 [(aG a1), (.agg ((eSym x2).map .p)), (.agg ((cT x3).map .p))] (L52_0_d0 a1 a2 a3 a4) = some (vb true)) (apc ((okT_of rfl (abl_cons rfl (abl_cons rfl (abl_cons rfl (abl_cons abl_row (abl_cons rfl rfl)))))) : okT 5 (L52_0_d0 a1 a2 a3 a4) = true) apn)))))) (by kernel_rfl)
  ·
   rw [← sj h]
   exact xretY (n := 30) [(72, .v (i6 (a3.kids.length : Int))), (73, .d true), (80, .v (.ro (eSym x2))), (85, .v (.ro (cT x3))), (87, .v (vb false)), (6000, .d true)] (apc q0 (apc (cv h1) (apc (ig eSym 6 .i64 h2) (apc q3 (apc ((((hF52 a1 x2 x3 h4).cp rfl _).trans (congrArg (fun z => some (vb z)) h5)) : CP prg 52 [(aG a1), (.agg ((eSym x2).map .p)), (.agg ((cT x3).map .p))] (L52_0_d0 a1 a2 a3 a4) = some (vb false)) apn))))) (by kernel_rfl)
 ·
  rw [← sj h]
  exact xbrk (n := 30) [(72, .v (i6 (a3.kids.length : Int))), (73, .d false), (6000, .d true)] (apc q0 (apc (cv h1) apn)) (by kernel_rfl)
theorem L52_0_run (rF52 : T_F52) (hF52 : H_F52 rF52) (a1 : GramD) (a2 : SymD) (a3 : TreeD) (a4 : ProdD) (s0 : Int) (e : E_L52_0) (h : runL (fun s => L52_0 rF52 a1 a3 a4 s) s0 = some e) : L52_0_x a1 a2 a3 a4 e (evH prg 5 [3, 5, 7, 8] ir52_l0 (L52_0_s a1 a2 a3 a4 s0)) := by
  have q := @loop_sound' (Int) E_L52_0 (fun s => L52_0 rF52 a1 a3 a4 s) (fun s => evH prg 5 [3, 5, 7, 8] ir52_l0 (L52_0_s a1 a2 a3 a4 s)) (L52_0_x a1 a2 a3 a4) (fun s r h => L52_0_ok rF52 hF52 a1 a2 a3 a4 s h) s0 e h
  exact q
noncomputable def F52_b (rF52 : T_F52) (a1 : GramD) (a2 : SymD) (a3 : TreeD) : Option Bool :=
  (bif (a2.kind == 0) then (bif (a3.prod == (-1)) then (bif ((a3.kids.length : Int) == 0) then ((F71 a2 a3).bind fun x4 => (some x4)) else (some false)) else (some false)) else (bif (decide (a3.prod < 0)) then (some false) else (bif (decide (a3.prod ≥ (a1.prods.length : Int))) then (some false) else (bif (a3.byte != 0) then (some false) else ((getI a1.prods a3.prod).bind fun x5 => (bif (x5.role == 11) then (some false) else (bif (x5.left != a2.sort) then (some false) else (bif ((x5.right.length : Int) != (a3.kids.length : Int)) then (some false) else ((runL (fun s => L52_0 rF52 a1 a3 x5 s) 0).bind fun r9 => match r9 with | .k0 => (some false) | .k1 => (some true))))))))))
abbrev F52_d0 (a1 : GramD) (a2 : SymD) (a3 : TreeD) (x5 : ProdD) : List AB := [bG a1, .cells 68 ((eSym a2).map .p), .cells 51 ((cT a3).map .p), .row 68 6 0 (ra eSym []), bP x5]
abbrev F52_d1 (g9 : Nat → AV) (a1 : GramD) (a2 : SymD) (a3 : TreeD) (x5 : ProdD) : St := ⟨fr 89 g9 [(3, (.ptr 0 0)), (5, (.ptr 2 0)), (7, (.ptr 4 0))], [bG a1, .cells 68 ((eSym a2).map .p), .cells 51 ((cT a3).map .p), .row 68 6 0 (ra eSym []), bP x5]⟩
abbrev F52_c0 (x5 : ProdD) (a3 : TreeD) : List (Nat × Hint) := [(58, .d false), (63, .v (i6 (x5.right.length : Int))), (66, .v (i6 (a3.kids.length : Int)))]
theorem F52_bok (rF52 : T_F52) (hF52 : H_F52 rF52) (a1 : GramD) (a2 : SymD) (a3 : TreeD) {r : Bool} (h : F52_b rF52 a1 a2 a3 = some r) : PR1 prg 52 [(aG a1), (.agg ((eSym a2).map .p)), (.agg ((cT a3).map .p))] (F52_v a1 a2 a3 r) := by
 unfold F52_b at h
 refine bi h (fun h1 h => ?_) fun h1 h => ?_
 ·
  refine bi h (fun h2 h => ?_) fun h2 h => ?_
  ·
   have q2 := ((lgr tr_map) : lnA (.p (.lst 3 (eTrees a3.kids))) = some (i6 (a3.kids.length : Int)))
   refine bi h (fun h3 h => ?_) fun h3 h => ?_
   ·
    refine bn h fun x4 h4 h => ?_
    rw [← sj h]
    exact fpr (n := 30) [(11, .d true), (14, .d true), (18, .v (i6 (a3.kids.length : Int))), (19, .d true), (26, .v (vb x4))] (apc (cv h1) (apc (cv h2) (apc q2 (apc (cv h3) (apc (((F71_ok a2 a3 h4).cp rfl _) : CP prg 71 [(.agg ((List.take 4 (List.drop 1 (eSym a2))).map .p)), (vi .u8 a3.byte)] [bG a1, .cells 68 ((eSym a2).map .p), .cells 51 ((cT a3).map .p)] = some (vb x4)) apn))))) rfl (by kernel_rfl)
   ·
    rw [← sj h]
    exact fpr (n := 30) [(11, .d true), (14, .d true), (18, .v (i6 (a3.kids.length : Int))), (19, .d false)] (apc (cv h1) (apc (cv h2) (apc q2 (apc (cv h3) apn)))) rfl (by kernel_rfl)
  ·
   rw [← sj h]
   exact fpr (n := 30) [(11, .d true), (14, .d false)] (apc (cv h1) (apc (cv h2) apn)) rfl (by kernel_rfl)
 ·
  refine bi h (fun h2 h => ?_) fun h2 h => ?_
  ·
   rw [← sj h]
   exact fpr (n := 30) [(11, .d false), (30, .d true)] (apc (cv h1) (apc (cv h2) apn)) rfl (by kernel_rfl)
  ·
   refine bi h (fun h3 h => ?_) fun h3 h => ?_
   ·
    rw [← sj h]
    exact fpr (n := 30) [(11, .d false), (30, .d false), (36, .v (i6 (a1.prods.length : Int))), (37, .d true)] (apc (cv h1) (apc (cv h2) (apc (lg a1.prods eProd 7) (apc (cv h3) apn)))) rfl (by kernel_rfl)
   ·
    refine bi h (fun h4 h => ?_) fun h4 h => ?_
    ·
     rw [← sj h]
     exact fpr (n := 30) [(11, .d false), (30, .d false), (36, .v (i6 (a1.prods.length : Int))), (37, .d false), (42, .d true)] (apc (cv h1) (apc (cv h2) (apc (lg a1.prods eProd 7) (apc (cv h3) (apc (cv h4) apn))))) rfl (by kernel_rfl)
    ·
     refine bn h fun x5 h5 h => ?_
     refine bi h (fun h6 h => ?_) fun h6 h => ?_
     ·
      rw [← sj h]
      exact fpr (n := 30) [(11, .d false), (30, .d false), (36, .v (i6 (a1.prods.length : Int))), (37, .d false), (42, .d false), (48, .v (.ro (eProd x5))), (52, .d true)] (apc (cv h1) (apc (cv h2) (apc (lg a1.prods eProd 7) (apc (cv h3) (apc (cv h4) (apc (ig eProd 7 .i64 h5) (apc (cv h6) apn))))))) rfl (by kernel_rfl)
     ·
      refine bi h (fun h7 h => ?_) fun h7 h => ?_
      ·
       rw [← sj h]
       exact fpr (n := 30) [(11, .d false), (30, .d false), (36, .v (i6 (a1.prods.length : Int))), (37, .d false), (42, .d false), (48, .v (.ro (eProd x5))), (52, .d false), (58, .d true)] (apc (cv h1) (apc (cv h2) (apc (lg a1.prods eProd 7) (apc (cv h3) (apc (cv h4) (apc (ig eProd 7 .i64 h5) (apc (cv h6) (apc (cv h7) apn)))))))) rfl (by kernel_rfl)
      ·
       have q9 := ((lgr tr_map) : lnA (.p (.lst 3 (eTrees a3.kids))) = some (i6 (a3.kids.length : Int)))
       refine bi h (fun h8 h => ?_) fun h8 h => ?_
       ·
        rw [← sj h]
        exact fpr (n := 30) ([(11, .d false), (30, .d false), (36, .v (i6 (a1.prods.length : Int))), (37, .d false), (42, .d false), (48, .v (.ro (eProd x5))), (52, .d false)] ++ ((F52_c0 x5 a3) ++ [(67, .d true)])) (apc (cv h1) (apc (cv h2) (apc (lg a1.prods eProd 7) (apc (cv h3) (apc (cv h4) (apc (ig eProd 7 .i64 h5) (apc (cv h6) (apc (cv h7) (apc (lg x5.right eSym 6) (apc q9 (apc (cv h8) apn))))))))))) rfl (by kernel_rfl)
       ·
        refine bn h fun r9 h9 h => ?_
        cases r9 with
        | k0 =>
         obtain ⟨g9, y9, e9⟩ := L52_0_run rF52 hF52 a1 a2 a3 x5 0 _ h9
         rw [← sj h]
         exact fpr (n := 30) ([(11, .d false), (30, .d false), (36, .v (i6 (a1.prods.length : Int))), (37, .d false), (42, .d false), (48, .v (.ro (eProd x5))), (52, .d false)] ++ ((F52_c0 x5 a3) ++ [(67, .d false), (2000, .l .ret ⟨fr 89 g9 [(6, (vb false))], y9⟩), (6000, .d true)])) (apc (cv h1) (apc (cv h2) (apc (lg a1.prods eProd 7) (apc (cv h3) (apc (cv h4) (apc (ig eProd 7 .i64 h5) (apc (cv h6) (apc (cv h7) (apc (lg x5.right eSym 6) (apc q9 (apc (cv h8) (apc ((okT_of rfl (abl_cons rfl (abl_cons rfl (abl_cons rfl (abl_cons abl_row (abl_cons rfl rfl)))))) : okT 5 (F52_d0 a1 a2 a3 x5) = true) (apc (e9 : evH prg 5 [3, 5, 7, 8] ir52_l0 (L52_0_s a1 a2 a3 x5 0) = some (.ret, ⟨fr 89 g9 [(6, (vb false))], y9⟩)) apn))))))))))))) rfl (by kernel_rfl)
        | k1 =>
         obtain ⟨g9, e9⟩ := L52_0_run rF52 hF52 a1 a2 a3 x5 0 _ h9
         rw [← sj h]
         exact fpr (n := 30) ([(11, .d false), (30, .d false), (36, .v (i6 (a1.prods.length : Int))), (37, .d false), (42, .d false), (48, .v (.ro (eProd x5))), (52, .d false)] ++ ((F52_c0 x5 a3) ++ [(67, .d false), (2000, .l (.brk 0) (F52_d1 g9 a1 a2 a3 x5)), (6000, .d true)])) (apc (cv h1) (apc (cv h2) (apc (lg a1.prods eProd 7) (apc (cv h3) (apc (cv h4) (apc (ig eProd 7 .i64 h5) (apc (cv h6) (apc (cv h7) (apc (lg x5.right eSym 6) (apc q9 (apc (cv h8) (apc ((okT_of rfl (abl_cons rfl (abl_cons rfl (abl_cons rfl (abl_cons abl_row (abl_cons rfl rfl)))))) : okT 5 (F52_d0 a1 a2 a3 x5) = true) (apc (e9 : evH prg 5 [3, 5, 7, 8] ir52_l0 (L52_0_s a1 a2 a3 x5 0) = some ((.brk 0), (F52_d1 g9 a1 a2 a3 x5))) apn))))))))))))) rfl (by kernel_rfl)
noncomputable def F52 : Nat → T_F52
  | 0 => fun _ _ _ => none
  | Nf + 1 => F52_b (F52 Nf)
theorem F52_ok (Nf : Nat) : H_F52 (F52 Nf) := by
  induction Nf with
  | zero => intro a1 a2 a3 r h; have h : (none : Option Bool) = some r := h; cases h
  | succ Nf ih => intro a1 a2 a3 r h; exact F52_bok (F52 Nf) ih a1 a2 a3 h
end Go.Proofs.Try
