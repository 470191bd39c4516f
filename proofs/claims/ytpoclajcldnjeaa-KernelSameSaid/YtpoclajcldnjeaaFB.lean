/- Decompiled by a program: functions as plain data see them, part 1. -/
import Derived.Test.YtpoclajcldnjeaaFT
namespace Go.Proofs.Try
set_option linter.unusedSimpArgs false
set_option linter.unusedVariables false
open Go Go.Vs
inductive E_L9_1 where
  | k0
  | k1
noncomputable def L9_1 (a1 : GramD) (v1 : Int) : Option (E_L9_1 ⊕ (Int)) :=
  (bif (decide (v1 < (a1.sorts.length : Int))) then ((getI a1.sorts v1).bind fun x2 => (bif (decide ((x2.size : Int) > 1500)) then (some (.inl (.k0))) else (some (.inr ((IntKind.wrap .i64 (v1 + 1))))))) else (some (.inl (.k1))))
def L9_1_s (a1 : GramD) (v1 : Int) : St := ⟨fr 66 ug [(1, (.ptr 0 0)), (3, (i6 v1))], [bG a1]⟩
def L9_1_x (a1 : GramD) (e : E_L9_1) (r : Option (Out × St)) : Prop := match e with | .k0 => ∃ g y, r = some (.ret, ⟨fr 66 g [(2, (vb true))], y⟩) | .k1 => ∃ g, r = some ((.brk 0), ⟨fr 66 g [(1, (.ptr 0 0))], [bG a1]⟩)
theorem L9_1_ok (a1 : GramD) (v1 : Int) {r : E_L9_1 ⊕ (Int)} (h : L9_1 a1 v1 = some r) : OkR (fun e => L9_1_x a1 e (evH prg 1 [1, 3] ir9_l1 (L9_1_s a1 v1))) (fun s => evH prg 1 [1, 3] ir9_l1 (L9_1_s a1 v1) = evH prg 1 [1, 3] ir9_l1 (L9_1_s a1 s)) r := by
 unfold L9_1 at h
 refine bi h (fun h1 h => ?_) fun h1 h => ?_
 ·
  refine bn h fun x2 h2 h => ?_
  refine bi h (fun h3 h => ?_) fun h3 h => ?_
  ·
   rw [← sj h]
   exact xretY (n := 30) [(30, .v (i6 (a1.sorts.length : Int))), (31, .d true), (37, .v (.ro [.val (.string x2)])), (40, .d true), (6000, .d true)] (apc (lg a1.sorts eStr 1) (apc (cv h1) (apc (ig eStr 1 .i64 h2) (apc (cv h3) apn)))) (by kernel_rfl)
  ·
   rw [← sj h]
   exact rnd (n := 30) [(30, .v (i6 (a1.sorts.length : Int))), (31, .d true), (37, .v (.ro [.val (.string x2)])), (40, .d false), (6000, .d true)] (apc (lg a1.sorts eStr 1) (apc (cv h1) (apc (ig eStr 1 .i64 h2) (apc (cv h3) (apc ((okT_of rfl (abl_cons rfl rfl)) : okT 1 [bG a1] = true) apn))))) (by kernel_rfl)
 ·
  rw [← sj h]
  exact xbrk (n := 30) [(30, .v (i6 (a1.sorts.length : Int))), (31, .d false), (6000, .d true)] (apc (lg a1.sorts eStr 1) (apc (cv h1) apn)) (by kernel_rfl)
theorem L9_1_run (a1 : GramD) (s0 : Int) (e : E_L9_1) (h : runL (fun s => L9_1 a1 s) s0 = some e) : L9_1_x a1 e (evH prg 1 [1, 3] ir9_l1 (L9_1_s a1 s0)) := by
  have q := @loop_sound' (Int) E_L9_1 (fun s => L9_1 a1 s) (fun s => evH prg 1 [1, 3] ir9_l1 (L9_1_s a1 s)) (L9_1_x a1) (fun s r h => L9_1_ok a1 s h) s0 e h
  exact q
inductive E_L9_0 where
  | k0
  | k1
noncomputable def L9_0 (a1 : GramD) (v1 : Int) : Option (E_L9_0 ⊕ (Int)) :=
  (bif (decide (v1 < (a1.prods.length : Int))) then ((getI a1.prods v1).bind fun x2 => (bif (decide ((x2.right.length : Int) > 40)) then (some (.inl (.k0))) else (bif (decide ((x2.cons.size : Int) > 1500)) then (some (.inl (.k0))) else (some (.inr ((IntKind.wrap .i64 (v1 + 1)))))))) else (some (.inl (.k1))))
def L9_0_s (a1 : GramD) (v1 : Int) : St := ⟨fr 66 ug [(1, (.ptr 0 0)), (4, (i6 v1))], [bG a1]⟩
def L9_0_x (a1 : GramD) (e : E_L9_0) (r : Option (Out × St)) : Prop := match e with | .k0 => ∃ g y, r = some (.ret, ⟨fr 66 g [(2, (vb true))], y⟩) | .k1 => ∃ g, r = some ((.brk 2), ⟨fr 66 g [(1, (.ptr 0 0))], [bG a1]⟩)
theorem L9_0_ok (a1 : GramD) (v1 : Int) {r : E_L9_0 ⊕ (Int)} (h : L9_0 a1 v1 = some r) : OkR (fun e => L9_0_x a1 e (evH prg 1 [1, 4] ir9_l0 (L9_0_s a1 v1))) (fun s => evH prg 1 [1, 4] ir9_l0 (L9_0_s a1 v1) = evH prg 1 [1, 4] ir9_l0 (L9_0_s a1 s)) r := by
 unfold L9_0 at h
 refine bi h (fun h1 h => ?_) fun h1 h => ?_
 ·
  refine bn h fun x2 h2 h => ?_
  refine bi h (fun h3 h => ?_) fun h3 h => ?_
  ·
   rw [← sj h]
   exact xretY (n := 30) [(44, .v (i6 (a1.prods.length : Int))), (45, .d true), (51, .v (.ro (eProd x2))), (54, .v (i6 (x2.right.length : Int))), (55, .d true), (6000, .d true)] (apc (lg a1.prods eProd 7) (apc (cv h1) (apc (ig eProd 7 .i64 h2) (apc (lg x2.right eSym 6) (apc (cv h3) apn))))) (by kernel_rfl)
  ·
   refine bi h (fun h4 h => ?_) fun h4 h => ?_
   ·
    rw [← sj h]
    exact xretY (n := 30) [(44, .v (i6 (a1.prods.length : Int))), (45, .d true), (51, .v (.ro (eProd x2))), (54, .v (i6 (x2.right.length : Int))), (55, .d false), (60, .v (.ro (eProd x2))), (64, .d true), (6000, .d true)] (apc (lg a1.prods eProd 7) (apc (cv h1) (apc (ig eProd 7 .i64 h2) (apc (lg x2.right eSym 6) (apc (cv h3) (apc (ig eProd 7 .i64 h2) (apc (cv h4) apn))))))) (by kernel_rfl)
   ·
    rw [← sj h]
    exact rnd (n := 30) [(44, .v (i6 (a1.prods.length : Int))), (45, .d true), (51, .v (.ro (eProd x2))), (54, .v (i6 (x2.right.length : Int))), (55, .d false), (60, .v (.ro (eProd x2))), (64, .d false), (6000, .d true)] (apc (lg a1.prods eProd 7) (apc (cv h1) (apc (ig eProd 7 .i64 h2) (apc (lg x2.right eSym 6) (apc (cv h3) (apc (ig eProd 7 .i64 h2) (apc (cv h4) (apc ((okT_of rfl (abl_cons rfl rfl)) : okT 1 [bG a1] = true) apn)))))))) (by kernel_rfl)
 ·
  rw [← sj h]
  exact xbrk (n := 30) [(44, .v (i6 (a1.prods.length : Int))), (45, .d false), (6000, .d true)] (apc (lg a1.prods eProd 7) (apc (cv h1) apn)) (by kernel_rfl)
theorem L9_0_run (a1 : GramD) (s0 : Int) (e : E_L9_0) (h : runL (fun s => L9_0 a1 s) s0 = some e) : L9_0_x a1 e (evH prg 1 [1, 4] ir9_l0 (L9_0_s a1 s0)) := by
  have q := @loop_sound' (Int) E_L9_0 (fun s => L9_0 a1 s) (fun s => evH prg 1 [1, 4] ir9_l0 (L9_0_s a1 s)) (L9_0_x a1) (fun s r h => L9_0_ok a1 s h) s0 e h
  exact q
noncomputable def F9 (a1 : GramD) : Option Bool :=
  (bif (decide ((a1.sorts.length : Int) > 40)) then (some true) else (bif (decide ((a1.prods.length : Int) > 60)) then (some true) else (bif (decide ((a1.forbid.length : Int) > 40)) then (some true) else (bif (decide ((a1.follow.length : Int) > 40)) then (some true) else ((runL (fun s => L9_1 a1 s) 0).bind fun r5 => match r5 with | .k0 => (some true) | .k1 => ((runL (fun s => L9_0 a1 s) 0).bind fun r6 => match r6 with | .k0 => (some true) | .k1 => (some false)))))))
def F9_v (a1 : GramD) (x0 : Bool) : AV := (vb x0)
theorem F9_ok (a1 : GramD) {r : Bool} (h : F9 a1 = some r) : PR1 prg 9 [(aG a1)] (F9_v a1 r) := by
 unfold F9 at h
 refine bi h (fun h1 h => ?_) fun h1 h => ?_
 ·
  rw [← sj h]
  exact fpr (n := 30) [(7, .v (i6 (a1.sorts.length : Int))), (8, .d true)] (apc (lg a1.sorts eStr 1) (apc (cv h1) apn)) rfl (by kernel_rfl)
 ·
  refine bi h (fun h2 h => ?_) fun h2 h => ?_
  ·
   rw [← sj h]
   exact fpr (n := 30) [(7, .v (i6 (a1.sorts.length : Int))), (8, .d false), (12, .v (i6 (a1.prods.length : Int))), (13, .d true)] (apc (lg a1.sorts eStr 1) (apc (cv h1) (apc (lg a1.prods eProd 7) (apc (cv h2) apn)))) rfl (by kernel_rfl)
  ·
   refine bi h (fun h3 h => ?_) fun h3 h => ?_
   ·
    rw [← sj h]
    exact fpr (n := 30) [(7, .v (i6 (a1.sorts.length : Int))), (8, .d false), (12, .v (i6 (a1.prods.length : Int))), (13, .d false), (18, .v (i6 (a1.forbid.length : Int))), (19, .d true)] (apc (lg a1.sorts eStr 1) (apc (cv h1) (apc (lg a1.prods eProd 7) (apc (cv h2) (apc (lg a1.forbid eForb 3) (apc (cv h3) apn)))))) rfl (by kernel_rfl)
   ·
    refine bi h (fun h4 h => ?_) fun h4 h => ?_
    ·
     rw [← sj h]
     exact fpr (n := 30) [(7, .v (i6 (a1.sorts.length : Int))), (8, .d false), (12, .v (i6 (a1.prods.length : Int))), (13, .d false), (18, .v (i6 (a1.forbid.length : Int))), (19, .d false), (24, .v (i6 (a1.follow.length : Int))), (25, .d true)] (apc (lg a1.sorts eStr 1) (apc (cv h1) (apc (lg a1.prods eProd 7) (apc (cv h2) (apc (lg a1.forbid eForb 3) (apc (cv h3) (apc (lg a1.follow eFoll 5) (apc (cv h4) apn)))))))) rfl (by kernel_rfl)
    ·
     refine bn h fun r5 h5 h => ?_
     cases r5 with
     | k0 =>
      obtain ⟨g5, y5, e5⟩ := L9_1_run a1 0 _ h5
      rw [← sj h]
      exact fpr (n := 30) [(7, .v (i6 (a1.sorts.length : Int))), (8, .d false), (12, .v (i6 (a1.prods.length : Int))), (13, .d false), (18, .v (i6 (a1.forbid.length : Int))), (19, .d false), (24, .v (i6 (a1.follow.length : Int))), (25, .d false), (2000, .l .ret ⟨fr 66 g5 [(2, (vb true))], y5⟩), (6000, .d true)] (apc (lg a1.sorts eStr 1) (apc (cv h1) (apc (lg a1.prods eProd 7) (apc (cv h2) (apc (lg a1.forbid eForb 3) (apc (cv h3) (apc (lg a1.follow eFoll 5) (apc (cv h4) (apc ((okT_of rfl (abl_cons rfl rfl)) : okT 1 [bG a1] = true) (apc (e5 : evH prg 1 [1, 3] ir9_l1 (L9_1_s a1 0) = some (.ret, ⟨fr 66 g5 [(2, (vb true))], y5⟩)) apn)))))))))) rfl (by kernel_rfl)
     | k1 =>
      obtain ⟨g5, e5⟩ := L9_1_run a1 0 _ h5
      have q8 := ((okT_of rfl (abl_cons rfl rfl)) : okT 1 [bG a1] = true)
      have q9 := (e5 : evH prg 1 [1, 3] ir9_l1 (L9_1_s a1 0) = some ((.brk 0), ⟨fr 66 g5 [(1, (.ptr 0 0))], [bG a1]⟩))
      refine bn h fun r6 h6 h => ?_
      cases r6 with
      | k0 =>
       obtain ⟨g6, y6, e6⟩ := L9_0_run a1 0 _ h6
       rw [← sj h]
       exact fpr (n := 30) [(7, .v (i6 (a1.sorts.length : Int))), (8, .d false), (12, .v (i6 (a1.prods.length : Int))), (13, .d false), (18, .v (i6 (a1.forbid.length : Int))), (19, .d false), (24, .v (i6 (a1.follow.length : Int))), (25, .d false), (2000, .l (.brk 0) ⟨fr 66 g5 [(1, (.ptr 0 0))], [bG a1]⟩), (2002, .l .ret ⟨fr 66 g6 [(2, (vb true))], y6⟩), (6000, .d true)] (apc (lg a1.sorts eStr 1) (apc (cv h1) (apc (lg a1.prods eProd 7) (apc (cv h2) (apc (lg a1.forbid eForb 3) (apc (cv h3) (apc (lg a1.follow eFoll 5) (apc (cv h4) (apc q8 (apc q9 (apc ((okT_of rfl (abl_cons rfl rfl)) : okT 1 [bG a1] = true) (apc (e6 : evH prg 1 [1, 4] ir9_l0 (L9_0_s a1 0) = some (.ret, ⟨fr 66 g6 [(2, (vb true))], y6⟩)) apn)))))))))))) rfl (by kernel_rfl)
      | k1 =>
       obtain ⟨g6, e6⟩ := L9_0_run a1 0 _ h6
       rw [← sj h]
       exact fpr (n := 30) [(7, .v (i6 (a1.sorts.length : Int))), (8, .d false), (12, .v (i6 (a1.prods.length : Int))), (13, .d false), (18, .v (i6 (a1.forbid.length : Int))), (19, .d false), (24, .v (i6 (a1.follow.length : Int))), (25, .d false), (2000, .l (.brk 0) ⟨fr 66 g5 [(1, (.ptr 0 0))], [bG a1]⟩), (2002, .l (.brk 2) ⟨fr 66 g6 [(1, (.ptr 0 0))], [bG a1]⟩), (6000, .d true)] (apc (lg a1.sorts eStr 1) (apc (cv h1) (apc (lg a1.prods eProd 7) (apc (cv h2) (apc (lg a1.forbid eForb 3) (apc (cv h3) (apc (lg a1.follow eFoll 5) (apc (cv h4) (apc q8 (apc q9 (apc ((okT_of rfl (abl_cons rfl rfl)) : okT 1 [bG a1] = true) (apc (e6 : evH prg 1 [1, 4] ir9_l0 (L9_0_s a1 0) = some ((.brk 2), ⟨fr 66 g6 [(1, (.ptr 0 0))], [bG a1]⟩)) apn)))))))))))) rfl (by kernel_rfl)
inductive E_L59_0 where
  | k0
  | k1
noncomputable def L59_0 (a1 : GramD) (a2 : GramD) (a3 : Int) (v1 : Int) : Option (E_L59_0 ⊕ (Int)) :=
  (bif (decide (v1 < a3)) then ((getI a1.sorts v1).bind fun x2 => ((getI a2.sorts v1).bind fun x3 => (bif (!(x2.toList == x3.toList)) then (some (.inl (.k0))) else (some (.inr ((IntKind.wrap .i64 (v1 + 1)))))))) else (some (.inl (.k1))))
def L59_0_s (a1 : GramD) (a2 : GramD) (a3 : Int) (v1 : Int) : St := ⟨fr 26 ug [(0, (.p (.lst 1 (a1.sorts.map eStr)))), (1, (.p (.lst 1 (a2.sorts.map eStr)))), (12, (i6 a3)), (13, (i6 v1))], []⟩
def L59_0_x (a1 : GramD) (a2 : GramD) (a3 : Int) (e : E_L59_0) (r : Option (Out × St)) : Prop := match e with | .k0 => ∃ g y, r = some (.ret, ⟨fr 26 g [(4, (vb false))], y⟩) | .k1 => ∃ g, r = some ((.brk 0), ⟨fr 26 g [(0, (.p (.lst 1 (a1.sorts.map eStr)))), (1, (.p (.lst 1 (a2.sorts.map eStr))))], []⟩)
theorem L59_0_ok (a1 : GramD) (a2 : GramD) (a3 : Int) (v1 : Int) {r : E_L59_0 ⊕ (Int)} (h : L59_0 a1 a2 a3 v1 = some r) : OkR (fun e => L59_0_x a1 a2 a3 e (evH prg 0 [0, 1, 12, 13] ir59_l0 (L59_0_s a1 a2 a3 v1))) (fun s => evH prg 0 [0, 1, 12, 13] ir59_l0 (L59_0_s a1 a2 a3 v1) = evH prg 0 [0, 1, 12, 13] ir59_l0 (L59_0_s a1 a2 a3 s)) r := by
 unfold L59_0 at h
 refine bi h (fun h1 h => ?_) fun h1 h => ?_
 ·
  refine bn h fun x2 h2 h => ?_
  refine bn h fun x3 h3 h => ?_
  refine bi h (fun h4 h => ?_) fun h4 h => ?_
  ·
   rw [← sj h]
   exact xretY (n := 30) [(14, .d true), (18, .v (.ro [.val (.string x2)])), (22, .v (.ro [.val (.string x3)])), (24, .d true), (6000, .d true)] (apc (cv h1) (apc (ig eStr 1 .i64 h2) (apc (ig eStr 1 .i64 h3) (apc (cv h4) apn)))) (by kernel_rfl)
  ·
   rw [← sj h]
   exact rnd (n := 30) [(14, .d true), (18, .v (.ro [.val (.string x2)])), (22, .v (.ro [.val (.string x3)])), (24, .d false), (6000, .d true)] (apc (cv h1) (apc (ig eStr 1 .i64 h2) (apc (ig eStr 1 .i64 h3) (apc (cv h4) (apc ((okT_of rfl rfl) : okT 0 [] = true) apn))))) (by kernel_rfl)
 ·
  rw [← sj h]
  exact xbrk (n := 30) [(14, .d false), (6000, .d true)] (apc (cv h1) apn) (by kernel_rfl)
theorem L59_0_run (a1 : GramD) (a2 : GramD) (a3 : Int) (s0 : Int) (e : E_L59_0) (h : runL (fun s => L59_0 a1 a2 a3 s) s0 = some e) : L59_0_x a1 a2 a3 e (evH prg 0 [0, 1, 12, 13] ir59_l0 (L59_0_s a1 a2 a3 s0)) := by
  have q := @loop_sound' (Int) E_L59_0 (fun s => L59_0 a1 a2 a3 s) (fun s => evH prg 0 [0, 1, 12, 13] ir59_l0 (L59_0_s a1 a2 a3 s)) (L59_0_x a1 a2 a3) (fun s r h => L59_0_ok a1 a2 a3 s h) s0 e h
  exact q
noncomputable def F59 (a1 : GramD) (a2 : GramD) : Option Bool :=
  (bif ((a1.sorts.length : Int) != (a2.sorts.length : Int)) then (some false) else ((runL (fun s => L59_0 a1 a2 (a1.sorts.length : Int) s) 0).bind fun r2 => match r2 with | .k0 => (some false) | .k1 => (some true)))
def F59_v (a1 : GramD) (a2 : GramD) (x0 : Bool) : AV := (vb x0)
abbrev F59_d0 (g2 : Nat → AV) (a1 : GramD) (a2 : GramD) : St := ⟨fr 26 g2 [(0, (.p (.lst 1 (a1.sorts.map eStr)))), (1, (.p (.lst 1 (a2.sorts.map eStr))))], []⟩
theorem F59_ok (a1 : GramD) (a2 : GramD) {r : Bool} (h : F59 a1 a2 = some r) : PR1 prg 59 [(.p (.lst 1 (a1.sorts.map eStr))), (.p (.lst 1 (a2.sorts.map eStr)))] (F59_v a1 a2 r) := by
 unfold F59 at h
 refine bi h (fun h1 h => ?_) fun h1 h => ?_
 ·
  rw [← sj h]
  exact fpr (n := 30) [(7, .v (i6 (a1.sorts.length : Int))), (9, .v (i6 (a2.sorts.length : Int))), (10, .d true)] (apc (lg a1.sorts eStr 1) (apc (lg a2.sorts eStr 1) (apc (cv h1) apn))) rfl (by kernel_rfl)
 ·
  refine bn h fun r2 h2 h => ?_
  cases r2 with
  | k0 =>
   obtain ⟨g2, y2, e2⟩ := L59_0_run a1 a2 (a1.sorts.length : Int) 0 _ h2
   rw [← sj h]
   exact fpr (n := 30) [(7, .v (i6 (a1.sorts.length : Int))), (9, .v (i6 (a2.sorts.length : Int))), (10, .d false), (12, .v (i6 (a1.sorts.length : Int))), (2000, .l .ret ⟨fr 26 g2 [(4, (vb false))], y2⟩), (6000, .d true)] (apc (lg a1.sorts eStr 1) (apc (lg a2.sorts eStr 1) (apc (cv h1) (apc (lg a1.sorts eStr 1) (apc ((okT_of rfl rfl) : okT 0 [] = true) (apc (e2 : evH prg 0 [0, 1, 12, 13] ir59_l0 (L59_0_s a1 a2 (a1.sorts.length : Int) 0) = some (.ret, ⟨fr 26 g2 [(4, (vb false))], y2⟩)) apn)))))) rfl (by kernel_rfl)
  | k1 =>
   obtain ⟨g2, e2⟩ := L59_0_run a1 a2 (a1.sorts.length : Int) 0 _ h2
   rw [← sj h]
   exact fpr (n := 30) [(7, .v (i6 (a1.sorts.length : Int))), (9, .v (i6 (a2.sorts.length : Int))), (10, .d false), (12, .v (i6 (a1.sorts.length : Int))), (2000, .l (.brk 0) (F59_d0 g2 a1 a2)), (6000, .d true)] (apc (lg a1.sorts eStr 1) (apc (lg a2.sorts eStr 1) (apc (cv h1) (apc (lg a1.sorts eStr 1) (apc ((okT_of rfl rfl) : okT 0 [] = true) (apc (e2 : evH prg 0 [0, 1, 12, 13] ir59_l0 (L59_0_s a1 a2 (a1.sorts.length : Int) 0) = some ((.brk 0), (F59_d0 g2 a1 a2))) apn)))))) rfl (by kernel_rfl)
inductive E_L58_0 where
  | k0
  | k1
noncomputable def L58_0 (a1 : ProdD) (a2 : ProdD) (a3 : Int) (v1 : Int) : Option (E_L58_0 ⊕ (Int)) :=
  (bif (decide (v1 < a3)) then ((getI a1.right v1).bind fun x2 => ((getI a2.right v1).bind fun x3 => (bif (!((x2.kind == x3.kind) && ((x2.a == x3.a) && ((x2.b == x3.b) && ((x2.c == x3.c) && ((x2.d == x3.d) && ((x2.sort == x3.sort) && true))))))) then (some (.inl (.k0))) else (some (.inr ((IntKind.wrap .i64 (v1 + 1)))))))) else (some (.inl (.k1))))
def L58_0_s (a1 : ProdD) (a2 : ProdD) (a3 : Int) (v1 : Int) : St := ⟨fr 26 ug [(0, (.p (.lst 6 (a1.right.map eSym)))), (1, (.p (.lst 6 (a2.right.map eSym)))), (12, (i6 a3)), (13, (i6 v1))], []⟩
def L58_0_x (a1 : ProdD) (a2 : ProdD) (a3 : Int) (e : E_L58_0) (r : Option (Out × St)) : Prop := match e with | .k0 => ∃ g y, r = some (.ret, ⟨fr 26 g [(4, (vb false))], y⟩) | .k1 => ∃ g, r = some ((.brk 0), ⟨fr 26 g [(0, (.p (.lst 6 (a1.right.map eSym)))), (1, (.p (.lst 6 (a2.right.map eSym))))], []⟩)
theorem L58_0_ok (a1 : ProdD) (a2 : ProdD) (a3 : Int) (v1 : Int) {r : E_L58_0 ⊕ (Int)} (h : L58_0 a1 a2 a3 v1 = some r) : OkR (fun e => L58_0_x a1 a2 a3 e (evH prg 0 [0, 1, 12, 13] ir58_l0 (L58_0_s a1 a2 a3 v1))) (fun s => evH prg 0 [0, 1, 12, 13] ir58_l0 (L58_0_s a1 a2 a3 v1) = evH prg 0 [0, 1, 12, 13] ir58_l0 (L58_0_s a1 a2 a3 s)) r := by
 unfold L58_0 at h
 refine bi h (fun h1 h => ?_) fun h1 h => ?_
 ·
  refine bn h fun x2 h2 h => ?_
  refine bn h fun x3 h3 h => ?_
  refine bi h (fun h4 h => ?_) fun h4 h => ?_
  ·
   rw [← sj h]
   exact xretY (n := 30) [(14, .d true), (18, .v (.ro (eSym x2))), (22, .v (.ro (eSym x3))), (24, .d true), (6000, .d true)] (apc (cv h1) (apc (ig eSym 6 .i64 h2) (apc (ig eSym 6 .i64 h3) (apc (cv h4) apn)))) (by kernel_rfl)
  ·
   rw [← sj h]
   exact rnd (n := 30) [(14, .d true), (18, .v (.ro (eSym x2))), (22, .v (.ro (eSym x3))), (24, .d false), (6000, .d true)] (apc (cv h1) (apc (ig eSym 6 .i64 h2) (apc (ig eSym 6 .i64 h3) (apc (cv h4) (apc ((okT_of rfl rfl) : okT 0 [] = true) apn))))) (by kernel_rfl)
 ·
  rw [← sj h]
  exact xbrk (n := 30) [(14, .d false), (6000, .d true)] (apc (cv h1) apn) (by kernel_rfl)
theorem L58_0_run (a1 : ProdD) (a2 : ProdD) (a3 : Int) (s0 : Int) (e : E_L58_0) (h : runL (fun s => L58_0 a1 a2 a3 s) s0 = some e) : L58_0_x a1 a2 a3 e (evH prg 0 [0, 1, 12, 13] ir58_l0 (L58_0_s a1 a2 a3 s0)) := by
  have q := @loop_sound' (Int) E_L58_0 (fun s => L58_0 a1 a2 a3 s) (fun s => evH prg 0 [0, 1, 12, 13] ir58_l0 (L58_0_s a1 a2 a3 s)) (L58_0_x a1 a2 a3) (fun s r h => L58_0_ok a1 a2 a3 s h) s0 e h
  exact q
noncomputable def F58 (a1 : ProdD) (a2 : ProdD) : Option Bool :=
  (bif ((a1.right.length : Int) != (a2.right.length : Int)) then (some false) else ((runL (fun s => L58_0 a1 a2 (a1.right.length : Int) s) 0).bind fun r2 => match r2 with | .k0 => (some false) | .k1 => (some true)))
def F58_v (a1 : ProdD) (a2 : ProdD) (x0 : Bool) : AV := (vb x0)
abbrev F58_d0 (g2 : Nat → AV) (a1 : ProdD) (a2 : ProdD) : St := ⟨fr 26 g2 [(0, (.p (.lst 6 (a1.right.map eSym)))), (1, (.p (.lst 6 (a2.right.map eSym))))], []⟩
theorem F58_ok (a1 : ProdD) (a2 : ProdD) {r : Bool} (h : F58 a1 a2 = some r) : PR1 prg 58 [(.p (.lst 6 (a1.right.map eSym))), (.p (.lst 6 (a2.right.map eSym)))] (F58_v a1 a2 r) := by
 unfold F58 at h
 refine bi h (fun h1 h => ?_) fun h1 h => ?_
 ·
  rw [← sj h]
  exact fpr (n := 30) [(7, .v (i6 (a1.right.length : Int))), (9, .v (i6 (a2.right.length : Int))), (10, .d true)] (apc (lg a1.right eSym 6) (apc (lg a2.right eSym 6) (apc (cv h1) apn))) rfl (by kernel_rfl)
 ·
  refine bn h fun r2 h2 h => ?_
  cases r2 with
  | k0 =>
   obtain ⟨g2, y2, e2⟩ := L58_0_run a1 a2 (a1.right.length : Int) 0 _ h2
   rw [← sj h]
   exact fpr (n := 30) [(7, .v (i6 (a1.right.length : Int))), (9, .v (i6 (a2.right.length : Int))), (10, .d false), (12, .v (i6 (a1.right.length : Int))), (2000, .l .ret ⟨fr 26 g2 [(4, (vb false))], y2⟩), (6000, .d true)] (apc (lg a1.right eSym 6) (apc (lg a2.right eSym 6) (apc (cv h1) (apc (lg a1.right eSym 6) (apc ((okT_of rfl rfl) : okT 0 [] = true) (apc (e2 : evH prg 0 [0, 1, 12, 13] ir58_l0 (L58_0_s a1 a2 (a1.right.length : Int) 0) = some (.ret, ⟨fr 26 g2 [(4, (vb false))], y2⟩)) apn)))))) rfl (by kernel_rfl)
  | k1 =>
   obtain ⟨g2, e2⟩ := L58_0_run a1 a2 (a1.right.length : Int) 0 _ h2
   rw [← sj h]
   exact fpr (n := 30) [(7, .v (i6 (a1.right.length : Int))), (9, .v (i6 (a2.right.length : Int))), (10, .d false), (12, .v (i6 (a1.right.length : Int))), (2000, .l (.brk 0) (F58_d0 g2 a1 a2)), (6000, .d true)] (apc (lg a1.right eSym 6) (apc (lg a2.right eSym 6) (apc (cv h1) (apc (lg a1.right eSym 6) (apc ((okT_of rfl rfl) : okT 0 [] = true) (apc (e2 : evH prg 0 [0, 1, 12, 13] ir58_l0 (L58_0_s a1 a2 (a1.right.length : Int) 0) = some ((.brk 0), (F58_d0 g2 a1 a2))) apn)))))) rfl (by kernel_rfl)
noncomputable def F57 (a1 : ProdD) (a2 : ProdD) : Option Bool :=
  (bif (a1.left == a2.left) then (bif (a1.cons.toList == a2.cons.toList) then (bif (a1.role == a2.role) then (bif ((a1.prefer == a2.prefer) && true) then (bif ((a1.avoid == a2.avoid) && true) then (bif (a1.frm == a2.frm) then ((F58 a1 a2).bind fun x7 => (some x7)) else (some false)) else (some false)) else (some false)) else (some false)) else (some false)) else (some false))
def F57_v (a1 : ProdD) (a2 : ProdD) (x0 : Bool) : AV := (vb x0)
theorem F57_ok (a1 : ProdD) (a2 : ProdD) {r : Bool} (h : F57 a1 a2 = some r) : PR1 prg 57 [(aP a1), (aP a2)] (F57_v a1 a2 r) := by
 unfold F57 at h
 refine bi h (fun h1 h => ?_) fun h1 h => ?_
 ·
  refine bi h (fun h2 h => ?_) fun h2 h => ?_
  ·
   refine bi h (fun h3 h => ?_) fun h3 h => ?_
   ·
    refine bi h (fun h4 h => ?_) fun h4 h => ?_
    ·
     refine bi h (fun h5 h => ?_) fun h5 h => ?_
     ·
      refine bi h (fun h6 h => ?_) fun h6 h => ?_
      ·
       refine bn h fun x7 h7 h => ?_
       rw [← sj h]
       exact fpr (n := 30) [(9, .d true), (15, .d true), (22, .d true), (29, .d true), (36, .d true), (43, .d true), (50, .v (vb x7))] (apc (cv h1) (apc (cv h2) (apc (cv h3) (apc (cv h4) (apc (cv h5) (apc (cv h6) (apc (((F58_ok a1 a2 h7).cp rfl _) : CP prg 58 [(.p (.lst 6 (a1.right.map eSym))), (.p (.lst 6 (a2.right.map eSym)))] [bP a1, bP a2] = some (vb x7)) apn))))))) rfl (by kernel_rfl)
      ·
       rw [← sj h]
       exact fpr (n := 30) [(9, .d true), (15, .d true), (22, .d true), (29, .d true), (36, .d true), (43, .d false)] (apc (cv h1) (apc (cv h2) (apc (cv h3) (apc (cv h4) (apc (cv h5) (apc (cv h6) apn)))))) rfl (by kernel_rfl)
     ·
      rw [← sj h]
      exact fpr (n := 30) [(9, .d true), (15, .d true), (22, .d true), (29, .d true), (36, .d false)] (apc (cv h1) (apc (cv h2) (apc (cv h3) (apc (cv h4) (apc (cv h5) apn))))) rfl (by kernel_rfl)
    ·
     rw [← sj h]
     exact fpr (n := 30) [(9, .d true), (15, .d true), (22, .d true), (29, .d false)] (apc (cv h1) (apc (cv h2) (apc (cv h3) (apc (cv h4) apn)))) rfl (by kernel_rfl)
   ·
    rw [← sj h]
    exact fpr (n := 30) [(9, .d true), (15, .d true), (22, .d false)] (apc (cv h1) (apc (cv h2) (apc (cv h3) apn))) rfl (by kernel_rfl)
  ·
   rw [← sj h]
   exact fpr (n := 30) [(9, .d true), (15, .d false)] (apc (cv h1) (apc (cv h2) apn)) rfl (by kernel_rfl)
 ·
  rw [← sj h]
  exact fpr (n := 30) [(9, .d false)] (apc (cv h1) apn) rfl (by kernel_rfl)
inductive E_L60_0 where
  | k0
  | k1
noncomputable def L60_0 (a1 : GramD) (a2 : GramD) (a3 : Int) (v1 : Int) : Option (E_L60_0 ⊕ (Int)) :=
  (bif (decide (v1 < a3)) then ((getI a2.prods v1).bind fun x2 => ((getI a1.prods v1).bind fun x3 => ((F57 x2 x3).bind fun x4 => (bif x4 then (some (.inr ((IntKind.wrap .i64 (v1 + 1))))) else (some (.inl (.k0))))))) else (some (.inl (.k1))))
def L60_0_s (a1 : GramD) (a2 : GramD) (a3 : Int) (v1 : Int) : St := ⟨fr 32 ug [(1, (.p (.lst 7 (a1.prods.map eProd)))), (2, (.fn 57 [])), (15, (.p (.lst 7 (a2.prods.map eProd)))), (16, (i6 a3)), (17, (i6 v1))], []⟩
def L60_0_x (a1 : GramD) (a2 : GramD) (a3 : Int) (e : E_L60_0) (r : Option (Out × St)) : Prop := match e with | .k0 => ∃ g y, r = some (.ret, ⟨fr 32 g [(6, (vb false))], y⟩) | .k1 => ∃ g, r = some ((.brk 0), ⟨fr 32 g [(1, (.p (.lst 7 (a1.prods.map eProd)))), (15, (.p (.lst 7 (a2.prods.map eProd))))], []⟩)
abbrev L60_0_d0 (x2 : ProdD) (x3 : ProdD) : List AB := [.row 68 6 0 (ra eSym []), bP x2, .row 68 6 0 (ra eSym []), bP x3]
theorem L60_0_ok (a1 : GramD) (a2 : GramD) (a3 : Int) (v1 : Int) {r : E_L60_0 ⊕ (Int)} (h : L60_0 a1 a2 a3 v1 = some r) : OkR (fun e => L60_0_x a1 a2 a3 e (evH prg 0 [1, 2, 15, 16, 17] ir60_l0 (L60_0_s a1 a2 a3 v1))) (fun s => evH prg 0 [1, 2, 15, 16, 17] ir60_l0 (L60_0_s a1 a2 a3 v1) = evH prg 0 [1, 2, 15, 16, 17] ir60_l0 (L60_0_s a1 a2 a3 s)) r := by
 unfold L60_0 at h
 refine bi h (fun h1 h => ?_) fun h1 h => ?_
 ·
  refine bn h fun x2 h2 h => ?_
  refine bn h fun x3 h3 h => ?_
  refine bn h fun x4 h4 h => ?_
  refine bi h (fun h5 h => ?_) fun h5 h => ?_
  ·
   rw [← sj h]
   exact rnd (n := 30) [(18, .d true), (20, .v (.ro (eProd x2))), (24, .v (.ro (eProd x3))), (29, .v (vb true)), (6000, .d true)] (apc (cv h1) (apc (ig eProd 7 .i64 h2) (apc (ig eProd 7 .i64 h3) (apc ((((F57_ok x2 x3 h4).cp rfl _).trans (congrArg (fun z => some (vb z)) h5)) : CP prg 57 [(aP x2), (aP x3)] (L60_0_d0 x2 x3) = some (vb true)) (apc ((okT_of rfl rfl) : okT 0 (L60_0_d0 x2 x3) = true) apn))))) (by kernel_rfl)
  ·
   rw [← sj h]
   exact xretY (n := 30) [(18, .d true), (20, .v (.ro (eProd x2))), (24, .v (.ro (eProd x3))), (29, .v (vb false)), (6000, .d true)] (apc (cv h1) (apc (ig eProd 7 .i64 h2) (apc (ig eProd 7 .i64 h3) (apc ((((F57_ok x2 x3 h4).cp rfl _).trans (congrArg (fun z => some (vb z)) h5)) : CP prg 57 [(aP x2), (aP x3)] (L60_0_d0 x2 x3) = some (vb false)) apn)))) (by kernel_rfl)
 ·
  rw [← sj h]
  exact xbrk (n := 30) [(18, .d false), (6000, .d true)] (apc (cv h1) apn) (by kernel_rfl)
theorem L60_0_run (a1 : GramD) (a2 : GramD) (a3 : Int) (s0 : Int) (e : E_L60_0) (h : runL (fun s => L60_0 a1 a2 a3 s) s0 = some e) : L60_0_x a1 a2 a3 e (evH prg 0 [1, 2, 15, 16, 17] ir60_l0 (L60_0_s a1 a2 a3 s0)) := by
  have q := @loop_sound' (Int) E_L60_0 (fun s => L60_0 a1 a2 a3 s) (fun s => evH prg 0 [1, 2, 15, 16, 17] ir60_l0 (L60_0_s a1 a2 a3 s)) (L60_0_x a1 a2 a3) (fun s r h => L60_0_ok a1 a2 a3 s h) s0 e h
  exact q
noncomputable def F60 (a1 : GramD) (a2 : GramD) : Option Bool :=
  (bif ((a1.prods.length : Int) != (a2.prods.length : Int)) then (some false) else ((runL (fun s => L60_0 a2 a1 (a1.prods.length : Int) s) 0).bind fun r2 => match r2 with | .k0 => (some false) | .k1 => (some true)))
def F60_v (a1 : GramD) (a2 : GramD) (x0 : Bool) : AV := (vb x0)
abbrev F60_d0 (g2 : Nat → AV) (a2 : GramD) (a1 : GramD) : St := ⟨fr 32 g2 [(1, (.p (.lst 7 (a2.prods.map eProd)))), (15, (.p (.lst 7 (a1.prods.map eProd))))], []⟩
theorem F60_ok (a1 : GramD) (a2 : GramD) {r : Bool} (h : F60 a1 a2 = some r) : PR1 prg 60 [(.p (.lst 7 (a1.prods.map eProd))), (.p (.lst 7 (a2.prods.map eProd))), (.fn 57 [])] (F60_v a1 a2 r) := by
 unfold F60 at h
 refine bi h (fun h1 h => ?_) fun h1 h => ?_
 ·
  rw [← sj h]
  exact fpr (n := 30) [(11, .v (i6 (a1.prods.length : Int))), (13, .v (i6 (a2.prods.length : Int))), (14, .d true)] (apc (lg a1.prods eProd 7) (apc (lg a2.prods eProd 7) (apc (cv h1) apn))) rfl (by kernel_rfl)
 ·
  refine bn h fun r2 h2 h => ?_
  cases r2 with
  | k0 =>
   obtain ⟨g2, y2, e2⟩ := L60_0_run a2 a1 (a1.prods.length : Int) 0 _ h2
   rw [← sj h]
   exact fpr (n := 30) [(11, .v (i6 (a1.prods.length : Int))), (13, .v (i6 (a2.prods.length : Int))), (14, .d false), (16, .v (i6 (a1.prods.length : Int))), (2000, .l .ret ⟨fr 32 g2 [(6, (vb false))], y2⟩), (6000, .d true)] (apc (lg a1.prods eProd 7) (apc (lg a2.prods eProd 7) (apc (cv h1) (apc (lg a1.prods eProd 7) (apc ((okT_of rfl rfl) : okT 0 [] = true) (apc (e2 : evH prg 0 [1, 2, 15, 16, 17] ir60_l0 (L60_0_s a2 a1 (a1.prods.length : Int) 0) = some (.ret, ⟨fr 32 g2 [(6, (vb false))], y2⟩)) apn)))))) rfl (by kernel_rfl)
  | k1 =>
   obtain ⟨g2, e2⟩ := L60_0_run a2 a1 (a1.prods.length : Int) 0 _ h2
   rw [← sj h]
   exact fpr (n := 30) [(11, .v (i6 (a1.prods.length : Int))), (13, .v (i6 (a2.prods.length : Int))), (14, .d false), (16, .v (i6 (a1.prods.length : Int))), (2000, .l (.brk 0) (F60_d0 g2 a2 a1)), (6000, .d true)] (apc (lg a1.prods eProd 7) (apc (lg a2.prods eProd 7) (apc (cv h1) (apc (lg a1.prods eProd 7) (apc ((okT_of rfl rfl) : okT 0 [] = true) (apc (e2 : evH prg 0 [1, 2, 15, 16, 17] ir60_l0 (L60_0_s a2 a1 (a1.prods.length : Int) 0) = some ((.brk 0), (F60_d0 g2 a2 a1))) apn)))))) rfl (by kernel_rfl)
inductive E_L61_0 where
  | k0
  | k1
noncomputable def L61_0 (a1 : GramD) (a2 : GramD) (a3 : Int) (v1 : Int) : Option (E_L61_0 ⊕ (Int)) :=
  (bif (decide (v1 < a3)) then ((getI a1.forbid v1).bind fun x2 => ((getI a2.forbid v1).bind fun x3 => (bif (!((x2.parent == x3.parent) && ((x2.at_ == x3.at_) && ((x2.child == x3.child) && true)))) then (some (.inl (.k0))) else (some (.inr ((IntKind.wrap .i64 (v1 + 1)))))))) else (some (.inl (.k1))))
def L61_0_s (a1 : GramD) (a2 : GramD) (a3 : Int) (v1 : Int) : St := ⟨fr 26 ug [(0, (.p (.lst 3 (a1.forbid.map eForb)))), (1, (.p (.lst 3 (a2.forbid.map eForb)))), (12, (i6 a3)), (13, (i6 v1))], []⟩
def L61_0_x (a1 : GramD) (a2 : GramD) (a3 : Int) (e : E_L61_0) (r : Option (Out × St)) : Prop := match e with | .k0 => ∃ g y, r = some (.ret, ⟨fr 26 g [(4, (vb false))], y⟩) | .k1 => ∃ g, r = some ((.brk 0), ⟨fr 26 g [(0, (.p (.lst 3 (a1.forbid.map eForb)))), (1, (.p (.lst 3 (a2.forbid.map eForb))))], []⟩)
theorem L61_0_ok (a1 : GramD) (a2 : GramD) (a3 : Int) (v1 : Int) {r : E_L61_0 ⊕ (Int)} (h : L61_0 a1 a2 a3 v1 = some r) : OkR (fun e => L61_0_x a1 a2 a3 e (evH prg 0 [0, 1, 12, 13] ir61_l0 (L61_0_s a1 a2 a3 v1))) (fun s => evH prg 0 [0, 1, 12, 13] ir61_l0 (L61_0_s a1 a2 a3 v1) = evH prg 0 [0, 1, 12, 13] ir61_l0 (L61_0_s a1 a2 a3 s)) r := by
 unfold L61_0 at h
 refine bi h (fun h1 h => ?_) fun h1 h => ?_
 ·
  refine bn h fun x2 h2 h => ?_
  refine bn h fun x3 h3 h => ?_
  refine bi h (fun h4 h => ?_) fun h4 h => ?_
  ·
   rw [← sj h]
   exact xretY (n := 30) [(14, .d true), (18, .v (.ro (eForb x2))), (22, .v (.ro (eForb x3))), (24, .d true), (6000, .d true)] (apc (cv h1) (apc (ig eForb 3 .i64 h2) (apc (ig eForb 3 .i64 h3) (apc (cv h4) apn)))) (by kernel_rfl)
  ·
   rw [← sj h]
   exact rnd (n := 30) [(14, .d true), (18, .v (.ro (eForb x2))), (22, .v (.ro (eForb x3))), (24, .d false), (6000, .d true)] (apc (cv h1) (apc (ig eForb 3 .i64 h2) (apc (ig eForb 3 .i64 h3) (apc (cv h4) (apc ((okT_of rfl rfl) : okT 0 [] = true) apn))))) (by kernel_rfl)
 ·
  rw [← sj h]
  exact xbrk (n := 30) [(14, .d false), (6000, .d true)] (apc (cv h1) apn) (by kernel_rfl)
theorem L61_0_run (a1 : GramD) (a2 : GramD) (a3 : Int) (s0 : Int) (e : E_L61_0) (h : runL (fun s => L61_0 a1 a2 a3 s) s0 = some e) : L61_0_x a1 a2 a3 e (evH prg 0 [0, 1, 12, 13] ir61_l0 (L61_0_s a1 a2 a3 s0)) := by
  have q := @loop_sound' (Int) E_L61_0 (fun s => L61_0 a1 a2 a3 s) (fun s => evH prg 0 [0, 1, 12, 13] ir61_l0 (L61_0_s a1 a2 a3 s)) (L61_0_x a1 a2 a3) (fun s r h => L61_0_ok a1 a2 a3 s h) s0 e h
  exact q
noncomputable def F61 (a1 : GramD) (a2 : GramD) : Option Bool :=
  (bif ((a1.forbid.length : Int) != (a2.forbid.length : Int)) then (some false) else ((runL (fun s => L61_0 a1 a2 (a1.forbid.length : Int) s) 0).bind fun r2 => match r2 with | .k0 => (some false) | .k1 => (some true)))
def F61_v (a1 : GramD) (a2 : GramD) (x0 : Bool) : AV := (vb x0)
abbrev F61_d0 (g2 : Nat → AV) (a1 : GramD) (a2 : GramD) : St := ⟨fr 26 g2 [(0, (.p (.lst 3 (a1.forbid.map eForb)))), (1, (.p (.lst 3 (a2.forbid.map eForb))))], []⟩
theorem F61_ok (a1 : GramD) (a2 : GramD) {r : Bool} (h : F61 a1 a2 = some r) : PR1 prg 61 [(.p (.lst 3 (a1.forbid.map eForb))), (.p (.lst 3 (a2.forbid.map eForb)))] (F61_v a1 a2 r) := by
 unfold F61 at h
 refine bi h (fun h1 h => ?_) fun h1 h => ?_
 ·
  rw [← sj h]
  exact fpr (n := 30) [(7, .v (i6 (a1.forbid.length : Int))), (9, .v (i6 (a2.forbid.length : Int))), (10, .d true)] (apc (lg a1.forbid eForb 3) (apc (lg a2.forbid eForb 3) (apc (cv h1) apn))) rfl (by kernel_rfl)
 ·
  refine bn h fun r2 h2 h => ?_
  cases r2 with
  | k0 =>
   obtain ⟨g2, y2, e2⟩ := L61_0_run a1 a2 (a1.forbid.length : Int) 0 _ h2
   rw [← sj h]
   exact fpr (n := 30) [(7, .v (i6 (a1.forbid.length : Int))), (9, .v (i6 (a2.forbid.length : Int))), (10, .d false), (12, .v (i6 (a1.forbid.length : Int))), (2000, .l .ret ⟨fr 26 g2 [(4, (vb false))], y2⟩), (6000, .d true)] (apc (lg a1.forbid eForb 3) (apc (lg a2.forbid eForb 3) (apc (cv h1) (apc (lg a1.forbid eForb 3) (apc ((okT_of rfl rfl) : okT 0 [] = true) (apc (e2 : evH prg 0 [0, 1, 12, 13] ir61_l0 (L61_0_s a1 a2 (a1.forbid.length : Int) 0) = some (.ret, ⟨fr 26 g2 [(4, (vb false))], y2⟩)) apn)))))) rfl (by kernel_rfl)
  | k1 =>
   obtain ⟨g2, e2⟩ := L61_0_run a1 a2 (a1.forbid.length : Int) 0 _ h2
   rw [← sj h]
   exact fpr (n := 30) [(7, .v (i6 (a1.forbid.length : Int))), (9, .v (i6 (a2.forbid.length : Int))), (10, .d false), (12, .v (i6 (a1.forbid.length : Int))), (2000, .l (.brk 0) (F61_d0 g2 a1 a2)), (6000, .d true)] (apc (lg a1.forbid eForb 3) (apc (lg a2.forbid eForb 3) (apc (cv h1) (apc (lg a1.forbid eForb 3) (apc ((okT_of rfl rfl) : okT 0 [] = true) (apc (e2 : evH prg 0 [0, 1, 12, 13] ir61_l0 (L61_0_s a1 a2 (a1.forbid.length : Int) 0) = some ((.brk 0), (F61_d0 g2 a1 a2))) apn)))))) rfl (by kernel_rfl)
inductive E_L62_0 where
  | k0
  | k1
noncomputable def L62_0 (a1 : GramD) (a2 : GramD) (a3 : Int) (v1 : Int) : Option (E_L62_0 ⊕ (Int)) :=
  (bif (decide (v1 < a3)) then ((getI a1.follow v1).bind fun x2 => ((getI a2.follow v1).bind fun x3 => (bif (!((x2.sort == x3.sort) && ((x2.a == x3.a) && ((x2.b == x3.b) && ((x2.c == x3.c) && ((x2.d == x3.d) && true)))))) then (some (.inl (.k0))) else (some (.inr ((IntKind.wrap .i64 (v1 + 1)))))))) else (some (.inl (.k1))))
def L62_0_s (a1 : GramD) (a2 : GramD) (a3 : Int) (v1 : Int) : St := ⟨fr 26 ug [(0, (.p (.lst 5 (a1.follow.map eFoll)))), (1, (.p (.lst 5 (a2.follow.map eFoll)))), (12, (i6 a3)), (13, (i6 v1))], []⟩
def L62_0_x (a1 : GramD) (a2 : GramD) (a3 : Int) (e : E_L62_0) (r : Option (Out × St)) : Prop := match e with | .k0 => ∃ g y, r = some (.ret, ⟨fr 26 g [(4, (vb false))], y⟩) | .k1 => ∃ g, r = some ((.brk 0), ⟨fr 26 g [(0, (.p (.lst 5 (a1.follow.map eFoll)))), (1, (.p (.lst 5 (a2.follow.map eFoll))))], []⟩)
theorem L62_0_ok (a1 : GramD) (a2 : GramD) (a3 : Int) (v1 : Int) {r : E_L62_0 ⊕ (Int)} (h : L62_0 a1 a2 a3 v1 = some r) : OkR (fun e => L62_0_x a1 a2 a3 e (evH prg 0 [0, 1, 12, 13] ir62_l0 (L62_0_s a1 a2 a3 v1))) (fun s => evH prg 0 [0, 1, 12, 13] ir62_l0 (L62_0_s a1 a2 a3 v1) = evH prg 0 [0, 1, 12, 13] ir62_l0 (L62_0_s a1 a2 a3 s)) r := by
 unfold L62_0 at h
 refine bi h (fun h1 h => ?_) fun h1 h => ?_
 ·
  refine bn h fun x2 h2 h => ?_
  refine bn h fun x3 h3 h => ?_
  refine bi h (fun h4 h => ?_) fun h4 h => ?_
  ·
   rw [← sj h]
   exact xretY (n := 30) [(14, .d true), (18, .v (.ro (eFoll x2))), (22, .v (.ro (eFoll x3))), (24, .d true), (6000, .d true)] (apc (cv h1) (apc (ig eFoll 5 .i64 h2) (apc (ig eFoll 5 .i64 h3) (apc (cv h4) apn)))) (by kernel_rfl)
  ·
   rw [← sj h]
   exact rnd (n := 30) [(14, .d true), (18, .v (.ro (eFoll x2))), (22, .v (.ro (eFoll x3))), (24, .d false), (6000, .d true)] (apc (cv h1) (apc (ig eFoll 5 .i64 h2) (apc (ig eFoll 5 .i64 h3) (apc (cv h4) (apc ((okT_of rfl rfl) : okT 0 [] = true) apn))))) (by kernel_rfl)
 ·
  rw [← sj h]
  exact xbrk (n := 30) [(14, .d false), (6000, .d true)] (apc (cv h1) apn) (by kernel_rfl)
theorem L62_0_run (a1 : GramD) (a2 : GramD) (a3 : Int) (s0 : Int) (e : E_L62_0) (h : runL (fun s => L62_0 a1 a2 a3 s) s0 = some e) : L62_0_x a1 a2 a3 e (evH prg 0 [0, 1, 12, 13] ir62_l0 (L62_0_s a1 a2 a3 s0)) := by
  have q := @loop_sound' (Int) E_L62_0 (fun s => L62_0 a1 a2 a3 s) (fun s => evH prg 0 [0, 1, 12, 13] ir62_l0 (L62_0_s a1 a2 a3 s)) (L62_0_x a1 a2 a3) (fun s r h => L62_0_ok a1 a2 a3 s h) s0 e h
  exact q
noncomputable def F62 (a1 : GramD) (a2 : GramD) : Option Bool :=
  (bif ((a1.follow.length : Int) != (a2.follow.length : Int)) then (some false) else ((runL (fun s => L62_0 a1 a2 (a1.follow.length : Int) s) 0).bind fun r2 => match r2 with | .k0 => (some false) | .k1 => (some true)))
def F62_v (a1 : GramD) (a2 : GramD) (x0 : Bool) : AV := (vb x0)
abbrev F62_d0 (g2 : Nat → AV) (a1 : GramD) (a2 : GramD) : St := ⟨fr 26 g2 [(0, (.p (.lst 5 (a1.follow.map eFoll)))), (1, (.p (.lst 5 (a2.follow.map eFoll))))], []⟩
theorem F62_ok (a1 : GramD) (a2 : GramD) {r : Bool} (h : F62 a1 a2 = some r) : PR1 prg 62 [(.p (.lst 5 (a1.follow.map eFoll))), (.p (.lst 5 (a2.follow.map eFoll)))] (F62_v a1 a2 r) := by
 unfold F62 at h
 refine bi h (fun h1 h => ?_) fun h1 h => ?_
 ·
  rw [← sj h]
  exact fpr (n := 30) [(7, .v (i6 (a1.follow.length : Int))), (9, .v (i6 (a2.follow.length : Int))), (10, .d true)] (apc (lg a1.follow eFoll 5) (apc (lg a2.follow eFoll 5) (apc (cv h1) apn))) rfl (by kernel_rfl)
 ·
  refine bn h fun r2 h2 h => ?_
  cases r2 with
  | k0 =>
   obtain ⟨g2, y2, e2⟩ := L62_0_run a1 a2 (a1.follow.length : Int) 0 _ h2
   rw [← sj h]
   exact fpr (n := 30) [(7, .v (i6 (a1.follow.length : Int))), (9, .v (i6 (a2.follow.length : Int))), (10, .d false), (12, .v (i6 (a1.follow.length : Int))), (2000, .l .ret ⟨fr 26 g2 [(4, (vb false))], y2⟩), (6000, .d true)] (apc (lg a1.follow eFoll 5) (apc (lg a2.follow eFoll 5) (apc (cv h1) (apc (lg a1.follow eFoll 5) (apc ((okT_of rfl rfl) : okT 0 [] = true) (apc (e2 : evH prg 0 [0, 1, 12, 13] ir62_l0 (L62_0_s a1 a2 (a1.follow.length : Int) 0) = some (.ret, ⟨fr 26 g2 [(4, (vb false))], y2⟩)) apn)))))) rfl (by kernel_rfl)
  | k1 =>
   obtain ⟨g2, e2⟩ := L62_0_run a1 a2 (a1.follow.length : Int) 0 _ h2
   rw [← sj h]
   exact fpr (n := 30) [(7, .v (i6 (a1.follow.length : Int))), (9, .v (i6 (a2.follow.length : Int))), (10, .d false), (12, .v (i6 (a1.follow.length : Int))), (2000, .l (.brk 0) (F62_d0 g2 a1 a2)), (6000, .d true)] (apc (lg a1.follow eFoll 5) (apc (lg a2.follow eFoll 5) (apc (cv h1) (apc (lg a1.follow eFoll 5) (apc ((okT_of rfl rfl) : okT 0 [] = true) (apc (e2 : evH prg 0 [0, 1, 12, 13] ir62_l0 (L62_0_s a1 a2 (a1.follow.length : Int) 0) = some ((.brk 0), (F62_d0 g2 a1 a2))) apn)))))) rfl (by kernel_rfl)
noncomputable def F29 (a1 : GramD) (a2 : GramD) : Option Bool :=
  (bif (a1.start == a2.start) then ((F59 a1 a2).bind fun x2 => (bif x2 then ((F60 a1 a2).bind fun x4 => (bif x4 then ((F61 a1 a2).bind fun x6 => (bif x6 then ((F62 a1 a2).bind fun x8 => (some x8)) else (some false))) else (some false))) else (some false))) else (some false))
def F29_v (a1 : GramD) (a2 : GramD) (x0 : Bool) : AV := (vb x0)
theorem F29_ok (a1 : GramD) (a2 : GramD) {r : Bool} (h : F29 a1 a2 = some r) : PR1 prg 29 [(aG a1), (aG a2)] (F29_v a1 a2 r) := by
 unfold F29 at h
 refine bi h (fun h1 h => ?_) fun h1 h => ?_
 ·
  refine bn h fun x2 h2 h => ?_
  refine bi h (fun h3 h => ?_) fun h3 h => ?_
  ·
   have q1 := ((((F59_ok a1 a2 h2).cp rfl _).trans (congrArg (fun z => some (vb z)) h3)) : CP prg 59 [(.p (.lst 1 (a1.sorts.map eStr))), (.p (.lst 1 (a2.sorts.map eStr)))] [bG a1, bG a2] = some (vb true))
   refine bn h fun x4 h4 h => ?_
   refine bi h (fun h5 h => ?_) fun h5 h => ?_
   ·
    have q2 := ((((F60_ok a1 a2 h4).cp rfl _).trans (congrArg (fun z => some (vb z)) h5)) : CP prg 60 [(.p (.lst 7 (a1.prods.map eProd))), (.p (.lst 7 (a2.prods.map eProd))), (.fn 57 [])] [bG a1, bG a2] = some (vb true))
    refine bn h fun x6 h6 h => ?_
    refine bi h (fun h7 h => ?_) fun h7 h => ?_
    ·
     refine bn h fun x8 h8 h => ?_
     rw [← sj h]
     exact fpr (n := 30) [(10, .d true), (16, .v (vb true)), (24, .v (vb true)), (31, .v (vb true)), (38, .v (vb x8))] (apc (cv h1) (apc q1 (apc q2 (apc ((((F61_ok a1 a2 h6).cp rfl _).trans (congrArg (fun z => some (vb z)) h7)) : CP prg 61 [(.p (.lst 3 (a1.forbid.map eForb))), (.p (.lst 3 (a2.forbid.map eForb)))] [bG a1, bG a2] = some (vb true)) (apc (((F62_ok a1 a2 h8).cp rfl _) : CP prg 62 [(.p (.lst 5 (a1.follow.map eFoll))), (.p (.lst 5 (a2.follow.map eFoll)))] [bG a1, bG a2] = some (vb x8)) apn))))) rfl (by kernel_rfl)
    ·
     rw [← sj h]
     exact fpr (n := 30) [(10, .d true), (16, .v (vb true)), (24, .v (vb true)), (31, .v (vb false))] (apc (cv h1) (apc q1 (apc q2 (apc ((((F61_ok a1 a2 h6).cp rfl _).trans (congrArg (fun z => some (vb z)) h7)) : CP prg 61 [(.p (.lst 3 (a1.forbid.map eForb))), (.p (.lst 3 (a2.forbid.map eForb)))] [bG a1, bG a2] = some (vb false)) apn)))) rfl (by kernel_rfl)
   ·
    rw [← sj h]
    exact fpr (n := 30) [(10, .d true), (16, .v (vb true)), (24, .v (vb false))] (apc (cv h1) (apc q1 (apc ((((F60_ok a1 a2 h4).cp rfl _).trans (congrArg (fun z => some (vb z)) h5)) : CP prg 60 [(.p (.lst 7 (a1.prods.map eProd))), (.p (.lst 7 (a2.prods.map eProd))), (.fn 57 [])] [bG a1, bG a2] = some (vb false)) apn))) rfl (by kernel_rfl)
  ·
   rw [← sj h]
   exact fpr (n := 30) [(10, .d true), (16, .v (vb false))] (apc (cv h1) (apc ((((F59_ok a1 a2 h2).cp rfl _).trans (congrArg (fun z => some (vb z)) h3)) : CP prg 59 [(.p (.lst 1 (a1.sorts.map eStr))), (.p (.lst 1 (a2.sorts.map eStr)))] [bG a1, bG a2] = some (vb false)) apn)) rfl (by kernel_rfl)
 ·
  rw [← sj h]
  exact fpr (n := 30) [(10, .d false)] (apc (cv h1) apn) rfl (by kernel_rfl)
inductive E_L18_4 where
  | k0
  | k1
noncomputable def L18_4 (a1 : GramD) (a2 : GramD) (v1 : Int) : Option (E_L18_4 ⊕ (Int)) :=
  (bif (decide (v1 < (a1.sorts.length : Int))) then ((getI a1.sorts v1).bind fun x2 => ((getI a2.sorts v1).bind fun x3 => (bif (!(x2.toList == x3.toList)) then (some (.inl (.k0))) else (some (.inr ((IntKind.wrap .i64 (v1 + 1)))))))) else (some (.inl (.k1))))
def L18_4_s (a1 : GramD) (a2 : GramD) (v1 : Int) : St := ⟨fr 191 ug [(2, (.ptr 0 0)), (3, (.ptr 1 0)), (5, (i6 v1))], [bG a1, bG a2]⟩
def L18_4_x (a1 : GramD) (a2 : GramD) (e : E_L18_4) (r : Option (Out × St)) : Prop := match e with | .k0 => ∃ g y, r = some (.ret, ⟨fr 191 g [(4, (vb false))], y⟩) | .k1 => ∃ g, r = some ((.brk 0), ⟨fr 191 g [(2, (.ptr 0 0)), (3, (.ptr 1 0))], [bG a1, bG a2]⟩)
theorem L18_4_ok (a1 : GramD) (a2 : GramD) (v1 : Int) {r : E_L18_4 ⊕ (Int)} (h : L18_4 a1 a2 v1 = some r) : OkR (fun e => L18_4_x a1 a2 e (evH prg 2 [2, 3, 5] ir18_l4 (L18_4_s a1 a2 v1))) (fun s => evH prg 2 [2, 3, 5] ir18_l4 (L18_4_s a1 a2 v1) = evH prg 2 [2, 3, 5] ir18_l4 (L18_4_s a1 a2 s)) r := by
 unfold L18_4 at h
 refine bi h (fun h1 h => ?_) fun h1 h => ?_
 ·
  refine bn h fun x2 h2 h => ?_
  refine bn h fun x3 h3 h => ?_
  refine bi h (fun h4 h => ?_) fun h4 h => ?_
  ·
   rw [← sj h]
   exact xretY (n := 30) [(56, .v (i6 (a1.sorts.length : Int))), (57, .d true), (63, .v (.ro [.val (.string x2)])), (68, .v (.ro [.val (.string x3)])), (70, .d true), (6000, .d true)] (apc (lg a1.sorts eStr 1) (apc (cv h1) (apc (ig eStr 1 .i64 h2) (apc (ig eStr 1 .i64 h3) (apc (cv h4) apn))))) (by kernel_rfl)
  ·
   rw [← sj h]
   exact rnd (n := 30) [(56, .v (i6 (a1.sorts.length : Int))), (57, .d true), (63, .v (.ro [.val (.string x2)])), (68, .v (.ro [.val (.string x3)])), (70, .d false), (6000, .d true)] (apc (lg a1.sorts eStr 1) (apc (cv h1) (apc (ig eStr 1 .i64 h2) (apc (ig eStr 1 .i64 h3) (apc (cv h4) (apc ((okT_of rfl (abl_cons rfl (abl_cons rfl rfl))) : okT 2 [bG a1, bG a2] = true) apn)))))) (by kernel_rfl)
 ·
  rw [← sj h]
  exact xbrk (n := 30) [(56, .v (i6 (a1.sorts.length : Int))), (57, .d false), (6000, .d true)] (apc (lg a1.sorts eStr 1) (apc (cv h1) apn)) (by kernel_rfl)
theorem L18_4_run (a1 : GramD) (a2 : GramD) (s0 : Int) (e : E_L18_4) (h : runL (fun s => L18_4 a1 a2 s) s0 = some e) : L18_4_x a1 a2 e (evH prg 2 [2, 3, 5] ir18_l4 (L18_4_s a1 a2 s0)) := by
  have q := @loop_sound' (Int) E_L18_4 (fun s => L18_4 a1 a2 s) (fun s => evH prg 2 [2, 3, 5] ir18_l4 (L18_4_s a1 a2 s)) (L18_4_x a1 a2) (fun s r h => L18_4_ok a1 a2 s h) s0 e h
  exact q
inductive E_L18_2_2 where
  | k0
  | k1
noncomputable def L18_2_2 (a4 : ProdD) (a5 : ProdD) (v1 : Int) : Option (E_L18_2_2 ⊕ (Int)) :=
  (bif (decide (v1 < (a4.right.length : Int))) then ((getI a4.right v1).bind fun x2 => ((getI a5.right v1).bind fun x3 => (bif (!((x2.kind == x3.kind) && ((x2.a == x3.a) && ((x2.b == x3.b) && ((x2.c == x3.c) && ((x2.d == x3.d) && ((x2.sort == x3.sort) && true))))))) then (some (.inl (.k0))) else (some (.inr ((IntKind.wrap .i64 (v1 + 1)))))))) else (some (.inl (.k1))))
def L18_2_2_s (a1 : Int) (a2 : GramD) (a3 : GramD) (a4 : ProdD) (a5 : ProdD) (v1 : Int) : St := ⟨fr 191 ug [(2, (.ptr 0 0)), (3, (.ptr 1 0)), (6, (i6 a1)), (7, (.ptr 3 0)), (8, (.ptr 5 0)), (9, (i6 v1))], [bG a2, bG a3, .row 68 6 0 (ra eSym []), bP a4, .row 68 6 0 (ra eSym []), bP a5]⟩
def L18_2_2_x (a1 : Int) (a2 : GramD) (a3 : GramD) (a4 : ProdD) (a5 : ProdD) (e : E_L18_2_2) (r : Option (Out × St)) : Prop := match e with | .k0 => ∃ g y, r = some (.ret, ⟨fr 191 g [(4, (vb false))], y⟩) | .k1 => ∃ g, r = some ((.brk 4), ⟨fr 191 g [(2, (.ptr 0 0)), (3, (.ptr 1 0)), (6, (i6 a1)), (7, (.ptr 3 0)), (8, (.ptr 5 0))], [bG a2, bG a3, .row 68 6 0 (ra eSym []), bP a4, .row 68 6 0 (ra eSym []), bP a5]⟩)
theorem L18_2_2_ok (a1 : Int) (a2 : GramD) (a3 : GramD) (a4 : ProdD) (a5 : ProdD) (v1 : Int) {r : E_L18_2_2 ⊕ (Int)} (h : L18_2_2 a4 a5 v1 = some r) : OkR (fun e => L18_2_2_x a1 a2 a3 a4 a5 e (evH prg 6 [2, 3, 6, 7, 8, 9] ir18_l2 (L18_2_2_s a1 a2 a3 a4 a5 v1))) (fun s => evH prg 6 [2, 3, 6, 7, 8, 9] ir18_l2 (L18_2_2_s a1 a2 a3 a4 a5 v1) = evH prg 6 [2, 3, 6, 7, 8, 9] ir18_l2 (L18_2_2_s a1 a2 a3 a4 a5 s)) r := by
 unfold L18_2_2 at h
 refine bi h (fun h1 h => ?_) fun h1 h => ?_
 ·
  refine bn h fun x2 h2 h => ?_
  refine bn h fun x3 h3 h => ?_
  refine bi h (fun h4 h => ?_) fun h4 h => ?_
  ·
   rw [← sj h]
   exact xretY (n := 30) [(140, .v (i6 (a4.right.length : Int))), (141, .d true), (147, .v (.ro (eSym x2))), (152, .v (.ro (eSym x3))), (154, .d true), (6000, .d true)] (apc (lg a4.right eSym 6) (apc (cv h1) (apc (ig eSym 6 .i64 h2) (apc (ig eSym 6 .i64 h3) (apc (cv h4) apn))))) (by kernel_rfl)
  ·
   rw [← sj h]
   exact rnd (n := 30) [(140, .v (i6 (a4.right.length : Int))), (141, .d true), (147, .v (.ro (eSym x2))), (152, .v (.ro (eSym x3))), (154, .d false), (6000, .d true)] (apc (lg a4.right eSym 6) (apc (cv h1) (apc (ig eSym 6 .i64 h2) (apc (ig eSym 6 .i64 h3) (apc (cv h4) (apc ((okT_of rfl (abl_cons rfl (abl_cons rfl (abl_cons abl_row (abl_cons rfl (abl_cons abl_row (abl_cons rfl rfl))))))) : okT 6 [bG a2, bG a3, .row 68 6 0 (ra eSym []), bP a4, .row 68 6 0 (ra eSym []), bP a5] = true) apn)))))) (by kernel_rfl)
 ·
  rw [← sj h]
  exact xbrk (n := 30) [(140, .v (i6 (a4.right.length : Int))), (141, .d false), (6000, .d true)] (apc (lg a4.right eSym 6) (apc (cv h1) apn)) (by kernel_rfl)
theorem L18_2_2_run (a1 : Int) (a2 : GramD) (a3 : GramD) (a4 : ProdD) (a5 : ProdD) (s0 : Int) (e : E_L18_2_2) (h : runL (fun s => L18_2_2 a4 a5 s) s0 = some e) : L18_2_2_x a1 a2 a3 a4 a5 e (evH prg 6 [2, 3, 6, 7, 8, 9] ir18_l2 (L18_2_2_s a1 a2 a3 a4 a5 s0)) := by
  have q := @loop_sound' (Int) E_L18_2_2 (fun s => L18_2_2 a4 a5 s) (fun s => evH prg 6 [2, 3, 6, 7, 8, 9] ir18_l2 (L18_2_2_s a1 a2 a3 a4 a5 s)) (L18_2_2_x a1 a2 a3 a4 a5) (fun s r h => L18_2_2_ok a1 a2 a3 a4 a5 s h) s0 e h
  exact q
inductive E_L18_3 where
  | k0
  | k1
noncomputable def L18_3 (a1 : GramD) (a2 : GramD) (v1 : Int) : Option (E_L18_3 ⊕ (Int)) :=
  (bif (decide (v1 < (a1.prods.length : Int))) then ((getI a1.prods v1).bind fun x2 => ((getI a2.prods v1).bind fun x3 => (bif (x2.left != x3.left) then (some (.inl (.k0))) else (bif (!(x2.cons.toList == x3.cons.toList)) then (some (.inl (.k0))) else (bif (x2.role != x3.role) then (some (.inl (.k0))) else (bif (!((x2.prefer == x3.prefer) && true)) then (some (.inl (.k0))) else (bif (!((x2.avoid == x3.avoid) && true)) then (some (.inl (.k0))) else (bif (x2.frm != x3.frm) then (some (.inl (.k0))) else (bif ((x2.right.length : Int) != (x3.right.length : Int)) then (some (.inl (.k0))) else ((runL (fun s => L18_2_2 x2 x3 s) 0).bind fun r11 => match r11 with | .k0 => (some (.inl (.k0))) | .k1 => (some (.inr ((IntKind.wrap .i64 (v1 + 1))))))))))))))) else (some (.inl (.k1))))
def L18_3_s (a1 : GramD) (a2 : GramD) (v1 : Int) : St := ⟨fr 191 ug [(2, (.ptr 0 0)), (3, (.ptr 1 0)), (6, (i6 v1))], [bG a1, bG a2]⟩
def L18_3_x (a1 : GramD) (a2 : GramD) (e : E_L18_3) (r : Option (Out × St)) : Prop := match e with | .k0 => ∃ g y, r = some (.ret, ⟨fr 191 g [(4, (vb false))], y⟩) | .k1 => ∃ g, r = some ((.brk 2), ⟨fr 191 g [(2, (.ptr 0 0)), (3, (.ptr 1 0))], [bG a1, bG a2]⟩)
abbrev L18_3_d0 (a1 : GramD) (a2 : GramD) (x2 : ProdD) (x3 : ProdD) : List AB := [bG a1, bG a2, .row 68 6 0 (ra eSym []), bP x2, .row 68 6 0 (ra eSym []), bP x3]
abbrev L18_3_d1 (g11 : Nat → AV) (v1 : Int) (a1 : GramD) (a2 : GramD) (x2 : ProdD) (x3 : ProdD) : St := ⟨fr 191 g11 [(2, (.ptr 0 0)), (3, (.ptr 1 0)), (6, (i6 v1)), (7, (.ptr 3 0)), (8, (.ptr 5 0))], [bG a1, bG a2, .row 68 6 0 (ra eSym []), bP x2, .row 68 6 0 (ra eSym []), bP x3]⟩
abbrev L18_3_c0 (x2 : ProdD) (x3 : ProdD) : List (Nat × Hint) := [(126, .d false), (131, .v (i6 (x2.right.length : Int))), (134, .v (i6 (x3.right.length : Int)))]
theorem L18_3_ok (a1 : GramD) (a2 : GramD) (v1 : Int) {r : E_L18_3 ⊕ (Int)} (h : L18_3 a1 a2 v1 = some r) : OkR (fun e => L18_3_x a1 a2 e (evH prg 2 [2, 3, 6] ir18_l3 (L18_3_s a1 a2 v1))) (fun s => evH prg 2 [2, 3, 6] ir18_l3 (L18_3_s a1 a2 v1) = evH prg 2 [2, 3, 6] ir18_l3 (L18_3_s a1 a2 s)) r := by
 unfold L18_3 at h
 refine bi h (fun h1 h => ?_) fun h1 h => ?_
 ·
  refine bn h fun x2 h2 h => ?_
  refine bn h fun x3 h3 h => ?_
  refine bi h (fun h4 h => ?_) fun h4 h => ?_
  ·
   rw [← sj h]
   exact xretY (n := 30) [(74, .v (i6 (a1.prods.length : Int))), (75, .d true), (81, .v (.ro (eProd x2))), (86, .v (.ro (eProd x3))), (92, .d true), (6000, .d true)] (apc (lg a1.prods eProd 7) (apc (cv h1) (apc (ig eProd 7 .i64 h2) (apc (ig eProd 7 .i64 h3) (apc (cv h4) apn))))) (by kernel_rfl)
  ·
   refine bi h (fun h5 h => ?_) fun h5 h => ?_
   ·
    rw [← sj h]
    exact xretY (n := 30) [(74, .v (i6 (a1.prods.length : Int))), (75, .d true), (81, .v (.ro (eProd x2))), (86, .v (.ro (eProd x3))), (92, .d false), (98, .d true), (6000, .d true)] (apc (lg a1.prods eProd 7) (apc (cv h1) (apc (ig eProd 7 .i64 h2) (apc (ig eProd 7 .i64 h3) (apc (cv h4) (apc (cv h5) apn)))))) (by kernel_rfl)
   ·
    refine bi h (fun h6 h => ?_) fun h6 h => ?_
    ·
     rw [← sj h]
     exact xretY (n := 30) [(74, .v (i6 (a1.prods.length : Int))), (75, .d true), (81, .v (.ro (eProd x2))), (86, .v (.ro (eProd x3))), (92, .d false), (98, .d false), (105, .d true), (6000, .d true)] (apc (lg a1.prods eProd 7) (apc (cv h1) (apc (ig eProd 7 .i64 h2) (apc (ig eProd 7 .i64 h3) (apc (cv h4) (apc (cv h5) (apc (cv h6) apn))))))) (by kernel_rfl)
    ·
     refine bi h (fun h7 h => ?_) fun h7 h => ?_
     ·
      rw [← sj h]
      exact xretY (n := 30) [(74, .v (i6 (a1.prods.length : Int))), (75, .d true), (81, .v (.ro (eProd x2))), (86, .v (.ro (eProd x3))), (92, .d false), (98, .d false), (105, .d false), (112, .d true), (6000, .d true)] (apc (lg a1.prods eProd 7) (apc (cv h1) (apc (ig eProd 7 .i64 h2) (apc (ig eProd 7 .i64 h3) (apc (cv h4) (apc (cv h5) (apc (cv h6) (apc (cv h7) apn)))))))) (by kernel_rfl)
     ·
      refine bi h (fun h8 h => ?_) fun h8 h => ?_
      ·
       rw [← sj h]
       exact xretY (n := 30) [(74, .v (i6 (a1.prods.length : Int))), (75, .d true), (81, .v (.ro (eProd x2))), (86, .v (.ro (eProd x3))), (92, .d false), (98, .d false), (105, .d false), (112, .d false), (119, .d true), (6000, .d true)] (apc (lg a1.prods eProd 7) (apc (cv h1) (apc (ig eProd 7 .i64 h2) (apc (ig eProd 7 .i64 h3) (apc (cv h4) (apc (cv h5) (apc (cv h6) (apc (cv h7) (apc (cv h8) apn))))))))) (by kernel_rfl)
      ·
       refine bi h (fun h9 h => ?_) fun h9 h => ?_
       ·
        rw [← sj h]
        exact xretY (n := 30) [(74, .v (i6 (a1.prods.length : Int))), (75, .d true), (81, .v (.ro (eProd x2))), (86, .v (.ro (eProd x3))), (92, .d false), (98, .d false), (105, .d false), (112, .d false), (119, .d false), (126, .d true), (6000, .d true)] (apc (lg a1.prods eProd 7) (apc (cv h1) (apc (ig eProd 7 .i64 h2) (apc (ig eProd 7 .i64 h3) (apc (cv h4) (apc (cv h5) (apc (cv h6) (apc (cv h7) (apc (cv h8) (apc (cv h9) apn)))))))))) (by kernel_rfl)
       ·
        refine bi h (fun h10 h => ?_) fun h10 h => ?_
        ·
         rw [← sj h]
         exact xretY (n := 30) ([(74, .v (i6 (a1.prods.length : Int))), (75, .d true), (81, .v (.ro (eProd x2))), (86, .v (.ro (eProd x3))), (92, .d false), (98, .d false), (105, .d false), (112, .d false), (119, .d false)] ++ ((L18_3_c0 x2 x3) ++ [(135, .d true), (6000, .d true)])) (apc (lg a1.prods eProd 7) (apc (cv h1) (apc (ig eProd 7 .i64 h2) (apc (ig eProd 7 .i64 h3) (apc (cv h4) (apc (cv h5) (apc (cv h6) (apc (cv h7) (apc (cv h8) (apc (cv h9) (apc (lg x2.right eSym 6) (apc (lg x3.right eSym 6) (apc (cv h10) apn))))))))))))) (by kernel_rfl)
        ·
         refine bn h fun r11 h11 h => ?_
         cases r11 with
         | k0 =>
          obtain ⟨g11, y11, e11⟩ := L18_2_2_run v1 a1 a2 x2 x3 0 _ h11
          rw [← sj h]
          exact xretY (n := 30) ([(74, .v (i6 (a1.prods.length : Int))), (75, .d true), (81, .v (.ro (eProd x2))), (86, .v (.ro (eProd x3))), (92, .d false), (98, .d false), (105, .d false), (112, .d false), (119, .d false)] ++ ((L18_3_c0 x2 x3) ++ [(135, .d false), (2004, .l .ret ⟨fr 191 g11 [(4, (vb false))], y11⟩), (6000, .d true)])) (apc (lg a1.prods eProd 7) (apc (cv h1) (apc (ig eProd 7 .i64 h2) (apc (ig eProd 7 .i64 h3) (apc (cv h4) (apc (cv h5) (apc (cv h6) (apc (cv h7) (apc (cv h8) (apc (cv h9) (apc (lg x2.right eSym 6) (apc (lg x3.right eSym 6) (apc (cv h10) (apc ((okT_of rfl (abl_cons rfl (abl_cons rfl (abl_cons abl_row (abl_cons rfl (abl_cons abl_row (abl_cons rfl rfl))))))) : okT 6 (L18_3_d0 a1 a2 x2 x3) = true) (apc (e11 : evH prg 6 [2, 3, 6, 7, 8, 9] ir18_l2 (L18_2_2_s v1 a1 a2 x2 x3 0) = some (.ret, ⟨fr 191 g11 [(4, (vb false))], y11⟩)) apn))))))))))))))) (by kernel_rfl)
         | k1 =>
          obtain ⟨g11, e11⟩ := L18_2_2_run v1 a1 a2 x2 x3 0 _ h11
          rw [← sj h]
          exact rnd (n := 30) ([(74, .v (i6 (a1.prods.length : Int))), (75, .d true), (81, .v (.ro (eProd x2))), (86, .v (.ro (eProd x3))), (92, .d false), (98, .d false), (105, .d false), (112, .d false), (119, .d false)] ++ ((L18_3_c0 x2 x3) ++ [(135, .d false), (2004, .l (.brk 4) (L18_3_d1 g11 v1 a1 a2 x2 x3)), (6000, .d true)])) (apc (lg a1.prods eProd 7) (apc (cv h1) (apc (ig eProd 7 .i64 h2) (apc (ig eProd 7 .i64 h3) (apc (cv h4) (apc (cv h5) (apc (cv h6) (apc (cv h7) (apc (cv h8) (apc (cv h9) (apc (lg x2.right eSym 6) (apc (lg x3.right eSym 6) (apc (cv h10) (apc ((okT_of rfl (abl_cons rfl (abl_cons rfl (abl_cons abl_row (abl_cons rfl (abl_cons abl_row (abl_cons rfl rfl))))))) : okT 6 (L18_3_d0 a1 a2 x2 x3) = true) (apc (e11 : evH prg 6 [2, 3, 6, 7, 8, 9] ir18_l2 (L18_2_2_s v1 a1 a2 x2 x3 0) = some ((.brk 4), (L18_3_d1 g11 v1 a1 a2 x2 x3))) (apc ((okT_of rfl (abl_cons rfl (abl_cons rfl rfl))) : okT 2 (L18_3_d0 a1 a2 x2 x3) = true) apn)))))))))))))))) (by kernel_rfl)
 ·
  rw [← sj h]
  exact xbrk (n := 30) [(74, .v (i6 (a1.prods.length : Int))), (75, .d false), (6000, .d true)] (apc (lg a1.prods eProd 7) (apc (cv h1) apn)) (by kernel_rfl)
theorem L18_3_run (a1 : GramD) (a2 : GramD) (s0 : Int) (e : E_L18_3) (h : runL (fun s => L18_3 a1 a2 s) s0 = some e) : L18_3_x a1 a2 e (evH prg 2 [2, 3, 6] ir18_l3 (L18_3_s a1 a2 s0)) := by
  have q := @loop_sound' (Int) E_L18_3 (fun s => L18_3 a1 a2 s) (fun s => evH prg 2 [2, 3, 6] ir18_l3 (L18_3_s a1 a2 s)) (L18_3_x a1 a2) (fun s r h => L18_3_ok a1 a2 s h) s0 e h
  exact q
inductive E_L18_1 where
  | k0
  | k1
noncomputable def L18_1 (a1 : GramD) (a2 : GramD) (v1 : Int) : Option (E_L18_1 ⊕ (Int)) :=
  (bif (decide (v1 < (a1.forbid.length : Int))) then ((getI a1.forbid v1).bind fun x2 => ((getI a2.forbid v1).bind fun x3 => (bif (!((x2.parent == x3.parent) && ((x2.at_ == x3.at_) && ((x2.child == x3.child) && true)))) then (some (.inl (.k0))) else (some (.inr ((IntKind.wrap .i64 (v1 + 1)))))))) else (some (.inl (.k1))))
def L18_1_s (a1 : GramD) (a2 : GramD) (v1 : Int) : St := ⟨fr 191 ug [(2, (.ptr 0 0)), (3, (.ptr 1 0)), (10, (i6 v1))], [bG a1, bG a2]⟩
def L18_1_x (a1 : GramD) (a2 : GramD) (e : E_L18_1) (r : Option (Out × St)) : Prop := match e with | .k0 => ∃ g y, r = some (.ret, ⟨fr 191 g [(4, (vb false))], y⟩) | .k1 => ∃ g, r = some ((.brk 6), ⟨fr 191 g [(2, (.ptr 0 0)), (3, (.ptr 1 0))], [bG a1, bG a2]⟩)
theorem L18_1_ok (a1 : GramD) (a2 : GramD) (v1 : Int) {r : E_L18_1 ⊕ (Int)} (h : L18_1 a1 a2 v1 = some r) : OkR (fun e => L18_1_x a1 a2 e (evH prg 2 [2, 3, 10] ir18_l1 (L18_1_s a1 a2 v1))) (fun s => evH prg 2 [2, 3, 10] ir18_l1 (L18_1_s a1 a2 v1) = evH prg 2 [2, 3, 10] ir18_l1 (L18_1_s a1 a2 s)) r := by
 unfold L18_1 at h
 refine bi h (fun h1 h => ?_) fun h1 h => ?_
 ·
  refine bn h fun x2 h2 h => ?_
  refine bn h fun x3 h3 h => ?_
  refine bi h (fun h4 h => ?_) fun h4 h => ?_
  ·
   rw [← sj h]
   exact xretY (n := 30) [(158, .v (i6 (a1.forbid.length : Int))), (159, .d true), (165, .v (.ro (eForb x2))), (170, .v (.ro (eForb x3))), (172, .d true), (6000, .d true)] (apc (lg a1.forbid eForb 3) (apc (cv h1) (apc (ig eForb 3 .i64 h2) (apc (ig eForb 3 .i64 h3) (apc (cv h4) apn))))) (by kernel_rfl)
  ·
   rw [← sj h]
   exact rnd (n := 30) [(158, .v (i6 (a1.forbid.length : Int))), (159, .d true), (165, .v (.ro (eForb x2))), (170, .v (.ro (eForb x3))), (172, .d false), (6000, .d true)] (apc (lg a1.forbid eForb 3) (apc (cv h1) (apc (ig eForb 3 .i64 h2) (apc (ig eForb 3 .i64 h3) (apc (cv h4) (apc ((okT_of rfl (abl_cons rfl (abl_cons rfl rfl))) : okT 2 [bG a1, bG a2] = true) apn)))))) (by kernel_rfl)
 ·
  rw [← sj h]
  exact xbrk (n := 30) [(158, .v (i6 (a1.forbid.length : Int))), (159, .d false), (6000, .d true)] (apc (lg a1.forbid eForb 3) (apc (cv h1) apn)) (by kernel_rfl)
theorem L18_1_run (a1 : GramD) (a2 : GramD) (s0 : Int) (e : E_L18_1) (h : runL (fun s => L18_1 a1 a2 s) s0 = some e) : L18_1_x a1 a2 e (evH prg 2 [2, 3, 10] ir18_l1 (L18_1_s a1 a2 s0)) := by
  have q := @loop_sound' (Int) E_L18_1 (fun s => L18_1 a1 a2 s) (fun s => evH prg 2 [2, 3, 10] ir18_l1 (L18_1_s a1 a2 s)) (L18_1_x a1 a2) (fun s r h => L18_1_ok a1 a2 s h) s0 e h
  exact q
inductive E_L18_0 where
  | k0
  | k1
noncomputable def L18_0 (a1 : GramD) (a2 : GramD) (v1 : Int) : Option (E_L18_0 ⊕ (Int)) :=
  (bif (decide (v1 < (a1.follow.length : Int))) then ((getI a1.follow v1).bind fun x2 => ((getI a2.follow v1).bind fun x3 => (bif (!((x2.sort == x3.sort) && ((x2.a == x3.a) && ((x2.b == x3.b) && ((x2.c == x3.c) && ((x2.d == x3.d) && true)))))) then (some (.inl (.k0))) else (some (.inr ((IntKind.wrap .i64 (v1 + 1)))))))) else (some (.inl (.k1))))
def L18_0_s (a1 : GramD) (a2 : GramD) (v1 : Int) : St := ⟨fr 191 ug [(2, (.ptr 0 0)), (3, (.ptr 1 0)), (11, (i6 v1))], [bG a1, bG a2]⟩
def L18_0_x (a1 : GramD) (a2 : GramD) (e : E_L18_0) (r : Option (Out × St)) : Prop := match e with | .k0 => ∃ g y, r = some (.ret, ⟨fr 191 g [(4, (vb false))], y⟩) | .k1 => ∃ g, r = some ((.brk 8), ⟨fr 191 g [(2, (.ptr 0 0)), (3, (.ptr 1 0))], [bG a1, bG a2]⟩)
theorem L18_0_ok (a1 : GramD) (a2 : GramD) (v1 : Int) {r : E_L18_0 ⊕ (Int)} (h : L18_0 a1 a2 v1 = some r) : OkR (fun e => L18_0_x a1 a2 e (evH prg 2 [2, 3, 11] ir18_l0 (L18_0_s a1 a2 v1))) (fun s => evH prg 2 [2, 3, 11] ir18_l0 (L18_0_s a1 a2 v1) = evH prg 2 [2, 3, 11] ir18_l0 (L18_0_s a1 a2 s)) r := by
 unfold L18_0 at h
 refine bi h (fun h1 h => ?_) fun h1 h => ?_
 ·
  refine bn h fun x2 h2 h => ?_
  refine bn h fun x3 h3 h => ?_
  refine bi h (fun h4 h => ?_) fun h4 h => ?_
  ·
   rw [← sj h]
   exact xretY (n := 30) [(176, .v (i6 (a1.follow.length : Int))), (177, .d true), (183, .v (.ro (eFoll x2))), (188, .v (.ro (eFoll x3))), (190, .d true), (6000, .d true)] (apc (lg a1.follow eFoll 5) (apc (cv h1) (apc (ig eFoll 5 .i64 h2) (apc (ig eFoll 5 .i64 h3) (apc (cv h4) apn))))) (by kernel_rfl)
  ·
   rw [← sj h]
   exact rnd (n := 30) [(176, .v (i6 (a1.follow.length : Int))), (177, .d true), (183, .v (.ro (eFoll x2))), (188, .v (.ro (eFoll x3))), (190, .d false), (6000, .d true)] (apc (lg a1.follow eFoll 5) (apc (cv h1) (apc (ig eFoll 5 .i64 h2) (apc (ig eFoll 5 .i64 h3) (apc (cv h4) (apc ((okT_of rfl (abl_cons rfl (abl_cons rfl rfl))) : okT 2 [bG a1, bG a2] = true) apn)))))) (by kernel_rfl)
 ·
  rw [← sj h]
  exact xbrk (n := 30) [(176, .v (i6 (a1.follow.length : Int))), (177, .d false), (6000, .d true)] (apc (lg a1.follow eFoll 5) (apc (cv h1) apn)) (by kernel_rfl)
theorem L18_0_run (a1 : GramD) (a2 : GramD) (s0 : Int) (e : E_L18_0) (h : runL (fun s => L18_0 a1 a2 s) s0 = some e) : L18_0_x a1 a2 e (evH prg 2 [2, 3, 11] ir18_l0 (L18_0_s a1 a2 s0)) := by
  have q := @loop_sound' (Int) E_L18_0 (fun s => L18_0 a1 a2 s) (fun s => evH prg 2 [2, 3, 11] ir18_l0 (L18_0_s a1 a2 s)) (L18_0_x a1 a2) (fun s r h => L18_0_ok a1 a2 s h) s0 e h
  exact q
noncomputable def F18 (a1 : GramD) (a2 : GramD) : Option Bool :=
  (bif (a1.start != a2.start) then (some false) else (bif ((a1.sorts.length : Int) != (a2.sorts.length : Int)) then (some false) else (bif ((a1.prods.length : Int) != (a2.prods.length : Int)) then (some false) else (bif ((a1.forbid.length : Int) != (a2.forbid.length : Int)) then (some false) else (bif ((a1.follow.length : Int) != (a2.follow.length : Int)) then (some false) else ((runL (fun s => L18_4 a1 a2 s) 0).bind fun r6 => match r6 with | .k0 => (some false) | .k1 => ((runL (fun s => L18_3 a1 a2 s) 0).bind fun r7 => match r7 with | .k0 => (some false) | .k1 => ((runL (fun s => L18_1 a1 a2 s) 0).bind fun r8 => match r8 with | .k0 => (some false) | .k1 => ((runL (fun s => L18_0 a1 a2 s) 0).bind fun r9 => match r9 with | .k0 => (some false) | .k1 => (some true))))))))))
def F18_v (a1 : GramD) (a2 : GramD) (x0 : Bool) : AV := (vb x0)
abbrev F18_d0 (g6 : Nat → AV) (a1 : GramD) (a2 : GramD) : St := ⟨fr 191 g6 [(2, (.ptr 0 0)), (3, (.ptr 1 0))], [bG a1, bG a2]⟩
abbrev F18_d1 (g7 : Nat → AV) (a1 : GramD) (a2 : GramD) : St := ⟨fr 191 g7 [(2, (.ptr 0 0)), (3, (.ptr 1 0))], [bG a1, bG a2]⟩
abbrev F18_d2 (g8 : Nat → AV) (a1 : GramD) (a2 : GramD) : St := ⟨fr 191 g8 [(2, (.ptr 0 0)), (3, (.ptr 1 0))], [bG a1, bG a2]⟩
abbrev F18_d3 (g9 : Nat → AV) (a1 : GramD) (a2 : GramD) : St := ⟨fr 191 g9 [(2, (.ptr 0 0)), (3, (.ptr 1 0))], [bG a1, bG a2]⟩
abbrev F18_c0 (a1 : GramD) (a2 : GramD) : List (Nat × Hint) := [(16, .d false), (20, .v (i6 (a1.sorts.length : Int))), (23, .v (i6 (a2.sorts.length : Int)))]
abbrev F18_c1 (a1 : GramD) (a2 : GramD) : List (Nat × Hint) := [(24, .d false), (29, .v (i6 (a1.prods.length : Int))), (32, .v (i6 (a2.prods.length : Int)))]
abbrev F18_c2 (a1 : GramD) (a2 : GramD) : List (Nat × Hint) := [(33, .d false), (38, .v (i6 (a1.forbid.length : Int))), (41, .v (i6 (a2.forbid.length : Int)))]
abbrev F18_c3 (a1 : GramD) (a2 : GramD) : List (Nat × Hint) := [(42, .d false), (47, .v (i6 (a1.follow.length : Int))), (50, .v (i6 (a2.follow.length : Int)))]
abbrev F18_c4 (g6 : Nat → AV) (a1 : GramD) (a2 : GramD) : List (Nat × Hint) := [(2000, .l (.brk 0) (F18_d0 g6 a1 a2))]
abbrev F18_c5 (g7 : Nat → AV) (a1 : GramD) (a2 : GramD) : List (Nat × Hint) := [(2002, .l (.brk 2) (F18_d1 g7 a1 a2))]
abbrev F18_c6 (g8 : Nat → AV) (a1 : GramD) (a2 : GramD) : List (Nat × Hint) := [(2006, .l (.brk 6) (F18_d2 g8 a1 a2))]
theorem F18_ok (a1 : GramD) (a2 : GramD) {r : Bool} (h : F18 a1 a2 = some r) : PR1 prg 18 [(aG a1), (aG a2)] (F18_v a1 a2 r) := by
 unfold F18 at h
 refine bi h (fun h1 h => ?_) fun h1 h => ?_
 ·
  rw [← sj h]
  exact fpr (n := 30) [(16, .d true)] (apc (cv h1) apn) rfl (by kernel_rfl)
 ·
  refine bi h (fun h2 h => ?_) fun h2 h => ?_
  ·
   rw [← sj h]
   exact fpr (n := 30) ((F18_c0 a1 a2) ++ [(24, .d true)]) (apc (cv h1) (apc (lg a1.sorts eStr 1) (apc (lg a2.sorts eStr 1) (apc (cv h2) apn)))) rfl (by kernel_rfl)
  ·
   refine bi h (fun h3 h => ?_) fun h3 h => ?_
   ·
    rw [← sj h]
    exact fpr (n := 30) ((F18_c0 a1 a2) ++ ((F18_c1 a1 a2) ++ [(33, .d true)])) (apc (cv h1) (apc (lg a1.sorts eStr 1) (apc (lg a2.sorts eStr 1) (apc (cv h2) (apc (lg a1.prods eProd 7) (apc (lg a2.prods eProd 7) (apc (cv h3) apn))))))) rfl (by kernel_rfl)
   ·
    refine bi h (fun h4 h => ?_) fun h4 h => ?_
    ·
     rw [← sj h]
     exact fpr (n := 30) ((F18_c0 a1 a2) ++ ((F18_c1 a1 a2) ++ ((F18_c2 a1 a2) ++ [(42, .d true)]))) (apc (cv h1) (apc (lg a1.sorts eStr 1) (apc (lg a2.sorts eStr 1) (apc (cv h2) (apc (lg a1.prods eProd 7) (apc (lg a2.prods eProd 7) (apc (cv h3) (apc (lg a1.forbid eForb 3) (apc (lg a2.forbid eForb 3) (apc (cv h4) apn)))))))))) rfl (by kernel_rfl)
    ·
     refine bi h (fun h5 h => ?_) fun h5 h => ?_
     ·
      rw [← sj h]
      exact fpr (n := 30) ((F18_c0 a1 a2) ++ ((F18_c1 a1 a2) ++ ((F18_c2 a1 a2) ++ ((F18_c3 a1 a2) ++ [(51, .d true)])))) (apc (cv h1) (apc (lg a1.sorts eStr 1) (apc (lg a2.sorts eStr 1) (apc (cv h2) (apc (lg a1.prods eProd 7) (apc (lg a2.prods eProd 7) (apc (cv h3) (apc (lg a1.forbid eForb 3) (apc (lg a2.forbid eForb 3) (apc (cv h4) (apc (lg a1.follow eFoll 5) (apc (lg a2.follow eFoll 5) (apc (cv h5) apn))))))))))))) rfl (by kernel_rfl)
     ·
      refine bn h fun r6 h6 h => ?_
      cases r6 with
      | k0 =>
       obtain ⟨g6, y6, e6⟩ := L18_4_run a1 a2 0 _ h6
       rw [← sj h]
       exact fpr (n := 30) ((F18_c0 a1 a2) ++ ((F18_c1 a1 a2) ++ ((F18_c2 a1 a2) ++ ((F18_c3 a1 a2) ++ [(51, .d false), (2000, .l .ret ⟨fr 191 g6 [(4, (vb false))], y6⟩), (6000, .d true)])))) (apc (cv h1) (apc (lg a1.sorts eStr 1) (apc (lg a2.sorts eStr 1) (apc (cv h2) (apc (lg a1.prods eProd 7) (apc (lg a2.prods eProd 7) (apc (cv h3) (apc (lg a1.forbid eForb 3) (apc (lg a2.forbid eForb 3) (apc (cv h4) (apc (lg a1.follow eFoll 5) (apc (lg a2.follow eFoll 5) (apc (cv h5) (apc ((okT_of rfl (abl_cons rfl (abl_cons rfl rfl))) : okT 2 [bG a1, bG a2] = true) (apc (e6 : evH prg 2 [2, 3, 5] ir18_l4 (L18_4_s a1 a2 0) = some (.ret, ⟨fr 191 g6 [(4, (vb false))], y6⟩)) apn))))))))))))))) rfl (by kernel_rfl)
      | k1 =>
       obtain ⟨g6, e6⟩ := L18_4_run a1 a2 0 _ h6
       have q13 := ((okT_of rfl (abl_cons rfl (abl_cons rfl rfl))) : okT 2 [bG a1, bG a2] = true)
       have q14 := (e6 : evH prg 2 [2, 3, 5] ir18_l4 (L18_4_s a1 a2 0) = some ((.brk 0), (F18_d0 g6 a1 a2)))
       refine bn h fun r7 h7 h => ?_
       cases r7 with
       | k0 =>
        obtain ⟨g7, y7, e7⟩ := L18_3_run a1 a2 0 _ h7
        rw [← sj h]
        exact fpr (n := 30) ((F18_c0 a1 a2) ++ ((F18_c1 a1 a2) ++ ((F18_c2 a1 a2) ++ ((F18_c3 a1 a2) ++ ([(51, .d false)] ++ ((F18_c4 g6 a1 a2) ++ [(2002, .l .ret ⟨fr 191 g7 [(4, (vb false))], y7⟩), (6000, .d true)])))))) (apc (cv h1) (apc (lg a1.sorts eStr 1) (apc (lg a2.sorts eStr 1) (apc (cv h2) (apc (lg a1.prods eProd 7) (apc (lg a2.prods eProd 7) (apc (cv h3) (apc (lg a1.forbid eForb 3) (apc (lg a2.forbid eForb 3) (apc (cv h4) (apc (lg a1.follow eFoll 5) (apc (lg a2.follow eFoll 5) (apc (cv h5) (apc q13 (apc q14 (apc ((okT_of rfl (abl_cons rfl (abl_cons rfl rfl))) : okT 2 [bG a1, bG a2] = true) (apc (e7 : evH prg 2 [2, 3, 6] ir18_l3 (L18_3_s a1 a2 0) = some (.ret, ⟨fr 191 g7 [(4, (vb false))], y7⟩)) apn))))))))))))))))) rfl (by kernel_rfl)
       | k1 =>
        obtain ⟨g7, e7⟩ := L18_3_run a1 a2 0 _ h7
        have q15 := ((okT_of rfl (abl_cons rfl (abl_cons rfl rfl))) : okT 2 [bG a1, bG a2] = true)
        have q16 := (e7 : evH prg 2 [2, 3, 6] ir18_l3 (L18_3_s a1 a2 0) = some ((.brk 2), (F18_d1 g7 a1 a2)))
        refine bn h fun r8 h8 h => ?_
        cases r8 with
        | k0 =>
         obtain ⟨g8, y8, e8⟩ := L18_1_run a1 a2 0 _ h8
         rw [← sj h]
         exact fpr (n := 30) ((F18_c0 a1 a2) ++ ((F18_c1 a1 a2) ++ ((F18_c2 a1 a2) ++ ((F18_c3 a1 a2) ++ ([(51, .d false)] ++ ((F18_c4 g6 a1 a2) ++ ((F18_c5 g7 a1 a2) ++ [(2006, .l .ret ⟨fr 191 g8 [(4, (vb false))], y8⟩), (6000, .d true)]))))))) (apc (cv h1) (apc (lg a1.sorts eStr 1) (apc (lg a2.sorts eStr 1) (apc (cv h2) (apc (lg a1.prods eProd 7) (apc (lg a2.prods eProd 7) (apc (cv h3) (apc (lg a1.forbid eForb 3) (apc (lg a2.forbid eForb 3) (apc (cv h4) (apc (lg a1.follow eFoll 5) (apc (lg a2.follow eFoll 5) (apc (cv h5) (apc q13 (apc q14 (apc q15 (apc q16 (apc ((okT_of rfl (abl_cons rfl (abl_cons rfl rfl))) : okT 2 [bG a1, bG a2] = true) (apc (e8 : evH prg 2 [2, 3, 10] ir18_l1 (L18_1_s a1 a2 0) = some (.ret, ⟨fr 191 g8 [(4, (vb false))], y8⟩)) apn))))))))))))))))))) rfl (by kernel_rfl)
        | k1 =>
         obtain ⟨g8, e8⟩ := L18_1_run a1 a2 0 _ h8
         have q17 := ((okT_of rfl (abl_cons rfl (abl_cons rfl rfl))) : okT 2 [bG a1, bG a2] = true)
         have q18 := (e8 : evH prg 2 [2, 3, 10] ir18_l1 (L18_1_s a1 a2 0) = some ((.brk 6), (F18_d2 g8 a1 a2)))
         refine bn h fun r9 h9 h => ?_
         cases r9 with
         | k0 =>
          obtain ⟨g9, y9, e9⟩ := L18_0_run a1 a2 0 _ h9
          rw [← sj h]
          exact fpr (n := 30) ((F18_c0 a1 a2) ++ ((F18_c1 a1 a2) ++ ((F18_c2 a1 a2) ++ ((F18_c3 a1 a2) ++ ([(51, .d false)] ++ ((F18_c4 g6 a1 a2) ++ ((F18_c5 g7 a1 a2) ++ ((F18_c6 g8 a1 a2) ++ [(2008, .l .ret ⟨fr 191 g9 [(4, (vb false))], y9⟩), (6000, .d true)])))))))) (apc (cv h1) (apc (lg a1.sorts eStr 1) (apc (lg a2.sorts eStr 1) (apc (cv h2) (apc (lg a1.prods eProd 7) (apc (lg a2.prods eProd 7) (apc (cv h3) (apc (lg a1.forbid eForb 3) (apc (lg a2.forbid eForb 3) (apc (cv h4) (apc (lg a1.follow eFoll 5) (apc (lg a2.follow eFoll 5) (apc (cv h5) (apc q13 (apc q14 (apc q15 (apc q16 (apc q17 (apc q18 (apc ((okT_of rfl (abl_cons rfl (abl_cons rfl rfl))) : okT 2 [bG a1, bG a2] = true) (apc (e9 : evH prg 2 [2, 3, 11] ir18_l0 (L18_0_s a1 a2 0) = some (.ret, ⟨fr 191 g9 [(4, (vb false))], y9⟩)) apn))))))))))))))))))))) rfl (by kernel_rfl)
         | k1 =>
          obtain ⟨g9, e9⟩ := L18_0_run a1 a2 0 _ h9
          rw [← sj h]
          exact fpr (n := 30) ((F18_c0 a1 a2) ++ ((F18_c1 a1 a2) ++ ((F18_c2 a1 a2) ++ ((F18_c3 a1 a2) ++ ([(51, .d false)] ++ ((F18_c4 g6 a1 a2) ++ ((F18_c5 g7 a1 a2) ++ ((F18_c6 g8 a1 a2) ++ [(2008, .l (.brk 8) (F18_d3 g9 a1 a2)), (6000, .d true)])))))))) (apc (cv h1) (apc (lg a1.sorts eStr 1) (apc (lg a2.sorts eStr 1) (apc (cv h2) (apc (lg a1.prods eProd 7) (apc (lg a2.prods eProd 7) (apc (cv h3) (apc (lg a1.forbid eForb 3) (apc (lg a2.forbid eForb 3) (apc (cv h4) (apc (lg a1.follow eFoll 5) (apc (lg a2.follow eFoll 5) (apc (cv h5) (apc q13 (apc q14 (apc q15 (apc q16 (apc q17 (apc q18 (apc ((okT_of rfl (abl_cons rfl (abl_cons rfl rfl))) : okT 2 [bG a1, bG a2] = true) (apc (e9 : evH prg 2 [2, 3, 11] ir18_l0 (L18_0_s a1 a2 0) = some ((.brk 8), (F18_d3 g9 a1 a2))) apn))))))))))))))))))))) rfl (by kernel_rfl)
inductive E_L11_0 where
  | k0 (x0 : List ProdD)
noncomputable def L11_0 (a1 : GramD) (a3 : Nat) (v1 : Int) (v2 : List ProdD) : Option (E_L11_0 ⊕ (Int × (List ProdD))) :=
  (bif (decide (v1 < ((a3 : Nat) : Int))) then ((getI a1.prods v1).bind fun x2 => (bif (nilOk x2.right.length 48) then ((ixN a3 v1).bind fun x4 => ((v2[x4]?).bind fun x5 => (some (.inr ((IntKind.wrap .i64 (v1 + 1)), (v2.set x4 (⟨x5.left, x2.right, x5.cons, x5.role, x5.prefer, x5.avoid, x5.frm⟩ : ProdD))))))) else none)) else (some (.inl (.k0 v2))))
def L11_0_s (a1 : GramD) (a2 : Nat) (a3 : Nat) (v1 : Int) (v2 : List ProdD) : St := ⟨fr 42 ug [(1, (.ptr 0 0)), (2, (.ptr 5 0)), (3, (.ptr 10 0)), (4, (i6 v1))], [bG a1, .row 9 1 0 (ra eStr []), .row 46 7 0 (ra eProd []), .row 78 3 0 (ra eForb []), .row 80 5 0 (ra eFoll []), .cells 27 [(.sl 1 0 1 0 0), (.sl 2 0 7 0 0), (i6 0), (.sl 3 0 3 0 0), (.sl 4 0 5 0 0)], .row 9 1 0 (ra eStr []), .row 46 7 0 (ra eProd []), .row 78 3 0 (ra eForb []), .row 80 5 0 (ra eFoll []), .cells 27 [(.sl 11 0 1 0 a2), (.sl 12 0 7 0 a3), (i6 a1.start), (.p (.lst 3 (a1.forbid.map eForb))), (.p (.lst 5 (a1.follow.map eFoll)))], .row 9 1 0 (ra eStr a1.sorts), .row 46 7 0 (ra eProd v2)]⟩
def L11_0_x (a1 : GramD) (a2 : Nat) (a3 : Nat) (e : E_L11_0) (r : Option (Out × St)) : Prop := match e with | .k0 x0 => ∃ g, r = some ((.brk 0), ⟨fr 42 g [(1, (.ptr 0 0)), (2, (.ptr 5 0)), (3, (.ptr 10 0))], [bG a1, .row 9 1 0 (ra eStr []), .row 46 7 0 (ra eProd []), .row 78 3 0 (ra eForb []), .row 80 5 0 (ra eFoll []), .cells 27 [(.sl 1 0 1 0 0), (.sl 2 0 7 0 0), (i6 0), (.sl 3 0 3 0 0), (.sl 4 0 5 0 0)], .row 9 1 0 (ra eStr []), .row 46 7 0 (ra eProd []), .row 78 3 0 (ra eForb []), .row 80 5 0 (ra eFoll []), .cells 27 [(.sl 11 0 1 0 a2), (.sl 12 0 7 0 a3), (i6 a1.start), (.p (.lst 3 (a1.forbid.map eForb))), (.p (.lst 5 (a1.follow.map eFoll)))], .row 9 1 0 (ra eStr a1.sorts), .row 46 7 0 (ra eProd x0)]⟩)
abbrev L11_0_d0 (a1 : GramD) (a2 : Nat) (a3 : Nat) (v2 : List ProdD) (x4 : Nat) (x5 : ProdD) (x2 : ProdD) : List AB := [bG a1, .row 9 1 0 (ra eStr []), .row 46 7 0 (ra eProd []), .row 78 3 0 (ra eForb []), .row 80 5 0 (ra eFoll []), .cells 27 [(.sl 1 0 1 0 0), (.sl 2 0 7 0 0), (i6 0), (.sl 3 0 3 0 0), (.sl 4 0 5 0 0)], .row 9 1 0 (ra eStr []), .row 46 7 0 (ra eProd []), .row 78 3 0 (ra eForb []), .row 80 5 0 (ra eFoll []), .cells 27 [(.sl 11 0 1 0 a2), (.sl 12 0 7 0 a3), (i6 a1.start), (.p (.lst 3 (a1.forbid.map eForb))), (.p (.lst 5 (a1.follow.map eFoll)))], .row 9 1 0 (ra eStr a1.sorts), .row 46 7 0 ((ra eProd v2).set x4 [(i6 x5.left), (.sl 13 0 6 0 x2.right.length), (vs x5.cons), (i6 x5.role), (vb x5.prefer), (vb x5.avoid), (i6 x5.frm)]), .row 68 6 0 (ra eSym x2.right)]
abbrev L11_0_d1 (a1 : GramD) (a2 : Nat) (a3 : Nat) (v2 : List ProdD) (x4 : Nat) (x5 : ProdD) (x2 : ProdD) : List AB := [bG a1, .row 9 1 0 (ra eStr []), .row 46 7 0 (ra eProd []), .row 78 3 0 (ra eForb []), .row 80 5 0 (ra eFoll []), .cells 27 [(.sl 1 0 1 0 0), (.sl 2 0 7 0 0), (i6 0), (.sl 3 0 3 0 0), (.sl 4 0 5 0 0)], .row 9 1 0 (ra eStr []), .row 46 7 0 (ra eProd []), .row 78 3 0 (ra eForb []), .row 80 5 0 (ra eFoll []), .cells 27 [(.sl 11 0 1 0 a2), (.sl 12 0 7 0 a3), (i6 a1.start), (.p (.lst 3 (a1.forbid.map eForb))), (.p (.lst 5 (a1.follow.map eFoll)))], .row 9 1 0 (ra eStr a1.sorts), .row 46 7 0 (ra eProd (v2.set x4 (⟨x5.left, x2.right, x5.cons, x5.role, x5.prefer, x5.avoid, x5.frm⟩ : ProdD)))]
theorem L11_0_ok (a1 : GramD) (a2 : Nat) (a3 : Nat) (v1 : Int) (v2 : List ProdD) {r : E_L11_0 ⊕ (Int × (List ProdD))} (h : L11_0 a1 a3 v1 v2 = some r) : OkR (fun e => L11_0_x a1 a2 a3 e (evH prg 13 [1, 2, 3, 4] ir11_l0 (L11_0_s a1 a2 a3 v1 v2))) (fun s => evH prg 13 [1, 2, 3, 4] ir11_l0 (L11_0_s a1 a2 a3 v1 v2) = evH prg 13 [1, 2, 3, 4] ir11_l0 (L11_0_s a1 a2 a3 s.1 s.2)) r := by
 unfold L11_0 at h
 refine bi h (fun h1 h => ?_) fun h1 h => ?_
 ·
  refine bn h fun x2 h2 h => ?_
  refine bi h (fun h3 h => ?_) fun h3 h => ?_
  ·
   refine bn h fun x4 h4 h => ?_
   refine bn h fun x5 h5 h => ?_
   rw [← sj h]
   exact rnd (n := 30) [(18, .d true), (27, .v (.ro (eProd x2))), (30, .r (.sl 13 0 6 0 x2.right.length) [.row 68 6 0 (ra eSym x2.right)]), (31, .v (.rp 12 0 7 x4 0)), (1032, .r ud (L11_0_d0 a1 a2 a3 v2 x4 x5 x2)), (6000, .d true), (6001, .r ud (L11_0_d1 a1 a2 a3 v2 x4 x5 x2))] (apc (cv h1) (apc (ig eProd 7 .i64 h2) (apc ((apN_l (e := eSym) (news := x2.right) rows_l rfl h3) : apN 68 6 48 (.p (.lst 6 (x2.right.map eSym))) 13 = some ((.sl 13 0 6 0 x2.right.length), [.row 68 6 0 (ra eSym x2.right)])) (apc ((idx_sl h4) : idxA 7 (.sl 12 0 7 0 a3) (i6 v1) = some (.rp 12 0 7 x4 0)) (apc (⟨st_pend (e := eProd) (xs := v2) rfl h5 rfl rfl (Nat.le_of_ble_eq_true rfl) rfl, rfl⟩ : stA [bG a1, .row 9 1 0 (ra eStr []), .row 46 7 0 (ra eProd []), .row 78 3 0 (ra eForb []), .row 80 5 0 (ra eFoll []), .cells 27 [(.sl 1 0 1 0 0), (.sl 2 0 7 0 0), (i6 0), (.sl 3 0 3 0 0), (.sl 4 0 5 0 0)], .row 9 1 0 (ra eStr []), .row 46 7 0 (ra eProd []), .row 78 3 0 (ra eForb []), .row 80 5 0 (ra eFoll []), .cells 27 [(.sl 11 0 1 0 a2), (.sl 12 0 7 0 a3), (i6 a1.start), (.p (.lst 3 (a1.forbid.map eForb))), (.p (.lst 5 (a1.follow.map eFoll)))], .row 9 1 0 (ra eStr a1.sorts), .row 46 7 0 (ra eProd v2), .row 68 6 0 (ra eSym x2.right)] 1 (.rp 12 0 7 x4 1) (.sl 13 0 6 0 x2.right.length) = some (L11_0_d0 a1 a2 a3 v2 x4 x5 x2) ∧ ud = ud) (apc ((frz_of rfl (frz_same rfl (frz_same abl_row (frz_same abl_row (frz_same abl_row (frz_same abl_row (frz_same rfl (frz_same abl_row (frz_same abl_row (frz_same abl_row (frz_same abl_row (frz_same rfl (frz_same abl_row (frz_con (frz_row (e := eProd) (xs := v2) (w := (⟨x5.left, x2.right, x5.cons, x5.role, x5.prefer, x5.avoid, x5.frm⟩ : ProdD)) (fzc_p (fzc_s rfl (purP_all (e := eSym) (xs := x2.right) rfl) (fzc_p (fzc_p (fzc_p (fzc_p (fzc_p fzc_nil)))))))) frz_nil)))))))))))))) : frzT 13 (L11_0_d0 a1 a2 a3 v2 x4 x5 x2) = some (L11_0_d1 a1 a2 a3 v2 x4 x5 x2)) apn)))))) (by kernel_rfl)
  ·
   cases h
 ·
  rw [← sj h]
  exact xbrk (n := 30) [(18, .d false), (6000, .d true)] (apc (cv h1) apn) (by kernel_rfl)
theorem L11_0_run (a1 : GramD) (a2 : Nat) (a3 : Nat) (s0 : Int × (List ProdD)) (e : E_L11_0) (h : runL (fun s => L11_0 a1 a3 s.1 s.2) s0 = some e) : L11_0_x a1 a2 a3 e (evH prg 13 [1, 2, 3, 4] ir11_l0 (L11_0_s a1 a2 a3 s0.1 s0.2)) := by
  have q := @loop_sound' (Int × (List ProdD)) E_L11_0 (fun s => L11_0 a1 a3 s.1 s.2) (fun s => evH prg 13 [1, 2, 3, 4] ir11_l0 (L11_0_s a1 a2 a3 s.1 s.2)) (L11_0_x a1 a2 a3) (fun s r h => L11_0_ok a1 a2 a3 s.1 s.2 h) s0 e h
  exact q
inductive R_F11 where
  | k0 (x0 : List ByteArray) (x1 : List ProdD) (x2 : Int) (x3 : List ForbD) (x4 : List FollD)
noncomputable def F11 (a1 : GramD) : Option R_F11 :=
  (bif (nilOk a1.sorts.length 16) then (bif (nilOk a1.prods.length 72) then ((runL (fun s => L11_0 a1 a1.prods.length s.1 s.2) (0, a1.prods)).bind fun r3 => match r3 with | .k0 x3_0 => (bif (nilOk a1.forbid.length 24) then (bif (nilOk a1.follow.length 40) then (bif (decide (a1.prods.length ≤ x3_0.length)) then (some (.k0 a1.sorts (x3_0.take a1.prods.length) a1.start a1.forbid a1.follow)) else none) else none) else none)) else none) else none)
def F11_v (a1 : GramD) (r : R_F11) : AV := match r with | .k0 x0 x1 x2 x3 x4 => (.agg [(.p (.lst 1 (x0.map eStr))), (.p (.lst 7 (x1.map eProd))), (i6 x2), (.p (.lst 3 (x3.map eForb))), (.p (.lst 5 (x4.map eFoll)))])
abbrev F11_d0 (a1 : GramD) : List AB := [bG a1, .row 9 1 0 (ra eStr []), .row 46 7 0 (ra eProd []), .row 78 3 0 (ra eForb []), .row 80 5 0 (ra eFoll []), .cells 27 [(.sl 1 0 1 0 0), (.sl 2 0 7 0 0), (i6 0), (.sl 3 0 3 0 0), (.sl 4 0 5 0 0)], .row 9 1 0 (ra eStr []), .row 46 7 0 (ra eProd []), .row 78 3 0 (ra eForb []), .row 80 5 0 (ra eFoll []), bG a1]
abbrev F11_d1 (a1 : GramD) : List AB := [bG a1, .row 9 1 0 (ra eStr []), .row 46 7 0 (ra eProd []), .row 78 3 0 (ra eForb []), .row 80 5 0 (ra eFoll []), .cells 27 [(.sl 1 0 1 0 0), (.sl 2 0 7 0 0), (i6 0), (.sl 3 0 3 0 0), (.sl 4 0 5 0 0)], .row 9 1 0 (ra eStr []), .row 46 7 0 (ra eProd []), .row 78 3 0 (ra eForb []), .row 80 5 0 (ra eFoll []), bG a1, .row 9 1 0 (ra eStr a1.sorts)]
abbrev F11_d2 (a1 : GramD) : List AB := [bG a1, .row 9 1 0 (ra eStr []), .row 46 7 0 (ra eProd []), .row 78 3 0 (ra eForb []), .row 80 5 0 (ra eFoll []), .cells 27 [(.sl 1 0 1 0 0), (.sl 2 0 7 0 0), (i6 0), (.sl 3 0 3 0 0), (.sl 4 0 5 0 0)], .row 9 1 0 (ra eStr []), .row 46 7 0 (ra eProd []), .row 78 3 0 (ra eForb []), .row 80 5 0 (ra eFoll []), .cells 27 [(.sl 11 0 1 0 a1.sorts.length), (.p (.lst 7 (a1.prods.map eProd))), (i6 a1.start), (.p (.lst 3 (a1.forbid.map eForb))), (.p (.lst 5 (a1.follow.map eFoll)))], .row 9 1 0 (ra eStr a1.sorts)]
abbrev F11_d3 (a1 : GramD) : List AB := [bG a1, .row 9 1 0 (ra eStr []), .row 46 7 0 (ra eProd []), .row 78 3 0 (ra eForb []), .row 80 5 0 (ra eFoll []), .cells 27 [(.sl 1 0 1 0 0), (.sl 2 0 7 0 0), (i6 0), (.sl 3 0 3 0 0), (.sl 4 0 5 0 0)], .row 9 1 0 (ra eStr []), .row 46 7 0 (ra eProd []), .row 78 3 0 (ra eForb []), .row 80 5 0 (ra eFoll []), .cells 27 [(.sl 11 0 1 0 a1.sorts.length), (.p (.lst 7 (a1.prods.map eProd))), (i6 a1.start), (.p (.lst 3 (a1.forbid.map eForb))), (.p (.lst 5 (a1.follow.map eFoll)))], .row 9 1 0 (ra eStr a1.sorts), .row 46 7 0 (ra eProd a1.prods)]
abbrev F11_d4 (g3 : Nat → AV) (a1 : GramD) (x3_0 : List ProdD) : St := ⟨fr 42 g3 [(1, (.ptr 0 0)), (2, (.ptr 5 0)), (3, (.ptr 10 0))], [bG a1, .row 9 1 0 (ra eStr []), .row 46 7 0 (ra eProd []), .row 78 3 0 (ra eForb []), .row 80 5 0 (ra eFoll []), .cells 27 [(.sl 1 0 1 0 0), (.sl 2 0 7 0 0), (i6 0), (.sl 3 0 3 0 0), (.sl 4 0 5 0 0)], .row 9 1 0 (ra eStr []), .row 46 7 0 (ra eProd []), .row 78 3 0 (ra eForb []), .row 80 5 0 (ra eFoll []), .cells 27 [(.sl 11 0 1 0 a1.sorts.length), (.sl 12 0 7 0 a1.prods.length), (i6 a1.start), (.p (.lst 3 (a1.forbid.map eForb))), (.p (.lst 5 (a1.follow.map eFoll)))], .row 9 1 0 (ra eStr a1.sorts), .row 46 7 0 (ra eProd x3_0)]⟩
abbrev F11_d5 (a1 : GramD) (x3_0 : List ProdD) : List AB := [bG a1, .row 9 1 0 (ra eStr []), .row 46 7 0 (ra eProd []), .row 78 3 0 (ra eForb []), .row 80 5 0 (ra eFoll []), .cells 27 [(.sl 1 0 1 0 0), (.sl 2 0 7 0 0), (i6 0), (.sl 3 0 3 0 0), (.sl 4 0 5 0 0)], .row 9 1 0 (ra eStr []), .row 46 7 0 (ra eProd []), .row 78 3 0 (ra eForb []), .row 80 5 0 (ra eFoll []), .cells 27 [(.sl 11 0 1 0 a1.sorts.length), (.sl 12 0 7 0 a1.prods.length), (i6 a1.start), (.p (.lst 3 (a1.forbid.map eForb))), (.p (.lst 5 (a1.follow.map eFoll)))], .row 9 1 0 (ra eStr a1.sorts), .row 46 7 0 (ra eProd x3_0)]
abbrev F11_d6 (a1 : GramD) (x3_0 : List ProdD) : List AB := [bG a1, .row 9 1 0 (ra eStr []), .row 46 7 0 (ra eProd []), .row 78 3 0 (ra eForb []), .row 80 5 0 (ra eFoll []), .cells 27 [(.sl 1 0 1 0 0), (.sl 2 0 7 0 0), (i6 0), (.sl 3 0 3 0 0), (.sl 4 0 5 0 0)], .row 9 1 0 (ra eStr []), .row 46 7 0 (ra eProd []), .row 78 3 0 (ra eForb []), .row 80 5 0 (ra eFoll []), .cells 27 [(.sl 11 0 1 0 a1.sorts.length), (.sl 12 0 7 0 a1.prods.length), (i6 a1.start), (.p (.lst 3 (a1.forbid.map eForb))), (.p (.lst 5 (a1.follow.map eFoll)))], .row 9 1 0 (ra eStr a1.sorts), .row 46 7 0 (ra eProd x3_0), .row 78 3 0 (ra eForb a1.forbid)]
abbrev F11_d7 (a1 : GramD) (x3_0 : List ProdD) : List AB := [bG a1, .row 9 1 0 (ra eStr []), .row 46 7 0 (ra eProd []), .row 78 3 0 (ra eForb []), .row 80 5 0 (ra eFoll []), .cells 27 [(.sl 1 0 1 0 0), (.sl 2 0 7 0 0), (i6 0), (.sl 3 0 3 0 0), (.sl 4 0 5 0 0)], .row 9 1 0 (ra eStr []), .row 46 7 0 (ra eProd []), .row 78 3 0 (ra eForb []), .row 80 5 0 (ra eFoll []), .cells 27 [(.sl 11 0 1 0 a1.sorts.length), (.sl 12 0 7 0 a1.prods.length), (i6 a1.start), (.sl 13 0 3 0 a1.forbid.length), (.p (.lst 5 (a1.follow.map eFoll)))], .row 9 1 0 (ra eStr a1.sorts), .row 46 7 0 (ra eProd x3_0), .row 78 3 0 (ra eForb a1.forbid)]
abbrev F11_d8 (a1 : GramD) (x3_0 : List ProdD) : List AB := [bG a1, .row 9 1 0 (ra eStr []), .row 46 7 0 (ra eProd []), .row 78 3 0 (ra eForb []), .row 80 5 0 (ra eFoll []), .cells 27 [(.sl 1 0 1 0 0), (.sl 2 0 7 0 0), (i6 0), (.sl 3 0 3 0 0), (.sl 4 0 5 0 0)], .row 9 1 0 (ra eStr []), .row 46 7 0 (ra eProd []), .row 78 3 0 (ra eForb []), .row 80 5 0 (ra eFoll []), .cells 27 [(.sl 11 0 1 0 a1.sorts.length), (.sl 12 0 7 0 a1.prods.length), (i6 a1.start), (.sl 13 0 3 0 a1.forbid.length), (.p (.lst 5 (a1.follow.map eFoll)))], .row 9 1 0 (ra eStr a1.sorts), .row 46 7 0 (ra eProd x3_0), .row 78 3 0 (ra eForb a1.forbid), .row 80 5 0 (ra eFoll a1.follow)]
abbrev F11_c0 (a1 : GramD) : List (Nat × Hint) := [(8, .r (.sl 11 0 1 0 a1.sorts.length) (F11_d1 a1))]
abbrev F11_c1 (a1 : GramD) : List (Nat × Hint) := [(12, .r (.sl 12 0 7 0 a1.prods.length) (F11_d3 a1))]
abbrev F11_c2 (g3 : Nat → AV) (a1 : GramD) (x3_0 : List ProdD) : List (Nat × Hint) := [(2000, .l (.brk 0) (F11_d4 g3 a1 x3_0))]
abbrev F11_c3 (a1 : GramD) (x3_0 : List ProdD) : List (Nat × Hint) := [(35, .r (.sl 13 0 3 0 a1.forbid.length) (F11_d6 a1 x3_0))]
abbrev F11_c4 (a1 : GramD) (x3_0 : List ProdD) : List (Nat × Hint) := [(39, .r (.sl 14 0 5 0 a1.follow.length) (F11_d8 a1 x3_0))]
theorem F11_ok (a1 : GramD) {r : R_F11} (h : F11 a1 = some r) : PR1 prg 11 [(aG a1)] (F11_v a1 r) := by
 unfold F11 at h
 refine bi h (fun h1 h => ?_) fun h1 h => ?_
 ·
  have q0 := ((ap_nil (h := (F11_d0 a1)) (e := eStr) (news := a1.sorts) rows_l rfl h1) : appA (F11_d0 a1) 9 1 16 (.p (.val (.slice .none 0 0))) (.p (.lst 1 (a1.sorts.map eStr))) = some ((.sl 11 0 1 0 a1.sorts.length), (F11_d1 a1)))
  refine bi h (fun h2 h => ?_) fun h2 h => ?_
  ·
   have q1 := ((ap_nil (h := (F11_d2 a1)) (e := eProd) (news := a1.prods) rows_l rfl h2) : appA (F11_d2 a1) 46 7 72 (.p (.val (.slice .none 0 0))) (.p (.lst 7 (a1.prods.map eProd))) = some ((.sl 12 0 7 0 a1.prods.length), (F11_d3 a1)))
   refine bn h fun r3 h3 h => ?_
   cases r3 with
   | k0 x3_0 =>
    obtain ⟨g3, e3⟩ := L11_0_run a1 a1.sorts.length a1.prods.length (0, a1.prods) _ h3
    have q2 := ((okT_of rfl (abl_cons rfl (abl_cons abl_row (abl_cons abl_row (abl_cons abl_row (abl_cons abl_row (abl_cons rfl (abl_cons abl_row (abl_cons abl_row (abl_cons abl_row (abl_cons abl_row (abl_cons rfl (abl_cons abl_row (abl_cons abl_row rfl)))))))))))))) : okT 13 [bG a1, .row 9 1 0 (ra eStr []), .row 46 7 0 (ra eProd []), .row 78 3 0 (ra eForb []), .row 80 5 0 (ra eFoll []), .cells 27 [(.sl 1 0 1 0 0), (.sl 2 0 7 0 0), (i6 0), (.sl 3 0 3 0 0), (.sl 4 0 5 0 0)], .row 9 1 0 (ra eStr []), .row 46 7 0 (ra eProd []), .row 78 3 0 (ra eForb []), .row 80 5 0 (ra eFoll []), .cells 27 [(.sl 11 0 1 0 a1.sorts.length), (.sl 12 0 7 0 a1.prods.length), (i6 a1.start), (.p (.lst 3 (a1.forbid.map eForb))), (.p (.lst 5 (a1.follow.map eFoll)))], .row 9 1 0 (ra eStr a1.sorts), .row 46 7 0 (ra eProd a1.prods)] = true)
    have q3 := (e3 : evH prg 13 [1, 2, 3, 4] ir11_l0 (L11_0_s a1 a1.sorts.length a1.prods.length 0 a1.prods) = some ((.brk 0), (F11_d4 g3 a1 x3_0)))
    refine bi h (fun h4 h => ?_) fun h4 h => ?_
    ·
     have q4 := ((ap_nil (h := (F11_d5 a1 x3_0)) (e := eForb) (news := a1.forbid) rows_l rfl h4) : appA (F11_d5 a1 x3_0) 78 3 24 (.p (.val (.slice .none 0 0))) (.p (.lst 3 (a1.forbid.map eForb))) = some ((.sl 13 0 3 0 a1.forbid.length), (F11_d6 a1 x3_0)))
     refine bi h (fun h5 h => ?_) fun h5 h => ?_
     ·
      have q5 := ((ap_nil (h := (F11_d7 a1 x3_0)) (e := eFoll) (news := a1.follow) rows_l rfl h5) : appA (F11_d7 a1 x3_0) 80 5 40 (.p (.val (.slice .none 0 0))) (.p (.lst 5 (a1.follow.map eFoll))) = some ((.sl 14 0 5 0 a1.follow.length), (F11_d8 a1 x3_0)))
      refine bi h (fun h6 h => ?_) fun h6 h => ?_
      ·
       rw [← sj h]
       exact fpo (n := 30) (v := (.agg [(.sl 11 0 1 0 a1.sorts.length), (.sl 12 0 7 0 a1.prods.length), (i6 a1.start), (.sl 13 0 3 0 a1.forbid.length), (.sl 14 0 5 0 a1.follow.length)])) (h' := [bG a1, .row 9 1 0 (ra eStr []), .row 46 7 0 (ra eProd []), .row 78 3 0 (ra eForb []), .row 80 5 0 (ra eFoll []), .cells 27 [(.sl 11 0 1 0 a1.sorts.length), (.sl 12 0 7 0 a1.prods.length), (i6 a1.start), (.sl 13 0 3 0 a1.forbid.length), (.sl 14 0 5 0 a1.follow.length)], .row 9 1 0 (ra eStr []), .row 46 7 0 (ra eProd []), .row 78 3 0 (ra eForb []), .row 80 5 0 (ra eFoll []), .cells 27 [(.sl 11 0 1 0 a1.sorts.length), (.sl 12 0 7 0 a1.prods.length), (i6 a1.start), (.sl 13 0 3 0 a1.forbid.length), (.sl 14 0 5 0 a1.follow.length)], .row 9 1 0 (ra eStr a1.sorts), .row 46 7 0 (ra eProd x3_0), .row 78 3 0 (ra eForb a1.forbid), .row 80 5 0 (ra eFoll a1.follow)]) ((F11_c0 a1) ++ ((F11_c1 a1) ++ ((F11_c2 g3 a1 x3_0) ++ ((F11_c3 a1 x3_0) ++ ((F11_c4 a1 x3_0) ++ [(6000, .d true)]))))) (apc q0 (apc q1 (apc q2 (apc q3 (apc q4 (apc q5 apn)))))) (purA_agg (purAs_cons (purA_all (e := eStr) (xs := a1.sorts) rfl) (purAs_cons (purA_sl rfl h6) (purAs_cons rfl (purAs_cons (purA_all (e := eForb) (xs := a1.forbid) rfl) (purAs_cons (purA_all (e := eFoll) (xs := a1.follow) rfl) purAs_nil)))))) (by kernel_rfl)
      ·
       cases h
     ·
      cases h
    ·
     cases h
  ·
   cases h
 ·
  cases h
noncomputable def F8 (a1 : GramD) (a2 : GramD) : Option Bool :=
  ((F9 a1).bind fun x1 => (bif x1 then ((F10).bind fun x3 => (some x3)) else ((F9 a2).bind fun x3 => (bif x3 then ((F10).bind fun x5 => (some x5)) else ((F29 a1 a2).bind fun x5 => ((F18 a1 a2).bind fun x6 => (bif ((x5 == x6) && true) then ((F29 a2 a1).bind fun x8 => ((F29 a1 a2).bind fun x9 => (bif ((x8 == x9) && true) then ((F11 a1).bind fun r11 => match r11 with | .k0 x11_0 x11_1 x11_2 x11_3 x11_4 => ((F29 a1 (⟨x11_0, x11_1, x11_2, x11_3, x11_4⟩ : GramD)).bind fun x12 => (bif x12 then ((F10).bind fun x14 => (some x14)) else (some false)))) else (some false)))) else (some false))))))))
def F8_v (a1 : GramD) (a2 : GramD) (x0 : Bool) : AV := (vb x0)
abbrev F8_c0 (x11_0 : List ByteArray) (x11_1 : List ProdD) (x11_2 : Int) (x11_3 : List ForbD) (x11_4 : List FollD) : List (Nat × Hint) := [(31, .v (.agg [(.p (.lst 1 (x11_0.map eStr))), (.p (.lst 7 (x11_1.map eProd))), (i6 x11_2), (.p (.lst 3 (x11_3.map eForb))), (.p (.lst 5 (x11_4.map eFoll)))]))]
theorem F8_ok (a1 : GramD) (a2 : GramD) {r : Bool} (h : F8 a1 a2 = some r) : PR1 prg 8 [(aG a1), (aG a2)] (F8_v a1 a2 r) := by
 unfold F8 at h
 refine bn h fun x1 h1 h => ?_
 refine bi h (fun h2 h => ?_) fun h2 h => ?_
 ·
  refine bn h fun x3 h3 h => ?_
  rw [← sj h]
  exact fpr (n := 30) [(6, .v (vb true)), (11, .v (vb x3))] (apc ((((F9_ok a1 h1).cp rfl _).trans (congrArg (fun z => some (vb z)) h2)) : CP prg 9 [(aG a1)] [bG a1, bG a2] = some (vb true)) (apc (((F10_ok  h3).cp rfl _) : CP prg 10 [] [bG a1, bG a2] = some (vb x3)) apn)) rfl (by kernel_rfl)
 ·
  have q0 := ((((F9_ok a1 h1).cp rfl _).trans (congrArg (fun z => some (vb z)) h2)) : CP prg 9 [(aG a1)] [bG a1, bG a2] = some (vb false))
  refine bn h fun x3 h3 h => ?_
  refine bi h (fun h4 h => ?_) fun h4 h => ?_
  ·
   refine bn h fun x5 h5 h => ?_
   rw [← sj h]
   exact fpr (n := 30) [(6, .v (vb false)), (9, .v (vb true)), (11, .v (vb x5))] (apc q0 (apc ((((F9_ok a2 h3).cp rfl _).trans (congrArg (fun z => some (vb z)) h4)) : CP prg 9 [(aG a2)] [bG a1, bG a2] = some (vb true)) (apc (((F10_ok  h5).cp rfl _) : CP prg 10 [] [bG a1, bG a2] = some (vb x5)) apn))) rfl (by kernel_rfl)
  ·
   have q1 := ((((F9_ok a2 h3).cp rfl _).trans (congrArg (fun z => some (vb z)) h4)) : CP prg 9 [(aG a2)] [bG a1, bG a2] = some (vb false))
   refine bn h fun x5 h5 h => ?_
   have q2 := (((F29_ok a1 a2 h5).cp rfl _) : CP prg 29 [(aG a1), (aG a2)] [bG a1, bG a2] = some (vb x5))
   refine bn h fun x6 h6 h => ?_
   have q3 := (((F18_ok a1 a2 h6).cp rfl _) : CP prg 18 [(aG a1), (aG a2)] [bG a1, bG a2] = some (vb x6))
   refine bi h (fun h7 h => ?_) fun h7 h => ?_
   ·
    refine bn h fun x8 h8 h => ?_
    have q5 := (((F29_ok a2 a1 h8).cp rfl _) : CP prg 29 [(aG a2), (aG a1)] [bG a1, bG a2] = some (vb x8))
    refine bn h fun x9 h9 h => ?_
    have q6 := (((F29_ok a1 a2 h9).cp rfl _) : CP prg 29 [(aG a1), (aG a2)] [bG a1, bG a2] = some (vb x9))
    refine bi h (fun h10 h => ?_) fun h10 h => ?_
    ·
     refine bn h fun r11 h11 h => ?_
     cases r11 with
     | k0 x11_0 x11_1 x11_2 x11_3 x11_4 =>
      have q8 := (((F11_ok a1 h11).cp rfl _) : CP prg 11 [(aG a1)] [bG a1, bG a2] = some (.agg [(.p (.lst 1 (x11_0.map eStr))), (.p (.lst 7 (x11_1.map eProd))), (i6 x11_2), (.p (.lst 3 (x11_3.map eForb))), (.p (.lst 5 (x11_4.map eFoll)))]))
      refine bn h fun x12 h12 h => ?_
      refine bi h (fun h13 h => ?_) fun h13 h => ?_
      ·
       refine bn h fun x14 h14 h => ?_
       rw [← sj h]
       exact fpr (n := 30) ([(6, .v (vb false)), (9, .v (vb false)), (14, .v (vb x5)), (17, .v (vb x6)), (18, .d true), (22, .v (vb x8)), (25, .v (vb x9)), (26, .d true)] ++ ((F8_c0 x11_0 x11_1 x11_2 x11_3 x11_4) ++ [(32, .v (vb true)), (35, .v (vb x14))])) (apc q0 (apc q1 (apc q2 (apc q3 (apc (cv h7) (apc q5 (apc q6 (apc (cv h10) (apc q8 (apc ((((F29_ok a1 (⟨x11_0, x11_1, x11_2, x11_3, x11_4⟩ : GramD) h12).cp rfl _).trans (congrArg (fun z => some (vb z)) h13)) : CP prg 29 [(aG a1), (.agg [(.p (.lst 1 (x11_0.map eStr))), (.p (.lst 7 (x11_1.map eProd))), (i6 x11_2), (.p (.lst 3 (x11_3.map eForb))), (.p (.lst 5 (x11_4.map eFoll)))])] [bG a1, bG a2] = some (vb true)) (apc (((F10_ok  h14).cp rfl _) : CP prg 10 [] [bG a1, bG a2] = some (vb x14)) apn))))))))))) rfl (by kernel_rfl)
      ·
       rw [← sj h]
       exact fpr (n := 30) ([(6, .v (vb false)), (9, .v (vb false)), (14, .v (vb x5)), (17, .v (vb x6)), (18, .d true), (22, .v (vb x8)), (25, .v (vb x9)), (26, .d true)] ++ ((F8_c0 x11_0 x11_1 x11_2 x11_3 x11_4) ++ [(32, .v (vb false))])) (apc q0 (apc q1 (apc q2 (apc q3 (apc (cv h7) (apc q5 (apc q6 (apc (cv h10) (apc q8 (apc ((((F29_ok a1 (⟨x11_0, x11_1, x11_2, x11_3, x11_4⟩ : GramD) h12).cp rfl _).trans (congrArg (fun z => some (vb z)) h13)) : CP prg 29 [(aG a1), (.agg [(.p (.lst 1 (x11_0.map eStr))), (.p (.lst 7 (x11_1.map eProd))), (i6 x11_2), (.p (.lst 3 (x11_3.map eForb))), (.p (.lst 5 (x11_4.map eFoll)))])] [bG a1, bG a2] = some (vb false)) apn)))))))))) rfl (by kernel_rfl)
    ·
     rw [← sj h]
     exact fpr (n := 30) [(6, .v (vb false)), (9, .v (vb false)), (14, .v (vb x5)), (17, .v (vb x6)), (18, .d true), (22, .v (vb x8)), (25, .v (vb x9)), (26, .d false)] (apc q0 (apc q1 (apc q2 (apc q3 (apc (cv h7) (apc q5 (apc q6 (apc (cv h10) apn)))))))) rfl (by kernel_rfl)
   ·
    rw [← sj h]
    exact fpr (n := 30) [(6, .v (vb false)), (9, .v (vb false)), (14, .v (vb x5)), (17, .v (vb x6)), (18, .d false)] (apc q0 (apc q1 (apc q2 (apc q3 (apc (cv h7) apn))))) rfl (by kernel_rfl)
end Go.Proofs.Try
