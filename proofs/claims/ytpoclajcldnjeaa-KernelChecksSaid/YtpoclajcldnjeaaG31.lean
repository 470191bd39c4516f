/- Decompiled by a program: functions as plain data see them, part 1. -/
import Derived.Test.YtpoclajcldnjeaaW3
namespace Go.Proofs.Try
set_option linter.unusedSimpArgs false
set_option linter.unusedVariables false
open Go Go.Vs
inductive E_L9_1 where
  | k0
  | k1
noncomputable def L9_1 (a1 : GramD) (v1 : Int) : Option (E_L9_1 ⊕ (Int)) :=
  (bif (decide (v1 < (a1.sorts.length : Int))) then ((getI a1.sorts v1).bind fun x2 => (bif (decide ((x2.size : Int) > 1500)) then (some (.inl (.k0))) else (some (.inr ((IntKind.wrap .i64 (v1 + 1))))))) else (some (.inl (.k1))))
def L9_1_s (a1 : GramD) (v1 : Int) : St := ⟨fr 66 ug [(1, (.ptr 0 0)), (3, (i6 v1))], [bG a1]⟩
def L9_1_x (a1 : GramD) (e : E_L9_1) (r : Option (Out × St)) : Prop := match e with | .k0 => ∃ g y, r = some (.ret, ⟨fr 66 g [(2, (vb true))], y⟩) | .k1 => ∃ g, r = some ((.brk 0), ⟨fr 66 g [(1, (.ptr 0 0))], [bG a1]⟩)
theorem L9_1_ok (a1 : GramD) (v1 : Int) {r : E_L9_1 ⊕ (Int)} (h : L9_1 a1 v1 = some r) : OkR (fun e => L9_1_x a1 e (evH prg 1 [1, 3] ir9_l1 (L9_1_s a1 v1))) (fun s => evH prg 1 [1, 3] ir9_l1 (L9_1_s a1 v1) = evH prg 1 [1, 3] ir9_l1 (L9_1_s a1 s)) r := by
 unfold L9_1 at h
 refine bi h (fun h1 h => ?_) fun h1 h => ?_
 ·
  refine bn h fun x2 h2 h => ?_
  refine bi h (fun h3 h => ?_) fun h3 h => ?_
  ·
   rw [← sj h]
   exact xretY (n := 30) [(30, .v (i6 (a1.sorts.length : Int))), (31, .d true), (37, .v (.ro [.val (.string x2)])), (40, .d true), (6000, .d true)] (apc (lg a1.sorts eStr 1) (apc (cv h1) (apc (ig eStr 1 .i64 h2) (apc (cv h3) apn)))) (by kernel_rfl)
  ·
   rw [← sj h]
   exact rnd (n := 30) [(30, .v (i6 (a1.sorts.length : Int))), (31, .d true), (37, .v (.ro [.val (.string x2)])), (40, .d false), (6000, .d true)] (apc (lg a1.sorts eStr 1) (apc (cv h1) (apc (ig eStr 1 .i64 h2) (apc (cv h3) (apc ((okT_of rfl (abl_cons rfl rfl)) : okT 1 [bG a1] = true) apn))))) (by kernel_rfl)
 ·
  rw [← sj h]
  exact xbrk (n := 30) [(30, .v (i6 (a1.sorts.length : Int))), (31, .d false), (6000, .d true)] (apc (lg a1.sorts eStr 1) (apc (cv h1) apn)) (by kernel_rfl)
theorem L9_1_run (a1 : GramD) (s0 : Int) (e : E_L9_1) (h : runL (fun s => L9_1 a1 s) s0 = some e) : L9_1_x a1 e (evH prg 1 [1, 3] ir9_l1 (L9_1_s a1 s0)) := by
  have q := @loop_sound' (Int) E_L9_1 (fun s => L9_1 a1 s) (fun s => evH prg 1 [1, 3] ir9_l1 (L9_1_s a1 s)) (L9_1_x a1) (fun s r h => L9_1_ok a1 s h) s0 e h
  exact q
inductive E_L9_0 where
  | k0
  | k1
noncomputable def L9_0 (a1 : GramD) (v1 : Int) : Option (E_L9_0 ⊕ (Int)) :=
  (bif (decide (v1 < (a1.prods.length : Int))) then ((getI a1.prods v1).bind fun x2 => (bif (decide ((x2.right.length : Int) > 40)) then (some (.inl (.k0))) else (bif (decide ((x2.cons.size : Int) > 1500)) then (some (.inl (.k0))) else (some (.inr ((IntKind.wrap .i64 (v1 + 1)))))))) else (some (.inl (.k1))))
def L9_0_s (a1 : GramD) (v1 : Int) : St := ⟨fr 66 ug [(1, (.ptr 0 0)), (4, (i6 v1))], [bG a1]⟩
def L9_0_x (a1 : GramD) (e : E_L9_0) (r : Option (Out × St)) : Prop := match e with | .k0 => ∃ g y, r = some (.ret, ⟨fr 66 g [(2, (vb true))], y⟩) | .k1 => ∃ g, r = some ((.brk 2), ⟨fr 66 g [(1, (.ptr 0 0))], [bG a1]⟩)
theorem L9_0_ok (a1 : GramD) (v1 : Int) {r : E_L9_0 ⊕ (Int)} (h : L9_0 a1 v1 = some r) : OkR (fun e => L9_0_x a1 e (evH prg 1 [1, 4] ir9_l0 (L9_0_s a1 v1))) (fun s => evH prg 1 [1, 4] ir9_l0 (L9_0_s a1 v1) = evH prg 1 [1, 4] ir9_l0 (L9_0_s a1 s)) r := by
 unfold L9_0 at h
 refine bi h (fun h1 h => ?_) fun h1 h => ?_
 ·
  refine bn h fun x2 h2 h => ?_
  refine bi h (fun h3 h => ?_) fun h3 h => ?_
  ·
   rw [← sj h]
   exact xretY (n := 30) [(44, .v (i6 (a1.prods.length : Int))), (45, .d true), (51, .v (.ro (eProd x2))), (54, .v (i6 (x2.right.length : Int))), (55, .d true), (6000, .d true)] (apc (lg a1.prods eProd 7) (apc (cv h1) (apc (ig eProd 7 .i64 h2) (apc (lg x2.right eSym 6) (apc (cv h3) apn))))) (by kernel_rfl)
  ·
   refine bi h (fun h4 h => ?_) fun h4 h => ?_
   ·
    rw [← sj h]
    exact xretY (n := 30) [(44, .v (i6 (a1.prods.length : Int))), (45, .d true), (51, .v (.ro (eProd x2))), (54, .v (i6 (x2.right.length : Int))), (55, .d false), (60, .v (.ro (eProd x2))), (64, .d true), (6000, .d true)] (apc (lg a1.prods eProd 7) (apc (cv h1) (apc (ig eProd 7 .i64 h2) (apc (lg x2.right eSym 6) (apc (cv h3) (apc (ig eProd 7 .i64 h2) (apc (cv h4) apn))))))) (by kernel_rfl)
   ·
    rw [← sj h]
    exact rnd (n := 30) [(44, .v (i6 (a1.prods.length : Int))), (45, .d true), (51, .v (.ro (eProd x2))), (54, .v (i6 (x2.right.length : Int))), (55, .d false), (60, .v (.ro (eProd x2))), (64, .d false), (6000, .d true)] (apc (lg a1.prods eProd 7) (apc (cv h1) (apc (ig eProd 7 .i64 h2) (apc (lg x2.right eSym 6) (apc (cv h3) (apc (ig eProd 7 .i64 h2) (apc (cv h4) (apc ((okT_of rfl (abl_cons rfl rfl)) : okT 1 [bG a1] = true) apn)))))))) (by kernel_rfl)
 ·
  rw [← sj h]
  exact xbrk (n := 30) [(44, .v (i6 (a1.prods.length : Int))), (45, .d false), (6000, .d true)] (apc (lg a1.prods eProd 7) (apc (cv h1) apn)) (by kernel_rfl)
theorem L9_0_run (a1 : GramD) (s0 : Int) (e : E_L9_0) (h : runL (fun s => L9_0 a1 s) s0 = some e) : L9_0_x a1 e (evH prg 1 [1, 4] ir9_l0 (L9_0_s a1 s0)) := by
  have q := @loop_sound' (Int) E_L9_0 (fun s => L9_0 a1 s) (fun s => evH prg 1 [1, 4] ir9_l0 (L9_0_s a1 s)) (L9_0_x a1) (fun s r h => L9_0_ok a1 s h) s0 e h
  exact q
def F9_v (a1 : GramD) (x0 : Bool) : AV := (vb x0)
noncomputable def F9 (a1 : GramD) : Option Bool :=
  (bif (decide ((a1.sorts.length : Int) > 40)) then (some true) else (bif (decide ((a1.prods.length : Int) > 60)) then (some true) else (bif (decide ((a1.forbid.length : Int) > 40)) then (some true) else (bif (decide ((a1.follow.length : Int) > 40)) then (some true) else ((runL (fun s => L9_1 a1 s) 0).bind fun r5 => match r5 with | .k0 => (some true) | .k1 => ((runL (fun s => L9_0 a1 s) 0).bind fun r6 => match r6 with | .k0 => (some true) | .k1 => (some false)))))))
theorem F9_ok (a1 : GramD) {r : Bool} (h : F9 a1 = some r) : PR1 prg 9 [(aG a1)] (F9_v a1 r) := by
 unfold F9 at h
 refine bi h (fun h1 h => ?_) fun h1 h => ?_
 ·
  rw [← sj h]
  exact fpr (n := 30) [(7, .v (i6 (a1.sorts.length : Int))), (8, .d true)] (apc (lg a1.sorts eStr 1) (apc (cv h1) apn)) rfl (by kernel_rfl)
 ·
  refine bi h (fun h2 h => ?_) fun h2 h => ?_
  ·
   rw [← sj h]
   exact fpr (n := 30) [(7, .v (i6 (a1.sorts.length : Int))), (8, .d false), (12, .v (i6 (a1.prods.length : Int))), (13, .d true)] (apc (lg a1.sorts eStr 1) (apc (cv h1) (apc (lg a1.prods eProd 7) (apc (cv h2) apn)))) rfl (by kernel_rfl)
  ·
   refine bi h (fun h3 h => ?_) fun h3 h => ?_
   ·
    rw [← sj h]
    exact fpr (n := 30) [(7, .v (i6 (a1.sorts.length : Int))), (8, .d false), (12, .v (i6 (a1.prods.length : Int))), (13, .d false), (18, .v (i6 (a1.forbid.length : Int))), (19, .d true)] (apc (lg a1.sorts eStr 1) (apc (cv h1) (apc (lg a1.prods eProd 7) (apc (cv h2) (apc (lg a1.forbid eForb 3) (apc (cv h3) apn)))))) rfl (by kernel_rfl)
   ·
    refine bi h (fun h4 h => ?_) fun h4 h => ?_
    ·
     rw [← sj h]
     exact fpr (n := 30) [(7, .v (i6 (a1.sorts.length : Int))), (8, .d false), (12, .v (i6 (a1.prods.length : Int))), (13, .d false), (18, .v (i6 (a1.forbid.length : Int))), (19, .d false), (24, .v (i6 (a1.follow.length : Int))), (25, .d true)] (apc (lg a1.sorts eStr 1) (apc (cv h1) (apc (lg a1.prods eProd 7) (apc (cv h2) (apc (lg a1.forbid eForb 3) (apc (cv h3) (apc (lg a1.follow eFoll 5) (apc (cv h4) apn)))))))) rfl (by kernel_rfl)
    ·
     refine bn h fun r5 h5 h => ?_
     cases r5 with
     | k0 =>
      obtain ⟨g5, y5, e5⟩ := L9_1_run a1 0 _ h5
      rw [← sj h]
      exact fpr (n := 30) [(7, .v (i6 (a1.sorts.length : Int))), (8, .d false), (12, .v (i6 (a1.prods.length : Int))), (13, .d false), (18, .v (i6 (a1.forbid.length : Int))), (19, .d false), (24, .v (i6 (a1.follow.length : Int))), (25, .d false), (2000, .l .ret ⟨fr 66 g5 [(2, (vb true))], y5⟩), (6000, .d true)] (apc (lg a1.sorts eStr 1) (apc (cv h1) (apc (lg a1.prods eProd 7) (apc (cv h2) (apc (lg a1.forbid eForb 3) (apc (cv h3) (apc (lg a1.follow eFoll 5) (apc (cv h4) (apc ((okT_of rfl (abl_cons rfl rfl)) : okT 1 [bG a1] = true) (apc (e5 : evH prg 1 [1, 3] ir9_l1 (L9_1_s a1 0) = some (.ret, ⟨fr 66 g5 [(2, (vb true))], y5⟩)) apn)))))))))) rfl (by kernel_rfl)
     | k1 =>
      obtain ⟨g5, e5⟩ := L9_1_run a1 0 _ h5
      have q8 := ((okT_of rfl (abl_cons rfl rfl)) : okT 1 [bG a1] = true)
      have q9 := (e5 : evH prg 1 [1, 3] ir9_l1 (L9_1_s a1 0) = some ((.brk 0), ⟨fr 66 g5 [(1, (.ptr 0 0))], [bG a1]⟩))
      refine bn h fun r6 h6 h => ?_
      cases r6 with
      | k0 =>
       obtain ⟨g6, y6, e6⟩ := L9_0_run a1 0 _ h6
       rw [← sj h]
       exact fpr (n := 30) [(7, .v (i6 (a1.sorts.length : Int))), (8, .d false), (12, .v (i6 (a1.prods.length : Int))), (13, .d false), (18, .v (i6 (a1.forbid.length : Int))), (19, .d false), (24, .v (i6 (a1.follow.length : Int))), (25, .d false), (2000, .l (.brk 0) ⟨fr 66 g5 [(1, (.ptr 0 0))], [bG a1]⟩), (2002, .l .ret ⟨fr 66 g6 [(2, (vb true))], y6⟩), (6000, .d true)] (apc (lg a1.sorts eStr 1) (apc (cv h1) (apc (lg a1.prods eProd 7) (apc (cv h2) (apc (lg a1.forbid eForb 3) (apc (cv h3) (apc (lg a1.follow eFoll 5) (apc (cv h4) (apc q8 (apc q9 (apc ((okT_of rfl (abl_cons rfl rfl)) : okT 1 [bG a1] = true) (apc (e6 : evH prg 1 [1, 4] ir9_l0 (L9_0_s a1 0) = some (.ret, ⟨fr 66 g6 [(2, (vb true))], y6⟩)) apn)))))))))))) rfl (by kernel_rfl)
      | k1 =>
       obtain ⟨g6, e6⟩ := L9_0_run a1 0 _ h6
       rw [← sj h]
       exact fpr (n := 30) [(7, .v (i6 (a1.sorts.length : Int))), (8, .d false), (12, .v (i6 (a1.prods.length : Int))), (13, .d false), (18, .v (i6 (a1.forbid.length : Int))), (19, .d false), (24, .v (i6 (a1.follow.length : Int))), (25, .d false), (2000, .l (.brk 0) ⟨fr 66 g5 [(1, (.ptr 0 0))], [bG a1]⟩), (2002, .l (.brk 2) ⟨fr 66 g6 [(1, (.ptr 0 0))], [bG a1]⟩), (6000, .d true)] (apc (lg a1.sorts eStr 1) (apc (cv h1) (apc (lg a1.prods eProd 7) (apc (cv h2) (apc (lg a1.forbid eForb 3) (apc (cv h3) (apc (lg a1.follow eFoll 5) (apc (cv h4) (apc q8 (apc q9 (apc ((okT_of rfl (abl_cons rfl rfl)) : okT 1 [bG a1] = true) (apc (e6 : evH prg 1 [1, 4] ir9_l0 (L9_0_s a1 0) = some ((.brk 2), ⟨fr 66 g6 [(1, (.ptr 0 0))], [bG a1]⟩)) apn)))))))))))) rfl (by kernel_rfl)
inductive E_L11_0 where
  | k0 (x0 : List ProdD)
noncomputable def L11_0 (a1 : GramD) (a3 : Nat) (v1 : Int) (v2 : List ProdD) : Option (E_L11_0 ⊕ (Int × (List ProdD))) :=
  (bif (decide (v1 < ((a3 : Nat) : Int))) then ((getI a1.prods v1).bind fun x2 => (bif (nilOk x2.right.length 48) then ((ixN a3 v1).bind fun x4 => ((v2[x4]?).bind fun x5 => (some (.inr ((IntKind.wrap .i64 (v1 + 1)), (v2.set x4 (⟨x5.left, x2.right, x5.cons, x5.role, x5.prefer, x5.avoid, x5.frm⟩ : ProdD))))))) else none)) else (some (.inl (.k0 v2))))
def L11_0_s (a1 : GramD) (a2 : Nat) (a3 : Nat) (v1 : Int) (v2 : List ProdD) : St := ⟨fr 42 ug [(1, (.ptr 0 0)), (2, (.ptr 5 0)), (3, (.ptr 10 0)), (4, (i6 v1))], [bG a1, .row 9 1 0 (ra eStr []), .row 46 7 0 (ra eProd []), .row 78 3 0 (ra eForb []), .row 80 5 0 (ra eFoll []), .cells 27 [(.sl 1 0 1 0 0), (.sl 2 0 7 0 0), (i6 0), (.sl 3 0 3 0 0), (.sl 4 0 5 0 0)], .row 9 1 0 (ra eStr []), .row 46 7 0 (ra eProd []), .row 78 3 0 (ra eForb []), .row 80 5 0 (ra eFoll []), .cells 27 [(.sl 11 0 1 0 a2), (.sl 12 0 7 0 a3), (i6 a1.start), (.p (.lst 3 (a1.forbid.map eForb))), (.p (.lst 5 (a1.follow.map eFoll)))], .row 9 1 0 (ra eStr a1.sorts), .row 46 7 0 (ra eProd v2)]⟩
def L11_0_x (a1 : GramD) (a2 : Nat) (a3 : Nat) (e : E_L11_0) (r : Option (Out × St)) : Prop := match e with | .k0 x0 => ∃ g, r = some ((.brk 0), ⟨fr 42 g [(1, (.ptr 0 0)), (2, (.ptr 5 0)), (3, (.ptr 10 0))], [bG a1, .row 9 1 0 (ra eStr []), .row 46 7 0 (ra eProd []), .row 78 3 0 (ra eForb []), .row 80 5 0 (ra eFoll []), .cells 27 [(.sl 1 0 1 0 0), (.sl 2 0 7 0 0), (i6 0), (.sl 3 0 3 0 0), (.sl 4 0 5 0 0)], .row 9 1 0 (ra eStr []), .row 46 7 0 (ra eProd []), .row 78 3 0 (ra eForb []), .row 80 5 0 (ra eFoll []), .cells 27 [(.sl 11 0 1 0 a2), (.sl 12 0 7 0 a3), (i6 a1.start), (.p (.lst 3 (a1.forbid.map eForb))), (.p (.lst 5 (a1.follow.map eFoll)))], .row 9 1 0 (ra eStr a1.sorts), .row 46 7 0 (ra eProd x0)]⟩)
abbrev L11_0_d0 (a1 : GramD) (a2 : Nat) (a3 : Nat) (v2 : List ProdD) (x4 : Nat) (x5 : ProdD) (x2 : ProdD) : List AB := [bG a1, .row 9 1 0 (ra eStr []), .row 46 7 0 (ra eProd []), .row 78 3 0 (ra eForb []), .row 80 5 0 (ra eFoll []), .cells 27 [(.sl 1 0 1 0 0), (.sl 2 0 7 0 0), (i6 0), (.sl 3 0 3 0 0), (.sl 4 0 5 0 0)], .row 9 1 0 (ra eStr []), .row 46 7 0 (ra eProd []), .row 78 3 0 (ra eForb []), .row 80 5 0 (ra eFoll []), .cells 27 [(.sl 11 0 1 0 a2), (.sl 12 0 7 0 a3), (i6 a1.start), (.p (.lst 3 (a1.forbid.map eForb))), (.p (.lst 5 (a1.follow.map eFoll)))], .row 9 1 0 (ra eStr a1.sorts), .row 46 7 0 ((ra eProd v2).set x4 [(i6 x5.left), (.sl 13 0 6 0 x2.right.length), (vs x5.cons), (i6 x5.role), (vb x5.prefer), (vb x5.avoid), (i6 x5.frm)]), .row 68 6 0 (ra eSym x2.right)]
abbrev L11_0_d1 (a1 : GramD) (a2 : Nat) (a3 : Nat) (v2 : List ProdD) (x4 : Nat) (x5 : ProdD) (x2 : ProdD) : List AB := [bG a1, .row 9 1 0 (ra eStr []), .row 46 7 0 (ra eProd []), .row 78 3 0 (ra eForb []), .row 80 5 0 (ra eFoll []), .cells 27 [(.sl 1 0 1 0 0), (.sl 2 0 7 0 0), (i6 0), (.sl 3 0 3 0 0), (.sl 4 0 5 0 0)], .row 9 1 0 (ra eStr []), .row 46 7 0 (ra eProd []), .row 78 3 0 (ra eForb []), .row 80 5 0 (ra eFoll []), .cells 27 [(.sl 11 0 1 0 a2), (.sl 12 0 7 0 a3), (i6 a1.start), (.p (.lst 3 (a1.forbid.map eForb))), (.p (.lst 5 (a1.follow.map eFoll)))], .row 9 1 0 (ra eStr a1.sorts), .row 46 7 0 (ra eProd (v2.set x4 (⟨x5.left, x2.right, x5.cons, x5.role, x5.prefer, x5.avoid, x5.frm⟩ : ProdD)))]
theorem L11_0_ok (a1 : GramD) (a2 : Nat) (a3 : Nat) (v1 : Int) (v2 : List ProdD) {r : E_L11_0 ⊕ (Int × (List ProdD))} (h : L11_0 a1 a3 v1 v2 = some r) : OkR (fun e => L11_0_x a1 a2 a3 e (evH prg 13 [1, 2, 3, 4] ir11_l0 (L11_0_s a1 a2 a3 v1 v2))) (fun s => evH prg 13 [1, 2, 3, 4] ir11_l0 (L11_0_s a1 a2 a3 v1 v2) = evH prg 13 [1, 2, 3, 4] ir11_l0 (L11_0_s a1 a2 a3 s.1 s.2)) r := by
 unfold L11_0 at h
 refine bi h (fun h1 h => ?_) fun h1 h => ?_
 ·
  refine bn h fun x2 h2 h => ?_
  refine bi h (fun h3 h => ?_) fun h3 h => ?_
  ·
   refine bn h fun x4 h4 h => ?_
   refine bn h fun x5 h5 h => ?_
   rw [← sj h]
   exact rnd (n := 30) [(18, .d true), (27, .v (.ro (eProd x2))), (30, .r (.sl 13 0 6 0 x2.right.length) [.row 68 6 0 (ra eSym x2.right)]), (31, .v (.rp 12 0 7 x4 0)), (1032, .r ud (L11_0_d0 a1 a2 a3 v2 x4 x5 x2)), (6000, .d true), (6001, .r ud (L11_0_d1 a1 a2 a3 v2 x4 x5 x2))] (apc (cv h1) (apc (ig eProd 7 .i64 h2) (apc ((apN_l (e := eSym) (news := x2.right) rows_l rfl h3) : apN 68 6 48 (.p (.lst 6 (x2.right.map eSym))) 13 = some ((.sl 13 0 6 0 x2.right.length), [.row 68 6 0 (ra eSym x2.right)])) (apc ((idx_sl h4) : idxA 7 (.sl 12 0 7 0 a3) (i6 v1) = some (.rp 12 0 7 x4 0)) (apc (⟨st_pend (e := eProd) (xs := v2) rfl h5 rfl rfl (Nat.le_of_ble_eq_true rfl) rfl, rfl⟩ : stA [bG a1, .row 9 1 0 (ra eStr []), .row 46 7 0 (ra eProd []), .row 78 3 0 (ra eForb []), .row 80 5 0 (ra eFoll []), .cells 27 [(.sl 1 0 1 0 0), (.sl 2 0 7 0 0), (i6 0), (.sl 3 0 3 0 0), (.sl 4 0 5 0 0)], .row 9 1 0 (ra eStr []), .row 46 7 0 (ra eProd []), .row 78 3 0 (ra eForb []), .row 80 5 0 (ra eFoll []), .cells 27 [(.sl 11 0 1 0 a2), (.sl 12 0 7 0 a3), (i6 a1.start), (.p (.lst 3 (a1.forbid.map eForb))), (.p (.lst 5 (a1.follow.map eFoll)))], .row 9 1 0 (ra eStr a1.sorts), .row 46 7 0 (ra eProd v2), .row 68 6 0 (ra eSym x2.right)] 1 (.rp 12 0 7 x4 1) (.sl 13 0 6 0 x2.right.length) = some (L11_0_d0 a1 a2 a3 v2 x4 x5 x2) ∧ ud = ud) (apc ((frz_of rfl (frz_same rfl (frz_same abl_row (frz_same abl_row (frz_same abl_row (frz_same abl_row (frz_same rfl (frz_same abl_row (frz_same abl_row (frz_same abl_row (frz_same abl_row (frz_same rfl (frz_same abl_row (frz_con (frz_row (e := eProd) (xs := v2) (w := (⟨x5.left, x2.right, x5.cons, x5.role, x5.prefer, x5.avoid, x5.frm⟩ : ProdD)) (fzc_p (fzc_s rfl (purP_all (e := eSym) (xs := x2.right) rfl) (fzc_p (fzc_p (fzc_p (fzc_p (fzc_p fzc_nil)))))))) frz_nil)))))))))))))) : frzT 13 (L11_0_d0 a1 a2 a3 v2 x4 x5 x2) = some (L11_0_d1 a1 a2 a3 v2 x4 x5 x2)) apn)))))) (by kernel_rfl)
  ·
   cases h
 ·
  rw [← sj h]
  exact xbrk (n := 30) [(18, .d false), (6000, .d true)] (apc (cv h1) apn) (by kernel_rfl)
theorem L11_0_run (a1 : GramD) (a2 : Nat) (a3 : Nat) (s0 : Int × (List ProdD)) (e : E_L11_0) (h : runL (fun s => L11_0 a1 a3 s.1 s.2) s0 = some e) : L11_0_x a1 a2 a3 e (evH prg 13 [1, 2, 3, 4] ir11_l0 (L11_0_s a1 a2 a3 s0.1 s0.2)) := by
  have q := @loop_sound' (Int × (List ProdD)) E_L11_0 (fun s => L11_0 a1 a3 s.1 s.2) (fun s => evH prg 13 [1, 2, 3, 4] ir11_l0 (L11_0_s a1 a2 a3 s.1 s.2)) (L11_0_x a1 a2 a3) (fun s r h => L11_0_ok a1 a2 a3 s.1 s.2 h) s0 e h
  exact q
inductive R_F11 where
  | k0 (x0 : List ByteArray) (x1 : List ProdD) (x2 : Int) (x3 : List ForbD) (x4 : List FollD)
def F11_v (a1 : GramD) (r : R_F11) : AV := match r with | .k0 x0 x1 x2 x3 x4 => (.agg [(.p (.lst 1 (x0.map eStr))), (.p (.lst 7 (x1.map eProd))), (i6 x2), (.p (.lst 3 (x3.map eForb))), (.p (.lst 5 (x4.map eFoll)))])
noncomputable def F11 (a1 : GramD) : Option R_F11 :=
  (bif (nilOk a1.sorts.length 16) then (bif (nilOk a1.prods.length 72) then ((runL (fun s => L11_0 a1 a1.prods.length s.1 s.2) (0, a1.prods)).bind fun r3 => match r3 with | .k0 x3_0 => (bif (nilOk a1.forbid.length 24) then (bif (nilOk a1.follow.length 40) then (bif (decide (a1.prods.length ≤ x3_0.length)) then (some (.k0 a1.sorts (x3_0.take a1.prods.length) a1.start a1.forbid a1.follow)) else none) else none) else none)) else none) else none)
abbrev F11_d0 (a1 : GramD) : List AB := [bG a1, .row 9 1 0 (ra eStr []), .row 46 7 0 (ra eProd []), .row 78 3 0 (ra eForb []), .row 80 5 0 (ra eFoll []), .cells 27 [(.sl 1 0 1 0 0), (.sl 2 0 7 0 0), (i6 0), (.sl 3 0 3 0 0), (.sl 4 0 5 0 0)], .row 9 1 0 (ra eStr []), .row 46 7 0 (ra eProd []), .row 78 3 0 (ra eForb []), .row 80 5 0 (ra eFoll []), bG a1]
abbrev F11_d1 (a1 : GramD) : List AB := [bG a1, .row 9 1 0 (ra eStr []), .row 46 7 0 (ra eProd []), .row 78 3 0 (ra eForb []), .row 80 5 0 (ra eFoll []), .cells 27 [(.sl 1 0 1 0 0), (.sl 2 0 7 0 0), (i6 0), (.sl 3 0 3 0 0), (.sl 4 0 5 0 0)], .row 9 1 0 (ra eStr []), .row 46 7 0 (ra eProd []), .row 78 3 0 (ra eForb []), .row 80 5 0 (ra eFoll []), bG a1, .row 9 1 0 (ra eStr a1.sorts)]
abbrev F11_d2 (a1 : GramD) : List AB := [bG a1, .row 9 1 0 (ra eStr []), .row 46 7 0 (ra eProd []), .row 78 3 0 (ra eForb []), .row 80 5 0 (ra eFoll []), .cells 27 [(.sl 1 0 1 0 0), (.sl 2 0 7 0 0), (i6 0), (.sl 3 0 3 0 0), (.sl 4 0 5 0 0)], .row 9 1 0 (ra eStr []), .row 46 7 0 (ra eProd []), .row 78 3 0 (ra eForb []), .row 80 5 0 (ra eFoll []), .cells 27 [(.sl 11 0 1 0 a1.sorts.length), (.p (.lst 7 (a1.prods.map eProd))), (i6 a1.start), (.p (.lst 3 (a1.forbid.map eForb))), (.p (.lst 5 (a1.follow.map eFoll)))], .row 9 1 0 (ra eStr a1.sorts)]
abbrev F11_d3 (a1 : GramD) : List AB := [bG a1, .row 9 1 0 (ra eStr []), .row 46 7 0 (ra eProd []), .row 78 3 0 (ra eForb []), .row 80 5 0 (ra eFoll []), .cells 27 [(.sl 1 0 1 0 0), (.sl 2 0 7 0 0), (i6 0), (.sl 3 0 3 0 0), (.sl 4 0 5 0 0)], .row 9 1 0 (ra eStr []), .row 46 7 0 (ra eProd []), .row 78 3 0 (ra eForb []), .row 80 5 0 (ra eFoll []), .cells 27 [(.sl 11 0 1 0 a1.sorts.length), (.p (.lst 7 (a1.prods.map eProd))), (i6 a1.start), (.p (.lst 3 (a1.forbid.map eForb))), (.p (.lst 5 (a1.follow.map eFoll)))], .row 9 1 0 (ra eStr a1.sorts), .row 46 7 0 (ra eProd a1.prods)]
abbrev F11_d4 (g3 : Nat → AV) (a1 : GramD) (x3_0 : List ProdD) : St := ⟨fr 42 g3 [(1, (.ptr 0 0)), (2, (.ptr 5 0)), (3, (.ptr 10 0))], [bG a1, .row 9 1 0 (ra eStr []), .row 46 7 0 (ra eProd []), .row 78 3 0 (ra eForb []), .row 80 5 0 (ra eFoll []), .cells 27 [(.sl 1 0 1 0 0), (.sl 2 0 7 0 0), (i6 0), (.sl 3 0 3 0 0), (.sl 4 0 5 0 0)], .row 9 1 0 (ra eStr []), .row 46 7 0 (ra eProd []), .row 78 3 0 (ra eForb []), .row 80 5 0 (ra eFoll []), .cells 27 [(.sl 11 0 1 0 a1.sorts.length), (.sl 12 0 7 0 a1.prods.length), (i6 a1.start), (.p (.lst 3 (a1.forbid.map eForb))), (.p (.lst 5 (a1.follow.map eFoll)))], .row 9 1 0 (ra eStr a1.sorts), .row 46 7 0 (ra eProd x3_0)]⟩
abbrev F11_d5 (a1 : GramD) (x3_0 : List ProdD) : List AB := [bG a1, .row 9 1 0 (ra eStr []), .row 46 7 0 (ra eProd []), .row 78 3 0 (ra eForb []), .row 80 5 0 (ra eFoll []), .cells 27 [(.sl 1 0 1 0 0), (.sl 2 0 7 0 0), (i6 0), (.sl 3 0 3 0 0), (.sl 4 0 5 0 0)], .row 9 1 0 (ra eStr []), .row 46 7 0 (ra eProd []), .row 78 3 0 (ra eForb []), .row 80 5 0 (ra eFoll []), .cells 27 [(.sl 11 0 1 0 a1.sorts.length), (.sl 12 0 7 0 a1.prods.length), (i6 a1.start), (.p (.lst 3 (a1.forbid.map eForb))), (.p (.lst 5 (a1.follow.map eFoll)))], .row 9 1 0 (ra eStr a1.sorts), .row 46 7 0 (ra eProd x3_0)]
abbrev F11_d6 (a1 : GramD) (x3_0 : List ProdD) : List AB := [bG a1, .row 9 1 0 (ra eStr []), .row 46 7 0 (ra eProd []), .row 78 3 0 (ra eForb []), .row 80 5 0 (ra eFoll []), .cells 27 [(.sl 1 0 1 0 0), (.sl 2 0 7 0 0), (i6 0), (.sl 3 0 3 0 0), (.sl 4 0 5 0 0)], .row 9 1 0 (ra eStr []), .row 46 7 0 (ra eProd []), .row 78 3 0 (ra eForb []), .row 80 5 0 (ra eFoll []), .cells 27 [(.sl 11 0 1 0 a1.sorts.length), (.sl 12 0 7 0 a1.prods.length), (i6 a1.start), (.p (.lst 3 (a1.forbid.map eForb))), (.p (.lst 5 (a1.follow.map eFoll)))], .row 9 1 0 (ra eStr a1.sorts), .row 46 7 0 (ra eProd x3_0), .row 78 3 0 (ra eForb a1.forbid)]
abbrev F11_d7 (a1 : GramD) (x3_0 : List ProdD) : List AB := [bG a1, .row 9 1 0 (ra eStr []), .row 46 7 0 (ra eProd []), .row 78 3 0 (ra eForb []), .row 80 5 0 (ra eFoll []), .cells 27 [(.sl 1 0 1 0 0), (.sl 2 0 7 0 0), (i6 0), (.sl 3 0 3 0 0), (.sl 4 0 5 0 0)], .row 9 1 0 (ra eStr []), .row 46 7 0 (ra eProd []), .row 78 3 0 (ra eForb []), .row 80 5 0 (ra eFoll []), .cells 27 [(.sl 11 0 1 0 a1.sorts.length), (.sl 12 0 7 0 a1.prods.length), (i6 a1.start), (.sl 13 0 3 0 a1.forbid.length), (.p (.lst 5 (a1.follow.map eFoll)))], .row 9 1 0 (ra eStr a1.sorts), .row 46 7 0 (ra eProd x3_0), .row 78 3 0 (ra eForb a1.forbid)]
abbrev F11_d8 (a1 : GramD) (x3_0 : List ProdD) : List AB := [bG a1, .row 9 1 0 (ra eStr []), .row 46 7 0 (ra eProd []), .row 78 3 0 (ra eForb []), .row 80 5 0 (ra eFoll []), .cells 27 [(.sl 1 0 1 0 0), (.sl 2 0 7 0 0), (i6 0), (.sl 3 0 3 0 0), (.sl 4 0 5 0 0)], .row 9 1 0 (ra eStr []), .row 46 7 0 (ra eProd []), .row 78 3 0 (ra eForb []), .row 80 5 0 (ra eFoll []), .cells 27 [(.sl 11 0 1 0 a1.sorts.length), (.sl 12 0 7 0 a1.prods.length), (i6 a1.start), (.sl 13 0 3 0 a1.forbid.length), (.p (.lst 5 (a1.follow.map eFoll)))], .row 9 1 0 (ra eStr a1.sorts), .row 46 7 0 (ra eProd x3_0), .row 78 3 0 (ra eForb a1.forbid), .row 80 5 0 (ra eFoll a1.follow)]
abbrev F11_c0 (a1 : GramD) : List (Nat × Hint) := [(8, .r (.sl 11 0 1 0 a1.sorts.length) (F11_d1 a1))]
abbrev F11_c1 (a1 : GramD) : List (Nat × Hint) := [(12, .r (.sl 12 0 7 0 a1.prods.length) (F11_d3 a1))]
abbrev F11_c2 (g3 : Nat → AV) (a1 : GramD) (x3_0 : List ProdD) : List (Nat × Hint) := [(2000, .l (.brk 0) (F11_d4 g3 a1 x3_0))]
abbrev F11_c3 (a1 : GramD) (x3_0 : List ProdD) : List (Nat × Hint) := [(35, .r (.sl 13 0 3 0 a1.forbid.length) (F11_d6 a1 x3_0))]
abbrev F11_c4 (a1 : GramD) (x3_0 : List ProdD) : List (Nat × Hint) := [(39, .r (.sl 14 0 5 0 a1.follow.length) (F11_d8 a1 x3_0))]
theorem F11_ok (a1 : GramD) {r : R_F11} (h : F11 a1 = some r) : PR1 prg 11 [(aG a1)] (F11_v a1 r) := by
 unfold F11 at h
 refine bi h (fun h1 h => ?_) fun h1 h => ?_
 ·
  have q0 := ((ap_nil (h := (F11_d0 a1)) (e := eStr) (news := a1.sorts) rows_l rfl h1) : appA (F11_d0 a1) 9 1 16 (.p (.val (.slice .none 0 0))) (.p (.lst 1 (a1.sorts.map eStr))) = some ((.sl 11 0 1 0 a1.sorts.length), (F11_d1 a1)))
  refine bi h (fun h2 h => ?_) fun h2 h => ?_
  ·
   have q1 := ((ap_nil (h := (F11_d2 a1)) (e := eProd) (news := a1.prods) rows_l rfl h2) : appA (F11_d2 a1) 46 7 72 (.p (.val (.slice .none 0 0))) (.p (.lst 7 (a1.prods.map eProd))) = some ((.sl 12 0 7 0 a1.prods.length), (F11_d3 a1)))
   refine bn h fun r3 h3 h => ?_
   cases r3 with
   | k0 x3_0 =>
    obtain ⟨g3, e3⟩ := L11_0_run a1 a1.sorts.length a1.prods.length (0, a1.prods) _ h3
    have q2 := ((okT_of rfl (abl_cons rfl (abl_cons abl_row (abl_cons abl_row (abl_cons abl_row (abl_cons abl_row (abl_cons rfl (abl_cons abl_row (abl_cons abl_row (abl_cons abl_row (abl_cons abl_row (abl_cons rfl (abl_cons abl_row (abl_cons abl_row rfl)))))))))))))) : okT 13 [bG a1, .row 9 1 0 (ra eStr []), .row 46 7 0 (ra eProd []), .row 78 3 0 (ra eForb []), .row 80 5 0 (ra eFoll []), .cells 27 [(.sl 1 0 1 0 0), (.sl 2 0 7 0 0), (i6 0), (.sl 3 0 3 0 0), (.sl 4 0 5 0 0)], .row 9 1 0 (ra eStr []), .row 46 7 0 (ra eProd []), .row 78 3 0 (ra eForb []), .row 80 5 0 (ra eFoll []), .cells 27 [(.sl 11 0 1 0 a1.sorts.length), (.sl 12 0 7 0 a1.prods.length), (i6 a1.start), (.p (.lst 3 (a1.forbid.map eForb))), (.p (.lst 5 (a1.follow.map eFoll)))], .row 9 1 0 (ra eStr a1.sorts), .row 46 7 0 (ra eProd a1.prods)] = true)
    have q3 := (e3 : evH prg 13 [1, 2, 3, 4] ir11_l0 (L11_0_s a1 a1.sorts.length a1.prods.length 0 a1.prods) = some ((.brk 0), (F11_d4 g3 a1 x3_0)))
    refine bi h (fun h4 h => ?_) fun h4 h => ?_
    ·
     have q4 := ((ap_nil (h := (F11_d5 a1 x3_0)) (e := eForb) (news := a1.forbid) rows_l rfl h4) : appA (F11_d5 a1 x3_0) 78 3 24 (.p (.val (.slice .none 0 0))) (.p (.lst 3 (a1.forbid.map eForb))) = some ((.sl 13 0 3 0 a1.forbid.length), (F11_d6 a1 x3_0)))
     refine bi h (fun h5 h => ?_) fun h5 h => ?_
     ·
      have q5 := ((ap_nil (h := (F11_d7 a1 x3_0)) (e := eFoll) (news := a1.follow) rows_l rfl h5) : appA (F11_d7 a1 x3_0) 80 5 40 (.p (.val (.slice .none 0 0))) (.p (.lst 5 (a1.follow.map eFoll))) = some ((.sl 14 0 5 0 a1.follow.length), (F11_d8 a1 x3_0)))
      refine bi h (fun h6 h => ?_) fun h6 h => ?_
      ·
       rw [← sj h]
       exact fpo (n := 30) (v := (.agg [(.sl 11 0 1 0 a1.sorts.length), (.sl 12 0 7 0 a1.prods.length), (i6 a1.start), (.sl 13 0 3 0 a1.forbid.length), (.sl 14 0 5 0 a1.follow.length)])) (h' := [bG a1, .row 9 1 0 (ra eStr []), .row 46 7 0 (ra eProd []), .row 78 3 0 (ra eForb []), .row 80 5 0 (ra eFoll []), .cells 27 [(.sl 11 0 1 0 a1.sorts.length), (.sl 12 0 7 0 a1.prods.length), (i6 a1.start), (.sl 13 0 3 0 a1.forbid.length), (.sl 14 0 5 0 a1.follow.length)], .row 9 1 0 (ra eStr []), .row 46 7 0 (ra eProd []), .row 78 3 0 (ra eForb []), .row 80 5 0 (ra eFoll []), .cells 27 [(.sl 11 0 1 0 a1.sorts.length), (.sl 12 0 7 0 a1.prods.length), (i6 a1.start), (.sl 13 0 3 0 a1.forbid.length), (.sl 14 0 5 0 a1.follow.length)], .row 9 1 0 (ra eStr a1.sorts), .row 46 7 0 (ra eProd x3_0), .row 78 3 0 (ra eForb a1.forbid), .row 80 5 0 (ra eFoll a1.follow)]) ((F11_c0 a1) ++ ((F11_c1 a1) ++ ((F11_c2 g3 a1 x3_0) ++ ((F11_c3 a1 x3_0) ++ ((F11_c4 a1 x3_0) ++ [(6000, .d true)]))))) (apc q0 (apc q1 (apc q2 (apc q3 (apc q4 (apc q5 apn)))))) (purA_agg (purAs_cons (purA_all (e := eStr) (xs := a1.sorts) rfl) (purAs_cons (purA_sl (e := eProd) rfl h6) (purAs_cons rfl (purAs_cons (purA_all (e := eForb) (xs := a1.forbid) rfl) (purAs_cons (purA_all (e := eFoll) (xs := a1.follow) rfl) purAs_nil)))))) (by kernel_rfl)
      ·
       cases h
     ·
      cases h
    ·
     cases h
  ·
   cases h
 ·
  cases h
def F31_v (a1 : GramD) (x0 : Bool) : AV := (vb x0)
noncomputable def F31 (a1 : GramD) : Option Bool :=
  (bif (decide (a1.start ≥ 0)) then (some (decide (a1.start < (a1.sorts.length : Int)))) else (some false))
theorem F31_ok (a1 : GramD) {r : Bool} (h : F31 a1 = some r) : PR1 prg 31 [(aG a1), (i6 a1.start)] (F31_v a1 r) := by
 unfold F31 at h
 refine bi h (fun h1 h => ?_) fun h1 h => ?_
 ·
  rw [← sj h]
  exact fpr (n := 30) [(6, .d true), (11, .v (i6 (a1.sorts.length : Int)))] (apc (cv h1) (apc (lg a1.sorts eStr 1) apn)) rfl (by kernel_rfl)
 ·
  rw [← sj h]
  exact fpr (n := 30) [(6, .d false)] (apc (cv h1) apn) rfl (by kernel_rfl)
inductive E_L12_5_2 where
  | k0
  | k1
noncomputable def L12_5_2 (a1 : Int) (a2 : GramD) (v1 : Int) : Option (E_L12_5_2 ⊕ (Int)) :=
  (bif (decide (v1 < a1)) then ((getI a2.sorts v1).bind fun x2 => ((getI a2.sorts a1).bind fun x3 => (bif (x2.toList == x3.toList) then (some (.inl (.k0))) else (some (.inr ((IntKind.wrap .i64 (v1 + 1)))))))) else (some (.inl (.k1))))
def L12_5_2_s (a1 : Int) (a2 : GramD) (v1 : Int) : St := ⟨fr 160 ug [(1, (.ptr 0 0)), (3, (i6 a1)), (4, (i6 v1))], [bG a2]⟩
def L12_5_2_x (a1 : Int) (a2 : GramD) (e : E_L12_5_2) (r : Option (Out × St)) : Prop := match e with | .k0 => ∃ g y, r = some (.ret, ⟨fr 160 g [(2, (i6 160))], y⟩) | .k1 => ∃ g, r = some ((.brk 2), ⟨fr 160 g [(1, (.ptr 0 0)), (3, (i6 a1))], [bG a2]⟩)
theorem L12_5_2_ok (a1 : Int) (a2 : GramD) (v1 : Int) {r : E_L12_5_2 ⊕ (Int)} (h : L12_5_2 a1 a2 v1 = some r) : OkR (fun e => L12_5_2_x a1 a2 e (evH prg 1 [1, 3, 4] ir12_l5 (L12_5_2_s a1 a2 v1))) (fun s => evH prg 1 [1, 3, 4] ir12_l5 (L12_5_2_s a1 a2 v1) = evH prg 1 [1, 3, 4] ir12_l5 (L12_5_2_s a1 a2 s)) r := by
 unfold L12_5_2 at h
 refine bi h (fun h1 h => ?_) fun h1 h => ?_
 ·
  refine bn h fun x2 h2 h => ?_
  refine bn h fun x3 h3 h => ?_
  refine bi h (fun h4 h => ?_) fun h4 h => ?_
  ·
   rw [← sj h]
   exact xretY (n := 30) [(57, .d true), (63, .v (.ro [.val (.string x2)])), (68, .v (.ro [.val (.string x3)])), (70, .d true), (6000, .d true)] (apc (cv h1) (apc (ig eStr 1 .i64 h2) (apc (ig eStr 1 .i64 h3) (apc (cv h4) apn)))) (by kernel_rfl)
  ·
   rw [← sj h]
   exact rnd (n := 30) [(57, .d true), (63, .v (.ro [.val (.string x2)])), (68, .v (.ro [.val (.string x3)])), (70, .d false), (6000, .d true)] (apc (cv h1) (apc (ig eStr 1 .i64 h2) (apc (ig eStr 1 .i64 h3) (apc (cv h4) (apc ((okT_of rfl (abl_cons rfl rfl)) : okT 1 [bG a2] = true) apn))))) (by kernel_rfl)
 ·
  rw [← sj h]
  exact xbrk (n := 30) [(57, .d false), (6000, .d true)] (apc (cv h1) apn) (by kernel_rfl)
theorem L12_5_2_run (a1 : Int) (a2 : GramD) (s0 : Int) (e : E_L12_5_2) (h : runL (fun s => L12_5_2 a1 a2 s) s0 = some e) : L12_5_2_x a1 a2 e (evH prg 1 [1, 3, 4] ir12_l5 (L12_5_2_s a1 a2 s0)) := by
  have q := @loop_sound' (Int) E_L12_5_2 (fun s => L12_5_2 a1 a2 s) (fun s => evH prg 1 [1, 3, 4] ir12_l5 (L12_5_2_s a1 a2 s)) (L12_5_2_x a1 a2) (fun s r h => L12_5_2_ok a1 a2 s h) s0 e h
  exact q
inductive E_L12_6 where
  | k0
  | k1
noncomputable def L12_6 (a1 : GramD) (v1 : Int) : Option (E_L12_6 ⊕ (Int)) :=
  (bif (decide (v1 < (a1.sorts.length : Int))) then ((getI a1.sorts v1).bind fun x2 => (bif (x2.toList == (⟨([] : List UInt8).toArray⟩ : ByteArray).toList) then (some (.inl (.k0))) else (bif (decide ((x2.size : Int) > 1000)) then (some (.inl (.k0))) else ((runL (fun s => L12_5_2 v1 a1 s) 0).bind fun r5 => match r5 with | .k0 => (some (.inl (.k0))) | .k1 => (some (.inr ((IntKind.wrap .i64 (v1 + 1))))))))) else (some (.inl (.k1))))
def L12_6_s (a1 : GramD) (v1 : Int) : St := ⟨fr 160 ug [(1, (.ptr 0 0)), (3, (i6 v1))], [bG a1]⟩
def L12_6_x (a1 : GramD) (e : E_L12_6) (r : Option (Out × St)) : Prop := match e with | .k0 => ∃ g y, r = some (.ret, ⟨fr 160 g [(2, (i6 160))], y⟩) | .k1 => ∃ g, r = some ((.brk 0), ⟨fr 160 g [(1, (.ptr 0 0))], [bG a1]⟩)
abbrev L12_6_d0 (g5 : Nat → AV) (v1 : Int) (a1 : GramD) : St := ⟨fr 160 g5 [(1, (.ptr 0 0)), (3, (i6 v1))], [bG a1]⟩
theorem L12_6_ok (a1 : GramD) (v1 : Int) {r : E_L12_6 ⊕ (Int)} (h : L12_6 a1 v1 = some r) : OkR (fun e => L12_6_x a1 e (evH prg 1 [1, 3] ir12_l6 (L12_6_s a1 v1))) (fun s => evH prg 1 [1, 3] ir12_l6 (L12_6_s a1 v1) = evH prg 1 [1, 3] ir12_l6 (L12_6_s a1 s)) r := by
 unfold L12_6 at h
 refine bi h (fun h1 h => ?_) fun h1 h => ?_
 ·
  refine bn h fun x2 h2 h => ?_
  refine bi h (fun h3 h => ?_) fun h3 h => ?_
  ·
   rw [← sj h]
   exact xretY (n := 30) [(36, .v (i6 (a1.sorts.length : Int))), (37, .d true), (43, .v (.ro [.val (.string x2)])), (45, .d true), (6000, .d true)] (apc (lg a1.sorts eStr 1) (apc (cv h1) (apc (ig eStr 1 .i64 h2) (apc (cv h3) apn)))) (by kernel_rfl)
  ·
   refine bi h (fun h4 h => ?_) fun h4 h => ?_
   ·
    rw [← sj h]
    exact xretY (n := 30) [(36, .v (i6 (a1.sorts.length : Int))), (37, .d true), (43, .v (.ro [.val (.string x2)])), (45, .d false), (50, .v (.ro [.val (.string x2)])), (53, .d true), (6000, .d true)] (apc (lg a1.sorts eStr 1) (apc (cv h1) (apc (ig eStr 1 .i64 h2) (apc (cv h3) (apc (ig eStr 1 .i64 h2) (apc (cv h4) apn)))))) (by kernel_rfl)
   ·
    refine bn h fun r5 h5 h => ?_
    cases r5 with
    | k0 =>
     obtain ⟨g5, y5, e5⟩ := L12_5_2_run v1 a1 0 _ h5
     rw [← sj h]
     exact xretY (n := 30) [(36, .v (i6 (a1.sorts.length : Int))), (37, .d true), (43, .v (.ro [.val (.string x2)])), (45, .d false), (50, .v (.ro [.val (.string x2)])), (53, .d false), (2002, .l .ret ⟨fr 160 g5 [(2, (i6 160))], y5⟩), (6000, .d true)] (apc (lg a1.sorts eStr 1) (apc (cv h1) (apc (ig eStr 1 .i64 h2) (apc (cv h3) (apc (ig eStr 1 .i64 h2) (apc (cv h4) (apc ((okT_of rfl (abl_cons rfl rfl)) : okT 1 [bG a1] = true) (apc (e5 : evH prg 1 [1, 3, 4] ir12_l5 (L12_5_2_s v1 a1 0) = some (.ret, ⟨fr 160 g5 [(2, (i6 160))], y5⟩)) apn)))))))) (by kernel_rfl)
    | k1 =>
     obtain ⟨g5, e5⟩ := L12_5_2_run v1 a1 0 _ h5
     rw [← sj h]
     exact rnd (n := 30) [(36, .v (i6 (a1.sorts.length : Int))), (37, .d true), (43, .v (.ro [.val (.string x2)])), (45, .d false), (50, .v (.ro [.val (.string x2)])), (53, .d false), (2002, .l (.brk 2) (L12_6_d0 g5 v1 a1)), (6000, .d true)] (apc (lg a1.sorts eStr 1) (apc (cv h1) (apc (ig eStr 1 .i64 h2) (apc (cv h3) (apc (ig eStr 1 .i64 h2) (apc (cv h4) (apc ((okT_of rfl (abl_cons rfl rfl)) : okT 1 [bG a1] = true) (apc (e5 : evH prg 1 [1, 3, 4] ir12_l5 (L12_5_2_s v1 a1 0) = some ((.brk 2), (L12_6_d0 g5 v1 a1))) (apc ((okT_of rfl (abl_cons rfl rfl)) : okT 1 [bG a1] = true) apn))))))))) (by kernel_rfl)
 ·
  rw [← sj h]
  exact xbrk (n := 30) [(36, .v (i6 (a1.sorts.length : Int))), (37, .d false), (6000, .d true)] (apc (lg a1.sorts eStr 1) (apc (cv h1) apn)) (by kernel_rfl)
theorem L12_6_run (a1 : GramD) (s0 : Int) (e : E_L12_6) (h : runL (fun s => L12_6 a1 s) s0 = some e) : L12_6_x a1 e (evH prg 1 [1, 3] ir12_l6 (L12_6_s a1 s0)) := by
  have q := @loop_sound' (Int) E_L12_6 (fun s => L12_6 a1 s) (fun s => evH prg 1 [1, 3] ir12_l6 (L12_6_s a1 s)) (L12_6_x a1) (fun s r h => L12_6_ok a1 s h) s0 e h
  exact q
def F31_2_v (a1 : GramD) (a2 : ProdD) (x0 : Bool) : AV := (vb x0)
noncomputable def F31_2 (a1 : GramD) (a2 : ProdD) : Option Bool :=
  (bif (decide (a2.left ≥ 0)) then (some (decide (a2.left < (a1.sorts.length : Int)))) else (some false))
theorem F31_2_ok (a1 : GramD) (a2 : ProdD) {r : Bool} (h : F31_2 a1 a2 = some r) : PR1 prg 31 [(aG a1), (i6 a2.left)] (F31_2_v a1 a2 r) := by
 unfold F31_2 at h
 refine bi h (fun h1 h => ?_) fun h1 h => ?_
 ·
  rw [← sj h]
  exact fpr (n := 30) [(6, .d true), (11, .v (i6 (a1.sorts.length : Int)))] (apc (cv h1) (apc (lg a1.sorts eStr 1) apn)) rfl (by kernel_rfl)
 ·
  rw [← sj h]
  exact fpr (n := 30) [(6, .d false)] (apc (cv h1) apn) rfl (by kernel_rfl)
def F34_v (a1 : SymD) (x0 : Bool) : AV := (vb x0)
noncomputable def F34 (a1 : SymD) : Option Bool :=
  (some ((IntKind.wrap .u64 ((BitVec.ofInt (IntKind.bits .u64) (IntKind.wrap .u64 ((BitVec.ofInt (IntKind.bits .u64) (IntKind.wrap .u64 ((BitVec.ofInt (IntKind.bits .u64) a1.a ||| BitVec.ofInt (IntKind.bits .u64) a1.b).toNat : Int)) ||| BitVec.ofInt (IntKind.bits .u64) a1.c).toNat : Int)) ||| BitVec.ofInt (IntKind.bits .u64) a1.d).toNat : Int)) == 0))
theorem F34_ok (a1 : SymD) {r : Bool} (h : F34 a1 = some r) : PR1 prg 34 [(.agg ((List.take 4 (List.drop 1 (eSym a1))).map .p))] (F34_v a1 r) := by
 unfold F34 at h
 rw [← sj h]
 exact fpr (n := 30) [] apn rfl (by kernel_rfl)
def F31_3_v (a1 : GramD) (a2 : SymD) (x0 : Bool) : AV := (vb x0)
noncomputable def F31_3 (a1 : GramD) (a2 : SymD) : Option Bool :=
  (bif (decide (a2.sort ≥ 0)) then (some (decide (a2.sort < (a1.sorts.length : Int)))) else (some false))
theorem F31_3_ok (a1 : GramD) (a2 : SymD) {r : Bool} (h : F31_3 a1 a2 = some r) : PR1 prg 31 [(aG a1), (i6 a2.sort)] (F31_3_v a1 a2 r) := by
 unfold F31_3 at h
 refine bi h (fun h1 h => ?_) fun h1 h => ?_
 ·
  rw [← sj h]
  exact fpr (n := 30) [(6, .d true), (11, .v (i6 (a1.sorts.length : Int)))] (apc (cv h1) (apc (lg a1.sorts eStr 1) apn)) rfl (by kernel_rfl)
 ·
  rw [← sj h]
  exact fpr (n := 30) [(6, .d false)] (apc (cv h1) apn) rfl (by kernel_rfl)
inductive E_L32_0 where
  | k0
  | k1
noncomputable def L32_0 (a1 : GramD) (a2 : ProdD) (v1 : Int) : Option (E_L32_0 ⊕ (Int)) :=
  (bif (decide (v1 < (a2.right.length : Int))) then ((getI a2.right v1).bind fun x2 => (bif (x2.kind == 0) then ((F34 x2).bind fun x4 => (bif x4 then (some (.inl (.k0))) else (bif (x2.sort != 0) then (some (.inl (.k0))) else (bif (x2.kind == 1) then ((F34 x2).bind fun x8 => (bif x8 then ((F31_3 a1 x2).bind fun x10 => (bif x10 then (bif (a2.role == 11) then (some (.inl (.k0))) else (bif (x2.kind != 0) then (bif (x2.kind != 1) then (some (.inl (.k0))) else (some (.inr ((IntKind.wrap .i64 (v1 + 1)))))) else (some (.inr ((IntKind.wrap .i64 (v1 + 1))))))) else (some (.inl (.k0))))) else (some (.inl (.k0))))) else (bif (x2.kind != 0) then (bif (x2.kind != 1) then (some (.inl (.k0))) else (some (.inr ((IntKind.wrap .i64 (v1 + 1)))))) else (some (.inr ((IntKind.wrap .i64 (v1 + 1)))))))))) else (bif (x2.kind == 1) then ((F34 x2).bind fun x5 => (bif x5 then ((F31_3 a1 x2).bind fun x7 => (bif x7 then (bif (a2.role == 11) then (some (.inl (.k0))) else (bif (x2.kind != 0) then (bif (x2.kind != 1) then (some (.inl (.k0))) else (some (.inr ((IntKind.wrap .i64 (v1 + 1)))))) else (some (.inr ((IntKind.wrap .i64 (v1 + 1))))))) else (some (.inl (.k0))))) else (some (.inl (.k0))))) else (bif (x2.kind != 0) then (bif (x2.kind != 1) then (some (.inl (.k0))) else (some (.inr ((IntKind.wrap .i64 (v1 + 1)))))) else (some (.inr ((IntKind.wrap .i64 (v1 + 1))))))))) else (some (.inl (.k1))))
def L32_0_s (a1 : GramD) (a2 : ProdD) (v1 : Int) : St := ⟨fr 111 ug [(2, (.ptr 0 0)), (3, (.ptr 1 0)), (5, (i6 v1))], [bG a1, bP a2]⟩
def L32_0_x (a1 : GramD) (a2 : ProdD) (e : E_L32_0) (r : Option (Out × St)) : Prop := match e with | .k0 => ∃ g y, r = some (.ret, ⟨fr 111 g [(4, (vb false))], y⟩) | .k1 => ∃ g, r = some ((.brk 0), ⟨fr 111 g [(2, (.ptr 0 0)), (3, (.ptr 1 0))], [bG a1, bP a2]⟩)
abbrev L32_0_d0 (a1 : GramD) (a2 : ProdD) (x2 : SymD) : List AB := [bG a1, bP a2, .cells 68 ((eSym x2).map .p)]
theorem L32_0_ok (a1 : GramD) (a2 : ProdD) (v1 : Int) {r : E_L32_0 ⊕ (Int)} (h : L32_0 a1 a2 v1 = some r) : OkR (fun e => L32_0_x a1 a2 e (evH prg 2 [2, 3, 5] ir32_l0 (L32_0_s a1 a2 v1))) (fun s => evH prg 2 [2, 3, 5] ir32_l0 (L32_0_s a1 a2 v1) = evH prg 2 [2, 3, 5] ir32_l0 (L32_0_s a1 a2 s)) r := by
 unfold L32_0 at h
 refine bi h (fun h1 h => ?_) fun h1 h => ?_
 ·
  refine bn h fun x2 h2 h => ?_
  refine bi h (fun h3 h => ?_) fun h3 h => ?_
  ·
   refine bn h fun x4 h4 h => ?_
   refine bi h (fun h5 h => ?_) fun h5 h => ?_
   ·
    rw [← sj h]
    exact xretY (n := 30) [(60, .v (i6 (a2.right.length : Int))), (61, .d true), (67, .v (.ro (eSym x2))), (71, .d true), (75, .v (vb true)), (6000, .d true)] (apc (lg a2.right eSym 6) (apc (cv h1) (apc (ig eSym 6 .i64 h2) (apc (cv h3) (apc ((((F34_ok x2 h4).cp rfl _).trans (congrArg (fun z => some (vb z)) h5)) : CP prg 34 [(.agg ((List.take 4 (List.drop 1 (eSym x2))).map .p))] (L32_0_d0 a1 a2 x2) = some (vb true)) apn))))) (by kernel_rfl)
   ·
    have q4 := ((((F34_ok x2 h4).cp rfl _).trans (congrArg (fun z => some (vb z)) h5)) : CP prg 34 [(.agg ((List.take 4 (List.drop 1 (eSym x2))).map .p))] (L32_0_d0 a1 a2 x2) = some (vb false))
    refine bi h (fun h6 h => ?_) fun h6 h => ?_
    ·
     rw [← sj h]
     exact xretY (n := 30) [(60, .v (i6 (a2.right.length : Int))), (61, .d true), (67, .v (.ro (eSym x2))), (71, .d true), (75, .v (vb false)), (79, .d true), (6000, .d true)] (apc (lg a2.right eSym 6) (apc (cv h1) (apc (ig eSym 6 .i64 h2) (apc (cv h3) (apc q4 (apc (cv h6) apn)))))) (by kernel_rfl)
    ·
     refine bi h (fun h7 h => ?_) fun h7 h => ?_
     ·
      refine bn h fun x8 h8 h => ?_
      refine bi h (fun h9 h => ?_) fun h9 h => ?_
      ·
       have q7 := ((((F34_ok x2 h8).cp rfl _).trans (congrArg (fun z => some (vb z)) h9)) : CP prg 34 [(.agg ((List.take 4 (List.drop 1 (eSym x2))).map .p))] (L32_0_d0 a1 a2 x2) = some (vb true))
       refine bn h fun x10 h10 h => ?_
       refine bi h (fun h11 h => ?_) fun h11 h => ?_
       ·
        have q8 := ((((F31_3_ok a1 x2 h10).cp rfl _).trans (congrArg (fun z => some (vb z)) h11)) : CP prg 31 [(aG a1), (i6 x2.sort)] (L32_0_d0 a1 a2 x2) = some (vb true))
        refine bi h (fun h12 h => ?_) fun h12 h => ?_
        ·
         rw [← sj h]
         exact xretY (n := 30) [(60, .v (i6 (a2.right.length : Int))), (61, .d true), (67, .v (.ro (eSym x2))), (71, .d true), (75, .v (vb false)), (79, .d false), (84, .d true), (88, .v (vb true)), (94, .v (vb true)), (100, .d true), (6000, .d true)] (apc (lg a2.right eSym 6) (apc (cv h1) (apc (ig eSym 6 .i64 h2) (apc (cv h3) (apc q4 (apc (cv h6) (apc (cv h7) (apc q7 (apc q8 (apc (cv h12) apn)))))))))) (by kernel_rfl)
        ·
         refine bi h (fun h13 h => ?_) fun h13 h => ?_
         ·
          refine bi h (fun h14 h => ?_) fun h14 h => ?_
          ·
           rw [← sj h]
           exact xretY (n := 30) [(60, .v (i6 (a2.right.length : Int))), (61, .d true), (67, .v (.ro (eSym x2))), (71, .d true), (75, .v (vb false)), (79, .d false), (84, .d true), (88, .v (vb true)), (94, .v (vb true)), (100, .d false), (105, .d true), (109, .d true), (6000, .d true)] (apc (lg a2.right eSym 6) (apc (cv h1) (apc (ig eSym 6 .i64 h2) (apc (cv h3) (apc q4 (apc (cv h6) (apc (cv h7) (apc q7 (apc q8 (apc (cv h12) (apc (cv h13) (apc (cv h14) apn)))))))))))) (by kernel_rfl)
          ·
           rw [← sj h]
           exact rnd (n := 30) [(60, .v (i6 (a2.right.length : Int))), (61, .d true), (67, .v (.ro (eSym x2))), (71, .d true), (75, .v (vb false)), (79, .d false), (84, .d true), (88, .v (vb true)), (94, .v (vb true)), (100, .d false), (105, .d true), (109, .d false), (6000, .d true)] (apc (lg a2.right eSym 6) (apc (cv h1) (apc (ig eSym 6 .i64 h2) (apc (cv h3) (apc q4 (apc (cv h6) (apc (cv h7) (apc q7 (apc q8 (apc (cv h12) (apc (cv h13) (apc (cv h14) (apc ((okT_of rfl (abl_cons rfl (abl_cons rfl rfl))) : okT 2 (L32_0_d0 a1 a2 x2) = true) apn))))))))))))) (by kernel_rfl)
         ·
          rw [← sj h]
          exact rnd (n := 30) [(60, .v (i6 (a2.right.length : Int))), (61, .d true), (67, .v (.ro (eSym x2))), (71, .d true), (75, .v (vb false)), (79, .d false), (84, .d true), (88, .v (vb true)), (94, .v (vb true)), (100, .d false), (105, .d false), (6000, .d true)] (apc (lg a2.right eSym 6) (apc (cv h1) (apc (ig eSym 6 .i64 h2) (apc (cv h3) (apc q4 (apc (cv h6) (apc (cv h7) (apc q7 (apc q8 (apc (cv h12) (apc (cv h13) (apc ((okT_of rfl (abl_cons rfl (abl_cons rfl rfl))) : okT 2 (L32_0_d0 a1 a2 x2) = true) apn)))))))))))) (by kernel_rfl)
       ·
        rw [← sj h]
        exact xretY (n := 30) [(60, .v (i6 (a2.right.length : Int))), (61, .d true), (67, .v (.ro (eSym x2))), (71, .d true), (75, .v (vb false)), (79, .d false), (84, .d true), (88, .v (vb true)), (94, .v (vb false)), (6000, .d true)] (apc (lg a2.right eSym 6) (apc (cv h1) (apc (ig eSym 6 .i64 h2) (apc (cv h3) (apc q4 (apc (cv h6) (apc (cv h7) (apc q7 (apc ((((F31_3_ok a1 x2 h10).cp rfl _).trans (congrArg (fun z => some (vb z)) h11)) : CP prg 31 [(aG a1), (i6 x2.sort)] (L32_0_d0 a1 a2 x2) = some (vb false)) apn))))))))) (by kernel_rfl)
      ·
       rw [← sj h]
       exact xretY (n := 30) [(60, .v (i6 (a2.right.length : Int))), (61, .d true), (67, .v (.ro (eSym x2))), (71, .d true), (75, .v (vb false)), (79, .d false), (84, .d true), (88, .v (vb false)), (6000, .d true)] (apc (lg a2.right eSym 6) (apc (cv h1) (apc (ig eSym 6 .i64 h2) (apc (cv h3) (apc q4 (apc (cv h6) (apc (cv h7) (apc ((((F34_ok x2 h8).cp rfl _).trans (congrArg (fun z => some (vb z)) h9)) : CP prg 34 [(.agg ((List.take 4 (List.drop 1 (eSym x2))).map .p))] (L32_0_d0 a1 a2 x2) = some (vb false)) apn)))))))) (by kernel_rfl)
     ·
      refine bi h (fun h8 h => ?_) fun h8 h => ?_
      ·
       refine bi h (fun h9 h => ?_) fun h9 h => ?_
       ·
        rw [← sj h]
        exact xretY (n := 30) [(60, .v (i6 (a2.right.length : Int))), (61, .d true), (67, .v (.ro (eSym x2))), (71, .d true), (75, .v (vb false)), (79, .d false), (84, .d false), (105, .d true), (109, .d true), (6000, .d true)] (apc (lg a2.right eSym 6) (apc (cv h1) (apc (ig eSym 6 .i64 h2) (apc (cv h3) (apc q4 (apc (cv h6) (apc (cv h7) (apc (cv h8) (apc (cv h9) apn))))))))) (by kernel_rfl)
       ·
        rw [← sj h]
        exact rnd (n := 30) [(60, .v (i6 (a2.right.length : Int))), (61, .d true), (67, .v (.ro (eSym x2))), (71, .d true), (75, .v (vb false)), (79, .d false), (84, .d false), (105, .d true), (109, .d false), (6000, .d true)] (apc (lg a2.right eSym 6) (apc (cv h1) (apc (ig eSym 6 .i64 h2) (apc (cv h3) (apc q4 (apc (cv h6) (apc (cv h7) (apc (cv h8) (apc (cv h9) (apc ((okT_of rfl (abl_cons rfl (abl_cons rfl rfl))) : okT 2 (L32_0_d0 a1 a2 x2) = true) apn)))))))))) (by kernel_rfl)
      ·
       rw [← sj h]
       exact rnd (n := 30) [(60, .v (i6 (a2.right.length : Int))), (61, .d true), (67, .v (.ro (eSym x2))), (71, .d true), (75, .v (vb false)), (79, .d false), (84, .d false), (105, .d false), (6000, .d true)] (apc (lg a2.right eSym 6) (apc (cv h1) (apc (ig eSym 6 .i64 h2) (apc (cv h3) (apc q4 (apc (cv h6) (apc (cv h7) (apc (cv h8) (apc ((okT_of rfl (abl_cons rfl (abl_cons rfl rfl))) : okT 2 (L32_0_d0 a1 a2 x2) = true) apn))))))))) (by kernel_rfl)
  ·
   refine bi h (fun h4 h => ?_) fun h4 h => ?_
   ·
    refine bn h fun x5 h5 h => ?_
    refine bi h (fun h6 h => ?_) fun h6 h => ?_
    ·
     have q5 := ((((F34_ok x2 h5).cp rfl _).trans (congrArg (fun z => some (vb z)) h6)) : CP prg 34 [(.agg ((List.take 4 (List.drop 1 (eSym x2))).map .p))] (L32_0_d0 a1 a2 x2) = some (vb true))
     refine bn h fun x7 h7 h => ?_
     refine bi h (fun h8 h => ?_) fun h8 h => ?_
     ·
      have q6 := ((((F31_3_ok a1 x2 h7).cp rfl _).trans (congrArg (fun z => some (vb z)) h8)) : CP prg 31 [(aG a1), (i6 x2.sort)] (L32_0_d0 a1 a2 x2) = some (vb true))
      refine bi h (fun h9 h => ?_) fun h9 h => ?_
      ·
       rw [← sj h]
       exact xretY (n := 30) [(60, .v (i6 (a2.right.length : Int))), (61, .d true), (67, .v (.ro (eSym x2))), (71, .d false), (84, .d true), (88, .v (vb true)), (94, .v (vb true)), (100, .d true), (6000, .d true)] (apc (lg a2.right eSym 6) (apc (cv h1) (apc (ig eSym 6 .i64 h2) (apc (cv h3) (apc (cv h4) (apc q5 (apc q6 (apc (cv h9) apn)))))))) (by kernel_rfl)
      ·
       refine bi h (fun h10 h => ?_) fun h10 h => ?_
       ·
        refine bi h (fun h11 h => ?_) fun h11 h => ?_
        ·
         rw [← sj h]
         exact xretY (n := 30) [(60, .v (i6 (a2.right.length : Int))), (61, .d true), (67, .v (.ro (eSym x2))), (71, .d false), (84, .d true), (88, .v (vb true)), (94, .v (vb true)), (100, .d false), (105, .d true), (109, .d true), (6000, .d true)] (apc (lg a2.right eSym 6) (apc (cv h1) (apc (ig eSym 6 .i64 h2) (apc (cv h3) (apc (cv h4) (apc q5 (apc q6 (apc (cv h9) (apc (cv h10) (apc (cv h11) apn)))))))))) (by kernel_rfl)
        ·
         rw [← sj h]
         exact rnd (n := 30) [(60, .v (i6 (a2.right.length : Int))), (61, .d true), (67, .v (.ro (eSym x2))), (71, .d false), (84, .d true), (88, .v (vb true)), (94, .v (vb true)), (100, .d false), (105, .d true), (109, .d false), (6000, .d true)] (apc (lg a2.right eSym 6) (apc (cv h1) (apc (ig eSym 6 .i64 h2) (apc (cv h3) (apc (cv h4) (apc q5 (apc q6 (apc (cv h9) (apc (cv h10) (apc (cv h11) (apc ((okT_of rfl (abl_cons rfl (abl_cons rfl rfl))) : okT 2 (L32_0_d0 a1 a2 x2) = true) apn))))))))))) (by kernel_rfl)
       ·
        rw [← sj h]
        exact rnd (n := 30) [(60, .v (i6 (a2.right.length : Int))), (61, .d true), (67, .v (.ro (eSym x2))), (71, .d false), (84, .d true), (88, .v (vb true)), (94, .v (vb true)), (100, .d false), (105, .d false), (6000, .d true)] (apc (lg a2.right eSym 6) (apc (cv h1) (apc (ig eSym 6 .i64 h2) (apc (cv h3) (apc (cv h4) (apc q5 (apc q6 (apc (cv h9) (apc (cv h10) (apc ((okT_of rfl (abl_cons rfl (abl_cons rfl rfl))) : okT 2 (L32_0_d0 a1 a2 x2) = true) apn)))))))))) (by kernel_rfl)
     ·
      rw [← sj h]
      exact xretY (n := 30) [(60, .v (i6 (a2.right.length : Int))), (61, .d true), (67, .v (.ro (eSym x2))), (71, .d false), (84, .d true), (88, .v (vb true)), (94, .v (vb false)), (6000, .d true)] (apc (lg a2.right eSym 6) (apc (cv h1) (apc (ig eSym 6 .i64 h2) (apc (cv h3) (apc (cv h4) (apc q5 (apc ((((F31_3_ok a1 x2 h7).cp rfl _).trans (congrArg (fun z => some (vb z)) h8)) : CP prg 31 [(aG a1), (i6 x2.sort)] (L32_0_d0 a1 a2 x2) = some (vb false)) apn))))))) (by kernel_rfl)
    ·
     rw [← sj h]
     exact xretY (n := 30) [(60, .v (i6 (a2.right.length : Int))), (61, .d true), (67, .v (.ro (eSym x2))), (71, .d false), (84, .d true), (88, .v (vb false)), (6000, .d true)] (apc (lg a2.right eSym 6) (apc (cv h1) (apc (ig eSym 6 .i64 h2) (apc (cv h3) (apc (cv h4) (apc ((((F34_ok x2 h5).cp rfl _).trans (congrArg (fun z => some (vb z)) h6)) : CP prg 34 [(.agg ((List.take 4 (List.drop 1 (eSym x2))).map .p))] (L32_0_d0 a1 a2 x2) = some (vb false)) apn)))))) (by kernel_rfl)
   ·
    refine bi h (fun h5 h => ?_) fun h5 h => ?_
    ·
     refine bi h (fun h6 h => ?_) fun h6 h => ?_
     ·
      rw [← sj h]
      exact xretY (n := 30) [(60, .v (i6 (a2.right.length : Int))), (61, .d true), (67, .v (.ro (eSym x2))), (71, .d false), (84, .d false), (105, .d true), (109, .d true), (6000, .d true)] (apc (lg a2.right eSym 6) (apc (cv h1) (apc (ig eSym 6 .i64 h2) (apc (cv h3) (apc (cv h4) (apc (cv h5) (apc (cv h6) apn))))))) (by kernel_rfl)
     ·
      rw [← sj h]
      exact rnd (n := 30) [(60, .v (i6 (a2.right.length : Int))), (61, .d true), (67, .v (.ro (eSym x2))), (71, .d false), (84, .d false), (105, .d true), (109, .d false), (6000, .d true)] (apc (lg a2.right eSym 6) (apc (cv h1) (apc (ig eSym 6 .i64 h2) (apc (cv h3) (apc (cv h4) (apc (cv h5) (apc (cv h6) (apc ((okT_of rfl (abl_cons rfl (abl_cons rfl rfl))) : okT 2 (L32_0_d0 a1 a2 x2) = true) apn)))))))) (by kernel_rfl)
    ·
     rw [← sj h]
     exact rnd (n := 30) [(60, .v (i6 (a2.right.length : Int))), (61, .d true), (67, .v (.ro (eSym x2))), (71, .d false), (84, .d false), (105, .d false), (6000, .d true)] (apc (lg a2.right eSym 6) (apc (cv h1) (apc (ig eSym 6 .i64 h2) (apc (cv h3) (apc (cv h4) (apc (cv h5) (apc ((okT_of rfl (abl_cons rfl (abl_cons rfl rfl))) : okT 2 (L32_0_d0 a1 a2 x2) = true) apn))))))) (by kernel_rfl)
 ·
  rw [← sj h]
  exact xbrk (n := 30) [(60, .v (i6 (a2.right.length : Int))), (61, .d false), (6000, .d true)] (apc (lg a2.right eSym 6) (apc (cv h1) apn)) (by kernel_rfl)
theorem L32_0_run (a1 : GramD) (a2 : ProdD) (s0 : Int) (e : E_L32_0) (h : runL (fun s => L32_0 a1 a2 s) s0 = some e) : L32_0_x a1 a2 e (evH prg 2 [2, 3, 5] ir32_l0 (L32_0_s a1 a2 s0)) := by
  have q := @loop_sound' (Int) E_L32_0 (fun s => L32_0 a1 a2 s) (fun s => evH prg 2 [2, 3, 5] ir32_l0 (L32_0_s a1 a2 s)) (L32_0_x a1 a2) (fun s r h => L32_0_ok a1 a2 s h) s0 e h
  exact q
def F32_v (a1 : GramD) (a2 : ProdD) (x0 : Bool) : AV := (vb x0)
noncomputable def F32 (a1 : GramD) (a2 : ProdD) : Option Bool :=
  ((F31_2 a1 a2).bind fun x1 => (bif x1 then (bif (decide ((a2.right.length : Int) > 30)) then (some false) else (bif (decide (a2.role < 0)) then (some false) else (bif (decide (a2.role > 11)) then (some false) else (bif (decide (a2.frm < (-1))) then (some false) else (bif (decide ((a2.cons.size : Int) > 64)) then (some false) else (bif (!(a2.cons.toList == (⟨([] : List UInt8).toArray⟩ : ByteArray).toList)) then (bif (a2.role != 0) then (some false) else (bif a2.prefer then (bif a2.avoid then (some false) else ((runL (fun s => L32_0 a1 a2 s) 0).bind fun r12 => match r12 with | .k0 => (some false) | .k1 => (some true))) else ((runL (fun s => L32_0 a1 a2 s) 0).bind fun r11 => match r11 with | .k0 => (some false) | .k1 => (some true)))) else (bif a2.prefer then (bif a2.avoid then (some false) else ((runL (fun s => L32_0 a1 a2 s) 0).bind fun r11 => match r11 with | .k0 => (some false) | .k1 => (some true))) else ((runL (fun s => L32_0 a1 a2 s) 0).bind fun r10 => match r10 with | .k0 => (some false) | .k1 => (some true))))))))) else (some false)))
abbrev F32_d0 (g12 : Nat → AV) (a1 : GramD) (a2 : ProdD) : St := ⟨fr 111 g12 [(2, (.ptr 0 0)), (3, (.ptr 1 0))], [bG a1, bP a2]⟩
abbrev F32_d1 (g11 : Nat → AV) (a1 : GramD) (a2 : ProdD) : St := ⟨fr 111 g11 [(2, (.ptr 0 0)), (3, (.ptr 1 0))], [bG a1, bP a2]⟩
abbrev F32_d2 (g10 : Nat → AV) (a1 : GramD) (a2 : ProdD) : St := ⟨fr 111 g10 [(2, (.ptr 0 0)), (3, (.ptr 1 0))], [bG a1, bP a2]⟩
theorem F32_ok (a1 : GramD) (a2 : ProdD) {r : Bool} (h : F32 a1 a2 = some r) : PR1 prg 32 [(aG a1), (aP a2)] (F32_v a1 a2 r) := by
 unfold F32 at h
 refine bn h fun x1 h1 h => ?_
 refine bi h (fun h2 h => ?_) fun h2 h => ?_
 ·
  have q0 := ((((F31_2_ok a1 a2 h1).cp rfl _).trans (congrArg (fun z => some (vb z)) h2)) : CP prg 31 [(aG a1), (i6 a2.left)] [bG a1, bP a2] = some (vb true))
  refine bi h (fun h3 h => ?_) fun h3 h => ?_
  ·
   rw [← sj h]
   exact fpr (n := 30) [(10, .v (vb true)), (15, .v (i6 (a2.right.length : Int))), (16, .d true)] (apc q0 (apc (lg a2.right eSym 6) (apc (cv h3) apn))) rfl (by kernel_rfl)
  ·
   refine bi h (fun h4 h => ?_) fun h4 h => ?_
   ·
    rw [← sj h]
    exact fpr (n := 30) [(10, .v (vb true)), (15, .v (i6 (a2.right.length : Int))), (16, .d false), (21, .d true)] (apc q0 (apc (lg a2.right eSym 6) (apc (cv h3) (apc (cv h4) apn)))) rfl (by kernel_rfl)
   ·
    refine bi h (fun h5 h => ?_) fun h5 h => ?_
    ·
     rw [← sj h]
     exact fpr (n := 30) [(10, .v (vb true)), (15, .v (i6 (a2.right.length : Int))), (16, .d false), (21, .d false), (26, .d true)] (apc q0 (apc (lg a2.right eSym 6) (apc (cv h3) (apc (cv h4) (apc (cv h5) apn))))) rfl (by kernel_rfl)
    ·
     refine bi h (fun h6 h => ?_) fun h6 h => ?_
     ·
      rw [← sj h]
      exact fpr (n := 30) [(10, .v (vb true)), (15, .v (i6 (a2.right.length : Int))), (16, .d false), (21, .d false), (26, .d false), (31, .d true)] (apc q0 (apc (lg a2.right eSym 6) (apc (cv h3) (apc (cv h4) (apc (cv h5) (apc (cv h6) apn)))))) rfl (by kernel_rfl)
     ·
      refine bi h (fun h7 h => ?_) fun h7 h => ?_
      ·
       rw [← sj h]
       exact fpr (n := 30) [(10, .v (vb true)), (15, .v (i6 (a2.right.length : Int))), (16, .d false), (21, .d false), (26, .d false), (31, .d false), (37, .d true)] (apc q0 (apc (lg a2.right eSym 6) (apc (cv h3) (apc (cv h4) (apc (cv h5) (apc (cv h6) (apc (cv h7) apn))))))) rfl (by kernel_rfl)
      ·
       refine bi h (fun h8 h => ?_) fun h8 h => ?_
       ·
        refine bi h (fun h9 h => ?_) fun h9 h => ?_
        ·
         rw [← sj h]
         exact fpr (n := 30) [(10, .v (vb true)), (15, .v (i6 (a2.right.length : Int))), (16, .d false), (21, .d false), (26, .d false), (31, .d false), (37, .d false), (42, .d true), (46, .d true)] (apc q0 (apc (lg a2.right eSym 6) (apc (cv h3) (apc (cv h4) (apc (cv h5) (apc (cv h6) (apc (cv h7) (apc (cv h8) (apc (cv h9) apn))))))))) rfl (by kernel_rfl)
        ·
         refine bi h (fun h10 h => ?_) fun h10 h => ?_
         ·
          refine bi h (fun h11 h => ?_) fun h11 h => ?_
          ·
           rw [← sj h]
           exact fpr (n := 30) [(10, .v (vb true)), (15, .v (i6 (a2.right.length : Int))), (16, .d false), (21, .d false), (26, .d false), (31, .d false), (37, .d false), (42, .d true), (46, .d false), (51, .d true), (54, .d true)] (apc q0 (apc (lg a2.right eSym 6) (apc (cv h3) (apc (cv h4) (apc (cv h5) (apc (cv h6) (apc (cv h7) (apc (cv h8) (apc (cv h9) (apc (cv h10) (apc (cv h11) apn))))))))))) rfl (by kernel_rfl)
          ·
           refine bn h fun r12 h12 h => ?_
           cases r12 with
           | k0 =>
            obtain ⟨g12, y12, e12⟩ := L32_0_run a1 a2 0 _ h12
            rw [← sj h]
            exact fpr (n := 30) [(10, .v (vb true)), (15, .v (i6 (a2.right.length : Int))), (16, .d false), (21, .d false), (26, .d false), (31, .d false), (37, .d false), (42, .d true), (46, .d false), (51, .d true), (54, .d false), (2000, .l .ret ⟨fr 111 g12 [(4, (vb false))], y12⟩), (6000, .d true)] (apc q0 (apc (lg a2.right eSym 6) (apc (cv h3) (apc (cv h4) (apc (cv h5) (apc (cv h6) (apc (cv h7) (apc (cv h8) (apc (cv h9) (apc (cv h10) (apc (cv h11) (apc ((okT_of rfl (abl_cons rfl (abl_cons rfl rfl))) : okT 2 [bG a1, bP a2] = true) (apc (e12 : evH prg 2 [2, 3, 5] ir32_l0 (L32_0_s a1 a2 0) = some (.ret, ⟨fr 111 g12 [(4, (vb false))], y12⟩)) apn))))))))))))) rfl (by kernel_rfl)
           | k1 =>
            obtain ⟨g12, e12⟩ := L32_0_run a1 a2 0 _ h12
            rw [← sj h]
            exact fpr (n := 30) [(10, .v (vb true)), (15, .v (i6 (a2.right.length : Int))), (16, .d false), (21, .d false), (26, .d false), (31, .d false), (37, .d false), (42, .d true), (46, .d false), (51, .d true), (54, .d false), (2000, .l (.brk 0) (F32_d0 g12 a1 a2)), (6000, .d true)] (apc q0 (apc (lg a2.right eSym 6) (apc (cv h3) (apc (cv h4) (apc (cv h5) (apc (cv h6) (apc (cv h7) (apc (cv h8) (apc (cv h9) (apc (cv h10) (apc (cv h11) (apc ((okT_of rfl (abl_cons rfl (abl_cons rfl rfl))) : okT 2 [bG a1, bP a2] = true) (apc (e12 : evH prg 2 [2, 3, 5] ir32_l0 (L32_0_s a1 a2 0) = some ((.brk 0), (F32_d0 g12 a1 a2))) apn))))))))))))) rfl (by kernel_rfl)
         ·
          refine bn h fun r11 h11 h => ?_
          cases r11 with
          | k0 =>
           obtain ⟨g11, y11, e11⟩ := L32_0_run a1 a2 0 _ h11
           rw [← sj h]
           exact fpr (n := 30) [(10, .v (vb true)), (15, .v (i6 (a2.right.length : Int))), (16, .d false), (21, .d false), (26, .d false), (31, .d false), (37, .d false), (42, .d true), (46, .d false), (51, .d false), (2000, .l .ret ⟨fr 111 g11 [(4, (vb false))], y11⟩), (6000, .d true)] (apc q0 (apc (lg a2.right eSym 6) (apc (cv h3) (apc (cv h4) (apc (cv h5) (apc (cv h6) (apc (cv h7) (apc (cv h8) (apc (cv h9) (apc (cv h10) (apc ((okT_of rfl (abl_cons rfl (abl_cons rfl rfl))) : okT 2 [bG a1, bP a2] = true) (apc (e11 : evH prg 2 [2, 3, 5] ir32_l0 (L32_0_s a1 a2 0) = some (.ret, ⟨fr 111 g11 [(4, (vb false))], y11⟩)) apn)))))))))))) rfl (by kernel_rfl)
          | k1 =>
           obtain ⟨g11, e11⟩ := L32_0_run a1 a2 0 _ h11
           rw [← sj h]
           exact fpr (n := 30) [(10, .v (vb true)), (15, .v (i6 (a2.right.length : Int))), (16, .d false), (21, .d false), (26, .d false), (31, .d false), (37, .d false), (42, .d true), (46, .d false), (51, .d false), (2000, .l (.brk 0) (F32_d1 g11 a1 a2)), (6000, .d true)] (apc q0 (apc (lg a2.right eSym 6) (apc (cv h3) (apc (cv h4) (apc (cv h5) (apc (cv h6) (apc (cv h7) (apc (cv h8) (apc (cv h9) (apc (cv h10) (apc ((okT_of rfl (abl_cons rfl (abl_cons rfl rfl))) : okT 2 [bG a1, bP a2] = true) (apc (e11 : evH prg 2 [2, 3, 5] ir32_l0 (L32_0_s a1 a2 0) = some ((.brk 0), (F32_d1 g11 a1 a2))) apn)))))))))))) rfl (by kernel_rfl)
       ·
        refine bi h (fun h9 h => ?_) fun h9 h => ?_
        ·
         refine bi h (fun h10 h => ?_) fun h10 h => ?_
         ·
          rw [← sj h]
          exact fpr (n := 30) [(10, .v (vb true)), (15, .v (i6 (a2.right.length : Int))), (16, .d false), (21, .d false), (26, .d false), (31, .d false), (37, .d false), (42, .d false), (51, .d true), (54, .d true)] (apc q0 (apc (lg a2.right eSym 6) (apc (cv h3) (apc (cv h4) (apc (cv h5) (apc (cv h6) (apc (cv h7) (apc (cv h8) (apc (cv h9) (apc (cv h10) apn)))))))))) rfl (by kernel_rfl)
         ·
          refine bn h fun r11 h11 h => ?_
          cases r11 with
          | k0 =>
           obtain ⟨g11, y11, e11⟩ := L32_0_run a1 a2 0 _ h11
           rw [← sj h]
           exact fpr (n := 30) [(10, .v (vb true)), (15, .v (i6 (a2.right.length : Int))), (16, .d false), (21, .d false), (26, .d false), (31, .d false), (37, .d false), (42, .d false), (51, .d true), (54, .d false), (2000, .l .ret ⟨fr 111 g11 [(4, (vb false))], y11⟩), (6000, .d true)] (apc q0 (apc (lg a2.right eSym 6) (apc (cv h3) (apc (cv h4) (apc (cv h5) (apc (cv h6) (apc (cv h7) (apc (cv h8) (apc (cv h9) (apc (cv h10) (apc ((okT_of rfl (abl_cons rfl (abl_cons rfl rfl))) : okT 2 [bG a1, bP a2] = true) (apc (e11 : evH prg 2 [2, 3, 5] ir32_l0 (L32_0_s a1 a2 0) = some (.ret, ⟨fr 111 g11 [(4, (vb false))], y11⟩)) apn)))))))))))) rfl (by kernel_rfl)
          | k1 =>
           obtain ⟨g11, e11⟩ := L32_0_run a1 a2 0 _ h11
           rw [← sj h]
           exact fpr (n := 30) [(10, .v (vb true)), (15, .v (i6 (a2.right.length : Int))), (16, .d false), (21, .d false), (26, .d false), (31, .d false), (37, .d false), (42, .d false), (51, .d true), (54, .d false), (2000, .l (.brk 0) (F32_d1 g11 a1 a2)), (6000, .d true)] (apc q0 (apc (lg a2.right eSym 6) (apc (cv h3) (apc (cv h4) (apc (cv h5) (apc (cv h6) (apc (cv h7) (apc (cv h8) (apc (cv h9) (apc (cv h10) (apc ((okT_of rfl (abl_cons rfl (abl_cons rfl rfl))) : okT 2 [bG a1, bP a2] = true) (apc (e11 : evH prg 2 [2, 3, 5] ir32_l0 (L32_0_s a1 a2 0) = some ((.brk 0), (F32_d1 g11 a1 a2))) apn)))))))))))) rfl (by kernel_rfl)
        ·
         refine bn h fun r10 h10 h => ?_
         cases r10 with
         | k0 =>
          obtain ⟨g10, y10, e10⟩ := L32_0_run a1 a2 0 _ h10
          rw [← sj h]
          exact fpr (n := 30) [(10, .v (vb true)), (15, .v (i6 (a2.right.length : Int))), (16, .d false), (21, .d false), (26, .d false), (31, .d false), (37, .d false), (42, .d false), (51, .d false), (2000, .l .ret ⟨fr 111 g10 [(4, (vb false))], y10⟩), (6000, .d true)] (apc q0 (apc (lg a2.right eSym 6) (apc (cv h3) (apc (cv h4) (apc (cv h5) (apc (cv h6) (apc (cv h7) (apc (cv h8) (apc (cv h9) (apc ((okT_of rfl (abl_cons rfl (abl_cons rfl rfl))) : okT 2 [bG a1, bP a2] = true) (apc (e10 : evH prg 2 [2, 3, 5] ir32_l0 (L32_0_s a1 a2 0) = some (.ret, ⟨fr 111 g10 [(4, (vb false))], y10⟩)) apn))))))))))) rfl (by kernel_rfl)
         | k1 =>
          obtain ⟨g10, e10⟩ := L32_0_run a1 a2 0 _ h10
          rw [← sj h]
          exact fpr (n := 30) [(10, .v (vb true)), (15, .v (i6 (a2.right.length : Int))), (16, .d false), (21, .d false), (26, .d false), (31, .d false), (37, .d false), (42, .d false), (51, .d false), (2000, .l (.brk 0) (F32_d2 g10 a1 a2)), (6000, .d true)] (apc q0 (apc (lg a2.right eSym 6) (apc (cv h3) (apc (cv h4) (apc (cv h5) (apc (cv h6) (apc (cv h7) (apc (cv h8) (apc (cv h9) (apc ((okT_of rfl (abl_cons rfl (abl_cons rfl rfl))) : okT 2 [bG a1, bP a2] = true) (apc (e10 : evH prg 2 [2, 3, 5] ir32_l0 (L32_0_s a1 a2 0) = some ((.brk 0), (F32_d2 g10 a1 a2))) apn))))))))))) rfl (by kernel_rfl)
 ·
  rw [← sj h]
  exact fpr (n := 30) [(10, .v (vb false))] (apc ((((F31_2_ok a1 a2 h1).cp rfl _).trans (congrArg (fun z => some (vb z)) h2)) : CP prg 31 [(aG a1), (i6 a2.left)] [bG a1, bP a2] = some (vb false)) apn) rfl (by kernel_rfl)
inductive E_L12_4 where
  | k0
  | k1
noncomputable def L12_4 (a1 : GramD) (v1 : Int) : Option (E_L12_4 ⊕ (Int)) :=
  (bif (decide (v1 < (a1.prods.length : Int))) then ((getI a1.prods v1).bind fun x2 => ((F32 a1 x2).bind fun x3 => (bif x3 then (some (.inr ((IntKind.wrap .i64 (v1 + 1))))) else (some (.inl (.k0)))))) else (some (.inl (.k1))))
def L12_4_s (a1 : GramD) (v1 : Int) : St := ⟨fr 160 ug [(1, (.ptr 0 0)), (5, (i6 v1))], [bG a1]⟩
def L12_4_x (a1 : GramD) (e : E_L12_4) (r : Option (Out × St)) : Prop := match e with | .k0 => ∃ g y, r = some (.ret, ⟨fr 160 g [(2, (i6 160))], y⟩) | .k1 => ∃ g, r = some ((.brk 4), ⟨fr 160 g [(1, (.ptr 0 0))], [bG a1]⟩)
theorem L12_4_ok (a1 : GramD) (v1 : Int) {r : E_L12_4 ⊕ (Int)} (h : L12_4 a1 v1 = some r) : OkR (fun e => L12_4_x a1 e (evH prg 1 [1, 5] ir12_l4 (L12_4_s a1 v1))) (fun s => evH prg 1 [1, 5] ir12_l4 (L12_4_s a1 v1) = evH prg 1 [1, 5] ir12_l4 (L12_4_s a1 s)) r := by
 unfold L12_4 at h
 refine bi h (fun h1 h => ?_) fun h1 h => ?_
 ·
  refine bn h fun x2 h2 h => ?_
  refine bn h fun x3 h3 h => ?_
  refine bi h (fun h4 h => ?_) fun h4 h => ?_
  ·
   rw [← sj h]
   exact rnd (n := 30) [(74, .v (i6 (a1.prods.length : Int))), (75, .d true), (82, .v (.ro (eProd x2))), (84, .v (vb true)), (6000, .d true)] (apc (lg a1.prods eProd 7) (apc (cv h1) (apc (ig eProd 7 .i64 h2) (apc ((((F32_ok a1 x2 h3).cp rfl _).trans (congrArg (fun z => some (vb z)) h4)) : CP prg 32 [(aG a1), (aP x2)] [bG a1] = some (vb true)) (apc ((okT_of rfl (abl_cons rfl rfl)) : okT 1 [bG a1] = true) apn))))) (by kernel_rfl)
  ·
   rw [← sj h]
   exact xretY (n := 30) [(74, .v (i6 (a1.prods.length : Int))), (75, .d true), (82, .v (.ro (eProd x2))), (84, .v (vb false)), (6000, .d true)] (apc (lg a1.prods eProd 7) (apc (cv h1) (apc (ig eProd 7 .i64 h2) (apc ((((F32_ok a1 x2 h3).cp rfl _).trans (congrArg (fun z => some (vb z)) h4)) : CP prg 32 [(aG a1), (aP x2)] [bG a1] = some (vb false)) apn)))) (by kernel_rfl)
 ·
  rw [← sj h]
  exact xbrk (n := 30) [(74, .v (i6 (a1.prods.length : Int))), (75, .d false), (6000, .d true)] (apc (lg a1.prods eProd 7) (apc (cv h1) apn)) (by kernel_rfl)
theorem L12_4_run (a1 : GramD) (s0 : Int) (e : E_L12_4) (h : runL (fun s => L12_4 a1 s) s0 = some e) : L12_4_x a1 e (evH prg 1 [1, 5] ir12_l4 (L12_4_s a1 s0)) := by
  have q := @loop_sound' (Int) E_L12_4 (fun s => L12_4 a1 s) (fun s => evH prg 1 [1, 5] ir12_l4 (L12_4_s a1 s)) (L12_4_x a1) (fun s r h => L12_4_ok a1 s h) s0 e h
  exact q
def F33_v (a1 : GramD) (a2 : ForbD) (x0 : Bool) : AV := (vb x0)
noncomputable def F33 (a1 : GramD) (a2 : ForbD) : Option Bool :=
  (bif (decide (a2.parent < 0)) then (some false) else (bif (decide (a2.parent ≥ (a1.prods.length : Int))) then (some false) else (bif (decide (a2.child < 0)) then (some false) else (bif (decide (a2.child ≥ (a1.prods.length : Int))) then (some false) else ((getI a1.prods a2.parent).bind fun x5 => (bif (x5.role == 11) then (some false) else ((getI a1.prods a2.child).bind fun x7 => (bif (x7.role == 11) then (some false) else (bif (decide (a2.at_ < 1)) then (some false) else (bif (decide (a2.at_ > (x5.right.length : Int))) then (some false) else ((getI x5.right (IntKind.wrap .i64 (a2.at_ - 1))).bind fun x11 => (bif (x11.kind == 1) then (some (x11.sort == x7.left)) else (some false)))))))))))))
theorem F33_ok (a1 : GramD) (a2 : ForbD) {r : Bool} (h : F33 a1 a2 = some r) : PR1 prg 33 [(aG a1), (.agg ((eForb a2).map .p))] (F33_v a1 a2 r) := by
 unfold F33 at h
 refine bi h (fun h1 h => ?_) fun h1 h => ?_
 ·
  rw [← sj h]
  exact fpr (n := 30) [(8, .d true)] (apc (cv h1) apn) rfl (by kernel_rfl)
 ·
  refine bi h (fun h2 h => ?_) fun h2 h => ?_
  ·
   rw [← sj h]
   exact fpr (n := 30) [(8, .d false), (14, .v (i6 (a1.prods.length : Int))), (15, .d true)] (apc (cv h1) (apc (lg a1.prods eProd 7) (apc (cv h2) apn))) rfl (by kernel_rfl)
  ·
   refine bi h (fun h3 h => ?_) fun h3 h => ?_
   ·
    rw [← sj h]
    exact fpr (n := 30) [(8, .d false), (14, .v (i6 (a1.prods.length : Int))), (15, .d false), (20, .d true)] (apc (cv h1) (apc (lg a1.prods eProd 7) (apc (cv h2) (apc (cv h3) apn)))) rfl (by kernel_rfl)
   ·
    refine bi h (fun h4 h => ?_) fun h4 h => ?_
    ·
     rw [← sj h]
     exact fpr (n := 30) [(8, .d false), (14, .v (i6 (a1.prods.length : Int))), (15, .d false), (20, .d false), (27, .v (i6 (a1.prods.length : Int))), (28, .d true)] (apc (cv h1) (apc (lg a1.prods eProd 7) (apc (cv h2) (apc (cv h3) (apc (lg a1.prods eProd 7) (apc (cv h4) apn)))))) rfl (by kernel_rfl)
    ·
     refine bn h fun x5 h5 h => ?_
     refine bi h (fun h6 h => ?_) fun h6 h => ?_
     ·
      rw [← sj h]
      exact fpr (n := 30) [(8, .d false), (14, .v (i6 (a1.prods.length : Int))), (15, .d false), (20, .d false), (27, .v (i6 (a1.prods.length : Int))), (28, .d false), (35, .v (.ro (eProd x5))), (38, .d true)] (apc (cv h1) (apc (lg a1.prods eProd 7) (apc (cv h2) (apc (cv h3) (apc (lg a1.prods eProd 7) (apc (cv h4) (apc (ig eProd 7 .i64 h5) (apc (cv h6) apn)))))))) rfl (by kernel_rfl)
     ·
      refine bn h fun x7 h7 h => ?_
      refine bi h (fun h8 h => ?_) fun h8 h => ?_
      ·
       rw [← sj h]
       exact fpr (n := 30) [(8, .d false), (14, .v (i6 (a1.prods.length : Int))), (15, .d false), (20, .d false), (27, .v (i6 (a1.prods.length : Int))), (28, .d false), (35, .v (.ro (eProd x5))), (38, .d false), (45, .v (.ro (eProd x7))), (48, .d true)] (apc (cv h1) (apc (lg a1.prods eProd 7) (apc (cv h2) (apc (cv h3) (apc (lg a1.prods eProd 7) (apc (cv h4) (apc (ig eProd 7 .i64 h5) (apc (cv h6) (apc (ig eProd 7 .i64 h7) (apc (cv h8) apn)))))))))) rfl (by kernel_rfl)
      ·
       refine bi h (fun h9 h => ?_) fun h9 h => ?_
       ·
        rw [← sj h]
        exact fpr (n := 30) [(8, .d false), (14, .v (i6 (a1.prods.length : Int))), (15, .d false), (20, .d false), (27, .v (i6 (a1.prods.length : Int))), (28, .d false), (35, .v (.ro (eProd x5))), (38, .d false), (45, .v (.ro (eProd x7))), (48, .d false), (52, .d true)] (apc (cv h1) (apc (lg a1.prods eProd 7) (apc (cv h2) (apc (cv h3) (apc (lg a1.prods eProd 7) (apc (cv h4) (apc (ig eProd 7 .i64 h5) (apc (cv h6) (apc (ig eProd 7 .i64 h7) (apc (cv h8) (apc (cv h9) apn))))))))))) rfl (by kernel_rfl)
       ·
        refine bi h (fun h10 h => ?_) fun h10 h => ?_
        ·
         rw [← sj h]
         exact fpr (n := 30) [(8, .d false), (14, .v (i6 (a1.prods.length : Int))), (15, .d false), (20, .d false), (27, .v (i6 (a1.prods.length : Int))), (28, .d false), (35, .v (.ro (eProd x5))), (38, .d false), (45, .v (.ro (eProd x7))), (48, .d false), (52, .d false), (60, .v (.ro (eProd x5))), (63, .v (i6 (x5.right.length : Int))), (64, .d true)] (apc (cv h1) (apc (lg a1.prods eProd 7) (apc (cv h2) (apc (cv h3) (apc (lg a1.prods eProd 7) (apc (cv h4) (apc (ig eProd 7 .i64 h5) (apc (cv h6) (apc (ig eProd 7 .i64 h7) (apc (cv h8) (apc (cv h9) (apc (ig eProd 7 .i64 h5) (apc (lg x5.right eSym 6) (apc (cv h10) apn)))))))))))))) rfl (by kernel_rfl)
        ·
         refine bn h fun x11 h11 h => ?_
         refine bi h (fun h12 h => ?_) fun h12 h => ?_
         ·
          rw [← sj h]
          exact fpr (n := 30) [(8, .d false), (14, .v (i6 (a1.prods.length : Int))), (15, .d false), (20, .d false), (27, .v (i6 (a1.prods.length : Int))), (28, .d false), (35, .v (.ro (eProd x5))), (38, .d false), (45, .v (.ro (eProd x7))), (48, .d false), (52, .d false), (60, .v (.ro (eProd x5))), (63, .v (i6 (x5.right.length : Int))), (64, .d false), (70, .v (.ro (eProd x5))), (76, .v (.ro (eSym x11))), (80, .d true), (88, .v (.ro (eProd x7)))] (apc (cv h1) (apc (lg a1.prods eProd 7) (apc (cv h2) (apc (cv h3) (apc (lg a1.prods eProd 7) (apc (cv h4) (apc (ig eProd 7 .i64 h5) (apc (cv h6) (apc (ig eProd 7 .i64 h7) (apc (cv h8) (apc (cv h9) (apc (ig eProd 7 .i64 h5) (apc (lg x5.right eSym 6) (apc (cv h10) (apc (ig eProd 7 .i64 h5) (apc (ig eSym 6 .i64 h11) (apc (cv h12) (apc (ig eProd 7 .i64 h7) apn)))))))))))))))))) rfl (by kernel_rfl)
         ·
          rw [← sj h]
          exact fpr (n := 30) [(8, .d false), (14, .v (i6 (a1.prods.length : Int))), (15, .d false), (20, .d false), (27, .v (i6 (a1.prods.length : Int))), (28, .d false), (35, .v (.ro (eProd x5))), (38, .d false), (45, .v (.ro (eProd x7))), (48, .d false), (52, .d false), (60, .v (.ro (eProd x5))), (63, .v (i6 (x5.right.length : Int))), (64, .d false), (70, .v (.ro (eProd x5))), (76, .v (.ro (eSym x11))), (80, .d false)] (apc (cv h1) (apc (lg a1.prods eProd 7) (apc (cv h2) (apc (cv h3) (apc (lg a1.prods eProd 7) (apc (cv h4) (apc (ig eProd 7 .i64 h5) (apc (cv h6) (apc (ig eProd 7 .i64 h7) (apc (cv h8) (apc (cv h9) (apc (ig eProd 7 .i64 h5) (apc (lg x5.right eSym 6) (apc (cv h10) (apc (ig eProd 7 .i64 h5) (apc (ig eSym 6 .i64 h11) (apc (cv h12) apn))))))))))))))))) rfl (by kernel_rfl)
inductive E_L12_2_2 where
  | k0
  | k1
noncomputable def L12_2_2 (a1 : Int) (a2 : GramD) (v1 : Int) : Option (E_L12_2_2 ⊕ (Int)) :=
  (bif (decide (v1 < a1)) then ((getI a2.forbid v1).bind fun x2 => ((getI a2.forbid a1).bind fun x3 => (bif ((x2.parent == x3.parent) && ((x2.at_ == x3.at_) && ((x2.child == x3.child) && true))) then (some (.inl (.k0))) else (some (.inr ((IntKind.wrap .i64 (v1 + 1)))))))) else (some (.inl (.k1))))
def L12_2_2_s (a1 : Int) (a2 : GramD) (v1 : Int) : St := ⟨fr 160 ug [(1, (.ptr 0 0)), (6, (i6 a1)), (7, (i6 v1))], [bG a2]⟩
def L12_2_2_x (a1 : Int) (a2 : GramD) (e : E_L12_2_2) (r : Option (Out × St)) : Prop := match e with | .k0 => ∃ g y, r = some (.ret, ⟨fr 160 g [(2, (i6 160))], y⟩) | .k1 => ∃ g, r = some ((.brk 8), ⟨fr 160 g [(1, (.ptr 0 0)), (6, (i6 a1))], [bG a2]⟩)
theorem L12_2_2_ok (a1 : Int) (a2 : GramD) (v1 : Int) {r : E_L12_2_2 ⊕ (Int)} (h : L12_2_2 a1 a2 v1 = some r) : OkR (fun e => L12_2_2_x a1 a2 e (evH prg 1 [1, 6, 7] ir12_l2 (L12_2_2_s a1 a2 v1))) (fun s => evH prg 1 [1, 6, 7] ir12_l2 (L12_2_2_s a1 a2 v1) = evH prg 1 [1, 6, 7] ir12_l2 (L12_2_2_s a1 a2 s)) r := by
 unfold L12_2_2 at h
 refine bi h (fun h1 h => ?_) fun h1 h => ?_
 ·
  refine bn h fun x2 h2 h => ?_
  refine bn h fun x3 h3 h => ?_
  refine bi h (fun h4 h => ?_) fun h4 h => ?_
  ·
   rw [← sj h]
   exact xretY (n := 30) [(103, .d true), (109, .v (.ro (eForb x2))), (114, .v (.ro (eForb x3))), (116, .d true), (6000, .d true)] (apc (cv h1) (apc (ig eForb 3 .i64 h2) (apc (ig eForb 3 .i64 h3) (apc (cv h4) apn)))) (by kernel_rfl)
  ·
   rw [← sj h]
   exact rnd (n := 30) [(103, .d true), (109, .v (.ro (eForb x2))), (114, .v (.ro (eForb x3))), (116, .d false), (6000, .d true)] (apc (cv h1) (apc (ig eForb 3 .i64 h2) (apc (ig eForb 3 .i64 h3) (apc (cv h4) (apc ((okT_of rfl (abl_cons rfl rfl)) : okT 1 [bG a2] = true) apn))))) (by kernel_rfl)
 ·
  rw [← sj h]
  exact xbrk (n := 30) [(103, .d false), (6000, .d true)] (apc (cv h1) apn) (by kernel_rfl)
theorem L12_2_2_run (a1 : Int) (a2 : GramD) (s0 : Int) (e : E_L12_2_2) (h : runL (fun s => L12_2_2 a1 a2 s) s0 = some e) : L12_2_2_x a1 a2 e (evH prg 1 [1, 6, 7] ir12_l2 (L12_2_2_s a1 a2 s0)) := by
  have q := @loop_sound' (Int) E_L12_2_2 (fun s => L12_2_2 a1 a2 s) (fun s => evH prg 1 [1, 6, 7] ir12_l2 (L12_2_2_s a1 a2 s)) (L12_2_2_x a1 a2) (fun s r h => L12_2_2_ok a1 a2 s h) s0 e h
  exact q
inductive E_L12_3 where
  | k0
  | k1
noncomputable def L12_3 (a1 : GramD) (v1 : Int) : Option (E_L12_3 ⊕ (Int)) :=
  (bif (decide (v1 < (a1.forbid.length : Int))) then ((getI a1.forbid v1).bind fun x2 => ((F33 a1 x2).bind fun x3 => (bif x3 then ((runL (fun s => L12_2_2 v1 a1 s) 0).bind fun r5 => match r5 with | .k0 => (some (.inl (.k0))) | .k1 => (some (.inr ((IntKind.wrap .i64 (v1 + 1)))))) else (some (.inl (.k0)))))) else (some (.inl (.k1))))
def L12_3_s (a1 : GramD) (v1 : Int) : St := ⟨fr 160 ug [(1, (.ptr 0 0)), (6, (i6 v1))], [bG a1]⟩
def L12_3_x (a1 : GramD) (e : E_L12_3) (r : Option (Out × St)) : Prop := match e with | .k0 => ∃ g y, r = some (.ret, ⟨fr 160 g [(2, (i6 160))], y⟩) | .k1 => ∃ g, r = some ((.brk 6), ⟨fr 160 g [(1, (.ptr 0 0))], [bG a1]⟩)
abbrev L12_3_d0 (g5 : Nat → AV) (v1 : Int) (a1 : GramD) : St := ⟨fr 160 g5 [(1, (.ptr 0 0)), (6, (i6 v1))], [bG a1]⟩
theorem L12_3_ok (a1 : GramD) (v1 : Int) {r : E_L12_3 ⊕ (Int)} (h : L12_3 a1 v1 = some r) : OkR (fun e => L12_3_x a1 e (evH prg 1 [1, 6] ir12_l3 (L12_3_s a1 v1))) (fun s => evH prg 1 [1, 6] ir12_l3 (L12_3_s a1 v1) = evH prg 1 [1, 6] ir12_l3 (L12_3_s a1 s)) r := by
 unfold L12_3 at h
 refine bi h (fun h1 h => ?_) fun h1 h => ?_
 ·
  refine bn h fun x2 h2 h => ?_
  refine bn h fun x3 h3 h => ?_
  refine bi h (fun h4 h => ?_) fun h4 h => ?_
  ·
   have q3 := ((((F33_ok a1 x2 h3).cp rfl _).trans (congrArg (fun z => some (vb z)) h4)) : CP prg 33 [(aG a1), (.agg ((eForb x2).map .p))] [bG a1] = some (vb true))
   refine bn h fun r5 h5 h => ?_
   cases r5 with
   | k0 =>
    obtain ⟨g5, y5, e5⟩ := L12_2_2_run v1 a1 0 _ h5
    rw [← sj h]
    exact xretY (n := 30) [(89, .v (i6 (a1.forbid.length : Int))), (90, .d true), (97, .v (.ro (eForb x2))), (99, .v (vb true)), (2008, .l .ret ⟨fr 160 g5 [(2, (i6 160))], y5⟩), (6000, .d true)] (apc (lg a1.forbid eForb 3) (apc (cv h1) (apc (ig eForb 3 .i64 h2) (apc q3 (apc ((okT_of rfl (abl_cons rfl rfl)) : okT 1 [bG a1] = true) (apc (e5 : evH prg 1 [1, 6, 7] ir12_l2 (L12_2_2_s v1 a1 0) = some (.ret, ⟨fr 160 g5 [(2, (i6 160))], y5⟩)) apn)))))) (by kernel_rfl)
   | k1 =>
    obtain ⟨g5, e5⟩ := L12_2_2_run v1 a1 0 _ h5
    rw [← sj h]
    exact rnd (n := 30) [(89, .v (i6 (a1.forbid.length : Int))), (90, .d true), (97, .v (.ro (eForb x2))), (99, .v (vb true)), (2008, .l (.brk 8) (L12_3_d0 g5 v1 a1)), (6000, .d true)] (apc (lg a1.forbid eForb 3) (apc (cv h1) (apc (ig eForb 3 .i64 h2) (apc q3 (apc ((okT_of rfl (abl_cons rfl rfl)) : okT 1 [bG a1] = true) (apc (e5 : evH prg 1 [1, 6, 7] ir12_l2 (L12_2_2_s v1 a1 0) = some ((.brk 8), (L12_3_d0 g5 v1 a1))) (apc ((okT_of rfl (abl_cons rfl rfl)) : okT 1 [bG a1] = true) apn))))))) (by kernel_rfl)
  ·
   rw [← sj h]
   exact xretY (n := 30) [(89, .v (i6 (a1.forbid.length : Int))), (90, .d true), (97, .v (.ro (eForb x2))), (99, .v (vb false)), (6000, .d true)] (apc (lg a1.forbid eForb 3) (apc (cv h1) (apc (ig eForb 3 .i64 h2) (apc ((((F33_ok a1 x2 h3).cp rfl _).trans (congrArg (fun z => some (vb z)) h4)) : CP prg 33 [(aG a1), (.agg ((eForb x2).map .p))] [bG a1] = some (vb false)) apn)))) (by kernel_rfl)
 ·
  rw [← sj h]
  exact xbrk (n := 30) [(89, .v (i6 (a1.forbid.length : Int))), (90, .d false), (6000, .d true)] (apc (lg a1.forbid eForb 3) (apc (cv h1) apn)) (by kernel_rfl)
theorem L12_3_run (a1 : GramD) (s0 : Int) (e : E_L12_3) (h : runL (fun s => L12_3 a1 s) s0 = some e) : L12_3_x a1 e (evH prg 1 [1, 6] ir12_l3 (L12_3_s a1 s0)) := by
  have q := @loop_sound' (Int) E_L12_3 (fun s => L12_3 a1 s) (fun s => evH prg 1 [1, 6] ir12_l3 (L12_3_s a1 s)) (L12_3_x a1) (fun s r h => L12_3_ok a1 s h) s0 e h
  exact q
def F31_4_v (a1 : GramD) (a2 : FollD) (x0 : Bool) : AV := (vb x0)
noncomputable def F31_4 (a1 : GramD) (a2 : FollD) : Option Bool :=
  (bif (decide (a2.sort ≥ 0)) then (some (decide (a2.sort < (a1.sorts.length : Int)))) else (some false))
theorem F31_4_ok (a1 : GramD) (a2 : FollD) {r : Bool} (h : F31_4 a1 a2 = some r) : PR1 prg 31 [(aG a1), (i6 a2.sort)] (F31_4_v a1 a2 r) := by
 unfold F31_4 at h
 refine bi h (fun h1 h => ?_) fun h1 h => ?_
 ·
  rw [← sj h]
  exact fpr (n := 30) [(6, .d true), (11, .v (i6 (a1.sorts.length : Int)))] (apc (cv h1) (apc (lg a1.sorts eStr 1) apn)) rfl (by kernel_rfl)
 ·
  rw [← sj h]
  exact fpr (n := 30) [(6, .d false)] (apc (cv h1) apn) rfl (by kernel_rfl)
def F34_2_v (a1 : FollD) (x0 : Bool) : AV := (vb x0)
noncomputable def F34_2 (a1 : FollD) : Option Bool :=
  (some ((IntKind.wrap .u64 ((BitVec.ofInt (IntKind.bits .u64) (IntKind.wrap .u64 ((BitVec.ofInt (IntKind.bits .u64) (IntKind.wrap .u64 ((BitVec.ofInt (IntKind.bits .u64) a1.a ||| BitVec.ofInt (IntKind.bits .u64) a1.b).toNat : Int)) ||| BitVec.ofInt (IntKind.bits .u64) a1.c).toNat : Int)) ||| BitVec.ofInt (IntKind.bits .u64) a1.d).toNat : Int)) == 0))
theorem F34_2_ok (a1 : FollD) {r : Bool} (h : F34_2 a1 = some r) : PR1 prg 34 [(.agg ((List.drop 1 (eFoll a1)).map .p))] (F34_2_v a1 r) := by
 unfold F34_2 at h
 rw [← sj h]
 exact fpr (n := 30) [] apn rfl (by kernel_rfl)
inductive E_L12_0_2 where
  | k0
  | k1
noncomputable def L12_0_2 (a1 : Int) (a2 : GramD) (v1 : Int) : Option (E_L12_0_2 ⊕ (Int)) :=
  (bif (decide (v1 < a1)) then ((getI a2.follow v1).bind fun x2 => ((getI a2.follow a1).bind fun x3 => (bif (x2.sort == x3.sort) then (some (.inl (.k0))) else (some (.inr ((IntKind.wrap .i64 (v1 + 1)))))))) else (some (.inl (.k1))))
def L12_0_2_s (a1 : Int) (a2 : GramD) (v1 : Int) : St := ⟨fr 160 ug [(1, (.ptr 0 0)), (8, (i6 a1)), (9, (i6 v1))], [bG a2]⟩
def L12_0_2_x (a1 : Int) (a2 : GramD) (e : E_L12_0_2) (r : Option (Out × St)) : Prop := match e with | .k0 => ∃ g y, r = some (.ret, ⟨fr 160 g [(2, (i6 160))], y⟩) | .k1 => ∃ g, r = some ((.brk 12), ⟨fr 160 g [(1, (.ptr 0 0)), (8, (i6 a1))], [bG a2]⟩)
theorem L12_0_2_ok (a1 : Int) (a2 : GramD) (v1 : Int) {r : E_L12_0_2 ⊕ (Int)} (h : L12_0_2 a1 a2 v1 = some r) : OkR (fun e => L12_0_2_x a1 a2 e (evH prg 1 [1, 8, 9] ir12_l0 (L12_0_2_s a1 a2 v1))) (fun s => evH prg 1 [1, 8, 9] ir12_l0 (L12_0_2_s a1 a2 v1) = evH prg 1 [1, 8, 9] ir12_l0 (L12_0_2_s a1 a2 s)) r := by
 unfold L12_0_2 at h
 refine bi h (fun h1 h => ?_) fun h1 h => ?_
 ·
  refine bn h fun x2 h2 h => ?_
  refine bn h fun x3 h3 h => ?_
  refine bi h (fun h4 h => ?_) fun h4 h => ?_
  ·
   rw [← sj h]
   exact xretY (n := 30) [(144, .d true), (150, .v (.ro (eFoll x2))), (156, .v (.ro (eFoll x3))), (159, .d true), (6000, .d true)] (apc (cv h1) (apc (ig eFoll 5 .i64 h2) (apc (ig eFoll 5 .i64 h3) (apc (cv h4) apn)))) (by kernel_rfl)
  ·
   rw [← sj h]
   exact rnd (n := 30) [(144, .d true), (150, .v (.ro (eFoll x2))), (156, .v (.ro (eFoll x3))), (159, .d false), (6000, .d true)] (apc (cv h1) (apc (ig eFoll 5 .i64 h2) (apc (ig eFoll 5 .i64 h3) (apc (cv h4) (apc ((okT_of rfl (abl_cons rfl rfl)) : okT 1 [bG a2] = true) apn))))) (by kernel_rfl)
 ·
  rw [← sj h]
  exact xbrk (n := 30) [(144, .d false), (6000, .d true)] (apc (cv h1) apn) (by kernel_rfl)
theorem L12_0_2_run (a1 : Int) (a2 : GramD) (s0 : Int) (e : E_L12_0_2) (h : runL (fun s => L12_0_2 a1 a2 s) s0 = some e) : L12_0_2_x a1 a2 e (evH prg 1 [1, 8, 9] ir12_l0 (L12_0_2_s a1 a2 s0)) := by
  have q := @loop_sound' (Int) E_L12_0_2 (fun s => L12_0_2 a1 a2 s) (fun s => evH prg 1 [1, 8, 9] ir12_l0 (L12_0_2_s a1 a2 s)) (L12_0_2_x a1 a2) (fun s r h => L12_0_2_ok a1 a2 s h) s0 e h
  exact q
inductive E_L12_1 where
  | k0
  | k1
noncomputable def L12_1 (a1 : GramD) (v1 : Int) : Option (E_L12_1 ⊕ (Int)) :=
  (bif (decide (v1 < (a1.follow.length : Int))) then ((getI a1.follow v1).bind fun x2 => ((F31_4 a1 x2).bind fun x3 => (bif x3 then ((F34_2 x2).bind fun x5 => (bif x5 then (some (.inl (.k0))) else ((runL (fun s => L12_0_2 v1 a1 s) 0).bind fun r7 => match r7 with | .k0 => (some (.inl (.k0))) | .k1 => (some (.inr ((IntKind.wrap .i64 (v1 + 1)))))))) else (some (.inl (.k0)))))) else (some (.inl (.k1))))
def L12_1_s (a1 : GramD) (v1 : Int) : St := ⟨fr 160 ug [(1, (.ptr 0 0)), (8, (i6 v1))], [bG a1]⟩
def L12_1_x (a1 : GramD) (e : E_L12_1) (r : Option (Out × St)) : Prop := match e with | .k0 => ∃ g y, r = some (.ret, ⟨fr 160 g [(2, (i6 160))], y⟩) | .k1 => ∃ g, r = some ((.brk 10), ⟨fr 160 g [(1, (.ptr 0 0))], [bG a1]⟩)
abbrev L12_1_d0 (g7 : Nat → AV) (v1 : Int) (a1 : GramD) : St := ⟨fr 160 g7 [(1, (.ptr 0 0)), (8, (i6 v1))], [bG a1]⟩
theorem L12_1_ok (a1 : GramD) (v1 : Int) {r : E_L12_1 ⊕ (Int)} (h : L12_1 a1 v1 = some r) : OkR (fun e => L12_1_x a1 e (evH prg 1 [1, 8] ir12_l1 (L12_1_s a1 v1))) (fun s => evH prg 1 [1, 8] ir12_l1 (L12_1_s a1 v1) = evH prg 1 [1, 8] ir12_l1 (L12_1_s a1 s)) r := by
 unfold L12_1 at h
 refine bi h (fun h1 h => ?_) fun h1 h => ?_
 ·
  refine bn h fun x2 h2 h => ?_
  refine bn h fun x3 h3 h => ?_
  refine bi h (fun h4 h => ?_) fun h4 h => ?_
  ·
   have q3 := ((((F31_4_ok a1 x2 h3).cp rfl _).trans (congrArg (fun z => some (vb z)) h4)) : CP prg 31 [(aG a1), (i6 x2.sort)] [bG a1] = some (vb true))
   refine bn h fun x5 h5 h => ?_
   refine bi h (fun h6 h => ?_) fun h6 h => ?_
   ·
    rw [← sj h]
    exact xretY (n := 30) [(120, .v (i6 (a1.follow.length : Int))), (121, .d true), (128, .v (.ro (eFoll x2))), (131, .v (vb true)), (137, .v (.ro (eFoll x2))), (140, .v (vb true)), (6000, .d true)] (apc (lg a1.follow eFoll 5) (apc (cv h1) (apc (ig eFoll 5 .i64 h2) (apc q3 (apc (ig eFoll 5 .i64 h2) (apc ((((F34_2_ok x2 h5).cp rfl _).trans (congrArg (fun z => some (vb z)) h6)) : CP prg 34 [(.agg ((List.drop 1 (eFoll x2)).map .p))] [bG a1] = some (vb true)) apn)))))) (by kernel_rfl)
   ·
    have q5 := ((((F34_2_ok x2 h5).cp rfl _).trans (congrArg (fun z => some (vb z)) h6)) : CP prg 34 [(.agg ((List.drop 1 (eFoll x2)).map .p))] [bG a1] = some (vb false))
    refine bn h fun r7 h7 h => ?_
    cases r7 with
    | k0 =>
     obtain ⟨g7, y7, e7⟩ := L12_0_2_run v1 a1 0 _ h7
     rw [← sj h]
     exact xretY (n := 30) [(120, .v (i6 (a1.follow.length : Int))), (121, .d true), (128, .v (.ro (eFoll x2))), (131, .v (vb true)), (137, .v (.ro (eFoll x2))), (140, .v (vb false)), (2012, .l .ret ⟨fr 160 g7 [(2, (i6 160))], y7⟩), (6000, .d true)] (apc (lg a1.follow eFoll 5) (apc (cv h1) (apc (ig eFoll 5 .i64 h2) (apc q3 (apc (ig eFoll 5 .i64 h2) (apc q5 (apc ((okT_of rfl (abl_cons rfl rfl)) : okT 1 [bG a1] = true) (apc (e7 : evH prg 1 [1, 8, 9] ir12_l0 (L12_0_2_s v1 a1 0) = some (.ret, ⟨fr 160 g7 [(2, (i6 160))], y7⟩)) apn)))))))) (by kernel_rfl)
    | k1 =>
     obtain ⟨g7, e7⟩ := L12_0_2_run v1 a1 0 _ h7
     rw [← sj h]
     exact rnd (n := 30) [(120, .v (i6 (a1.follow.length : Int))), (121, .d true), (128, .v (.ro (eFoll x2))), (131, .v (vb true)), (137, .v (.ro (eFoll x2))), (140, .v (vb false)), (2012, .l (.brk 12) (L12_1_d0 g7 v1 a1)), (6000, .d true)] (apc (lg a1.follow eFoll 5) (apc (cv h1) (apc (ig eFoll 5 .i64 h2) (apc q3 (apc (ig eFoll 5 .i64 h2) (apc q5 (apc ((okT_of rfl (abl_cons rfl rfl)) : okT 1 [bG a1] = true) (apc (e7 : evH prg 1 [1, 8, 9] ir12_l0 (L12_0_2_s v1 a1 0) = some ((.brk 12), (L12_1_d0 g7 v1 a1))) (apc ((okT_of rfl (abl_cons rfl rfl)) : okT 1 [bG a1] = true) apn))))))))) (by kernel_rfl)
  ·
   rw [← sj h]
   exact xretY (n := 30) [(120, .v (i6 (a1.follow.length : Int))), (121, .d true), (128, .v (.ro (eFoll x2))), (131, .v (vb false)), (6000, .d true)] (apc (lg a1.follow eFoll 5) (apc (cv h1) (apc (ig eFoll 5 .i64 h2) (apc ((((F31_4_ok a1 x2 h3).cp rfl _).trans (congrArg (fun z => some (vb z)) h4)) : CP prg 31 [(aG a1), (i6 x2.sort)] [bG a1] = some (vb false)) apn)))) (by kernel_rfl)
 ·
  rw [← sj h]
  exact xbrk (n := 30) [(120, .v (i6 (a1.follow.length : Int))), (121, .d false), (6000, .d true)] (apc (lg a1.follow eFoll 5) (apc (cv h1) apn)) (by kernel_rfl)
theorem L12_1_run (a1 : GramD) (s0 : Int) (e : E_L12_1) (h : runL (fun s => L12_1 a1 s) s0 = some e) : L12_1_x a1 e (evH prg 1 [1, 8] ir12_l1 (L12_1_s a1 s0)) := by
  have q := @loop_sound' (Int) E_L12_1 (fun s => L12_1 a1 s) (fun s => evH prg 1 [1, 8] ir12_l1 (L12_1_s a1 s)) (L12_1_x a1) (fun s r h => L12_1_ok a1 s h) s0 e h
  exact q
def F12_v (a1 : GramD) (x0 : Int) : AV := (i6 x0)
noncomputable def F12 (a1 : GramD) : Option Int :=
  (bif (decide ((a1.sorts.length : Int) < 1)) then (some 160) else (bif (decide ((a1.sorts.length : Int) > 1000)) then (some 160) else (bif (decide ((a1.prods.length : Int) > 1000)) then (some 160) else ((F31 a1).bind fun x4 => (bif x4 then ((runL (fun s => L12_6 a1 s) 0).bind fun r6 => match r6 with | .k0 => (some 160) | .k1 => ((runL (fun s => L12_4 a1 s) 0).bind fun r7 => match r7 with | .k0 => (some 160) | .k1 => ((runL (fun s => L12_3 a1 s) 0).bind fun r8 => match r8 with | .k0 => (some 160) | .k1 => ((runL (fun s => L12_1 a1 s) 0).bind fun r9 => match r9 with | .k0 => (some 160) | .k1 => (some 0))))) else (some 160))))))
theorem F12_ok (a1 : GramD) {r : Int} (h : F12 a1 = some r) : PR1 prg 12 [(aG a1)] (F12_v a1 r) := by
 unfold F12 at h
 refine bi h (fun h1 h => ?_) fun h1 h => ?_
 ·
  rw [← sj h]
  exact fpr (n := 30) [(12, .v (i6 (a1.sorts.length : Int))), (13, .d true)] (apc (lg a1.sorts eStr 1) (apc (cv h1) apn)) rfl (by kernel_rfl)
 ·
  refine bi h (fun h2 h => ?_) fun h2 h => ?_
  ·
   rw [← sj h]
   exact fpr (n := 30) [(12, .v (i6 (a1.sorts.length : Int))), (13, .d false), (17, .v (i6 (a1.sorts.length : Int))), (18, .d true)] (apc (lg a1.sorts eStr 1) (apc (cv h1) (apc (lg a1.sorts eStr 1) (apc (cv h2) apn)))) rfl (by kernel_rfl)
  ·
   refine bi h (fun h3 h => ?_) fun h3 h => ?_
   ·
    rw [← sj h]
    exact fpr (n := 30) [(12, .v (i6 (a1.sorts.length : Int))), (13, .d false), (17, .v (i6 (a1.sorts.length : Int))), (18, .d false), (23, .v (i6 (a1.prods.length : Int))), (24, .d true)] (apc (lg a1.sorts eStr 1) (apc (cv h1) (apc (lg a1.sorts eStr 1) (apc (cv h2) (apc (lg a1.prods eProd 7) (apc (cv h3) apn)))))) rfl (by kernel_rfl)
   ·
    refine bn h fun x4 h4 h => ?_
    refine bi h (fun h5 h => ?_) fun h5 h => ?_
    ·
     have q6 := ((((F31_ok a1 h4).cp rfl _).trans (congrArg (fun z => some (vb z)) h5)) : CP prg 31 [(aG a1), (i6 a1.start)] [bG a1] = some (vb true))
     refine bn h fun r6 h6 h => ?_
     cases r6 with
     | k0 =>
      obtain ⟨g6, y6, e6⟩ := L12_6_run a1 0 _ h6
      rw [← sj h]
      exact fpr (n := 30) [(12, .v (i6 (a1.sorts.length : Int))), (13, .d false), (17, .v (i6 (a1.sorts.length : Int))), (18, .d false), (23, .v (i6 (a1.prods.length : Int))), (24, .d false), (30, .v (vb true)), (2000, .l .ret ⟨fr 160 g6 [(2, (i6 160))], y6⟩), (6000, .d true)] (apc (lg a1.sorts eStr 1) (apc (cv h1) (apc (lg a1.sorts eStr 1) (apc (cv h2) (apc (lg a1.prods eProd 7) (apc (cv h3) (apc q6 (apc ((okT_of rfl (abl_cons rfl rfl)) : okT 1 [bG a1] = true) (apc (e6 : evH prg 1 [1, 3] ir12_l6 (L12_6_s a1 0) = some (.ret, ⟨fr 160 g6 [(2, (i6 160))], y6⟩)) apn))))))))) rfl (by kernel_rfl)
     | k1 =>
      obtain ⟨g6, e6⟩ := L12_6_run a1 0 _ h6
      have q7 := ((okT_of rfl (abl_cons rfl rfl)) : okT 1 [bG a1] = true)
      have q8 := (e6 : evH prg 1 [1, 3] ir12_l6 (L12_6_s a1 0) = some ((.brk 0), ⟨fr 160 g6 [(1, (.ptr 0 0))], [bG a1]⟩))
      refine bn h fun r7 h7 h => ?_
      cases r7 with
      | k0 =>
       obtain ⟨g7, y7, e7⟩ := L12_4_run a1 0 _ h7
       rw [← sj h]
       exact fpr (n := 30) [(12, .v (i6 (a1.sorts.length : Int))), (13, .d false), (17, .v (i6 (a1.sorts.length : Int))), (18, .d false), (23, .v (i6 (a1.prods.length : Int))), (24, .d false), (30, .v (vb true)), (2000, .l (.brk 0) ⟨fr 160 g6 [(1, (.ptr 0 0))], [bG a1]⟩), (2004, .l .ret ⟨fr 160 g7 [(2, (i6 160))], y7⟩), (6000, .d true)] (apc (lg a1.sorts eStr 1) (apc (cv h1) (apc (lg a1.sorts eStr 1) (apc (cv h2) (apc (lg a1.prods eProd 7) (apc (cv h3) (apc q6 (apc q7 (apc q8 (apc ((okT_of rfl (abl_cons rfl rfl)) : okT 1 [bG a1] = true) (apc (e7 : evH prg 1 [1, 5] ir12_l4 (L12_4_s a1 0) = some (.ret, ⟨fr 160 g7 [(2, (i6 160))], y7⟩)) apn))))))))))) rfl (by kernel_rfl)
      | k1 =>
       obtain ⟨g7, e7⟩ := L12_4_run a1 0 _ h7
       have q9 := ((okT_of rfl (abl_cons rfl rfl)) : okT 1 [bG a1] = true)
       have q10 := (e7 : evH prg 1 [1, 5] ir12_l4 (L12_4_s a1 0) = some ((.brk 4), ⟨fr 160 g7 [(1, (.ptr 0 0))], [bG a1]⟩))
       refine bn h fun r8 h8 h => ?_
       cases r8 with
       | k0 =>
        obtain ⟨g8, y8, e8⟩ := L12_3_run a1 0 _ h8
        rw [← sj h]
        exact fpr (n := 30) [(12, .v (i6 (a1.sorts.length : Int))), (13, .d false), (17, .v (i6 (a1.sorts.length : Int))), (18, .d false), (23, .v (i6 (a1.prods.length : Int))), (24, .d false), (30, .v (vb true)), (2000, .l (.brk 0) ⟨fr 160 g6 [(1, (.ptr 0 0))], [bG a1]⟩), (2004, .l (.brk 4) ⟨fr 160 g7 [(1, (.ptr 0 0))], [bG a1]⟩), (2006, .l .ret ⟨fr 160 g8 [(2, (i6 160))], y8⟩), (6000, .d true)] (apc (lg a1.sorts eStr 1) (apc (cv h1) (apc (lg a1.sorts eStr 1) (apc (cv h2) (apc (lg a1.prods eProd 7) (apc (cv h3) (apc q6 (apc q7 (apc q8 (apc q9 (apc q10 (apc ((okT_of rfl (abl_cons rfl rfl)) : okT 1 [bG a1] = true) (apc (e8 : evH prg 1 [1, 6] ir12_l3 (L12_3_s a1 0) = some (.ret, ⟨fr 160 g8 [(2, (i6 160))], y8⟩)) apn))))))))))))) rfl (by kernel_rfl)
       | k1 =>
        obtain ⟨g8, e8⟩ := L12_3_run a1 0 _ h8
        have q11 := ((okT_of rfl (abl_cons rfl rfl)) : okT 1 [bG a1] = true)
        have q12 := (e8 : evH prg 1 [1, 6] ir12_l3 (L12_3_s a1 0) = some ((.brk 6), ⟨fr 160 g8 [(1, (.ptr 0 0))], [bG a1]⟩))
        refine bn h fun r9 h9 h => ?_
        cases r9 with
        | k0 =>
         obtain ⟨g9, y9, e9⟩ := L12_1_run a1 0 _ h9
         rw [← sj h]
         exact fpr (n := 30) [(12, .v (i6 (a1.sorts.length : Int))), (13, .d false), (17, .v (i6 (a1.sorts.length : Int))), (18, .d false), (23, .v (i6 (a1.prods.length : Int))), (24, .d false), (30, .v (vb true)), (2000, .l (.brk 0) ⟨fr 160 g6 [(1, (.ptr 0 0))], [bG a1]⟩), (2004, .l (.brk 4) ⟨fr 160 g7 [(1, (.ptr 0 0))], [bG a1]⟩), (2006, .l (.brk 6) ⟨fr 160 g8 [(1, (.ptr 0 0))], [bG a1]⟩), (2010, .l .ret ⟨fr 160 g9 [(2, (i6 160))], y9⟩), (6000, .d true)] (apc (lg a1.sorts eStr 1) (apc (cv h1) (apc (lg a1.sorts eStr 1) (apc (cv h2) (apc (lg a1.prods eProd 7) (apc (cv h3) (apc q6 (apc q7 (apc q8 (apc q9 (apc q10 (apc q11 (apc q12 (apc ((okT_of rfl (abl_cons rfl rfl)) : okT 1 [bG a1] = true) (apc (e9 : evH prg 1 [1, 8] ir12_l1 (L12_1_s a1 0) = some (.ret, ⟨fr 160 g9 [(2, (i6 160))], y9⟩)) apn))))))))))))))) rfl (by kernel_rfl)
        | k1 =>
         obtain ⟨g9, e9⟩ := L12_1_run a1 0 _ h9
         rw [← sj h]
         exact fpr (n := 30) [(12, .v (i6 (a1.sorts.length : Int))), (13, .d false), (17, .v (i6 (a1.sorts.length : Int))), (18, .d false), (23, .v (i6 (a1.prods.length : Int))), (24, .d false), (30, .v (vb true)), (2000, .l (.brk 0) ⟨fr 160 g6 [(1, (.ptr 0 0))], [bG a1]⟩), (2004, .l (.brk 4) ⟨fr 160 g7 [(1, (.ptr 0 0))], [bG a1]⟩), (2006, .l (.brk 6) ⟨fr 160 g8 [(1, (.ptr 0 0))], [bG a1]⟩), (2010, .l (.brk 10) ⟨fr 160 g9 [(1, (.ptr 0 0))], [bG a1]⟩), (6000, .d true)] (apc (lg a1.sorts eStr 1) (apc (cv h1) (apc (lg a1.sorts eStr 1) (apc (cv h2) (apc (lg a1.prods eProd 7) (apc (cv h3) (apc q6 (apc q7 (apc q8 (apc q9 (apc q10 (apc q11 (apc q12 (apc ((okT_of rfl (abl_cons rfl rfl)) : okT 1 [bG a1] = true) (apc (e9 : evH prg 1 [1, 8] ir12_l1 (L12_1_s a1 0) = some ((.brk 10), ⟨fr 160 g9 [(1, (.ptr 0 0))], [bG a1]⟩)) apn))))))))))))))) rfl (by kernel_rfl)
    ·
     rw [← sj h]
     exact fpr (n := 30) [(12, .v (i6 (a1.sorts.length : Int))), (13, .d false), (17, .v (i6 (a1.sorts.length : Int))), (18, .d false), (23, .v (i6 (a1.prods.length : Int))), (24, .d false), (30, .v (vb false))] (apc (lg a1.sorts eStr 1) (apc (cv h1) (apc (lg a1.sorts eStr 1) (apc (cv h2) (apc (lg a1.prods eProd 7) (apc (cv h3) (apc ((((F31_ok a1 h4).cp rfl _).trans (congrArg (fun z => some (vb z)) h5)) : CP prg 31 [(aG a1), (i6 a1.start)] [bG a1] = some (vb false)) apn))))))) rfl (by kernel_rfl)
inductive E_L41_0 where
  | k0
  | k1 (x0 : List (ByteArray × Int))
noncomputable def L41_0 (a1 : GramD) (a2 : Int) (v1 : Int) (v2 : List (ByteArray × Int)) : Option (E_L41_0 ⊕ (Int × (List (ByteArray × Int)))) :=
  (bif (decide (v1 < a2)) then ((getI a1.sorts v1).bind fun x2 => (bif (x2.toList == (⟨([] : List UInt8).toArray⟩ : ByteArray).toList) then (some (.inl (.k0))) else (bif (decide ((x2.size : Int) > 1000)) then (some (.inl (.k0))) else (bif (decide ((mget 0 (mput x2 (IntKind.wrap .i64 ((mget 0 v2 x2) + 1)) v2) x2) > 1)) then (some (.inl (.k0))) else (some (.inr ((IntKind.wrap .i64 (v1 + 1)), (mput x2 (IntKind.wrap .i64 ((mget 0 v2 x2) + 1)) v2)))))))) else (some (.inl (.k1 v2))))
def L41_0_s (a1 : GramD) (a2 : Int) (v1 : Int) (v2 : List (ByteArray × Int)) : St := ⟨fr 55 ug [(1, (.ptr 0 0)), (3, (.mp 1)), (8, (.p (.lst 1 (a1.sorts.map eStr)))), (9, (i6 a2)), (10, (i6 v1))], [bG a1, .map (mrow (fun s => vs s) (fun n => vi .i64 n) v2)]⟩
def L41_0_x (a1 : GramD) (a2 : Int) (e : E_L41_0) (r : Option (Out × St)) : Prop := match e with | .k0 => ∃ g y, r = some (.ret, ⟨fr 55 g [(2, (vb false))], y⟩) | .k1 x0 => ∃ g, r = some ((.brk 0), ⟨fr 55 g [(1, (.ptr 0 0)), (8, (.p (.lst 1 (a1.sorts.map eStr))))], [bG a1, .map (mrow (fun s => vs s) (fun n => vi .i64 n) x0)]⟩)
abbrev L41_0_d0 (a1 : GramD) (v2 : List (ByteArray × Int)) : List AB := [bG a1, .map (mrow (fun s => vs s) (fun n => vi .i64 n) v2)]
abbrev L41_0_d1 (a1 : GramD) (x2 : ByteArray) (v2 : List (ByteArray × Int)) : List AB := [bG a1, .map (mrow (fun s => vs s) (fun n => vi .i64 n) (mput x2 (w6 ((mget 0 v2 x2) + 1)) v2))]
abbrev L41_0_c0 (x2 : ByteArray) (v2 : List (ByteArray × Int)) (a1 : GramD) : List (Nat × Hint) := [(12, .v (.ro [.val (.string x2)])), (16, .v (i6 (mget 0 v2 x2))), (7017, .r ud (L41_0_d1 a1 x2 v2))]
abbrev L41_0_c1 (x2 : ByteArray) (v2 : List (ByteArray × Int)) : List (Nat × Hint) := [(23, .d false), (28, .v (i6 (mget 0 (mput x2 (w6 ((mget 0 v2 x2) + 1)) v2) x2)))]
theorem L41_0_ok (a1 : GramD) (a2 : Int) (v1 : Int) (v2 : List (ByteArray × Int)) {r : E_L41_0 ⊕ (Int × (List (ByteArray × Int)))} (h : L41_0 a1 a2 v1 v2 = some r) : OkR (fun e => L41_0_x a1 a2 e (evH prg 2 [1, 3, 8, 9, 10] ir41_l0 (L41_0_s a1 a2 v1 v2))) (fun s => evH prg 2 [1, 3, 8, 9, 10] ir41_l0 (L41_0_s a1 a2 v1 v2) = evH prg 2 [1, 3, 8, 9, 10] ir41_l0 (L41_0_s a1 a2 s.1 s.2)) r := by
 unfold L41_0 at h
 refine bi h (fun h1 h => ?_) fun h1 h => ?_
 ·
  refine bn h fun x2 h2 h => ?_
  have q2 := ((lk_row key_str (es := v2) (k := x2) (z := 0) rfl rfl) : lkA (L41_0_d0 a1 v2) [2] .false .false [(.val (.int .i64 0))] .false (.mp 1) (vs x2) = some (i6 (mget 0 v2 x2)))
  have q3 := (⟨up_row key_str (es := v2) (k := x2) (v := (w6 ((mget 0 v2 x2) + 1))) rfl, rfl⟩ : upA (L41_0_d0 a1 v2) [2] .false (.mp 1) (vs x2) (i6 (w6 ((mget 0 v2 x2) + 1))) = some (L41_0_d1 a1 x2 v2) ∧ ud = ud)
  refine bi h (fun h3 h => ?_) fun h3 h => ?_
  ·
   rw [← sj h]
   exact xretY (n := 30) ([(11, .d true)] ++ ((L41_0_c0 x2 v2 a1) ++ [(19, .d true), (6000, .d true)])) (apc (cv h1) (apc (ig eStr 1 .i64 h2) (apc q2 (apc q3 (apc (cv h3) apn))))) (by kernel_rfl)
  ·
   refine bi h (fun h4 h => ?_) fun h4 h => ?_
   ·
    rw [← sj h]
    exact xretY (n := 30) ([(11, .d true)] ++ ((L41_0_c0 x2 v2 a1) ++ [(19, .d false), (23, .d true), (6000, .d true)])) (apc (cv h1) (apc (ig eStr 1 .i64 h2) (apc q2 (apc q3 (apc (cv h3) (apc (cv h4) apn)))))) (by kernel_rfl)
   ·
    have q6 := ((lk_row key_str (es := (mput x2 (w6 ((mget 0 v2 x2) + 1)) v2)) (k := x2) (z := 0) rfl rfl) : lkA (L41_0_d1 a1 x2 v2) [2] .false .false [(.val (.int .i64 0))] .false (.mp 1) (vs x2) = some (i6 (mget 0 (mput x2 (w6 ((mget 0 v2 x2) + 1)) v2) x2)))
    refine bi h (fun h5 h => ?_) fun h5 h => ?_
    ·
     rw [← sj h]
     exact xretY (n := 30) ([(11, .d true)] ++ ((L41_0_c0 x2 v2 a1) ++ ([(19, .d false)] ++ ((L41_0_c1 x2 v2) ++ [(29, .d true), (6000, .d true)])))) (apc (cv h1) (apc (ig eStr 1 .i64 h2) (apc q2 (apc q3 (apc (cv h3) (apc (cv h4) (apc q6 (apc (cv h5) apn)))))))) (by kernel_rfl)
    ·
     rw [← sj h]
     exact rnd (n := 30) ([(11, .d true)] ++ ((L41_0_c0 x2 v2 a1) ++ ([(19, .d false)] ++ ((L41_0_c1 x2 v2) ++ [(29, .d false), (6000, .d true)])))) (apc (cv h1) (apc (ig eStr 1 .i64 h2) (apc q2 (apc q3 (apc (cv h3) (apc (cv h4) (apc q6 (apc (cv h5) (apc ((okT_of rfl (abl_cons rfl (abl_cons (abl_map (fun _ => rfl) (fun _ => rfl)) rfl))) : okT 2 (L41_0_d1 a1 x2 v2) = true) apn))))))))) (by kernel_rfl)
 ·
  rw [← sj h]
  exact xbrk (n := 30) [(11, .d false), (6000, .d true)] (apc (cv h1) apn) (by kernel_rfl)
theorem L41_0_run (a1 : GramD) (a2 : Int) (s0 : Int × (List (ByteArray × Int))) (e : E_L41_0) (h : runL (fun s => L41_0 a1 a2 s.1 s.2) s0 = some e) : L41_0_x a1 a2 e (evH prg 2 [1, 3, 8, 9, 10] ir41_l0 (L41_0_s a1 a2 s0.1 s0.2)) := by
  have q := @loop_sound' (Int × (List (ByteArray × Int))) E_L41_0 (fun s => L41_0 a1 a2 s.1 s.2) (fun s => evH prg 2 [1, 3, 8, 9, 10] ir41_l0 (L41_0_s a1 a2 s.1 s.2)) (L41_0_x a1 a2) (fun s r h => L41_0_ok a1 a2 s.1 s.2 h) s0 e h
  exact q
def F41_v (a1 : GramD) (x0 : Bool) : AV := (vb x0)
noncomputable def F41 (a1 : GramD) : Option Bool :=
  ((runL (fun s => L41_0 a1 (a1.sorts.length : Int) s.1 s.2) (0, [])).bind fun r1 => match r1 with | .k0 => (some false) | .k1 x1_0 => (bif (decide ((a1.sorts.length : Int) ≥ 1)) then (bif (decide ((a1.sorts.length : Int) ≤ 1000)) then (bif (decide (a1.start ≥ 0)) then (some (decide (a1.start < (a1.sorts.length : Int)))) else (some false)) else (some false)) else (some false)))
abbrev F41_d0 (g1 : Nat → AV) (a1 : GramD) (x1_0 : List (ByteArray × Int)) : St := ⟨fr 55 g1 [(1, (.ptr 0 0)), (8, (.p (.lst 1 (a1.sorts.map eStr))))], [bG a1, .map (mrow (fun s => vs s) (fun n => vi .i64 n) x1_0)]⟩
abbrev F41_c0 (g1 : Nat → AV) (a1 : GramD) (x1_0 : List (ByteArray × Int)) : List (Nat × Hint) := [(2000, .l (.brk 0) (F41_d0 g1 a1 x1_0)), (34, .v (i6 (a1.sorts.length : Int)))]
theorem F41_ok (a1 : GramD) {r : Bool} (h : F41 a1 = some r) : PR1 prg 41 [(aG a1)] (F41_v a1 r) := by
 unfold F41 at h
 refine bn h fun r1 h1 h => ?_
 cases r1 with
 | k0 =>
  obtain ⟨g1, y1, e1⟩ := L41_0_run a1 (a1.sorts.length : Int) (0, []) _ h1
  rw [← sj h]
  exact fpr (n := 30) [(9, .v (i6 (a1.sorts.length : Int))), (2000, .l .ret ⟨fr 55 g1 [(2, (vb false))], y1⟩), (6000, .d true)] (apc (lg a1.sorts eStr 1) (apc ((okT_of rfl (abl_cons rfl (abl_cons rfl rfl))) : okT 2 [bG a1, .map []] = true) (apc (e1 : evH prg 2 [1, 3, 8, 9, 10] ir41_l0 (L41_0_s a1 (a1.sorts.length : Int) 0 ([])) = some (.ret, ⟨fr 55 g1 [(2, (vb false))], y1⟩)) apn))) rfl (by kernel_rfl)
 | k1 x1_0 =>
  obtain ⟨g1, e1⟩ := L41_0_run a1 (a1.sorts.length : Int) (0, []) _ h1
  have q1 := ((okT_of rfl (abl_cons rfl (abl_cons rfl rfl))) : okT 2 [bG a1, .map []] = true)
  have q2 := (e1 : evH prg 2 [1, 3, 8, 9, 10] ir41_l0 (L41_0_s a1 (a1.sorts.length : Int) 0 ([])) = some ((.brk 0), (F41_d0 g1 a1 x1_0)))
  refine bi h (fun h2 h => ?_) fun h2 h => ?_
  ·
   refine bi h (fun h3 h => ?_) fun h3 h => ?_
   ·
    refine bi h (fun h4 h => ?_) fun h4 h => ?_
    ·
     rw [← sj h]
     exact fpr (n := 30) ([(9, .v (i6 (a1.sorts.length : Int)))] ++ ((F41_c0 g1 a1 x1_0) ++ [(35, .d true), (39, .v (i6 (a1.sorts.length : Int))), (40, .d true), (45, .d true), (52, .v (i6 (a1.sorts.length : Int))), (6000, .d true)])) (apc (lg a1.sorts eStr 1) (apc q1 (apc q2 (apc (lg a1.sorts eStr 1) (apc (cv h2) (apc (lg a1.sorts eStr 1) (apc (cv h3) (apc (cv h4) (apc (lg a1.sorts eStr 1) apn))))))))) rfl (by kernel_rfl)
    ·
     rw [← sj h]
     exact fpr (n := 30) ([(9, .v (i6 (a1.sorts.length : Int)))] ++ ((F41_c0 g1 a1 x1_0) ++ [(35, .d true), (39, .v (i6 (a1.sorts.length : Int))), (40, .d true), (45, .d false), (6000, .d true)])) (apc (lg a1.sorts eStr 1) (apc q1 (apc q2 (apc (lg a1.sorts eStr 1) (apc (cv h2) (apc (lg a1.sorts eStr 1) (apc (cv h3) (apc (cv h4) apn)))))))) rfl (by kernel_rfl)
   ·
    rw [← sj h]
    exact fpr (n := 30) ([(9, .v (i6 (a1.sorts.length : Int)))] ++ ((F41_c0 g1 a1 x1_0) ++ [(35, .d true), (39, .v (i6 (a1.sorts.length : Int))), (40, .d false), (6000, .d true)])) (apc (lg a1.sorts eStr 1) (apc q1 (apc q2 (apc (lg a1.sorts eStr 1) (apc (cv h2) (apc (lg a1.sorts eStr 1) (apc (cv h3) apn))))))) rfl (by kernel_rfl)
  ·
   rw [← sj h]
   exact fpr (n := 30) ([(9, .v (i6 (a1.sorts.length : Int)))] ++ ((F41_c0 g1 a1 x1_0) ++ [(35, .d false), (6000, .d true)])) (apc (lg a1.sorts eStr 1) (apc q1 (apc q2 (apc (lg a1.sorts eStr 1) (apc (cv h2) apn))))) rfl (by kernel_rfl)
def F67_v (a1 : ProdD) (a2 : GramD) (x0 : Bool) : AV := (vb x0)
noncomputable def F67 (a1 : ProdD) (a2 : GramD) : Option Bool :=
  (bif (decide (a1.left ≥ 0)) then (some (decide (a1.left < (a2.sorts.length : Int)))) else (some false))
theorem F67_ok (a1 : ProdD) (a2 : GramD) {r : Bool} (h : F67 a1 a2 = some r) : PR1 prg 67 [(i6 a1.left), (.ro (eGram a2))] (F67_v a1 a2 r) := by
 unfold F67 at h
 refine bi h (fun h1 h => ?_) fun h1 h => ?_
 ·
  rw [← sj h]
  exact fpr (n := 30) [(5, .d true), (10, .v (i6 (a2.sorts.length : Int)))] (apc (cv h1) (apc (lg a2.sorts eStr 1) apn)) rfl (by kernel_rfl)
 ·
  rw [← sj h]
  exact fpr (n := 30) [(5, .d false)] (apc (cv h1) apn) rfl (by kernel_rfl)
def F67_2_v (a1 : SymD) (a2 : GramD) (x0 : Bool) : AV := (vb x0)
noncomputable def F67_2 (a1 : SymD) (a2 : GramD) : Option Bool :=
  (bif (decide (a1.sort ≥ 0)) then (some (decide (a1.sort < (a2.sorts.length : Int)))) else (some false))
theorem F67_2_ok (a1 : SymD) (a2 : GramD) {r : Bool} (h : F67_2 a1 a2 = some r) : PR1 prg 67 [(i6 a1.sort), (.ro (eGram a2))] (F67_2_v a1 a2 r) := by
 unfold F67_2 at h
 refine bi h (fun h1 h => ?_) fun h1 h => ?_
 ·
  rw [← sj h]
  exact fpr (n := 30) [(5, .d true), (10, .v (i6 (a2.sorts.length : Int)))] (apc (cv h1) (apc (lg a2.sorts eStr 1) apn)) rfl (by kernel_rfl)
 ·
  rw [← sj h]
  exact fpr (n := 30) [(5, .d false)] (apc (cv h1) apn) rfl (by kernel_rfl)
inductive E_L42_0_2 where
  | k0
  | k1
noncomputable def L42_0_2 (a1 : GramD) (a4 : ProdD) (a5 : Int) (v1 : Int) : Option (E_L42_0_2 ⊕ (Int)) :=
  (bif (decide (v1 < a5)) then ((getI a4.right v1).bind fun x2 => (bif (x2.kind == 0) then (bif ((x2.a == 0) && ((x2.b == 0) && ((x2.c == 0) && ((x2.d == 0) && true)))) then (some (.inl (.k0))) else (bif (x2.sort != 0) then (some (.inl (.k0))) else (some (.inr ((IntKind.wrap .i64 (v1 + 1))))))) else (bif (x2.kind == 1) then (bif (!((x2.a == 0) && ((x2.b == 0) && ((x2.c == 0) && ((x2.d == 0) && true))))) then (some (.inl (.k0))) else ((F67_2 x2 a1).bind fun x6 => (bif x6 then (bif (a4.role == 11) then (some (.inl (.k0))) else (some (.inr ((IntKind.wrap .i64 (v1 + 1)))))) else (some (.inl (.k0)))))) else (some (.inl (.k0)))))) else (some (.inl (.k1))))
def L42_0_2_s (a1 : GramD) (a2 : Int) (a3 : Int) (a4 : ProdD) (a5 : Int) (v1 : Int) : St := ⟨fr 110 ug [(1, (.ptr 0 0)), (3, (.fn 67 [(.ptr 0 0)])), (5, (.ptr 2 0)), (10, (.p (.lst 7 (a1.prods.map eProd)))), (11, (i6 a2)), (12, (i6 a3)), (67, (.p (.lst 6 (a4.right.map eSym)))), (68, (i6 a5)), (69, (i6 v1))], [bG a1, .row 68 6 0 (ra eSym []), bP a4]⟩
def L42_0_2_x (a1 : GramD) (a2 : Int) (a3 : Int) (a4 : ProdD) (a5 : Int) (e : E_L42_0_2) (r : Option (Out × St)) : Prop := match e with | .k0 => ∃ g y, r = some (.ret, ⟨fr 110 g [(2, (vb false))], y⟩) | .k1 => ∃ g, r = some ((.brk 2), ⟨fr 110 g [(1, (.ptr 0 0)), (3, (.fn 67 [(.ptr 0 0)])), (5, (.ptr 2 0)), (10, (.p (.lst 7 (a1.prods.map eProd)))), (11, (i6 a2)), (12, (i6 a3)), (67, (.p (.lst 6 (a4.right.map eSym))))], [bG a1, .row 68 6 0 (ra eSym []), bP a4]⟩)
abbrev L42_0_2_d0 (a1 : GramD) (a4 : ProdD) (x2 : SymD) : List AB := [bG a1, .row 68 6 0 (ra eSym []), bP a4, .cells 68 ((eSym x2).map .p)]
theorem L42_0_2_ok (a1 : GramD) (a2 : Int) (a3 : Int) (a4 : ProdD) (a5 : Int) (v1 : Int) {r : E_L42_0_2 ⊕ (Int)} (h : L42_0_2 a1 a4 a5 v1 = some r) : OkR (fun e => L42_0_2_x a1 a2 a3 a4 a5 e (evH prg 3 [1, 3, 5, 10, 11, 12, 67, 68, 69] ir42_l0 (L42_0_2_s a1 a2 a3 a4 a5 v1))) (fun s => evH prg 3 [1, 3, 5, 10, 11, 12, 67, 68, 69] ir42_l0 (L42_0_2_s a1 a2 a3 a4 a5 v1) = evH prg 3 [1, 3, 5, 10, 11, 12, 67, 68, 69] ir42_l0 (L42_0_2_s a1 a2 a3 a4 a5 s)) r := by
 unfold L42_0_2 at h
 refine bi h (fun h1 h => ?_) fun h1 h => ?_
 ·
  refine bn h fun x2 h2 h => ?_
  refine bi h (fun h3 h => ?_) fun h3 h => ?_
  ·
   refine bi h (fun h4 h => ?_) fun h4 h => ?_
   ·
    rw [← sj h]
    exact xretY (n := 30) [(70, .d true), (71, .v (.ro (eSym x2))), (76, .d true), (80, .d true), (6000, .d true)] (apc (cv h1) (apc (ig eSym 6 .i64 h2) (apc (cv h3) (apc (cv h4) apn)))) (by kernel_rfl)
   ·
    refine bi h (fun h5 h => ?_) fun h5 h => ?_
    ·
     rw [← sj h]
     exact xretY (n := 30) [(70, .d true), (71, .v (.ro (eSym x2))), (76, .d true), (80, .d false), (84, .d true), (6000, .d true)] (apc (cv h1) (apc (ig eSym 6 .i64 h2) (apc (cv h3) (apc (cv h4) (apc (cv h5) apn))))) (by kernel_rfl)
    ·
     rw [← sj h]
     exact rnd (n := 30) [(70, .d true), (71, .v (.ro (eSym x2))), (76, .d true), (80, .d false), (84, .d false), (6000, .d true)] (apc (cv h1) (apc (ig eSym 6 .i64 h2) (apc (cv h3) (apc (cv h4) (apc (cv h5) (apc ((okT_of rfl (abl_cons rfl (abl_cons abl_row (abl_cons rfl rfl)))) : okT 3 (L42_0_2_d0 a1 a4 x2) = true) apn)))))) (by kernel_rfl)
  ·
   refine bi h (fun h4 h => ?_) fun h4 h => ?_
   ·
    refine bi h (fun h5 h => ?_) fun h5 h => ?_
    ·
     rw [← sj h]
     exact xretY (n := 30) [(70, .d true), (71, .v (.ro (eSym x2))), (76, .d false), (87, .d true), (91, .d true), (6000, .d true)] (apc (cv h1) (apc (ig eSym 6 .i64 h2) (apc (cv h3) (apc (cv h4) (apc (cv h5) apn))))) (by kernel_rfl)
    ·
     refine bn h fun x6 h6 h => ?_
     refine bi h (fun h7 h => ?_) fun h7 h => ?_
     ·
      have q5 := ((((F67_2_ok x2 a1 h6).own rfl (purAs_cons rfl (purAs_cons (purA_ptr rfl (mapO_con rfl (mapO_con rfl (mapO_con rfl (mapO_con rfl (mapO_con rfl rfl)))))) purAs_nil)) rfl).trans (congrArg (fun z => some (vb z)) h7)) : CP prg 67 [(i6 x2.sort), (.ptr 0 0)] (L42_0_2_d0 a1 a4 x2) = some (vb true))
      refine bi h (fun h8 h => ?_) fun h8 h => ?_
      ·
       rw [← sj h]
       exact xretY (n := 30) [(70, .d true), (71, .v (.ro (eSym x2))), (76, .d false), (87, .d true), (91, .d false), (96, .v (vb true)), (102, .d true), (6000, .d true)] (apc (cv h1) (apc (ig eSym 6 .i64 h2) (apc (cv h3) (apc (cv h4) (apc (cv h5) (apc q5 (apc (cv h8) apn))))))) (by kernel_rfl)
      ·
       rw [← sj h]
       exact rnd (n := 30) [(70, .d true), (71, .v (.ro (eSym x2))), (76, .d false), (87, .d true), (91, .d false), (96, .v (vb true)), (102, .d false), (6000, .d true)] (apc (cv h1) (apc (ig eSym 6 .i64 h2) (apc (cv h3) (apc (cv h4) (apc (cv h5) (apc q5 (apc (cv h8) (apc ((okT_of rfl (abl_cons rfl (abl_cons abl_row (abl_cons rfl rfl)))) : okT 3 (L42_0_2_d0 a1 a4 x2) = true) apn)))))))) (by kernel_rfl)
     ·
      rw [← sj h]
      exact xretY (n := 30) [(70, .d true), (71, .v (.ro (eSym x2))), (76, .d false), (87, .d true), (91, .d false), (96, .v (vb false)), (6000, .d true)] (apc (cv h1) (apc (ig eSym 6 .i64 h2) (apc (cv h3) (apc (cv h4) (apc (cv h5) (apc ((((F67_2_ok x2 a1 h6).own rfl (purAs_cons rfl (purAs_cons (purA_ptr rfl (mapO_con rfl (mapO_con rfl (mapO_con rfl (mapO_con rfl (mapO_con rfl rfl)))))) purAs_nil)) rfl).trans (congrArg (fun z => some (vb z)) h7)) : CP prg 67 [(i6 x2.sort), (.ptr 0 0)] (L42_0_2_d0 a1 a4 x2) = some (vb false)) apn)))))) (by kernel_rfl)
   ·
    rw [← sj h]
    exact xretY (n := 30) [(70, .d true), (71, .v (.ro (eSym x2))), (76, .d false), (87, .d false), (6000, .d true)] (apc (cv h1) (apc (ig eSym 6 .i64 h2) (apc (cv h3) (apc (cv h4) apn)))) (by kernel_rfl)
 ·
  rw [← sj h]
  exact xbrk (n := 30) [(70, .d false), (6000, .d true)] (apc (cv h1) apn) (by kernel_rfl)
theorem L42_0_2_run (a1 : GramD) (a2 : Int) (a3 : Int) (a4 : ProdD) (a5 : Int) (s0 : Int) (e : E_L42_0_2) (h : runL (fun s => L42_0_2 a1 a4 a5 s) s0 = some e) : L42_0_2_x a1 a2 a3 a4 a5 e (evH prg 3 [1, 3, 5, 10, 11, 12, 67, 68, 69] ir42_l0 (L42_0_2_s a1 a2 a3 a4 a5 s0)) := by
  have q := @loop_sound' (Int) E_L42_0_2 (fun s => L42_0_2 a1 a4 a5 s) (fun s => evH prg 3 [1, 3, 5, 10, 11, 12, 67, 68, 69] ir42_l0 (L42_0_2_s a1 a2 a3 a4 a5 s)) (L42_0_2_x a1 a2 a3 a4 a5) (fun s r h => L42_0_2_ok a1 a2 a3 a4 a5 s h) s0 e h
  exact q
inductive E_L42_1 where
  | k0
  | k1
noncomputable def L42_1 (a1 : GramD) (a2 : Int) (v1 : Int) : Option (E_L42_1 ⊕ (Int)) :=
  (bif (decide (v1 < a2)) then ((getI a1.prods v1).bind fun x2 => ((F67 x2 a1).bind fun x3 => (bif x3 then (bif (decide ((x2.right.length : Int) > 30)) then (some (.inl (.k0))) else (bif (decide (x2.role < 0)) then (some (.inl (.k0))) else (bif (decide (x2.role > 11)) then (some (.inl (.k0))) else (bif (decide (x2.frm < (-1))) then (some (.inl (.k0))) else (bif (decide ((x2.cons.size : Int) > 64)) then (some (.inl (.k0))) else (bif (!(x2.cons.toList == (⟨([] : List UInt8).toArray⟩ : ByteArray).toList)) then (bif (x2.role != 0) then (some (.inl (.k0))) else (bif x2.prefer then (bif x2.avoid then (some (.inl (.k0))) else ((runL (fun s => L42_0_2 a1 x2 (x2.right.length : Int) s) 0).bind fun r14 => match r14 with | .k0 => (some (.inl (.k0))) | .k1 => (some (.inr ((IntKind.wrap .i64 (v1 + 1))))))) else ((runL (fun s => L42_0_2 a1 x2 (x2.right.length : Int) s) 0).bind fun r13 => match r13 with | .k0 => (some (.inl (.k0))) | .k1 => (some (.inr ((IntKind.wrap .i64 (v1 + 1)))))))) else (bif x2.prefer then (bif x2.avoid then (some (.inl (.k0))) else ((runL (fun s => L42_0_2 a1 x2 (x2.right.length : Int) s) 0).bind fun r13 => match r13 with | .k0 => (some (.inl (.k0))) | .k1 => (some (.inr ((IntKind.wrap .i64 (v1 + 1))))))) else ((runL (fun s => L42_0_2 a1 x2 (x2.right.length : Int) s) 0).bind fun r12 => match r12 with | .k0 => (some (.inl (.k0))) | .k1 => (some (.inr ((IntKind.wrap .i64 (v1 + 1))))))))))))) else (some (.inl (.k0)))))) else (some (.inl (.k1))))
def L42_1_s (a1 : GramD) (a2 : Int) (v1 : Int) : St := ⟨fr 110 ug [(1, (.ptr 0 0)), (3, (.fn 67 [(.ptr 0 0)])), (10, (.p (.lst 7 (a1.prods.map eProd)))), (11, (i6 a2)), (12, (i6 v1))], [bG a1]⟩
def L42_1_x (a1 : GramD) (a2 : Int) (e : E_L42_1) (r : Option (Out × St)) : Prop := match e with | .k0 => ∃ g y, r = some (.ret, ⟨fr 110 g [(2, (vb false))], y⟩) | .k1 => ∃ g, r = some ((.brk 0), ⟨fr 110 g [(1, (.ptr 0 0)), (10, (.p (.lst 7 (a1.prods.map eProd))))], [bG a1]⟩)
abbrev L42_1_d0 (a1 : GramD) (x2 : ProdD) : List AB := [bG a1, .row 68 6 0 (ra eSym []), bP x2]
abbrev L42_1_d1 (g14 : Nat → AV) (a1 : GramD) (a2 : Int) (v1 : Int) (x2 : ProdD) : St := ⟨fr 110 g14 [(1, (.ptr 0 0)), (3, (.fn 67 [(.ptr 0 0)])), (5, (.ptr 2 0)), (10, (.p (.lst 7 (a1.prods.map eProd)))), (11, (i6 a2)), (12, (i6 v1)), (67, (.p (.lst 6 (x2.right.map eSym))))], [bG a1, .row 68 6 0 (ra eSym []), bP x2]⟩
abbrev L42_1_d2 (g13 : Nat → AV) (a1 : GramD) (a2 : Int) (v1 : Int) (x2 : ProdD) : St := ⟨fr 110 g13 [(1, (.ptr 0 0)), (3, (.fn 67 [(.ptr 0 0)])), (5, (.ptr 2 0)), (10, (.p (.lst 7 (a1.prods.map eProd)))), (11, (i6 a2)), (12, (i6 v1)), (67, (.p (.lst 6 (x2.right.map eSym))))], [bG a1, .row 68 6 0 (ra eSym []), bP x2]⟩
abbrev L42_1_d3 (g12 : Nat → AV) (a1 : GramD) (a2 : Int) (v1 : Int) (x2 : ProdD) : St := ⟨fr 110 g12 [(1, (.ptr 0 0)), (3, (.fn 67 [(.ptr 0 0)])), (5, (.ptr 2 0)), (10, (.p (.lst 7 (a1.prods.map eProd)))), (11, (i6 a2)), (12, (i6 v1)), (67, (.p (.lst 6 (x2.right.map eSym))))], [bG a1, .row 68 6 0 (ra eSym []), bP x2]⟩
theorem L42_1_ok (a1 : GramD) (a2 : Int) (v1 : Int) {r : E_L42_1 ⊕ (Int)} (h : L42_1 a1 a2 v1 = some r) : OkR (fun e => L42_1_x a1 a2 e (evH prg 1 [1, 3, 10, 11, 12] ir42_l1 (L42_1_s a1 a2 v1))) (fun s => evH prg 1 [1, 3, 10, 11, 12] ir42_l1 (L42_1_s a1 a2 v1) = evH prg 1 [1, 3, 10, 11, 12] ir42_l1 (L42_1_s a1 a2 s)) r := by
 unfold L42_1 at h
 refine bi h (fun h1 h => ?_) fun h1 h => ?_
 ·
  refine bn h fun x2 h2 h => ?_
  refine bn h fun x3 h3 h => ?_
  refine bi h (fun h4 h => ?_) fun h4 h => ?_
  ·
   have q2 := ((((F67_ok x2 a1 h3).own rfl (purAs_cons rfl (purAs_cons (purA_ptr rfl (mapO_con rfl (mapO_con rfl (mapO_con rfl (mapO_con rfl (mapO_con rfl rfl)))))) purAs_nil)) rfl).trans (congrArg (fun z => some (vb z)) h4)) : CP prg 67 [(i6 x2.left), (.ptr 0 0)] (L42_1_d0 a1 x2) = some (vb true))
   refine bi h (fun h5 h => ?_) fun h5 h => ?_
   ·
    rw [← sj h]
    exact xretY (n := 30) [(13, .d true), (14, .v (.ro (eProd x2))), (19, .v (vb true)), (24, .v (i6 (x2.right.length : Int))), (25, .d true), (6000, .d true)] (apc (cv h1) (apc (ig eProd 7 .i64 h2) (apc q2 (apc (lg x2.right eSym 6) (apc (cv h5) apn))))) (by kernel_rfl)
   ·
    refine bi h (fun h6 h => ?_) fun h6 h => ?_
    ·
     rw [← sj h]
     exact xretY (n := 30) [(13, .d true), (14, .v (.ro (eProd x2))), (19, .v (vb true)), (24, .v (i6 (x2.right.length : Int))), (25, .d false), (30, .d true), (6000, .d true)] (apc (cv h1) (apc (ig eProd 7 .i64 h2) (apc q2 (apc (lg x2.right eSym 6) (apc (cv h5) (apc (cv h6) apn)))))) (by kernel_rfl)
    ·
     refine bi h (fun h7 h => ?_) fun h7 h => ?_
     ·
      rw [← sj h]
      exact xretY (n := 30) [(13, .d true), (14, .v (.ro (eProd x2))), (19, .v (vb true)), (24, .v (i6 (x2.right.length : Int))), (25, .d false), (30, .d false), (35, .d true), (6000, .d true)] (apc (cv h1) (apc (ig eProd 7 .i64 h2) (apc q2 (apc (lg x2.right eSym 6) (apc (cv h5) (apc (cv h6) (apc (cv h7) apn))))))) (by kernel_rfl)
     ·
      refine bi h (fun h8 h => ?_) fun h8 h => ?_
      ·
       rw [← sj h]
       exact xretY (n := 30) [(13, .d true), (14, .v (.ro (eProd x2))), (19, .v (vb true)), (24, .v (i6 (x2.right.length : Int))), (25, .d false), (30, .d false), (35, .d false), (40, .d true), (6000, .d true)] (apc (cv h1) (apc (ig eProd 7 .i64 h2) (apc q2 (apc (lg x2.right eSym 6) (apc (cv h5) (apc (cv h6) (apc (cv h7) (apc (cv h8) apn)))))))) (by kernel_rfl)
      ·
       refine bi h (fun h9 h => ?_) fun h9 h => ?_
       ·
        rw [← sj h]
        exact xretY (n := 30) [(13, .d true), (14, .v (.ro (eProd x2))), (19, .v (vb true)), (24, .v (i6 (x2.right.length : Int))), (25, .d false), (30, .d false), (35, .d false), (40, .d false), (46, .d true), (6000, .d true)] (apc (cv h1) (apc (ig eProd 7 .i64 h2) (apc q2 (apc (lg x2.right eSym 6) (apc (cv h5) (apc (cv h6) (apc (cv h7) (apc (cv h8) (apc (cv h9) apn))))))))) (by kernel_rfl)
       ·
        refine bi h (fun h10 h => ?_) fun h10 h => ?_
        ·
         refine bi h (fun h11 h => ?_) fun h11 h => ?_
         ·
          rw [← sj h]
          exact xretY (n := 30) [(13, .d true), (14, .v (.ro (eProd x2))), (19, .v (vb true)), (24, .v (i6 (x2.right.length : Int))), (25, .d false), (30, .d false), (35, .d false), (40, .d false), (46, .d false), (51, .d true), (55, .d true), (6000, .d true)] (apc (cv h1) (apc (ig eProd 7 .i64 h2) (apc q2 (apc (lg x2.right eSym 6) (apc (cv h5) (apc (cv h6) (apc (cv h7) (apc (cv h8) (apc (cv h9) (apc (cv h10) (apc (cv h11) apn))))))))))) (by kernel_rfl)
         ·
          refine bi h (fun h12 h => ?_) fun h12 h => ?_
          ·
           refine bi h (fun h13 h => ?_) fun h13 h => ?_
           ·
            rw [← sj h]
            exact xretY (n := 30) [(13, .d true), (14, .v (.ro (eProd x2))), (19, .v (vb true)), (24, .v (i6 (x2.right.length : Int))), (25, .d false), (30, .d false), (35, .d false), (40, .d false), (46, .d false), (51, .d true), (55, .d false), (60, .d true), (63, .d true), (6000, .d true)] (apc (cv h1) (apc (ig eProd 7 .i64 h2) (apc q2 (apc (lg x2.right eSym 6) (apc (cv h5) (apc (cv h6) (apc (cv h7) (apc (cv h8) (apc (cv h9) (apc (cv h10) (apc (cv h11) (apc (cv h12) (apc (cv h13) apn))))))))))))) (by kernel_rfl)
           ·
            refine bn h fun r14 h14 h => ?_
            cases r14 with
            | k0 =>
             obtain ⟨g14, y14, e14⟩ := L42_0_2_run a1 a2 v1 x2 (x2.right.length : Int) 0 _ h14
             rw [← sj h]
             exact xretY (n := 30) [(13, .d true), (14, .v (.ro (eProd x2))), (19, .v (vb true)), (24, .v (i6 (x2.right.length : Int))), (25, .d false), (30, .d false), (35, .d false), (40, .d false), (46, .d false), (51, .d true), (55, .d false), (60, .d true), (63, .d false), (68, .v (i6 (x2.right.length : Int))), (2002, .l .ret ⟨fr 110 g14 [(2, (vb false))], y14⟩), (6000, .d true)] (apc (cv h1) (apc (ig eProd 7 .i64 h2) (apc q2 (apc (lg x2.right eSym 6) (apc (cv h5) (apc (cv h6) (apc (cv h7) (apc (cv h8) (apc (cv h9) (apc (cv h10) (apc (cv h11) (apc (cv h12) (apc (cv h13) (apc (lg x2.right eSym 6) (apc ((okT_of rfl (abl_cons rfl (abl_cons abl_row (abl_cons rfl rfl)))) : okT 3 (L42_1_d0 a1 x2) = true) (apc (e14 : evH prg 3 [1, 3, 5, 10, 11, 12, 67, 68, 69] ir42_l0 (L42_0_2_s a1 a2 v1 x2 (x2.right.length : Int) 0) = some (.ret, ⟨fr 110 g14 [(2, (vb false))], y14⟩)) apn)))))))))))))))) (by kernel_rfl)
            | k1 =>
             obtain ⟨g14, e14⟩ := L42_0_2_run a1 a2 v1 x2 (x2.right.length : Int) 0 _ h14
             rw [← sj h]
             exact rnd (n := 30) [(13, .d true), (14, .v (.ro (eProd x2))), (19, .v (vb true)), (24, .v (i6 (x2.right.length : Int))), (25, .d false), (30, .d false), (35, .d false), (40, .d false), (46, .d false), (51, .d true), (55, .d false), (60, .d true), (63, .d false), (68, .v (i6 (x2.right.length : Int))), (2002, .l (.brk 2) (L42_1_d1 g14 a1 a2 v1 x2)), (6000, .d true)] (apc (cv h1) (apc (ig eProd 7 .i64 h2) (apc q2 (apc (lg x2.right eSym 6) (apc (cv h5) (apc (cv h6) (apc (cv h7) (apc (cv h8) (apc (cv h9) (apc (cv h10) (apc (cv h11) (apc (cv h12) (apc (cv h13) (apc (lg x2.right eSym 6) (apc ((okT_of rfl (abl_cons rfl (abl_cons abl_row (abl_cons rfl rfl)))) : okT 3 (L42_1_d0 a1 x2) = true) (apc (e14 : evH prg 3 [1, 3, 5, 10, 11, 12, 67, 68, 69] ir42_l0 (L42_0_2_s a1 a2 v1 x2 (x2.right.length : Int) 0) = some ((.brk 2), (L42_1_d1 g14 a1 a2 v1 x2))) (apc ((okT_of rfl (abl_cons rfl rfl)) : okT 1 (L42_1_d0 a1 x2) = true) apn))))))))))))))))) (by kernel_rfl)
          ·
           refine bn h fun r13 h13 h => ?_
           cases r13 with
           | k0 =>
            obtain ⟨g13, y13, e13⟩ := L42_0_2_run a1 a2 v1 x2 (x2.right.length : Int) 0 _ h13
            rw [← sj h]
            exact xretY (n := 30) [(13, .d true), (14, .v (.ro (eProd x2))), (19, .v (vb true)), (24, .v (i6 (x2.right.length : Int))), (25, .d false), (30, .d false), (35, .d false), (40, .d false), (46, .d false), (51, .d true), (55, .d false), (60, .d false), (68, .v (i6 (x2.right.length : Int))), (2002, .l .ret ⟨fr 110 g13 [(2, (vb false))], y13⟩), (6000, .d true)] (apc (cv h1) (apc (ig eProd 7 .i64 h2) (apc q2 (apc (lg x2.right eSym 6) (apc (cv h5) (apc (cv h6) (apc (cv h7) (apc (cv h8) (apc (cv h9) (apc (cv h10) (apc (cv h11) (apc (cv h12) (apc (lg x2.right eSym 6) (apc ((okT_of rfl (abl_cons rfl (abl_cons abl_row (abl_cons rfl rfl)))) : okT 3 (L42_1_d0 a1 x2) = true) (apc (e13 : evH prg 3 [1, 3, 5, 10, 11, 12, 67, 68, 69] ir42_l0 (L42_0_2_s a1 a2 v1 x2 (x2.right.length : Int) 0) = some (.ret, ⟨fr 110 g13 [(2, (vb false))], y13⟩)) apn))))))))))))))) (by kernel_rfl)
           | k1 =>
            obtain ⟨g13, e13⟩ := L42_0_2_run a1 a2 v1 x2 (x2.right.length : Int) 0 _ h13
            rw [← sj h]
            exact rnd (n := 30) [(13, .d true), (14, .v (.ro (eProd x2))), (19, .v (vb true)), (24, .v (i6 (x2.right.length : Int))), (25, .d false), (30, .d false), (35, .d false), (40, .d false), (46, .d false), (51, .d true), (55, .d false), (60, .d false), (68, .v (i6 (x2.right.length : Int))), (2002, .l (.brk 2) (L42_1_d2 g13 a1 a2 v1 x2)), (6000, .d true)] (apc (cv h1) (apc (ig eProd 7 .i64 h2) (apc q2 (apc (lg x2.right eSym 6) (apc (cv h5) (apc (cv h6) (apc (cv h7) (apc (cv h8) (apc (cv h9) (apc (cv h10) (apc (cv h11) (apc (cv h12) (apc (lg x2.right eSym 6) (apc ((okT_of rfl (abl_cons rfl (abl_cons abl_row (abl_cons rfl rfl)))) : okT 3 (L42_1_d0 a1 x2) = true) (apc (e13 : evH prg 3 [1, 3, 5, 10, 11, 12, 67, 68, 69] ir42_l0 (L42_0_2_s a1 a2 v1 x2 (x2.right.length : Int) 0) = some ((.brk 2), (L42_1_d2 g13 a1 a2 v1 x2))) (apc ((okT_of rfl (abl_cons rfl rfl)) : okT 1 (L42_1_d0 a1 x2) = true) apn)))))))))))))))) (by kernel_rfl)
        ·
         refine bi h (fun h11 h => ?_) fun h11 h => ?_
         ·
          refine bi h (fun h12 h => ?_) fun h12 h => ?_
          ·
           rw [← sj h]
           exact xretY (n := 30) [(13, .d true), (14, .v (.ro (eProd x2))), (19, .v (vb true)), (24, .v (i6 (x2.right.length : Int))), (25, .d false), (30, .d false), (35, .d false), (40, .d false), (46, .d false), (51, .d false), (60, .d true), (63, .d true), (6000, .d true)] (apc (cv h1) (apc (ig eProd 7 .i64 h2) (apc q2 (apc (lg x2.right eSym 6) (apc (cv h5) (apc (cv h6) (apc (cv h7) (apc (cv h8) (apc (cv h9) (apc (cv h10) (apc (cv h11) (apc (cv h12) apn)))))))))))) (by kernel_rfl)
          ·
           refine bn h fun r13 h13 h => ?_
           cases r13 with
           | k0 =>
            obtain ⟨g13, y13, e13⟩ := L42_0_2_run a1 a2 v1 x2 (x2.right.length : Int) 0 _ h13
            rw [← sj h]
            exact xretY (n := 30) [(13, .d true), (14, .v (.ro (eProd x2))), (19, .v (vb true)), (24, .v (i6 (x2.right.length : Int))), (25, .d false), (30, .d false), (35, .d false), (40, .d false), (46, .d false), (51, .d false), (60, .d true), (63, .d false), (68, .v (i6 (x2.right.length : Int))), (2002, .l .ret ⟨fr 110 g13 [(2, (vb false))], y13⟩), (6000, .d true)] (apc (cv h1) (apc (ig eProd 7 .i64 h2) (apc q2 (apc (lg x2.right eSym 6) (apc (cv h5) (apc (cv h6) (apc (cv h7) (apc (cv h8) (apc (cv h9) (apc (cv h10) (apc (cv h11) (apc (cv h12) (apc (lg x2.right eSym 6) (apc ((okT_of rfl (abl_cons rfl (abl_cons abl_row (abl_cons rfl rfl)))) : okT 3 (L42_1_d0 a1 x2) = true) (apc (e13 : evH prg 3 [1, 3, 5, 10, 11, 12, 67, 68, 69] ir42_l0 (L42_0_2_s a1 a2 v1 x2 (x2.right.length : Int) 0) = some (.ret, ⟨fr 110 g13 [(2, (vb false))], y13⟩)) apn))))))))))))))) (by kernel_rfl)
           | k1 =>
            obtain ⟨g13, e13⟩ := L42_0_2_run a1 a2 v1 x2 (x2.right.length : Int) 0 _ h13
            rw [← sj h]
            exact rnd (n := 30) [(13, .d true), (14, .v (.ro (eProd x2))), (19, .v (vb true)), (24, .v (i6 (x2.right.length : Int))), (25, .d false), (30, .d false), (35, .d false), (40, .d false), (46, .d false), (51, .d false), (60, .d true), (63, .d false), (68, .v (i6 (x2.right.length : Int))), (2002, .l (.brk 2) (L42_1_d2 g13 a1 a2 v1 x2)), (6000, .d true)] (apc (cv h1) (apc (ig eProd 7 .i64 h2) (apc q2 (apc (lg x2.right eSym 6) (apc (cv h5) (apc (cv h6) (apc (cv h7) (apc (cv h8) (apc (cv h9) (apc (cv h10) (apc (cv h11) (apc (cv h12) (apc (lg x2.right eSym 6) (apc ((okT_of rfl (abl_cons rfl (abl_cons abl_row (abl_cons rfl rfl)))) : okT 3 (L42_1_d0 a1 x2) = true) (apc (e13 : evH prg 3 [1, 3, 5, 10, 11, 12, 67, 68, 69] ir42_l0 (L42_0_2_s a1 a2 v1 x2 (x2.right.length : Int) 0) = some ((.brk 2), (L42_1_d2 g13 a1 a2 v1 x2))) (apc ((okT_of rfl (abl_cons rfl rfl)) : okT 1 (L42_1_d0 a1 x2) = true) apn)))))))))))))))) (by kernel_rfl)
         ·
          refine bn h fun r12 h12 h => ?_
          cases r12 with
          | k0 =>
           obtain ⟨g12, y12, e12⟩ := L42_0_2_run a1 a2 v1 x2 (x2.right.length : Int) 0 _ h12
           rw [← sj h]
           exact xretY (n := 30) [(13, .d true), (14, .v (.ro (eProd x2))), (19, .v (vb true)), (24, .v (i6 (x2.right.length : Int))), (25, .d false), (30, .d false), (35, .d false), (40, .d false), (46, .d false), (51, .d false), (60, .d false), (68, .v (i6 (x2.right.length : Int))), (2002, .l .ret ⟨fr 110 g12 [(2, (vb false))], y12⟩), (6000, .d true)] (apc (cv h1) (apc (ig eProd 7 .i64 h2) (apc q2 (apc (lg x2.right eSym 6) (apc (cv h5) (apc (cv h6) (apc (cv h7) (apc (cv h8) (apc (cv h9) (apc (cv h10) (apc (cv h11) (apc (lg x2.right eSym 6) (apc ((okT_of rfl (abl_cons rfl (abl_cons abl_row (abl_cons rfl rfl)))) : okT 3 (L42_1_d0 a1 x2) = true) (apc (e12 : evH prg 3 [1, 3, 5, 10, 11, 12, 67, 68, 69] ir42_l0 (L42_0_2_s a1 a2 v1 x2 (x2.right.length : Int) 0) = some (.ret, ⟨fr 110 g12 [(2, (vb false))], y12⟩)) apn)))))))))))))) (by kernel_rfl)
          | k1 =>
           obtain ⟨g12, e12⟩ := L42_0_2_run a1 a2 v1 x2 (x2.right.length : Int) 0 _ h12
           rw [← sj h]
           exact rnd (n := 30) [(13, .d true), (14, .v (.ro (eProd x2))), (19, .v (vb true)), (24, .v (i6 (x2.right.length : Int))), (25, .d false), (30, .d false), (35, .d false), (40, .d false), (46, .d false), (51, .d false), (60, .d false), (68, .v (i6 (x2.right.length : Int))), (2002, .l (.brk 2) (L42_1_d3 g12 a1 a2 v1 x2)), (6000, .d true)] (apc (cv h1) (apc (ig eProd 7 .i64 h2) (apc q2 (apc (lg x2.right eSym 6) (apc (cv h5) (apc (cv h6) (apc (cv h7) (apc (cv h8) (apc (cv h9) (apc (cv h10) (apc (cv h11) (apc (lg x2.right eSym 6) (apc ((okT_of rfl (abl_cons rfl (abl_cons abl_row (abl_cons rfl rfl)))) : okT 3 (L42_1_d0 a1 x2) = true) (apc (e12 : evH prg 3 [1, 3, 5, 10, 11, 12, 67, 68, 69] ir42_l0 (L42_0_2_s a1 a2 v1 x2 (x2.right.length : Int) 0) = some ((.brk 2), (L42_1_d3 g12 a1 a2 v1 x2))) (apc ((okT_of rfl (abl_cons rfl rfl)) : okT 1 (L42_1_d0 a1 x2) = true) apn))))))))))))))) (by kernel_rfl)
  ·
   rw [← sj h]
   exact xretY (n := 30) [(13, .d true), (14, .v (.ro (eProd x2))), (19, .v (vb false)), (6000, .d true)] (apc (cv h1) (apc (ig eProd 7 .i64 h2) (apc ((((F67_ok x2 a1 h3).own rfl (purAs_cons rfl (purAs_cons (purA_ptr rfl (mapO_con rfl (mapO_con rfl (mapO_con rfl (mapO_con rfl (mapO_con rfl rfl)))))) purAs_nil)) rfl).trans (congrArg (fun z => some (vb z)) h4)) : CP prg 67 [(i6 x2.left), (.ptr 0 0)] (L42_1_d0 a1 x2) = some (vb false)) apn))) (by kernel_rfl)
 ·
  rw [← sj h]
  exact xbrk (n := 30) [(13, .d false), (6000, .d true)] (apc (cv h1) apn) (by kernel_rfl)
theorem L42_1_run (a1 : GramD) (a2 : Int) (s0 : Int) (e : E_L42_1) (h : runL (fun s => L42_1 a1 a2 s) s0 = some e) : L42_1_x a1 a2 e (evH prg 1 [1, 3, 10, 11, 12] ir42_l1 (L42_1_s a1 a2 s0)) := by
  have q := @loop_sound' (Int) E_L42_1 (fun s => L42_1 a1 a2 s) (fun s => evH prg 1 [1, 3, 10, 11, 12] ir42_l1 (L42_1_s a1 a2 s)) (L42_1_x a1 a2) (fun s r h => L42_1_ok a1 a2 s h) s0 e h
  exact q
def F42_v (a1 : GramD) (x0 : Bool) : AV := (vb x0)
noncomputable def F42 (a1 : GramD) : Option Bool :=
  ((runL (fun s => L42_1 a1 (a1.prods.length : Int) s) 0).bind fun r1 => match r1 with | .k0 => (some false) | .k1 => (some (decide ((a1.prods.length : Int) ≤ 1000))))
abbrev F42_d0 (g1 : Nat → AV) (a1 : GramD) : St := ⟨fr 110 g1 [(1, (.ptr 0 0)), (10, (.p (.lst 7 (a1.prods.map eProd))))], [bG a1]⟩
theorem F42_ok (a1 : GramD) {r : Bool} (h : F42 a1 = some r) : PR1 prg 42 [(aG a1)] (F42_v a1 r) := by
 unfold F42 at h
 refine bn h fun r1 h1 h => ?_
 cases r1 with
 | k0 =>
  obtain ⟨g1, y1, e1⟩ := L42_1_run a1 (a1.prods.length : Int) 0 _ h1
  rw [← sj h]
  exact fpr (n := 30) [(11, .v (i6 (a1.prods.length : Int))), (2000, .l .ret ⟨fr 110 g1 [(2, (vb false))], y1⟩), (6000, .d true)] (apc (lg a1.prods eProd 7) (apc ((okT_of rfl (abl_cons rfl rfl)) : okT 1 [bG a1] = true) (apc (e1 : evH prg 1 [1, 3, 10, 11, 12] ir42_l1 (L42_1_s a1 (a1.prods.length : Int) 0) = some (.ret, ⟨fr 110 g1 [(2, (vb false))], y1⟩)) apn))) rfl (by kernel_rfl)
 | k1 =>
  obtain ⟨g1, e1⟩ := L42_1_run a1 (a1.prods.length : Int) 0 _ h1
  rw [← sj h]
  exact fpr (n := 30) [(11, .v (i6 (a1.prods.length : Int))), (2000, .l (.brk 0) (F42_d0 g1 a1)), (108, .v (i6 (a1.prods.length : Int))), (6000, .d true)] (apc (lg a1.prods eProd 7) (apc ((okT_of rfl (abl_cons rfl rfl)) : okT 1 [bG a1] = true) (apc (e1 : evH prg 1 [1, 3, 10, 11, 12] ir42_l1 (L42_1_s a1 (a1.prods.length : Int) 0) = some ((.brk 0), (F42_d0 g1 a1))) (apc (lg a1.prods eProd 7) apn)))) rfl (by kernel_rfl)
def F68_v (a1 : ForbD) (a2 : GramD) (x0 : Bool) : AV := (vb x0)
noncomputable def F68 (a1 : ForbD) (a2 : GramD) : Option Bool :=
  (bif (decide (a1.parent ≥ 0)) then (bif (decide (a1.parent < (a2.prods.length : Int))) then ((getI a2.prods a1.parent).bind fun x3 => (some (x3.role != 11))) else (some false)) else (some false))
theorem F68_ok (a1 : ForbD) (a2 : GramD) {r : Bool} (h : F68 a1 a2 = some r) : PR1 prg 68 [(i6 a1.parent), (.ro (eGram a2))] (F68_v a1 a2 r) := by
 unfold F68 at h
 refine bi h (fun h1 h => ?_) fun h1 h => ?_
 ·
  refine bi h (fun h2 h => ?_) fun h2 h => ?_
  ·
   refine bn h fun x3 h3 h => ?_
   rw [← sj h]
   exact fpr (n := 30) [(5, .d true), (10, .v (i6 (a2.prods.length : Int))), (11, .d true), (17, .v (.ro (eProd x3)))] (apc (cv h1) (apc (lg a2.prods eProd 7) (apc (cv h2) (apc (ig eProd 7 .i64 h3) apn)))) rfl (by kernel_rfl)
  ·
   rw [← sj h]
   exact fpr (n := 30) [(5, .d true), (10, .v (i6 (a2.prods.length : Int))), (11, .d false)] (apc (cv h1) (apc (lg a2.prods eProd 7) (apc (cv h2) apn))) rfl (by kernel_rfl)
 ·
  rw [← sj h]
  exact fpr (n := 30) [(5, .d false)] (apc (cv h1) apn) rfl (by kernel_rfl)
def F68_2_v (a1 : ForbD) (a2 : GramD) (x0 : Bool) : AV := (vb x0)
noncomputable def F68_2 (a1 : ForbD) (a2 : GramD) : Option Bool :=
  (bif (decide (a1.child ≥ 0)) then (bif (decide (a1.child < (a2.prods.length : Int))) then ((getI a2.prods a1.child).bind fun x3 => (some (x3.role != 11))) else (some false)) else (some false))
theorem F68_2_ok (a1 : ForbD) (a2 : GramD) {r : Bool} (h : F68_2 a1 a2 = some r) : PR1 prg 68 [(i6 a1.child), (.ro (eGram a2))] (F68_2_v a1 a2 r) := by
 unfold F68_2 at h
 refine bi h (fun h1 h => ?_) fun h1 h => ?_
 ·
  refine bi h (fun h2 h => ?_) fun h2 h => ?_
  ·
   refine bn h fun x3 h3 h => ?_
   rw [← sj h]
   exact fpr (n := 30) [(5, .d true), (10, .v (i6 (a2.prods.length : Int))), (11, .d true), (17, .v (.ro (eProd x3)))] (apc (cv h1) (apc (lg a2.prods eProd 7) (apc (cv h2) (apc (ig eProd 7 .i64 h3) apn)))) rfl (by kernel_rfl)
  ·
   rw [← sj h]
   exact fpr (n := 30) [(5, .d true), (10, .v (i6 (a2.prods.length : Int))), (11, .d false)] (apc (cv h1) (apc (lg a2.prods eProd 7) (apc (cv h2) apn))) rfl (by kernel_rfl)
 ·
  rw [← sj h]
  exact fpr (n := 30) [(5, .d false)] (apc (cv h1) apn) rfl (by kernel_rfl)
inductive E_L43_0 where
  | k0
  | k1 (x0 : List ((Int × Int × Int) × Int))
noncomputable def L43_0 (a1 : GramD) (a2 : Int) (v1 : Int) (v2 : List ((Int × Int × Int) × Int)) : Option (E_L43_0 ⊕ (Int × (List ((Int × Int × Int) × Int)))) :=
  (bif (decide (v1 < a2)) then ((getI a1.forbid v1).bind fun x2 => (bif (decide ((mget 0 (mput (x2.parent, x2.at_, x2.child) (IntKind.wrap .i64 ((mget 0 v2 (x2.parent, x2.at_, x2.child)) + 1)) v2) (x2.parent, x2.at_, x2.child)) > 1)) then (some (.inl (.k0))) else ((F68 x2 a1).bind fun x4 => (bif x4 then ((F68_2 x2 a1).bind fun x6 => (bif x6 then (bif (decide (x2.at_ < 1)) then (some (.inl (.k0))) else ((getI a1.prods x2.parent).bind fun x9 => (bif (decide (x2.at_ > (x9.right.length : Int))) then (some (.inl (.k0))) else ((getI x9.right (IntKind.wrap .i64 (x2.at_ - 1))).bind fun x11 => (bif (x11.kind != 1) then (some (.inl (.k0))) else ((getI a1.prods x2.child).bind fun x13 => (bif (x11.sort != x13.left) then (some (.inl (.k0))) else (some (.inr ((IntKind.wrap .i64 (v1 + 1)), (mput (x2.parent, x2.at_, x2.child) (IntKind.wrap .i64 ((mget 0 v2 (x2.parent, x2.at_, x2.child)) + 1)) v2))))))))))) else (some (.inl (.k0))))) else (some (.inl (.k0))))))) else (some (.inl (.k1 v2))))
def L43_0_s (a1 : GramD) (a2 : Int) (v1 : Int) (v2 : List ((Int × Int × Int) × Int)) : St := ⟨fr 87 ug [(1, (.ptr 0 0)), (3, (.mp 1)), (4, (.fn 68 [(.ptr 0 0)])), (11, (.p (.lst 3 (a1.forbid.map eForb)))), (12, (i6 a2)), (13, (i6 v1))], [bG a1, .map (mrow (fun n => .agg [vi .i64 n.1, vi .i64 n.2.1, vi .i64 n.2.2]) (fun n => vi .i64 n) v2)]⟩
def L43_0_x (a1 : GramD) (a2 : Int) (e : E_L43_0) (r : Option (Out × St)) : Prop := match e with | .k0 => ∃ g y, r = some (.ret, ⟨fr 87 g [(2, (vb false))], y⟩) | .k1 x0 => ∃ g, r = some ((.brk 0), ⟨fr 87 g [(1, (.ptr 0 0)), (11, (.p (.lst 3 (a1.forbid.map eForb))))], [bG a1, .map (mrow (fun n => .agg [vi .i64 n.1, vi .i64 n.2.1, vi .i64 n.2.2]) (fun n => vi .i64 n) x0)]⟩)
abbrev L43_0_d0 (a1 : GramD) (v2 : List ((Int × Int × Int) × Int)) (x2 : ForbD) : List AB := [bG a1, .map (mrow (fun n => .agg [vi .i64 n.1, vi .i64 n.2.1, vi .i64 n.2.2]) (fun n => vi .i64 n) v2), .cells 78 ((eForb x2).map .p)]
abbrev L43_0_d1 (a1 : GramD) (v2 : List ((Int × Int × Int) × Int)) (x2 : ForbD) : List AB := [bG a1, .map (mrow (fun n => .agg [vi .i64 n.1, vi .i64 n.2.1, vi .i64 n.2.2]) (fun n => vi .i64 n) (ment 0 v2 (x2.parent, x2.at_, x2.child))), .cells 78 ((eForb x2).map .p)]
abbrev L43_0_d2 (a1 : GramD) (x2 : ForbD) (v2 : List ((Int × Int × Int) × Int)) : List AB := [bG a1, .map (mrow (fun n => .agg [vi .i64 n.1, vi .i64 n.2.1, vi .i64 n.2.2]) (fun n => vi .i64 n) (mput (x2.parent, x2.at_, x2.child) (w6 ((mget 0 v2 (x2.parent, x2.at_, x2.child)) + 1)) v2)), .cells 78 ((eForb x2).map .p)]
abbrev L43_0_c0 (x2 : ForbD) (v2 : List ((Int × Int × Int) × Int)) (a1 : GramD) : List (Nat × Hint) := [(15, .v (.ro (eForb x2))), (19, .v (i6 (mget 0 v2 (x2.parent, x2.at_, x2.child)))), (21, .r (.tup [(i6 (mget 0 v2 (x2.parent, x2.at_, x2.child))), (i6 (midx v2 (x2.parent, x2.at_, x2.child) : Int))]) (L43_0_d1 a1 v2 x2)), (8020, .r ud (L43_0_d2 a1 x2 v2)), (25, .v (i6 (mget 0 (mput (x2.parent, x2.at_, x2.child) (w6 ((mget 0 v2 (x2.parent, x2.at_, x2.child)) + 1)) v2) (x2.parent, x2.at_, x2.child))))]
theorem L43_0_ok (a1 : GramD) (a2 : Int) (v1 : Int) (v2 : List ((Int × Int × Int) × Int)) {r : E_L43_0 ⊕ (Int × (List ((Int × Int × Int) × Int)))} (h : L43_0 a1 a2 v1 v2 = some r) : OkR (fun e => L43_0_x a1 a2 e (evH prg 2 [1, 3, 4, 11, 12, 13] ir43_l0 (L43_0_s a1 a2 v1 v2))) (fun s => evH prg 2 [1, 3, 4, 11, 12, 13] ir43_l0 (L43_0_s a1 a2 v1 v2) = evH prg 2 [1, 3, 4, 11, 12, 13] ir43_l0 (L43_0_s a1 a2 s.1 s.2)) r := by
 unfold L43_0 at h
 refine bi h (fun h1 h => ?_) fun h1 h => ?_
 ·
  refine bn h fun x2 h2 h => ?_
  have q2 := ((lk_row key_int3 (es := v2) (k := (x2.parent, x2.at_, x2.child)) (z := 0) rfl rfl) : lkA (L43_0_d0 a1 v2 x2) [1, 1, 1] .true .false [(.val (.int .i64 0))] .false (.mp 1) (.agg ((eForb x2).map .p)) = some (i6 (mget 0 v2 (x2.parent, x2.at_, x2.child))))
  have q3 := ((en_row key_int3 (es := v2) (k := (x2.parent, x2.at_, x2.child)) (z := 0) rfl rfl) : enA (L43_0_d0 a1 v2 x2) [1, 1, 1] .true .false [(.val (.int .i64 0))] (.mp 1) (.agg ((eForb x2).map .p)) = some ((.tup [(i6 (mget 0 v2 (x2.parent, x2.at_, x2.child))), (i6 (midx v2 (x2.parent, x2.at_, x2.child) : Int))]), (L43_0_d1 a1 v2 x2)))
  have q4 := (⟨es_row key_int3 (es := v2) (k := (x2.parent, x2.at_, x2.child)) (v := (w6 ((mget 0 v2 (x2.parent, x2.at_, x2.child)) + 1))) (z := 0) rfl, rfl⟩ : esA (L43_0_d1 a1 v2 x2) (.mp 1) (i6 (midx v2 (x2.parent, x2.at_, x2.child) : Int)) (i6 (w6 ((mget 0 v2 (x2.parent, x2.at_, x2.child)) + 1))) = some (L43_0_d2 a1 x2 v2) ∧ ud = ud)
  have q5 := ((lk_row key_int3 (es := (mput (x2.parent, x2.at_, x2.child) (w6 ((mget 0 v2 (x2.parent, x2.at_, x2.child)) + 1)) v2)) (k := (x2.parent, x2.at_, x2.child)) (z := 0) rfl rfl) : lkA (L43_0_d2 a1 x2 v2) [1, 1, 1] .true .false [(.val (.int .i64 0))] .false (.mp 1) (.agg ((eForb x2).map .p)) = some (i6 (mget 0 (mput (x2.parent, x2.at_, x2.child) (w6 ((mget 0 v2 (x2.parent, x2.at_, x2.child)) + 1)) v2) (x2.parent, x2.at_, x2.child))))
  refine bi h (fun h3 h => ?_) fun h3 h => ?_
  ·
   rw [← sj h]
   exact xretY (n := 30) ([(14, .d true)] ++ ((L43_0_c0 x2 v2 a1) ++ [(26, .d true), (6000, .d true)])) (apc (cv h1) (apc (ig eForb 3 .i64 h2) (apc q2 (apc q3 (apc q4 (apc q5 (apc (cv h3) apn))))))) (by kernel_rfl)
  ·
   refine bn h fun x4 h4 h => ?_
   refine bi h (fun h5 h => ?_) fun h5 h => ?_
   ·
    have q7 := ((((F68_ok x2 a1 h4).own rfl (purAs_cons rfl (purAs_cons (purA_ptr rfl (mapO_con rfl (mapO_con rfl (mapO_con rfl (mapO_con rfl (mapO_con rfl rfl)))))) purAs_nil)) rfl).trans (congrArg (fun z => some (vb z)) h5)) : CP prg 68 [(i6 x2.parent), (.ptr 0 0)] (L43_0_d2 a1 x2 v2) = some (vb true))
    refine bn h fun x6 h6 h => ?_
    refine bi h (fun h7 h => ?_) fun h7 h => ?_
    ·
     have q8 := ((((F68_2_ok x2 a1 h6).own rfl (purAs_cons rfl (purAs_cons (purA_ptr rfl (mapO_con rfl (mapO_con rfl (mapO_con rfl (mapO_con rfl (mapO_con rfl rfl)))))) purAs_nil)) rfl).trans (congrArg (fun z => some (vb z)) h7)) : CP prg 68 [(i6 x2.child), (.ptr 0 0)] (L43_0_d2 a1 x2 v2) = some (vb true))
     refine bi h (fun h8 h => ?_) fun h8 h => ?_
     ·
      rw [← sj h]
      exact xretY (n := 30) ([(14, .d true)] ++ ((L43_0_c0 x2 v2 a1) ++ [(26, .d false), (31, .v (vb true)), (38, .v (vb true)), (44, .d true), (6000, .d true)])) (apc (cv h1) (apc (ig eForb 3 .i64 h2) (apc q2 (apc q3 (apc q4 (apc q5 (apc (cv h3) (apc q7 (apc q8 (apc (cv h8) apn)))))))))) (by kernel_rfl)
     ·
      refine bn h fun x9 h9 h => ?_
      refine bi h (fun h10 h => ?_) fun h10 h => ?_
      ·
       rw [← sj h]
       exact xretY (n := 30) ([(14, .d true)] ++ ((L43_0_c0 x2 v2 a1) ++ [(26, .d false), (31, .v (vb true)), (38, .v (vb true)), (44, .d false), (53, .v (.ro (eProd x9))), (56, .v (i6 (x9.right.length : Int))), (57, .d true), (6000, .d true)])) (apc (cv h1) (apc (ig eForb 3 .i64 h2) (apc q2 (apc q3 (apc q4 (apc q5 (apc (cv h3) (apc q7 (apc q8 (apc (cv h8) (apc (ig eProd 7 .i64 h9) (apc (lg x9.right eSym 6) (apc (cv h10) apn))))))))))))) (by kernel_rfl)
      ·
       refine bn h fun x11 h11 h => ?_
       refine bi h (fun h12 h => ?_) fun h12 h => ?_
       ·
        rw [← sj h]
        exact xretY (n := 30) ([(14, .d true)] ++ ((L43_0_c0 x2 v2 a1) ++ [(26, .d false), (31, .v (vb true)), (38, .v (vb true)), (44, .d false), (53, .v (.ro (eProd x9))), (56, .v (i6 (x9.right.length : Int))), (57, .d false), (63, .v (.ro (eProd x9))), (69, .v (.ro (eSym x11))), (73, .d true), (6000, .d true)])) (apc (cv h1) (apc (ig eForb 3 .i64 h2) (apc q2 (apc q3 (apc q4 (apc q5 (apc (cv h3) (apc q7 (apc q8 (apc (cv h8) (apc (ig eProd 7 .i64 h9) (apc (lg x9.right eSym 6) (apc (cv h10) (apc (ig eProd 7 .i64 h9) (apc (ig eSym 6 .i64 h11) (apc (cv h12) apn)))))))))))))))) (by kernel_rfl)
       ·
        refine bn h fun x13 h13 h => ?_
        refine bi h (fun h14 h => ?_) fun h14 h => ?_
        ·
         rw [← sj h]
         exact xretY (n := 30) ([(14, .d true)] ++ ((L43_0_c0 x2 v2 a1) ++ [(26, .d false), (31, .v (vb true)), (38, .v (vb true)), (44, .d false), (53, .v (.ro (eProd x9))), (56, .v (i6 (x9.right.length : Int))), (57, .d false), (63, .v (.ro (eProd x9))), (69, .v (.ro (eSym x11))), (73, .d false), (81, .v (.ro (eProd x13))), (84, .d true), (6000, .d true)])) (apc (cv h1) (apc (ig eForb 3 .i64 h2) (apc q2 (apc q3 (apc q4 (apc q5 (apc (cv h3) (apc q7 (apc q8 (apc (cv h8) (apc (ig eProd 7 .i64 h9) (apc (lg x9.right eSym 6) (apc (cv h10) (apc (ig eProd 7 .i64 h9) (apc (ig eSym 6 .i64 h11) (apc (cv h12) (apc (ig eProd 7 .i64 h13) (apc (cv h14) apn)))))))))))))))))) (by kernel_rfl)
        ·
         rw [← sj h]
         exact rnd (n := 30) ([(14, .d true)] ++ ((L43_0_c0 x2 v2 a1) ++ [(26, .d false), (31, .v (vb true)), (38, .v (vb true)), (44, .d false), (53, .v (.ro (eProd x9))), (56, .v (i6 (x9.right.length : Int))), (57, .d false), (63, .v (.ro (eProd x9))), (69, .v (.ro (eSym x11))), (73, .d false), (81, .v (.ro (eProd x13))), (84, .d false), (6000, .d true)])) (apc (cv h1) (apc (ig eForb 3 .i64 h2) (apc q2 (apc q3 (apc q4 (apc q5 (apc (cv h3) (apc q7 (apc q8 (apc (cv h8) (apc (ig eProd 7 .i64 h9) (apc (lg x9.right eSym 6) (apc (cv h10) (apc (ig eProd 7 .i64 h9) (apc (ig eSym 6 .i64 h11) (apc (cv h12) (apc (ig eProd 7 .i64 h13) (apc (cv h14) (apc ((okT_of rfl (abl_cons rfl (abl_cons (abl_map (fun _ => rfl) (fun _ => rfl)) rfl))) : okT 2 [bG a1, .map (mrow (fun n => .agg [vi .i64 n.1, vi .i64 n.2.1, vi .i64 n.2.2]) (fun n => vi .i64 n) (mput (x2.parent, x2.at_, x2.child) (w6 ((mget 0 v2 (x2.parent, x2.at_, x2.child)) + 1)) v2)), .cells 78 ((eForb x2).map .p), .cells 68 ((eSym x11).map .p)] = true) apn))))))))))))))))))) (by kernel_rfl)
    ·
     rw [← sj h]
     exact xretY (n := 30) ([(14, .d true)] ++ ((L43_0_c0 x2 v2 a1) ++ [(26, .d false), (31, .v (vb true)), (38, .v (vb false)), (6000, .d true)])) (apc (cv h1) (apc (ig eForb 3 .i64 h2) (apc q2 (apc q3 (apc q4 (apc q5 (apc (cv h3) (apc q7 (apc ((((F68_2_ok x2 a1 h6).own rfl (purAs_cons rfl (purAs_cons (purA_ptr rfl (mapO_con rfl (mapO_con rfl (mapO_con rfl (mapO_con rfl (mapO_con rfl rfl)))))) purAs_nil)) rfl).trans (congrArg (fun z => some (vb z)) h7)) : CP prg 68 [(i6 x2.child), (.ptr 0 0)] (L43_0_d2 a1 x2 v2) = some (vb false)) apn))))))))) (by kernel_rfl)
   ·
    rw [← sj h]
    exact xretY (n := 30) ([(14, .d true)] ++ ((L43_0_c0 x2 v2 a1) ++ [(26, .d false), (31, .v (vb false)), (6000, .d true)])) (apc (cv h1) (apc (ig eForb 3 .i64 h2) (apc q2 (apc q3 (apc q4 (apc q5 (apc (cv h3) (apc ((((F68_ok x2 a1 h4).own rfl (purAs_cons rfl (purAs_cons (purA_ptr rfl (mapO_con rfl (mapO_con rfl (mapO_con rfl (mapO_con rfl (mapO_con rfl rfl)))))) purAs_nil)) rfl).trans (congrArg (fun z => some (vb z)) h5)) : CP prg 68 [(i6 x2.parent), (.ptr 0 0)] (L43_0_d2 a1 x2 v2) = some (vb false)) apn)))))))) (by kernel_rfl)
 ·
  rw [← sj h]
  exact xbrk (n := 30) [(14, .d false), (6000, .d true)] (apc (cv h1) apn) (by kernel_rfl)
theorem L43_0_run (a1 : GramD) (a2 : Int) (s0 : Int × (List ((Int × Int × Int) × Int))) (e : E_L43_0) (h : runL (fun s => L43_0 a1 a2 s.1 s.2) s0 = some e) : L43_0_x a1 a2 e (evH prg 2 [1, 3, 4, 11, 12, 13] ir43_l0 (L43_0_s a1 a2 s0.1 s0.2)) := by
  have q := @loop_sound' (Int × (List ((Int × Int × Int) × Int))) E_L43_0 (fun s => L43_0 a1 a2 s.1 s.2) (fun s => evH prg 2 [1, 3, 4, 11, 12, 13] ir43_l0 (L43_0_s a1 a2 s.1 s.2)) (L43_0_x a1 a2) (fun s r h => L43_0_ok a1 a2 s.1 s.2 h) s0 e h
  exact q
def F43_v (a1 : GramD) (x0 : Bool) : AV := (vb x0)
noncomputable def F43 (a1 : GramD) : Option Bool :=
  ((runL (fun s => L43_0 a1 (a1.forbid.length : Int) s.1 s.2) (0, [])).bind fun r1 => match r1 with | .k0 => (some false) | .k1 x1_0 => (some true))
abbrev F43_d0 (g1 : Nat → AV) (a1 : GramD) (x1_0 : List ((Int × Int × Int) × Int)) : St := ⟨fr 87 g1 [(1, (.ptr 0 0)), (11, (.p (.lst 3 (a1.forbid.map eForb))))], [bG a1, .map (mrow (fun n => .agg [vi .i64 n.1, vi .i64 n.2.1, vi .i64 n.2.2]) (fun n => vi .i64 n) x1_0)]⟩
theorem F43_ok (a1 : GramD) {r : Bool} (h : F43 a1 = some r) : PR1 prg 43 [(aG a1)] (F43_v a1 r) := by
 unfold F43 at h
 refine bn h fun r1 h1 h => ?_
 cases r1 with
 | k0 =>
  obtain ⟨g1, y1, e1⟩ := L43_0_run a1 (a1.forbid.length : Int) (0, []) _ h1
  rw [← sj h]
  exact fpr (n := 30) [(12, .v (i6 (a1.forbid.length : Int))), (2000, .l .ret ⟨fr 87 g1 [(2, (vb false))], y1⟩), (6000, .d true)] (apc (lg a1.forbid eForb 3) (apc ((okT_of rfl (abl_cons rfl (abl_cons rfl rfl))) : okT 2 [bG a1, .map []] = true) (apc (e1 : evH prg 2 [1, 3, 4, 11, 12, 13] ir43_l0 (L43_0_s a1 (a1.forbid.length : Int) 0 ([])) = some (.ret, ⟨fr 87 g1 [(2, (vb false))], y1⟩)) apn))) rfl (by kernel_rfl)
 | k1 x1_0 =>
  obtain ⟨g1, e1⟩ := L43_0_run a1 (a1.forbid.length : Int) (0, []) _ h1
  rw [← sj h]
  exact fpr (n := 30) [(12, .v (i6 (a1.forbid.length : Int))), (2000, .l (.brk 0) (F43_d0 g1 a1 x1_0)), (6000, .d true)] (apc (lg a1.forbid eForb 3) (apc ((okT_of rfl (abl_cons rfl (abl_cons rfl rfl))) : okT 2 [bG a1, .map []] = true) (apc (e1 : evH prg 2 [1, 3, 4, 11, 12, 13] ir43_l0 (L43_0_s a1 (a1.forbid.length : Int) 0 ([])) = some ((.brk 0), (F43_d0 g1 a1 x1_0))) apn))) rfl (by kernel_rfl)
inductive E_L44_0 where
  | k0
  | k1 (x0 : List (Int × Int))
noncomputable def L44_0 (a1 : GramD) (a2 : Int) (v1 : Int) (v2 : List (Int × Int)) : Option (E_L44_0 ⊕ (Int × (List (Int × Int)))) :=
  (bif (decide (v1 < a2)) then ((getI a1.follow v1).bind fun x2 => (bif (decide ((mget 0 (mput x2.sort (IntKind.wrap .i64 ((mget 0 v2 x2.sort) + 1)) v2) x2.sort) > 1)) then (some (.inl (.k0))) else (bif (decide (x2.sort < 0)) then (some (.inl (.k0))) else (bif (decide (x2.sort ≥ (a1.sorts.length : Int))) then (some (.inl (.k0))) else (bif ((x2.a == 0) && ((x2.b == 0) && ((x2.c == 0) && ((x2.d == 0) && true)))) then (some (.inl (.k0))) else (some (.inr ((IntKind.wrap .i64 (v1 + 1)), (mput x2.sort (IntKind.wrap .i64 ((mget 0 v2 x2.sort) + 1)) v2))))))))) else (some (.inl (.k1 v2))))
def L44_0_s (a1 : GramD) (a2 : Int) (v1 : Int) (v2 : List (Int × Int)) : St := ⟨fr 44 ug [(1, (.ptr 0 0)), (3, (.mp 1)), (8, (.p (.lst 5 (a1.follow.map eFoll)))), (9, (i6 a2)), (10, (i6 v1))], [bG a1, .map (mrow (fun n => vi .i64 n) (fun n => vi .i64 n) v2)]⟩
def L44_0_x (a1 : GramD) (a2 : Int) (e : E_L44_0) (r : Option (Out × St)) : Prop := match e with | .k0 => ∃ g y, r = some (.ret, ⟨fr 44 g [(2, (vb false))], y⟩) | .k1 x0 => ∃ g, r = some ((.brk 0), ⟨fr 44 g [(1, (.ptr 0 0)), (8, (.p (.lst 5 (a1.follow.map eFoll))))], [bG a1, .map (mrow (fun n => vi .i64 n) (fun n => vi .i64 n) x0)]⟩)
abbrev L44_0_d0 (a1 : GramD) (v2 : List (Int × Int)) (x2 : FollD) : List AB := [bG a1, .map (mrow (fun n => vi .i64 n) (fun n => vi .i64 n) v2), .cells 80 ((eFoll x2).map .p)]
abbrev L44_0_d1 (a1 : GramD) (x2 : FollD) (v2 : List (Int × Int)) : List AB := [bG a1, .map (mrow (fun n => vi .i64 n) (fun n => vi .i64 n) (mput x2.sort (w6 ((mget 0 v2 x2.sort) + 1)) v2)), .cells 80 ((eFoll x2).map .p)]
abbrev L44_0_c0 (x2 : FollD) (v2 : List (Int × Int)) (a1 : GramD) : List (Nat × Hint) := [(12, .v (.ro (eFoll x2))), (17, .v (i6 (mget 0 v2 x2.sort))), (7018, .r ud (L44_0_d1 a1 x2 v2)), (22, .v (i6 (mget 0 (mput x2.sort (w6 ((mget 0 v2 x2.sort) + 1)) v2) x2.sort)))]
theorem L44_0_ok (a1 : GramD) (a2 : Int) (v1 : Int) (v2 : List (Int × Int)) {r : E_L44_0 ⊕ (Int × (List (Int × Int)))} (h : L44_0 a1 a2 v1 v2 = some r) : OkR (fun e => L44_0_x a1 a2 e (evH prg 2 [1, 3, 8, 9, 10] ir44_l0 (L44_0_s a1 a2 v1 v2))) (fun s => evH prg 2 [1, 3, 8, 9, 10] ir44_l0 (L44_0_s a1 a2 v1 v2) = evH prg 2 [1, 3, 8, 9, 10] ir44_l0 (L44_0_s a1 a2 s.1 s.2)) r := by
 unfold L44_0 at h
 refine bi h (fun h1 h => ?_) fun h1 h => ?_
 ·
  refine bn h fun x2 h2 h => ?_
  have q2 := ((lk_row key_int (es := v2) (k := x2.sort) (z := 0) rfl rfl) : lkA (L44_0_d0 a1 v2 x2) [1] .false .false [(.val (.int .i64 0))] .false (.mp 1) (i6 x2.sort) = some (i6 (mget 0 v2 x2.sort)))
  have q3 := (⟨up_row key_int (es := v2) (k := x2.sort) (v := (w6 ((mget 0 v2 x2.sort) + 1))) rfl, rfl⟩ : upA (L44_0_d0 a1 v2 x2) [1] .false (.mp 1) (i6 x2.sort) (i6 (w6 ((mget 0 v2 x2.sort) + 1))) = some (L44_0_d1 a1 x2 v2) ∧ ud = ud)
  have q4 := ((lk_row key_int (es := (mput x2.sort (w6 ((mget 0 v2 x2.sort) + 1)) v2)) (k := x2.sort) (z := 0) rfl rfl) : lkA (L44_0_d1 a1 x2 v2) [1] .false .false [(.val (.int .i64 0))] .false (.mp 1) (i6 x2.sort) = some (i6 (mget 0 (mput x2.sort (w6 ((mget 0 v2 x2.sort) + 1)) v2) x2.sort)))
  refine bi h (fun h3 h => ?_) fun h3 h => ?_
  ·
   rw [← sj h]
   exact xretY (n := 30) ([(11, .d true)] ++ ((L44_0_c0 x2 v2 a1) ++ [(23, .d true), (6000, .d true)])) (apc (cv h1) (apc (ig eFoll 5 .i64 h2) (apc q2 (apc q3 (apc q4 (apc (cv h3) apn)))))) (by kernel_rfl)
  ·
   refine bi h (fun h4 h => ?_) fun h4 h => ?_
   ·
    rw [← sj h]
    exact xretY (n := 30) ([(11, .d true)] ++ ((L44_0_c0 x2 v2 a1) ++ [(23, .d false), (27, .d true), (6000, .d true)])) (apc (cv h1) (apc (ig eFoll 5 .i64 h2) (apc q2 (apc q3 (apc q4 (apc (cv h3) (apc (cv h4) apn))))))) (by kernel_rfl)
   ·
    refine bi h (fun h5 h => ?_) fun h5 h => ?_
    ·
     rw [← sj h]
     exact xretY (n := 30) ([(11, .d true)] ++ ((L44_0_c0 x2 v2 a1) ++ [(23, .d false), (27, .d false), (34, .v (i6 (a1.sorts.length : Int))), (35, .d true), (6000, .d true)])) (apc (cv h1) (apc (ig eFoll 5 .i64 h2) (apc q2 (apc q3 (apc q4 (apc (cv h3) (apc (cv h4) (apc (lg a1.sorts eStr 1) (apc (cv h5) apn))))))))) (by kernel_rfl)
    ·
     refine bi h (fun h6 h => ?_) fun h6 h => ?_
     ·
      rw [← sj h]
      exact xretY (n := 30) ([(11, .d true)] ++ ((L44_0_c0 x2 v2 a1) ++ [(23, .d false), (27, .d false), (34, .v (i6 (a1.sorts.length : Int))), (35, .d false), (41, .d true), (6000, .d true)])) (apc (cv h1) (apc (ig eFoll 5 .i64 h2) (apc q2 (apc q3 (apc q4 (apc (cv h3) (apc (cv h4) (apc (lg a1.sorts eStr 1) (apc (cv h5) (apc (cv h6) apn)))))))))) (by kernel_rfl)
     ·
      rw [← sj h]
      exact rnd (n := 30) ([(11, .d true)] ++ ((L44_0_c0 x2 v2 a1) ++ [(23, .d false), (27, .d false), (34, .v (i6 (a1.sorts.length : Int))), (35, .d false), (41, .d false), (6000, .d true)])) (apc (cv h1) (apc (ig eFoll 5 .i64 h2) (apc q2 (apc q3 (apc q4 (apc (cv h3) (apc (cv h4) (apc (lg a1.sorts eStr 1) (apc (cv h5) (apc (cv h6) (apc ((okT_of rfl (abl_cons rfl (abl_cons (abl_map (fun _ => rfl) (fun _ => rfl)) rfl))) : okT 2 (L44_0_d1 a1 x2 v2) = true) apn))))))))))) (by kernel_rfl)
 ·
  rw [← sj h]
  exact xbrk (n := 30) [(11, .d false), (6000, .d true)] (apc (cv h1) apn) (by kernel_rfl)
theorem L44_0_run (a1 : GramD) (a2 : Int) (s0 : Int × (List (Int × Int))) (e : E_L44_0) (h : runL (fun s => L44_0 a1 a2 s.1 s.2) s0 = some e) : L44_0_x a1 a2 e (evH prg 2 [1, 3, 8, 9, 10] ir44_l0 (L44_0_s a1 a2 s0.1 s0.2)) := by
  have q := @loop_sound' (Int × (List (Int × Int))) E_L44_0 (fun s => L44_0 a1 a2 s.1 s.2) (fun s => evH prg 2 [1, 3, 8, 9, 10] ir44_l0 (L44_0_s a1 a2 s.1 s.2)) (L44_0_x a1 a2) (fun s r h => L44_0_ok a1 a2 s.1 s.2 h) s0 e h
  exact q
def F44_v (a1 : GramD) (x0 : Bool) : AV := (vb x0)
noncomputable def F44 (a1 : GramD) : Option Bool :=
  ((runL (fun s => L44_0 a1 (a1.follow.length : Int) s.1 s.2) (0, [])).bind fun r1 => match r1 with | .k0 => (some false) | .k1 x1_0 => (some true))
abbrev F44_d0 (g1 : Nat → AV) (a1 : GramD) (x1_0 : List (Int × Int)) : St := ⟨fr 44 g1 [(1, (.ptr 0 0)), (8, (.p (.lst 5 (a1.follow.map eFoll))))], [bG a1, .map (mrow (fun n => vi .i64 n) (fun n => vi .i64 n) x1_0)]⟩
theorem F44_ok (a1 : GramD) {r : Bool} (h : F44 a1 = some r) : PR1 prg 44 [(aG a1)] (F44_v a1 r) := by
 unfold F44 at h
 refine bn h fun r1 h1 h => ?_
 cases r1 with
 | k0 =>
  obtain ⟨g1, y1, e1⟩ := L44_0_run a1 (a1.follow.length : Int) (0, []) _ h1
  rw [← sj h]
  exact fpr (n := 30) [(9, .v (i6 (a1.follow.length : Int))), (2000, .l .ret ⟨fr 44 g1 [(2, (vb false))], y1⟩), (6000, .d true)] (apc (lg a1.follow eFoll 5) (apc ((okT_of rfl (abl_cons rfl (abl_cons rfl rfl))) : okT 2 [bG a1, .map []] = true) (apc (e1 : evH prg 2 [1, 3, 8, 9, 10] ir44_l0 (L44_0_s a1 (a1.follow.length : Int) 0 ([])) = some (.ret, ⟨fr 44 g1 [(2, (vb false))], y1⟩)) apn))) rfl (by kernel_rfl)
 | k1 x1_0 =>
  obtain ⟨g1, e1⟩ := L44_0_run a1 (a1.follow.length : Int) (0, []) _ h1
  rw [← sj h]
  exact fpr (n := 30) [(9, .v (i6 (a1.follow.length : Int))), (2000, .l (.brk 0) (F44_d0 g1 a1 x1_0)), (6000, .d true)] (apc (lg a1.follow eFoll 5) (apc ((okT_of rfl (abl_cons rfl (abl_cons rfl rfl))) : okT 2 [bG a1, .map []] = true) (apc (e1 : evH prg 2 [1, 3, 8, 9, 10] ir44_l0 (L44_0_s a1 (a1.follow.length : Int) 0 ([])) = some ((.brk 0), (F44_d0 g1 a1 x1_0))) apn))) rfl (by kernel_rfl)
inductive E_L15_0 where
  | k0
  | k1
noncomputable def L15_0 (a1 : GramD) (v1 : Int) : Option (E_L15_0 ⊕ (Int)) :=
  (bif (decide (v1 < 4)) then (bif (v1 == 0) then ((F41 a1).bind fun x3 => (bif x3 then (some (.inr ((IntKind.wrap .i64 (v1 + 1))))) else (some (.inl (.k0))))) else (bif (v1 == 1) then ((F42 a1).bind fun x4 => (bif x4 then (some (.inr ((IntKind.wrap .i64 (v1 + 1))))) else (some (.inl (.k0))))) else (bif (v1 == 2) then ((F43 a1).bind fun x5 => (bif x5 then (some (.inr ((IntKind.wrap .i64 (v1 + 1))))) else (some (.inl (.k0))))) else (bif (v1 == 3) then ((F44 a1).bind fun x6 => (bif x6 then (some (.inr ((IntKind.wrap .i64 (v1 + 1))))) else (some (.inl (.k0))))) else none)))) else (some (.inl (.k1))))
def L15_0_s (a1 : GramD) (v1 : Int) : St := ⟨fr 14 ug [(1, (.ptr 0 0)), (5, (.agg [(.fn 41 []), (.fn 42 []), (.fn 43 []), (.fn 44 [])])), (6, (i6 v1))], [bG a1]⟩
def L15_0_x (a1 : GramD) (e : E_L15_0) (r : Option (Out × St)) : Prop := match e with | .k0 => ∃ g y, r = some (.ret, ⟨fr 14 g [(2, (i6 160))], y⟩) | .k1 => ∃ g, r = some ((.brk 0), ⟨fr 14 g [], [bG a1]⟩)
theorem L15_0_ok (a1 : GramD) (v1 : Int) {r : E_L15_0 ⊕ (Int)} (h : L15_0 a1 v1 = some r) : OkR (fun e => L15_0_x a1 e (evH prg 1 [1, 5, 6] ir15_l0 (L15_0_s a1 v1))) (fun s => evH prg 1 [1, 5, 6] ir15_l0 (L15_0_s a1 v1) = evH prg 1 [1, 5, 6] ir15_l0 (L15_0_s a1 s)) r := by
 unfold L15_0 at h
 refine bi h (fun h1 h => ?_) fun h1 h => ?_
 ·
  refine bi h (fun h2 h => ?_) fun h2 h => ?_
  ·
   have q1 := ((ix_lit h2 (fun z => ixG false 4 1 (.agg [(.fn 41 []), (.fn 42 []), (.fn 43 []), (.fn 44 [])]) (i6 z)) rfl) : ixG false 4 1 (.agg [(.fn 41 []), (.fn 42 []), (.fn 43 []), (.fn 44 [])]) (i6 v1) = some (.fn 41 []))
   refine bn h fun x3 h3 h => ?_
   refine bi h (fun h4 h => ?_) fun h4 h => ?_
   ·
    rw [← sj h]
    exact rnd (n := 30) [(7, .d true), (8, .v (.fn 41 [])), (11, .v (vb true)), (6000, .d true)] (apc (cv h1) (apc q1 (apc ((((F41_ok a1 h3).cp rfl _).trans (congrArg (fun z => some (vb z)) h4)) : CP prg 41 [(aG a1)] [bG a1] = some (vb true)) (apc ((okT_of rfl (abl_cons rfl rfl)) : okT 1 [bG a1] = true) apn)))) (by kernel_rfl)
   ·
    rw [← sj h]
    exact xretY (n := 30) [(7, .d true), (8, .v (.fn 41 [])), (11, .v (vb false)), (6000, .d true)] (apc (cv h1) (apc q1 (apc ((((F41_ok a1 h3).cp rfl _).trans (congrArg (fun z => some (vb z)) h4)) : CP prg 41 [(aG a1)] [bG a1] = some (vb false)) apn))) (by kernel_rfl)
  ·
   refine bi h (fun h3 h => ?_) fun h3 h => ?_
   ·
    have q1 := ((ix_lit h3 (fun z => ixG false 4 1 (.agg [(.fn 41 []), (.fn 42 []), (.fn 43 []), (.fn 44 [])]) (i6 z)) rfl) : ixG false 4 1 (.agg [(.fn 41 []), (.fn 42 []), (.fn 43 []), (.fn 44 [])]) (i6 v1) = some (.fn 42 []))
    refine bn h fun x4 h4 h => ?_
    refine bi h (fun h5 h => ?_) fun h5 h => ?_
    ·
     rw [← sj h]
     exact rnd (n := 30) [(7, .d true), (8, .v (.fn 42 [])), (11, .v (vb true)), (6000, .d true)] (apc (cv h1) (apc q1 (apc ((((F42_ok a1 h4).cp rfl _).trans (congrArg (fun z => some (vb z)) h5)) : CP prg 42 [(aG a1)] [bG a1] = some (vb true)) (apc ((okT_of rfl (abl_cons rfl rfl)) : okT 1 [bG a1] = true) apn)))) (by kernel_rfl)
    ·
     rw [← sj h]
     exact xretY (n := 30) [(7, .d true), (8, .v (.fn 42 [])), (11, .v (vb false)), (6000, .d true)] (apc (cv h1) (apc q1 (apc ((((F42_ok a1 h4).cp rfl _).trans (congrArg (fun z => some (vb z)) h5)) : CP prg 42 [(aG a1)] [bG a1] = some (vb false)) apn))) (by kernel_rfl)
   ·
    refine bi h (fun h4 h => ?_) fun h4 h => ?_
    ·
     have q1 := ((ix_lit h4 (fun z => ixG false 4 1 (.agg [(.fn 41 []), (.fn 42 []), (.fn 43 []), (.fn 44 [])]) (i6 z)) rfl) : ixG false 4 1 (.agg [(.fn 41 []), (.fn 42 []), (.fn 43 []), (.fn 44 [])]) (i6 v1) = some (.fn 43 []))
     refine bn h fun x5 h5 h => ?_
     refine bi h (fun h6 h => ?_) fun h6 h => ?_
     ·
      rw [← sj h]
      exact rnd (n := 30) [(7, .d true), (8, .v (.fn 43 [])), (11, .v (vb true)), (6000, .d true)] (apc (cv h1) (apc q1 (apc ((((F43_ok a1 h5).cp rfl _).trans (congrArg (fun z => some (vb z)) h6)) : CP prg 43 [(aG a1)] [bG a1] = some (vb true)) (apc ((okT_of rfl (abl_cons rfl rfl)) : okT 1 [bG a1] = true) apn)))) (by kernel_rfl)
     ·
      rw [← sj h]
      exact xretY (n := 30) [(7, .d true), (8, .v (.fn 43 [])), (11, .v (vb false)), (6000, .d true)] (apc (cv h1) (apc q1 (apc ((((F43_ok a1 h5).cp rfl _).trans (congrArg (fun z => some (vb z)) h6)) : CP prg 43 [(aG a1)] [bG a1] = some (vb false)) apn))) (by kernel_rfl)
    ·
     refine bi h (fun h5 h => ?_) fun h5 h => ?_
     ·
      have q1 := ((ix_lit h5 (fun z => ixG false 4 1 (.agg [(.fn 41 []), (.fn 42 []), (.fn 43 []), (.fn 44 [])]) (i6 z)) rfl) : ixG false 4 1 (.agg [(.fn 41 []), (.fn 42 []), (.fn 43 []), (.fn 44 [])]) (i6 v1) = some (.fn 44 []))
      refine bn h fun x6 h6 h => ?_
      refine bi h (fun h7 h => ?_) fun h7 h => ?_
      ·
       rw [← sj h]
       exact rnd (n := 30) [(7, .d true), (8, .v (.fn 44 [])), (11, .v (vb true)), (6000, .d true)] (apc (cv h1) (apc q1 (apc ((((F44_ok a1 h6).cp rfl _).trans (congrArg (fun z => some (vb z)) h7)) : CP prg 44 [(aG a1)] [bG a1] = some (vb true)) (apc ((okT_of rfl (abl_cons rfl rfl)) : okT 1 [bG a1] = true) apn)))) (by kernel_rfl)
      ·
       rw [← sj h]
       exact xretY (n := 30) [(7, .d true), (8, .v (.fn 44 [])), (11, .v (vb false)), (6000, .d true)] (apc (cv h1) (apc q1 (apc ((((F44_ok a1 h6).cp rfl _).trans (congrArg (fun z => some (vb z)) h7)) : CP prg 44 [(aG a1)] [bG a1] = some (vb false)) apn))) (by kernel_rfl)
     ·
      cases h
 ·
  rw [← sj h]
  exact xbrk (n := 30) [(7, .d false), (6000, .d true)] (apc (cv h1) apn) (by kernel_rfl)
theorem L15_0_run (a1 : GramD) (s0 : Int) (e : E_L15_0) (h : runL (fun s => L15_0 a1 s) s0 = some e) : L15_0_x a1 e (evH prg 1 [1, 5, 6] ir15_l0 (L15_0_s a1 s0)) := by
  have q := @loop_sound' (Int) E_L15_0 (fun s => L15_0 a1 s) (fun s => evH prg 1 [1, 5, 6] ir15_l0 (L15_0_s a1 s)) (L15_0_x a1) (fun s r h => L15_0_ok a1 s h) s0 e h
  exact q
def F15_v (a1 : GramD) (x0 : Int) : AV := (i6 x0)
noncomputable def F15 (a1 : GramD) : Option Int :=
  ((runL (fun s => L15_0 a1 s) 0).bind fun r1 => match r1 with | .k0 => (some 160) | .k1 => (some 0))
theorem F15_ok (a1 : GramD) {r : Int} (h : F15 a1 = some r) : PR1 prg 15 [(aG a1)] (F15_v a1 r) := by
 unfold F15 at h
 refine bn h fun r1 h1 h => ?_
 cases r1 with
 | k0 =>
  obtain ⟨g1, y1, e1⟩ := L15_0_run a1 0 _ h1
  rw [← sj h]
  exact fpr (n := 30) [(2000, .l .ret ⟨fr 14 g1 [(2, (i6 160))], y1⟩), (6000, .d true)] (apc ((okT_of rfl (abl_cons rfl rfl)) : okT 1 [bG a1] = true) (apc (e1 : evH prg 1 [1, 5, 6] ir15_l0 (L15_0_s a1 0) = some (.ret, ⟨fr 14 g1 [(2, (i6 160))], y1⟩)) apn)) rfl (by kernel_rfl)
 | k1 =>
  obtain ⟨g1, e1⟩ := L15_0_run a1 0 _ h1
  rw [← sj h]
  exact fpr (n := 30) [(2000, .l (.brk 0) ⟨fr 14 g1 [], [bG a1]⟩), (6000, .d true)] (apc ((okT_of rfl (abl_cons rfl rfl)) : okT 1 [bG a1] = true) (apc (e1 : evH prg 1 [1, 5, 6] ir15_l0 (L15_0_s a1 0) = some ((.brk 0), ⟨fr 14 g1 [], [bG a1]⟩)) apn)) rfl (by kernel_rfl)
def F63_v (a1 : SymD) (a2 : GramD) (a3 : List Bool) (a4 : Nat) (a5 : ProdD) (x0 : Bool) : AV := (vb x0)
def F63_h (a1 : SymD) (a2 : GramD) (a3 : List Bool) (a4 : Nat) (a5 : ProdD) (x0 : Bool) : List AB := [bG a2, .row 4 1 0 (ra eBool []), .row 4 1 0 (ra eBool a3), .row 4 1 0 (ra eBool []), .cells 83 [(.sl 2 0 1 0 a4)], .cells 103 [(.fn 63 [(.ptr 4 0)])], .row 68 6 0 (ra eSym []), bP a5, .cells 68 ((eSym a1).map .p), .cells 68 ((eSym a1).map .p)]
noncomputable def F63 (a1 : SymD) (a3 : List Bool) (a4 : Nat) : Option Bool :=
  (bif (a1.kind == 0) then (some true) else ((ixN a4 a1.sort).bind fun x2 => ((a3[x2]?).bind fun x3 => (some x3))))
theorem F63_ok (a1 : SymD) (a2 : GramD) (a3 : List Bool) (a4 : Nat) (a5 : ProdD) {r : Bool} (h : F63 a1 a3 a4 = some r) : CS prg 63 [(.agg ((eSym a1).map .p)), (.ptr 4 0)] [bG a2, .row 4 1 0 (ra eBool []), .row 4 1 0 (ra eBool a3), .row 4 1 0 (ra eBool []), .cells 83 [(.sl 2 0 1 0 a4)], .cells 103 [(.fn 63 [(.ptr 4 0)])], .row 68 6 0 (ra eSym []), bP a5, .cells 68 ((eSym a1).map .p)] = some (F63_v a1 a2 a3 a4 a5 r, F63_h a1 a2 a3 a4 a5 r) := by
 unfold F63 at h
 refine bi h (fun h1 h => ?_) fun h1 h => ?_
 ·
  rw [← sj h]
  exact fcs (n := 30) [(6, .d true)] (apc (cv h1) apn) (by kernel_rfl)
 ·
  refine bn h fun x2 h2 h => ?_
  refine bn h fun x3 h3 h => ?_
  rw [← sj h]
  exact fcs (n := 30) [(6, .d false), (11, .v (.rp 2 0 1 x2 0)), (12, .v (vb x3))] (apc (cv h1) (apc ((idx_sl h2) : idxA 1 (.sl 2 0 1 0 a4) (i6 a1.sort) = some (.rp 2 0 1 x2 0)) (apc ((ld_row rfl h3 rfl) : ldA [bG a2, .row 4 1 0 (ra eBool []), .row 4 1 0 (ra eBool a3), .row 4 1 0 (ra eBool []), .cells 83 [(.sl 2 0 1 0 a4)], .cells 103 [(.fn 63 [(.ptr 4 0)])], .row 68 6 0 (ra eSym []), bP a5, .cells 68 ((eSym a1).map .p), .cells 68 ((eSym a1).map .p)] .false 1 (.rp 2 0 1 x2 0) = some (vb x3)) apn))) (by kernel_rfl)
def F64_v (a1 : SymD) (a2 : GramD) (a3 : List Bool) (a4 : Nat) (a5 : ProdD) (x0 : Bool) : AV := (vb x0)
def F64_h (a1 : SymD) (a2 : GramD) (a3 : List Bool) (a4 : Nat) (a5 : ProdD) (x0 : Bool) : List AB := [bG a2, .row 4 1 0 (ra eBool []), .row 4 1 0 (ra eBool a3), .row 4 1 0 (ra eBool []), .cells 83 [(.sl 2 0 1 0 a4)], .cells 103 [(.fn 63 [(.ptr 4 0)])], .row 68 6 0 (ra eSym []), bP a5, .cells 68 ((eSym a1).map .p), .cells 68 ((eSym a1).map .p)]
noncomputable def F64 (a1 : SymD) (a3 : List Bool) (a4 : Nat) : Option Bool :=
  ((F63 a1 a3 a4).bind fun x1 => (some (!x1)))
abbrev F64_d0 (a2 : GramD) (a3 : List Bool) (a4 : Nat) (a5 : ProdD) (a1 : SymD) : List AB := [bG a2, .row 4 1 0 (ra eBool []), .row 4 1 0 (ra eBool a3), .row 4 1 0 (ra eBool []), .cells 83 [(.sl 2 0 1 0 a4)], .cells 103 [(.fn 63 [(.ptr 4 0)])], .row 68 6 0 (ra eSym []), bP a5, .cells 68 ((eSym a1).map .p), .cells 68 ((eSym a1).map .p)]
theorem F64_ok (a1 : SymD) (a2 : GramD) (a3 : List Bool) (a4 : Nat) (a5 : ProdD) {r : Bool} (h : F64 a1 a3 a4 = some r) : CS prg 64 [(.agg ((eSym a1).map .p)), (.ptr 5 0)] [bG a2, .row 4 1 0 (ra eBool []), .row 4 1 0 (ra eBool a3), .row 4 1 0 (ra eBool []), .cells 83 [(.sl 2 0 1 0 a4)], .cells 103 [(.fn 63 [(.ptr 4 0)])], .row 68 6 0 (ra eSym []), bP a5] = some (F64_v a1 a2 a3 a4 a5 r, F64_h a1 a2 a3 a4 a5 r) := by
 unfold F64 at h
 refine bn h fun x1 h1 h => ?_
 rw [← sj h]
 exact fcs (n := 30) [(6, .r (vb x1) (F64_d0 a2 a3 a4 a5 a1))] (apc ((F63_ok a1 a2 a3 a4 a5 h1) : CS prg 63 [(.agg ((eSym a1).map .p)), (.ptr 4 0)] [bG a2, .row 4 1 0 (ra eBool []), .row 4 1 0 (ra eBool a3), .row 4 1 0 (ra eBool []), .cells 83 [(.sl 2 0 1 0 a4)], .cells 103 [(.fn 63 [(.ptr 4 0)])], .row 68 6 0 (ra eSym []), bP a5, .cells 68 ((eSym a1).map .p)] = some ((vb x1), (F64_d0 a2 a3 a4 a5 a1))) apn) (by kernel_rfl)
inductive E_L72_0 where
  | k0 (x0 : Int) (x1 : Int) (x2 : Int) (x3 : Int) (x4 : Int) (x5 : Int) (x6 : Int)
  | k1
noncomputable def L72_0 (a1 : ProdD) (a2 : Int) (a4 : List Bool) (a5 : Nat) (v1 : Int) : Option (E_L72_0 ⊕ (Int)) :=
  (bif (decide (v1 < a2)) then ((getI a1.right v1).bind fun x2 => ((F64 x2 a4 a5).bind fun x3 => (bif x3 then (some (.inl (.k0 v1 x2.kind x2.a x2.b x2.c x2.d x2.sort))) else (some (.inr ((IntKind.wrap .i64 (v1 + 1)))))))) else (some (.inl (.k1))))
def L72_0_s (a1 : ProdD) (a2 : Int) (a3 : GramD) (a4 : List Bool) (a5 : Nat) (v1 : Int) : St := ⟨fr 19 ug [(0, (.p (.lst 6 (a1.right.map eSym)))), (1, (.fn 64 [(.ptr 5 0)])), (7, (i6 a2)), (8, (i6 v1))], [bG a3, .row 4 1 0 (ra eBool []), .row 4 1 0 (ra eBool a4), .row 4 1 0 (ra eBool []), .cells 83 [(.sl 2 0 1 0 a5)], .cells 103 [(.fn 63 [(.ptr 4 0)])], .row 68 6 0 (ra eSym []), bP a1]⟩
def L72_0_x (a1 : ProdD) (a2 : Int) (a3 : GramD) (a4 : List Bool) (a5 : Nat) (e : E_L72_0) (r : Option (Out × St)) : Prop := match e with | .k0 x0 x1 x2 x3 x4 x5 x6 => ∃ g, r = some (.ret, ⟨fr 19 g [(4, (i6 x0))], [bG a3, .row 4 1 0 (ra eBool []), .row 4 1 0 (ra eBool a4), .row 4 1 0 (ra eBool []), .cells 83 [(.sl 2 0 1 0 a5)], .cells 103 [(.fn 63 [(.ptr 4 0)])], .row 68 6 0 (ra eSym []), bP a1, .cells 68 [(i6 x1), (vi .u64 x2), (vi .u64 x3), (vi .u64 x4), (vi .u64 x5), (i6 x6)], .cells 68 [(i6 x1), (vi .u64 x2), (vi .u64 x3), (vi .u64 x4), (vi .u64 x5), (i6 x6)]]⟩) | .k1 => ∃ g, r = some ((.brk 0), ⟨fr 19 g [(0, (.p (.lst 6 (a1.right.map eSym))))], [bG a3, .row 4 1 0 (ra eBool []), .row 4 1 0 (ra eBool a4), .row 4 1 0 (ra eBool []), .cells 83 [(.sl 2 0 1 0 a5)], .cells 103 [(.fn 63 [(.ptr 4 0)])], .row 68 6 0 (ra eSym []), bP a1]⟩)
abbrev L72_0_d0 (a3 : GramD) (a4 : List Bool) (a5 : Nat) (a1 : ProdD) (x2 : SymD) : List AB := [bG a3, .row 4 1 0 (ra eBool []), .row 4 1 0 (ra eBool a4), .row 4 1 0 (ra eBool []), .cells 83 [(.sl 2 0 1 0 a5)], .cells 103 [(.fn 63 [(.ptr 4 0)])], .row 68 6 0 (ra eSym []), bP a1, .cells 68 ((eSym x2).map .p), .cells 68 ((eSym x2).map .p)]
abbrev L72_0_d1 (a3 : GramD) (a4 : List Bool) (a5 : Nat) (a1 : ProdD) : List AB := [bG a3, .row 4 1 0 (ra eBool []), .row 4 1 0 (ra eBool a4), .row 4 1 0 (ra eBool []), .cells 83 [(.sl 2 0 1 0 a5)], .cells 103 [(.fn 63 [(.ptr 4 0)])], .row 68 6 0 (ra eSym []), bP a1]
theorem L72_0_ok (a1 : ProdD) (a2 : Int) (a3 : GramD) (a4 : List Bool) (a5 : Nat) (v1 : Int) {r : E_L72_0 ⊕ (Int)} (h : L72_0 a1 a2 a4 a5 v1 = some r) : OkR (fun e => L72_0_x a1 a2 a3 a4 a5 e (evH prg 8 [0, 1, 7, 8] ir72_l0 (L72_0_s a1 a2 a3 a4 a5 v1))) (fun s => evH prg 8 [0, 1, 7, 8] ir72_l0 (L72_0_s a1 a2 a3 a4 a5 v1) = evH prg 8 [0, 1, 7, 8] ir72_l0 (L72_0_s a1 a2 a3 a4 a5 s)) r := by
 unfold L72_0 at h
 refine bi h (fun h1 h => ?_) fun h1 h => ?_
 ·
  refine bn h fun x2 h2 h => ?_
  refine bn h fun x3 h3 h => ?_
  refine bi h (fun h4 h => ?_) fun h4 h => ?_
  ·
   rw [← sj h]
   exact xret (n := 30) [(9, .d true), (14, .v (.ro (eSym x2))), (16, .r (vb true) (L72_0_d0 a3 a4 a5 a1 x2)), (6000, .d true)] (apc (cv h1) (apc (ig eSym 6 .i64 h2) (apc (((F64_ok x2 a3 a4 a5 a1 h3).trans (congrArg (fun z => some (vb z, ((L72_0_d0 a3 a4 a5 a1 x2) : List AB))) h4)) : CS prg 64 [(.agg ((eSym x2).map .p)), (.ptr 5 0)] (L72_0_d1 a3 a4 a5 a1) = some (vb true, (L72_0_d0 a3 a4 a5 a1 x2))) apn))) (by kernel_rfl)
  ·
   rw [← sj h]
   exact rnd (n := 30) [(9, .d true), (14, .v (.ro (eSym x2))), (16, .r (vb false) (L72_0_d0 a3 a4 a5 a1 x2)), (6000, .d true)] (apc (cv h1) (apc (ig eSym 6 .i64 h2) (apc (((F64_ok x2 a3 a4 a5 a1 h3).trans (congrArg (fun z => some (vb z, ((L72_0_d0 a3 a4 a5 a1 x2) : List AB))) h4)) : CS prg 64 [(.agg ((eSym x2).map .p)), (.ptr 5 0)] (L72_0_d1 a3 a4 a5 a1) = some (vb false, (L72_0_d0 a3 a4 a5 a1 x2))) (apc ((okT_of rfl (abl_cons rfl (abl_cons abl_row (abl_cons abl_row (abl_cons abl_row (abl_cons rfl (abl_cons rfl (abl_cons abl_row (abl_cons rfl rfl))))))))) : okT 8 (L72_0_d0 a3 a4 a5 a1 x2) = true) apn)))) (by kernel_rfl)
 ·
  rw [← sj h]
  exact xbrk (n := 30) [(9, .d false), (6000, .d true)] (apc (cv h1) apn) (by kernel_rfl)
theorem L72_0_run (a1 : ProdD) (a2 : Int) (a3 : GramD) (a4 : List Bool) (a5 : Nat) (s0 : Int) (e : E_L72_0) (h : runL (fun s => L72_0 a1 a2 a4 a5 s) s0 = some e) : L72_0_x a1 a2 a3 a4 a5 e (evH prg 8 [0, 1, 7, 8] ir72_l0 (L72_0_s a1 a2 a3 a4 a5 s0)) := by
  have q := @loop_sound' (Int) E_L72_0 (fun s => L72_0 a1 a2 a4 a5 s) (fun s => evH prg 8 [0, 1, 7, 8] ir72_l0 (L72_0_s a1 a2 a3 a4 a5 s)) (L72_0_x a1 a2 a3 a4 a5) (fun s r h => L72_0_ok a1 a2 a3 a4 a5 s h) s0 e h
  exact q
inductive R_F72 where
  | k0 (x0 : Int) (x1 : Int) (x2 : Int) (x3 : Int) (x4 : Int) (x5 : Int) (x6 : Int)
  | k1
def F72_v (a1 : ProdD) (a2 : GramD) (a3 : List Bool) (a4 : Nat) (r : R_F72) : AV := match r with | .k0 x0 x1 x2 x3 x4 x5 x6 => (i6 x0) | .k1 => (i6 (-1))
def F72_h (a1 : ProdD) (a2 : GramD) (a3 : List Bool) (a4 : Nat) (r : R_F72) : List AB := match r with | .k0 x0 x1 x2 x3 x4 x5 x6 => [bG a2, .row 4 1 0 (ra eBool []), .row 4 1 0 (ra eBool a3), .row 4 1 0 (ra eBool []), .cells 83 [(.sl 2 0 1 0 a4)], .cells 103 [(.fn 63 [(.ptr 4 0)])], .row 68 6 0 (ra eSym []), bP a1, .cells 68 [(i6 x1), (vi .u64 x2), (vi .u64 x3), (vi .u64 x4), (vi .u64 x5), (i6 x6)], .cells 68 [(i6 x1), (vi .u64 x2), (vi .u64 x3), (vi .u64 x4), (vi .u64 x5), (i6 x6)]] | .k1 => [bG a2, .row 4 1 0 (ra eBool []), .row 4 1 0 (ra eBool a3), .row 4 1 0 (ra eBool []), .cells 83 [(.sl 2 0 1 0 a4)], .cells 103 [(.fn 63 [(.ptr 4 0)])], .row 68 6 0 (ra eSym []), bP a1]
noncomputable def F72 (a1 : ProdD) (a3 : List Bool) (a4 : Nat) : Option R_F72 :=
  ((runL (fun s => L72_0 a1 (a1.right.length : Int) a3 a4 s) 0).bind fun r1 => match r1 with | .k0 x1_0 x1_1 x1_2 x1_3 x1_4 x1_5 x1_6 => (some (.k0 x1_0 x1_1 x1_2 x1_3 x1_4 x1_5 x1_6)) | .k1 => (some (.k1)))
abbrev F72_d0 (g1 : Nat → AV) (x1_0 : Int) (a2 : GramD) (a3 : List Bool) (a4 : Nat) (a1 : ProdD) (x1_1 : Int) (x1_2 : Int) (x1_3 : Int) (x1_4 : Int) (x1_5 : Int) (x1_6 : Int) : St := ⟨fr 19 g1 [(4, (i6 x1_0))], [bG a2, .row 4 1 0 (ra eBool []), .row 4 1 0 (ra eBool a3), .row 4 1 0 (ra eBool []), .cells 83 [(.sl 2 0 1 0 a4)], .cells 103 [(.fn 63 [(.ptr 4 0)])], .row 68 6 0 (ra eSym []), bP a1, .cells 68 [(i6 x1_1), (vi .u64 x1_2), (vi .u64 x1_3), (vi .u64 x1_4), (vi .u64 x1_5), (i6 x1_6)], .cells 68 [(i6 x1_1), (vi .u64 x1_2), (vi .u64 x1_3), (vi .u64 x1_4), (vi .u64 x1_5), (i6 x1_6)]]⟩
abbrev F72_d1 (a2 : GramD) (a3 : List Bool) (a4 : Nat) (a1 : ProdD) : List AB := [bG a2, .row 4 1 0 (ra eBool []), .row 4 1 0 (ra eBool a3), .row 4 1 0 (ra eBool []), .cells 83 [(.sl 2 0 1 0 a4)], .cells 103 [(.fn 63 [(.ptr 4 0)])], .row 68 6 0 (ra eSym []), bP a1]
abbrev F72_d2 (g1 : Nat → AV) (a1 : ProdD) (a2 : GramD) (a3 : List Bool) (a4 : Nat) : St := ⟨fr 19 g1 [(0, (.p (.lst 6 (a1.right.map eSym))))], [bG a2, .row 4 1 0 (ra eBool []), .row 4 1 0 (ra eBool a3), .row 4 1 0 (ra eBool []), .cells 83 [(.sl 2 0 1 0 a4)], .cells 103 [(.fn 63 [(.ptr 4 0)])], .row 68 6 0 (ra eSym []), bP a1]⟩
theorem F72_ok (a1 : ProdD) (a2 : GramD) (a3 : List Bool) (a4 : Nat) {r : R_F72} (h : F72 a1 a3 a4 = some r) : CS prg 72 [(.p (.lst 6 (a1.right.map eSym))), (.fn 64 [(.ptr 5 0)])] [bG a2, .row 4 1 0 (ra eBool []), .row 4 1 0 (ra eBool a3), .row 4 1 0 (ra eBool []), .cells 83 [(.sl 2 0 1 0 a4)], .cells 103 [(.fn 63 [(.ptr 4 0)])], .row 68 6 0 (ra eSym []), bP a1] = some (F72_v a1 a2 a3 a4 r, F72_h a1 a2 a3 a4 r) := by
 unfold F72 at h
 refine bn h fun r1 h1 h => ?_
 cases r1 with
 | k0 x1_0 x1_1 x1_2 x1_3 x1_4 x1_5 x1_6 =>
  obtain ⟨g1, e1⟩ := L72_0_run a1 (a1.right.length : Int) a2 a3 a4 0 _ h1
  rw [← sj h]
  exact fcs (n := 30) [(7, .v (i6 (a1.right.length : Int))), (2000, .l .ret (F72_d0 g1 x1_0 a2 a3 a4 a1 x1_1 x1_2 x1_3 x1_4 x1_5 x1_6)), (6000, .d true)] (apc (lg a1.right eSym 6) (apc ((okT_of rfl (abl_cons rfl (abl_cons abl_row (abl_cons abl_row (abl_cons abl_row (abl_cons rfl (abl_cons rfl (abl_cons abl_row (abl_cons rfl rfl))))))))) : okT 8 (F72_d1 a2 a3 a4 a1) = true) (apc (e1 : evH prg 8 [0, 1, 7, 8] ir72_l0 (L72_0_s a1 (a1.right.length : Int) a2 a3 a4 0) = some (.ret, (F72_d0 g1 x1_0 a2 a3 a4 a1 x1_1 x1_2 x1_3 x1_4 x1_5 x1_6))) apn))) (by kernel_rfl)
 | k1 =>
  obtain ⟨g1, e1⟩ := L72_0_run a1 (a1.right.length : Int) a2 a3 a4 0 _ h1
  rw [← sj h]
  exact fcs (n := 30) [(7, .v (i6 (a1.right.length : Int))), (2000, .l (.brk 0) (F72_d2 g1 a1 a2 a3 a4)), (6000, .d true)] (apc (lg a1.right eSym 6) (apc ((okT_of rfl (abl_cons rfl (abl_cons abl_row (abl_cons abl_row (abl_cons abl_row (abl_cons rfl (abl_cons rfl (abl_cons abl_row (abl_cons rfl rfl))))))))) : okT 8 (F72_d1 a2 a3 a4 a1) = true) (apc (e1 : evH prg 8 [0, 1, 7, 8] ir72_l0 (L72_0_s a1 (a1.right.length : Int) a2 a3 a4 0) = some ((.brk 0), (F72_d2 g1 a1 a2 a3 a4))) apn))) (by kernel_rfl)
inductive R_F54 where
  | k0 (x0 : Bool) (x1 : Int) (x2 : Int) (x3 : Int) (x4 : Int) (x5 : Int) (x6 : Int)
  | k1
def F54_v (a1 : ProdD) (a2 : GramD) (a3 : List Bool) (a4 : Nat) (r : R_F54) : AV := match r with | .k0 x0 x1 x2 x3 x4 x5 x6 => (vb x0) | .k1 => (vb false)
def F54_h (a1 : ProdD) (a2 : GramD) (a3 : List Bool) (a4 : Nat) (r : R_F54) : List AB := match r with | .k0 x0 x1 x2 x3 x4 x5 x6 => [bG a2, .row 4 1 0 (ra eBool []), .row 4 1 0 (ra eBool a3), .row 4 1 0 (ra eBool []), .cells 83 [(.sl 2 0 1 0 a4)], .cells 103 [(.fn 63 [(.ptr 4 0)])], .row 68 6 0 (ra eSym []), bP a1, .cells 68 [(i6 x1), (vi .u64 x2), (vi .u64 x3), (vi .u64 x4), (vi .u64 x5), (i6 x6)], .cells 68 [(i6 x1), (vi .u64 x2), (vi .u64 x3), (vi .u64 x4), (vi .u64 x5), (i6 x6)]] | .k1 => [bG a2, .row 4 1 0 (ra eBool []), .row 4 1 0 (ra eBool a3), .row 4 1 0 (ra eBool []), .cells 83 [(.sl 2 0 1 0 a4)], .cells 103 [(.fn 63 [(.ptr 4 0)])], .row 68 6 0 (ra eSym []), bP a1]
noncomputable def F54 (a1 : ProdD) (a3 : List Bool) (a4 : Nat) : Option R_F54 :=
  ((F72 a1 a3 a4).bind fun r1 => match r1 with | .k0 x1_0 x1_1 x1_2 x1_3 x1_4 x1_5 x1_6 => (some (.k0 (decide (x1_0 ≥ 0)) x1_1 x1_2 x1_3 x1_4 x1_5 x1_6)) | .k1 => (some (.k1)))
abbrev F54_d0 (a2 : GramD) (a3 : List Bool) (a4 : Nat) (a1 : ProdD) (x1_1 : Int) (x1_2 : Int) (x1_3 : Int) (x1_4 : Int) (x1_5 : Int) (x1_6 : Int) : List AB := [bG a2, .row 4 1 0 (ra eBool []), .row 4 1 0 (ra eBool a3), .row 4 1 0 (ra eBool []), .cells 83 [(.sl 2 0 1 0 a4)], .cells 103 [(.fn 63 [(.ptr 4 0)])], .row 68 6 0 (ra eSym []), bP a1, .cells 68 [(i6 x1_1), (vi .u64 x1_2), (vi .u64 x1_3), (vi .u64 x1_4), (vi .u64 x1_5), (i6 x1_6)], .cells 68 [(i6 x1_1), (vi .u64 x1_2), (vi .u64 x1_3), (vi .u64 x1_4), (vi .u64 x1_5), (i6 x1_6)]]
abbrev F54_d1 (a2 : GramD) (a3 : List Bool) (a4 : Nat) (a1 : ProdD) : List AB := [bG a2, .row 4 1 0 (ra eBool []), .row 4 1 0 (ra eBool a3), .row 4 1 0 (ra eBool []), .cells 83 [(.sl 2 0 1 0 a4)], .cells 103 [(.fn 63 [(.ptr 4 0)])], .row 68 6 0 (ra eSym []), bP a1]
theorem F54_ok (a1 : ProdD) (a2 : GramD) (a3 : List Bool) (a4 : Nat) {r : R_F54} (h : F54 a1 a3 a4 = some r) : CS prg 54 [(.p (.lst 6 (a1.right.map eSym))), (.fn 64 [(.ptr 5 0)])] [bG a2, .row 4 1 0 (ra eBool []), .row 4 1 0 (ra eBool a3), .row 4 1 0 (ra eBool []), .cells 83 [(.sl 2 0 1 0 a4)], .cells 103 [(.fn 63 [(.ptr 4 0)])], .row 68 6 0 (ra eSym []), bP a1] = some (F54_v a1 a2 a3 a4 r, F54_h a1 a2 a3 a4 r) := by
 unfold F54 at h
 refine bn h fun r1 h1 h => ?_
 cases r1 with
 | k0 x1_0 x1_1 x1_2 x1_3 x1_4 x1_5 x1_6 =>
  rw [← sj h]
  exact fcs (n := 30) [(7, .r (i6 x1_0) (F54_d0 a2 a3 a4 a1 x1_1 x1_2 x1_3 x1_4 x1_5 x1_6))] (apc ((F72_ok a1 a2 a3 a4 h1) : CS prg 72 [(.p (.lst 6 (a1.right.map eSym))), (.fn 64 [(.ptr 5 0)])] (F54_d1 a2 a3 a4 a1) = some ((i6 x1_0), (F54_d0 a2 a3 a4 a1 x1_1 x1_2 x1_3 x1_4 x1_5 x1_6))) apn) (by kernel_rfl)
 | k1 =>
  rw [← sj h]
  exact fcs (n := 30) [(7, .r (i6 (-1)) (F54_d1 a2 a3 a4 a1))] (apc ((F72_ok a1 a2 a3 a4 h1) : CS prg 72 [(.p (.lst 6 (a1.right.map eSym))), (.fn 64 [(.ptr 5 0)])] (F54_d1 a2 a3 a4 a1) = some ((i6 (-1)), (F54_d1 a2 a3 a4 a1))) apn) (by kernel_rfl)
inductive E_L36_0 where
  | k0 (x0 : List Bool) (x1 : Int) (x2 : List SymD) (x3 : ByteArray) (x4 : Int) (x5 : Bool) (x6 : Bool) (x7 : Int) (x8 : Int) (x9 : Int) (x10 : Int) (x11 : Int) (x12 : Int) (x13 : Int)
  | k1 (x0 : List Bool) (x1 : Int) (x2 : List SymD) (x3 : ByteArray) (x4 : Int) (x5 : Bool) (x6 : Bool) (x7 : Int)
  | k2
noncomputable def L36_0 (a1 : GramD) (a2 : Int) (a3 : List Bool) (a4 : Nat) (v1 : Int) : Option (E_L36_0 ⊕ (Int)) :=
  (bif (decide (v1 < a2)) then ((getI a1.prods v1).bind fun x2 => (bif (x2.role != 11) then ((ixN a4 x2.left).bind fun x4 => ((a3[x4]?).bind fun x5 => (bif x5 then (some (.inr ((IntKind.wrap .i64 (v1 + 1))))) else ((F54 x2 a3 a4).bind fun r7 => match r7 with | .k0 x7_0 x7_1 x7_2 x7_3 x7_4 x7_5 x7_6 => (bif x7_0 then (some (.inr ((IntKind.wrap .i64 (v1 + 1))))) else (some (.inl (.k0 (a3.set x4 true) x2.left x2.right x2.cons x2.role x2.prefer x2.avoid x2.frm x7_1 x7_2 x7_3 x7_4 x7_5 x7_6)))) | .k1 => (some (.inl (.k1 (a3.set x4 true) x2.left x2.right x2.cons x2.role x2.prefer x2.avoid x2.frm))))))) else (some (.inr ((IntKind.wrap .i64 (v1 + 1))))))) else (some (.inl (.k2))))
def L36_0_s (a1 : GramD) (a2 : Int) (a3 : List Bool) (a4 : Nat) (v1 : Int) : St := ⟨fr 43 ug [(1, (.ptr 0 0)), (3, (.ptr 4 0)), (4, (.ptr 5 0)), (13, (.p (.lst 7 (a1.prods.map eProd)))), (14, (i6 a2)), (15, (i6 v1))], [bG a1, .row 4 1 0 (ra eBool []), .row 4 1 0 (ra eBool a3), .row 4 1 0 (ra eBool []), .cells 83 [(.sl 2 0 1 0 a4)], .cells 103 [(.fn 63 [(.ptr 4 0)])]]⟩
def L36_0_x (a1 : GramD) (a2 : Int) (a3 : List Bool) (a4 : Nat) (e : E_L36_0) (r : Option (Out × St)) : Prop := match e with | .k0 x0 x1 x2 x3 x4 x5 x6 x7 x8 x9 x10 x11 x12 x13 => ∃ g, r = some ((.brk 1000000), ⟨fr 43 g [(1, (.ptr 0 0)), (3, (.ptr 4 0)), (4, (.ptr 5 0)), (13, (.p (.lst 7 (a1.prods.map eProd))))], [bG a1, .row 4 1 0 (ra eBool []), .row 4 1 0 (ra eBool x0), .row 4 1 0 (ra eBool []), .cells 83 [(.sl 2 0 1 0 a4)], .cells 103 [(.fn 63 [(.ptr 4 0)])], .row 68 6 0 (ra eSym []), .cells 46 [(i6 x1), (.p (.lst 6 (x2.map eSym))), (vs x3), (i6 x4), (vb x5), (vb x6), (i6 x7)], .cells 68 [(i6 x8), (vi .u64 x9), (vi .u64 x10), (vi .u64 x11), (vi .u64 x12), (i6 x13)], .cells 68 [(i6 x8), (vi .u64 x9), (vi .u64 x10), (vi .u64 x11), (vi .u64 x12), (i6 x13)]]⟩) | .k1 x0 x1 x2 x3 x4 x5 x6 x7 => ∃ g, r = some ((.brk 1000000), ⟨fr 43 g [(1, (.ptr 0 0)), (3, (.ptr 4 0)), (4, (.ptr 5 0)), (13, (.p (.lst 7 (a1.prods.map eProd))))], [bG a1, .row 4 1 0 (ra eBool []), .row 4 1 0 (ra eBool x0), .row 4 1 0 (ra eBool []), .cells 83 [(.sl 2 0 1 0 a4)], .cells 103 [(.fn 63 [(.ptr 4 0)])], .row 68 6 0 (ra eSym []), .cells 46 [(i6 x1), (.p (.lst 6 (x2.map eSym))), (vs x3), (i6 x4), (vb x5), (vb x6), (i6 x7)]]⟩) | .k2 => ∃ g, r = some ((.brk 0), ⟨fr 43 g [(1, (.ptr 0 0)), (3, (.ptr 4 0)), (4, (.ptr 5 0)), (13, (.p (.lst 7 (a1.prods.map eProd))))], [bG a1, .row 4 1 0 (ra eBool []), .row 4 1 0 (ra eBool a3), .row 4 1 0 (ra eBool []), .cells 83 [(.sl 2 0 1 0 a4)], .cells 103 [(.fn 63 [(.ptr 4 0)])]]⟩)
abbrev L36_0_d0 (a1 : GramD) (a3 : List Bool) (a4 : Nat) (x2 : ProdD) : List AB := [bG a1, .row 4 1 0 (ra eBool []), .row 4 1 0 (ra eBool a3), .row 4 1 0 (ra eBool []), .cells 83 [(.sl 2 0 1 0 a4)], .cells 103 [(.fn 63 [(.ptr 4 0)])], .row 68 6 0 (ra eSym []), bP x2]
abbrev L36_0_d1 (a1 : GramD) (a3 : List Bool) (a4 : Nat) (x2 : ProdD) (x7_1 : Int) (x7_2 : Int) (x7_3 : Int) (x7_4 : Int) (x7_5 : Int) (x7_6 : Int) : List AB := [bG a1, .row 4 1 0 (ra eBool []), .row 4 1 0 (ra eBool a3), .row 4 1 0 (ra eBool []), .cells 83 [(.sl 2 0 1 0 a4)], .cells 103 [(.fn 63 [(.ptr 4 0)])], .row 68 6 0 (ra eSym []), bP x2, .cells 68 [(i6 x7_1), (vi .u64 x7_2), (vi .u64 x7_3), (vi .u64 x7_4), (vi .u64 x7_5), (i6 x7_6)], .cells 68 [(i6 x7_1), (vi .u64 x7_2), (vi .u64 x7_3), (vi .u64 x7_4), (vi .u64 x7_5), (i6 x7_6)]]
abbrev L36_0_d2 (a1 : GramD) (a3 : List Bool) (x4 : Nat) (a4 : Nat) (x2 : ProdD) (x7_1 : Int) (x7_2 : Int) (x7_3 : Int) (x7_4 : Int) (x7_5 : Int) (x7_6 : Int) : List AB := [bG a1, .row 4 1 0 (ra eBool []), .row 4 1 0 (ra eBool (a3.set x4 true)), .row 4 1 0 (ra eBool []), .cells 83 [(.sl 2 0 1 0 a4)], .cells 103 [(.fn 63 [(.ptr 4 0)])], .row 68 6 0 (ra eSym []), bP x2, .cells 68 [(i6 x7_1), (vi .u64 x7_2), (vi .u64 x7_3), (vi .u64 x7_4), (vi .u64 x7_5), (i6 x7_6)], .cells 68 [(i6 x7_1), (vi .u64 x7_2), (vi .u64 x7_3), (vi .u64 x7_4), (vi .u64 x7_5), (i6 x7_6)]]
abbrev L36_0_d3 (a1 : GramD) (a3 : List Bool) (x4 : Nat) (a4 : Nat) (x2 : ProdD) : List AB := [bG a1, .row 4 1 0 (ra eBool []), .row 4 1 0 (ra eBool (a3.set x4 true)), .row 4 1 0 (ra eBool []), .cells 83 [(.sl 2 0 1 0 a4)], .cells 103 [(.fn 63 [(.ptr 4 0)])], .row 68 6 0 (ra eSym []), bP x2]
theorem L36_0_ok (a1 : GramD) (a2 : Int) (a3 : List Bool) (a4 : Nat) (v1 : Int) {r : E_L36_0 ⊕ (Int)} (h : L36_0 a1 a2 a3 a4 v1 = some r) : OkR (fun e => L36_0_x a1 a2 a3 a4 e (evH prg 6 [1, 3, 4, 13, 14, 15] ir36_l0 (L36_0_s a1 a2 a3 a4 v1))) (fun s => evH prg 6 [1, 3, 4, 13, 14, 15] ir36_l0 (L36_0_s a1 a2 a3 a4 v1) = evH prg 6 [1, 3, 4, 13, 14, 15] ir36_l0 (L36_0_s a1 a2 a3 a4 s)) r := by
 unfold L36_0 at h
 refine bi h (fun h1 h => ?_) fun h1 h => ?_
 ·
  refine bn h fun x2 h2 h => ?_
  refine bi h (fun h3 h => ?_) fun h3 h => ?_
  ·
   refine bn h fun x4 h4 h => ?_
   have q3 := ((idx_sl h4) : idxA 1 (.sl 2 0 1 0 a4) (i6 x2.left) = some (.rp 2 0 1 x4 0))
   refine bn h fun x5 h5 h => ?_
   refine bi h (fun h6 h => ?_) fun h6 h => ?_
   ·
    rw [← sj h]
    exact rnd (n := 30) [(16, .d true), (17, .v (.ro (eProd x2))), (21, .d true), (26, .v (.rp 2 0 1 x4 0)), (27, .v (vb true)), (6000, .d true)] (apc (cv h1) (apc (ig eProd 7 .i64 h2) (apc (cv h3) (apc q3 (apc (((ld_row (V := vb x5) rfl h5 rfl).trans (congrArg (fun z => some (vb z)) h6)) : ldA (L36_0_d0 a1 a3 a4 x2) .false 1 (.rp 2 0 1 x4 0) = some (vb true)) (apc ((okT_of rfl (abl_cons rfl (abl_cons abl_row (abl_cons abl_row (abl_cons abl_row (abl_cons rfl (abl_cons rfl rfl))))))) : okT 6 (L36_0_d0 a1 a3 a4 x2) = true) apn)))))) (by kernel_rfl)
   ·
    have q4 := (((ld_row (V := vb x5) rfl h5 rfl).trans (congrArg (fun z => some (vb z)) h6)) : ldA (L36_0_d0 a1 a3 a4 x2) .false 1 (.rp 2 0 1 x4 0) = some (vb false))
    refine bn h fun r7 h7 h => ?_
    cases r7 with
    | k0 x7_0 x7_1 x7_2 x7_3 x7_4 x7_5 x7_6 =>
     refine bi h (fun h8 h => ?_) fun h8 h => ?_
     ·
      rw [← sj h]
      exact rnd (n := 30) [(16, .d true), (17, .v (.ro (eProd x2))), (21, .d true), (26, .v (.rp 2 0 1 x4 0)), (27, .v (vb false)), (34, .r (vb true) (L36_0_d1 a1 a3 a4 x2 x7_1 x7_2 x7_3 x7_4 x7_5 x7_6)), (6000, .d true)] (apc (cv h1) (apc (ig eProd 7 .i64 h2) (apc (cv h3) (apc q3 (apc q4 (apc (((F54_ok x2 a1 a3 a4 h7).trans (congrArg (fun z => some (vb z, ((L36_0_d1 a1 a3 a4 x2 x7_1 x7_2 x7_3 x7_4 x7_5 x7_6) : List AB))) h8)) : CS prg 54 [(.p (.lst 6 (x2.right.map eSym))), (.fn 64 [(.ptr 5 0)])] (L36_0_d0 a1 a3 a4 x2) = some (vb true, (L36_0_d1 a1 a3 a4 x2 x7_1 x7_2 x7_3 x7_4 x7_5 x7_6))) (apc ((okT_of rfl (abl_cons rfl (abl_cons abl_row (abl_cons abl_row (abl_cons abl_row (abl_cons rfl (abl_cons rfl rfl))))))) : okT 6 (L36_0_d1 a1 a3 a4 x2 x7_1 x7_2 x7_3 x7_4 x7_5 x7_6) = true) apn))))))) (by kernel_rfl)
     ·
      rw [← sj h]
      exact xbrk (n := 30) [(16, .d true), (17, .v (.ro (eProd x2))), (21, .d true), (26, .v (.rp 2 0 1 x4 0)), (27, .v (vb false)), (34, .r (vb false) (L36_0_d1 a1 a3 a4 x2 x7_1 x7_2 x7_3 x7_4 x7_5 x7_6)), (40, .v (.rp 2 0 1 x4 0)), (1040, .r ud (L36_0_d2 a1 a3 x4 a4 x2 x7_1 x7_2 x7_3 x7_4 x7_5 x7_6)), (6000, .d true)] (apc (cv h1) (apc (ig eProd 7 .i64 h2) (apc (cv h3) (apc q3 (apc q4 (apc (((F54_ok x2 a1 a3 a4 h7).trans (congrArg (fun z => some (vb z, ((L36_0_d1 a1 a3 a4 x2 x7_1 x7_2 x7_3 x7_4 x7_5 x7_6) : List AB))) h8)) : CS prg 54 [(.p (.lst 6 (x2.right.map eSym))), (.fn 64 [(.ptr 5 0)])] (L36_0_d0 a1 a3 a4 x2) = some (vb false, (L36_0_d1 a1 a3 a4 x2 x7_1 x7_2 x7_3 x7_4 x7_5 x7_6))) (apc ((idx_sl h4) : idxA 1 (.sl 2 0 1 0 a4) (i6 x2.left) = some (.rp 2 0 1 x4 0)) (apc (⟨st_row (v' := true) rfl h5 rfl rfl (Nat.le_of_ble_eq_true rfl) rfl, rfl⟩ : stA (L36_0_d1 a1 a3 a4 x2 x7_1 x7_2 x7_3 x7_4 x7_5 x7_6) 1 (.rp 2 0 1 x4 0) (vb true) = some (L36_0_d2 a1 a3 x4 a4 x2 x7_1 x7_2 x7_3 x7_4 x7_5 x7_6) ∧ ud = ud) apn)))))))) (by kernel_rfl)
    | k1 =>
     rw [← sj h]
     exact xbrk (n := 30) [(16, .d true), (17, .v (.ro (eProd x2))), (21, .d true), (26, .v (.rp 2 0 1 x4 0)), (27, .v (vb false)), (34, .r (vb false) (L36_0_d0 a1 a3 a4 x2)), (40, .v (.rp 2 0 1 x4 0)), (1040, .r ud (L36_0_d3 a1 a3 x4 a4 x2)), (6000, .d true)] (apc (cv h1) (apc (ig eProd 7 .i64 h2) (apc (cv h3) (apc q3 (apc q4 (apc ((F54_ok x2 a1 a3 a4 h7) : CS prg 54 [(.p (.lst 6 (x2.right.map eSym))), (.fn 64 [(.ptr 5 0)])] (L36_0_d0 a1 a3 a4 x2) = some ((vb false), (L36_0_d0 a1 a3 a4 x2))) (apc ((idx_sl h4) : idxA 1 (.sl 2 0 1 0 a4) (i6 x2.left) = some (.rp 2 0 1 x4 0)) (apc (⟨st_row (v' := true) rfl h5 rfl rfl (Nat.le_of_ble_eq_true rfl) rfl, rfl⟩ : stA (L36_0_d0 a1 a3 a4 x2) 1 (.rp 2 0 1 x4 0) (vb true) = some (L36_0_d3 a1 a3 x4 a4 x2) ∧ ud = ud) apn)))))))) (by kernel_rfl)
  ·
   rw [← sj h]
   exact rnd (n := 30) [(16, .d true), (17, .v (.ro (eProd x2))), (21, .d false), (6000, .d true)] (apc (cv h1) (apc (ig eProd 7 .i64 h2) (apc (cv h3) (apc ((okT_of rfl (abl_cons rfl (abl_cons abl_row (abl_cons abl_row (abl_cons abl_row (abl_cons rfl (abl_cons rfl rfl))))))) : okT 6 (L36_0_d0 a1 a3 a4 x2) = true) apn)))) (by kernel_rfl)
 ·
  rw [← sj h]
  exact xbrk (n := 30) [(16, .d false), (6000, .d true)] (apc (cv h1) apn) (by kernel_rfl)
theorem L36_0_run (a1 : GramD) (a2 : Int) (a3 : List Bool) (a4 : Nat) (s0 : Int) (e : E_L36_0) (h : runL (fun s => L36_0 a1 a2 a3 a4 s) s0 = some e) : L36_0_x a1 a2 a3 a4 e (evH prg 6 [1, 3, 4, 13, 14, 15] ir36_l0 (L36_0_s a1 a2 a3 a4 s0)) := by
  have q := @loop_sound' (Int) E_L36_0 (fun s => L36_0 a1 a2 a3 a4 s) (fun s => evH prg 6 [1, 3, 4, 13, 14, 15] ir36_l0 (L36_0_s a1 a2 a3 a4 s)) (L36_0_x a1 a2 a3 a4) (fun s r h => L36_0_ok a1 a2 a3 a4 s h) s0 e h
  exact q
inductive E_L36_1 where
  | k0 (x0 : List Bool)
noncomputable def L36_1 (a1 : GramD) (a3 : Nat) (v1 : List Bool) : Option (E_L36_1 ⊕ ((List Bool))) :=
  ((runL (fun s => L36_0 a1 (a1.prods.length : Int) v1 a3 s) 0).bind fun r1 => match r1 with | .k0 x1_0 x1_1 x1_2 x1_3 x1_4 x1_5 x1_6 x1_7 x1_8 x1_9 x1_10 x1_11 x1_12 x1_13 => (some (.inr (x1_0))) | .k1 x1_0 x1_1 x1_2 x1_3 x1_4 x1_5 x1_6 x1_7 => (some (.inr (x1_0))) | .k2 => (some (.inl (.k0 v1))))
def L36_1_s (a1 : GramD) (a3 : Nat) (v1 : List Bool) : St := ⟨fr 43 ug [(1, (.ptr 0 0)), (3, (.ptr 4 0)), (4, (.ptr 5 0))], [bG a1, .row 4 1 0 (ra eBool []), .row 4 1 0 (ra eBool v1), .row 4 1 0 (ra eBool []), .cells 83 [(.sl 2 0 1 0 a3)], .cells 103 [(.fn 63 [(.ptr 4 0)])]]⟩
def L36_1_x (a1 : GramD) (a3 : Nat) (e : E_L36_1) (r : Option (Out × St)) : Prop := match e with | .k0 x0 => ∃ g, r = some (.ret, ⟨fr 43 g [(2, (.sl 2 0 1 0 a3))], [bG a1, .row 4 1 0 (ra eBool []), .row 4 1 0 (ra eBool x0), .row 4 1 0 (ra eBool []), .cells 83 [(.sl 2 0 1 0 a3)], .cells 103 [(.fn 63 [(.ptr 4 0)])]]⟩)
abbrev L36_1_d0 (g1 : Nat → AV) (a1 : GramD) (x1_0 : List Bool) (a3 : Nat) (x1_1 : Int) (x1_2 : List SymD) (x1_3 : ByteArray) (x1_4 : Int) (x1_5 : Bool) (x1_6 : Bool) (x1_7 : Int) (x1_8 : Int) (x1_9 : Int) (x1_10 : Int) (x1_11 : Int) (x1_12 : Int) (x1_13 : Int) : St := ⟨fr 43 g1 [(1, (.ptr 0 0)), (3, (.ptr 4 0)), (4, (.ptr 5 0)), (13, (.p (.lst 7 (a1.prods.map eProd))))], [bG a1, .row 4 1 0 (ra eBool []), .row 4 1 0 (ra eBool x1_0), .row 4 1 0 (ra eBool []), .cells 83 [(.sl 2 0 1 0 a3)], .cells 103 [(.fn 63 [(.ptr 4 0)])], .row 68 6 0 (ra eSym []), .cells 46 [(i6 x1_1), (.p (.lst 6 (x1_2.map eSym))), (vs x1_3), (i6 x1_4), (vb x1_5), (vb x1_6), (i6 x1_7)], .cells 68 [(i6 x1_8), (vi .u64 x1_9), (vi .u64 x1_10), (vi .u64 x1_11), (vi .u64 x1_12), (i6 x1_13)], .cells 68 [(i6 x1_8), (vi .u64 x1_9), (vi .u64 x1_10), (vi .u64 x1_11), (vi .u64 x1_12), (i6 x1_13)]]⟩
abbrev L36_1_d1 (a1 : GramD) (v1 : List Bool) (a3 : Nat) : List AB := [bG a1, .row 4 1 0 (ra eBool []), .row 4 1 0 (ra eBool v1), .row 4 1 0 (ra eBool []), .cells 83 [(.sl 2 0 1 0 a3)], .cells 103 [(.fn 63 [(.ptr 4 0)])]]
abbrev L36_1_d2 (g1 : Nat → AV) (a1 : GramD) (x1_0 : List Bool) (a3 : Nat) (x1_1 : Int) (x1_2 : List SymD) (x1_3 : ByteArray) (x1_4 : Int) (x1_5 : Bool) (x1_6 : Bool) (x1_7 : Int) : St := ⟨fr 43 g1 [(1, (.ptr 0 0)), (3, (.ptr 4 0)), (4, (.ptr 5 0)), (13, (.p (.lst 7 (a1.prods.map eProd))))], [bG a1, .row 4 1 0 (ra eBool []), .row 4 1 0 (ra eBool x1_0), .row 4 1 0 (ra eBool []), .cells 83 [(.sl 2 0 1 0 a3)], .cells 103 [(.fn 63 [(.ptr 4 0)])], .row 68 6 0 (ra eSym []), .cells 46 [(i6 x1_1), (.p (.lst 6 (x1_2.map eSym))), (vs x1_3), (i6 x1_4), (vb x1_5), (vb x1_6), (i6 x1_7)]]⟩
abbrev L36_1_d3 (g1 : Nat → AV) (a1 : GramD) (v1 : List Bool) (a3 : Nat) : St := ⟨fr 43 g1 [(1, (.ptr 0 0)), (3, (.ptr 4 0)), (4, (.ptr 5 0)), (13, (.p (.lst 7 (a1.prods.map eProd))))], [bG a1, .row 4 1 0 (ra eBool []), .row 4 1 0 (ra eBool v1), .row 4 1 0 (ra eBool []), .cells 83 [(.sl 2 0 1 0 a3)], .cells 103 [(.fn 63 [(.ptr 4 0)])]]⟩
theorem L36_1_ok (a1 : GramD) (a3 : Nat) (v1 : List Bool) {r : E_L36_1 ⊕ ((List Bool))} (h : L36_1 a1 a3 v1 = some r) : OkR (fun e => L36_1_x a1 a3 e (evH prg 6 [1, 3, 4] ir36_l1 (L36_1_s a1 a3 v1))) (fun s => evH prg 6 [1, 3, 4] ir36_l1 (L36_1_s a1 a3 v1) = evH prg 6 [1, 3, 4] ir36_l1 (L36_1_s a1 a3 s)) r := by
 unfold L36_1 at h
 refine bn h fun r1 h1 h => ?_
 cases r1 with
 | k0 x1_0 x1_1 x1_2 x1_3 x1_4 x1_5 x1_6 x1_7 x1_8 x1_9 x1_10 x1_11 x1_12 x1_13 =>
  obtain ⟨g1, e1⟩ := L36_0_run a1 (a1.prods.length : Int) v1 a3 0 _ h1
  rw [← sj h]
  exact rnd (n := 30) [(14, .v (i6 (a1.prods.length : Int))), (2000, .l (.brk 1000000) (L36_1_d0 g1 a1 x1_0 a3 x1_1 x1_2 x1_3 x1_4 x1_5 x1_6 x1_7 x1_8 x1_9 x1_10 x1_11 x1_12 x1_13)), (6000, .d true)] (apc (lg a1.prods eProd 7) (apc ((okT_of rfl (abl_cons rfl (abl_cons abl_row (abl_cons abl_row (abl_cons abl_row (abl_cons rfl (abl_cons rfl rfl))))))) : okT 6 (L36_1_d1 a1 v1 a3) = true) (apc (e1 : evH prg 6 [1, 3, 4, 13, 14, 15] ir36_l0 (L36_0_s a1 (a1.prods.length : Int) v1 a3 0) = some ((.brk 1000000), (L36_1_d0 g1 a1 x1_0 a3 x1_1 x1_2 x1_3 x1_4 x1_5 x1_6 x1_7 x1_8 x1_9 x1_10 x1_11 x1_12 x1_13))) (apc ((okT_of rfl (abl_cons rfl (abl_cons abl_row (abl_cons abl_row (abl_cons abl_row (abl_cons rfl (abl_cons rfl rfl))))))) : okT 6 [bG a1, .row 4 1 0 (ra eBool []), .row 4 1 0 (ra eBool x1_0), .row 4 1 0 (ra eBool []), .cells 83 [(.sl 2 0 1 0 a3)], .cells 103 [(.fn 63 [(.ptr 4 0)])], .row 68 6 0 (ra eSym []), .cells 46 [(i6 x1_1), (.p (.lst 6 (x1_2.map eSym))), (vs x1_3), (i6 x1_4), (vb x1_5), (vb x1_6), (i6 x1_7)], .cells 68 [(i6 x1_8), (vi .u64 x1_9), (vi .u64 x1_10), (vi .u64 x1_11), (vi .u64 x1_12), (i6 x1_13)], .cells 68 [(i6 x1_8), (vi .u64 x1_9), (vi .u64 x1_10), (vi .u64 x1_11), (vi .u64 x1_12), (i6 x1_13)]] = true) apn)))) (by kernel_rfl)
 | k1 x1_0 x1_1 x1_2 x1_3 x1_4 x1_5 x1_6 x1_7 =>
  obtain ⟨g1, e1⟩ := L36_0_run a1 (a1.prods.length : Int) v1 a3 0 _ h1
  rw [← sj h]
  exact rnd (n := 30) [(14, .v (i6 (a1.prods.length : Int))), (2000, .l (.brk 1000000) (L36_1_d2 g1 a1 x1_0 a3 x1_1 x1_2 x1_3 x1_4 x1_5 x1_6 x1_7)), (6000, .d true)] (apc (lg a1.prods eProd 7) (apc ((okT_of rfl (abl_cons rfl (abl_cons abl_row (abl_cons abl_row (abl_cons abl_row (abl_cons rfl (abl_cons rfl rfl))))))) : okT 6 (L36_1_d1 a1 v1 a3) = true) (apc (e1 : evH prg 6 [1, 3, 4, 13, 14, 15] ir36_l0 (L36_0_s a1 (a1.prods.length : Int) v1 a3 0) = some ((.brk 1000000), (L36_1_d2 g1 a1 x1_0 a3 x1_1 x1_2 x1_3 x1_4 x1_5 x1_6 x1_7))) (apc ((okT_of rfl (abl_cons rfl (abl_cons abl_row (abl_cons abl_row (abl_cons abl_row (abl_cons rfl (abl_cons rfl rfl))))))) : okT 6 [bG a1, .row 4 1 0 (ra eBool []), .row 4 1 0 (ra eBool x1_0), .row 4 1 0 (ra eBool []), .cells 83 [(.sl 2 0 1 0 a3)], .cells 103 [(.fn 63 [(.ptr 4 0)])], .row 68 6 0 (ra eSym []), .cells 46 [(i6 x1_1), (.p (.lst 6 (x1_2.map eSym))), (vs x1_3), (i6 x1_4), (vb x1_5), (vb x1_6), (i6 x1_7)]] = true) apn)))) (by kernel_rfl)
 | k2 =>
  obtain ⟨g1, e1⟩ := L36_0_run a1 (a1.prods.length : Int) v1 a3 0 _ h1
  rw [← sj h]
  exact xret (n := 30) [(14, .v (i6 (a1.prods.length : Int))), (2000, .l (.brk 0) (L36_1_d3 g1 a1 v1 a3)), (6000, .d true)] (apc (lg a1.prods eProd 7) (apc ((okT_of rfl (abl_cons rfl (abl_cons abl_row (abl_cons abl_row (abl_cons abl_row (abl_cons rfl (abl_cons rfl rfl))))))) : okT 6 (L36_1_d1 a1 v1 a3) = true) (apc (e1 : evH prg 6 [1, 3, 4, 13, 14, 15] ir36_l0 (L36_0_s a1 (a1.prods.length : Int) v1 a3 0) = some ((.brk 0), (L36_1_d3 g1 a1 v1 a3))) apn))) (by kernel_rfl)
theorem L36_1_run (a1 : GramD) (a3 : Nat) (s0 : (List Bool)) (e : E_L36_1) (h : runL (fun s => L36_1 a1 a3 s) s0 = some e) : L36_1_x a1 a3 e (evH prg 6 [1, 3, 4] ir36_l1 (L36_1_s a1 a3 s0)) := by
  have q := @loop_sound' ((List Bool)) E_L36_1 (fun s => L36_1 a1 a3 s) (fun s => evH prg 6 [1, 3, 4] ir36_l1 (L36_1_s a1 a3 s)) (L36_1_x a1 a3) (fun s r h => L36_1_ok a1 a3 s h) s0 e h
  exact q
def F36_v (a1 : GramD) (x0 : (List Bool)) : AV := (.p (.lst 1 (x0.map eBool)))
noncomputable def F36 (a1 : GramD) : Option (List Bool) :=
  (bif (mkOk (a1.sorts.length : Int) 1) then ((runL (fun s => L36_1 a1 (Int.toNat (a1.sorts.length : Int)) s) ((List.replicate (Int.toNat (a1.sorts.length : Int)) false))).bind fun r2 => match r2 with | .k0 x2_0 => (bif (decide ((Int.toNat (a1.sorts.length : Int)) ≤ x2_0.length)) then (some (x2_0.take (Int.toNat (a1.sorts.length : Int)))) else none)) else none)
abbrev F36_d0 (a1 : GramD) : List AB := [bG a1, .row 4 1 0 (ra eBool []), .row 4 1 0 (ra eBool (List.replicate (Int.toNat (a1.sorts.length : Int)) false))]
abbrev F36_d1 (g2 : Nat → AV) (a1 : GramD) (x2_0 : List Bool) : St := ⟨fr 43 g2 [(2, (.sl 2 0 1 0 (Int.toNat (a1.sorts.length : Int))))], [bG a1, .row 4 1 0 (ra eBool []), .row 4 1 0 (ra eBool x2_0), .row 4 1 0 (ra eBool []), .cells 83 [(.sl 2 0 1 0 (Int.toNat (a1.sorts.length : Int)))], .cells 103 [(.fn 63 [(.ptr 4 0)])]]⟩
abbrev F36_c0 (a1 : GramD) : List (Nat × Hint) := [(10, .r (.sl 2 0 1 0 (Int.toNat (a1.sorts.length : Int))) (F36_d0 a1))]
abbrev F36_c1 (g2 : Nat → AV) (a1 : GramD) (x2_0 : List Bool) : List (Nat × Hint) := [(2002000, .l .ret (F36_d1 g2 a1 x2_0))]
theorem F36_ok (a1 : GramD) {r : (List Bool)} (h : F36 a1 = some r) : PR2 prg 36 [(aG a1)] (F36_v a1 r) := by
 unfold F36 at h
 refine bi h (fun h1 h => ?_) fun h1 h => ?_
 ·
  have q1 := ((mk_row' (h := [bG a1, .row 4 1 0 (ra eBool [])]) (e := eBool) (z := false) h1 rfl) : (mkA 4 1 1 [.val (.bool false)] (i6 (a1.sorts.length : Int)) (i6 (a1.sorts.length : Int)) 2).map (fun x => (x.1, [bG a1, .row 4 1 0 (ra eBool [])] ++ [x.2])) = some ((.sl 2 0 1 0 (Int.toNat (a1.sorts.length : Int))), (F36_d0 a1)))
  refine bn h fun r2 h2 h => ?_
  cases r2 with
  | k0 x2_0 =>
   obtain ⟨g2, e2⟩ := L36_1_run a1 (Int.toNat (a1.sorts.length : Int)) ((List.replicate (Int.toNat (a1.sorts.length : Int)) false)) _ h2
   have q2 := ((okT_of rfl (abl_cons rfl (abl_cons abl_row (abl_cons abl_row (abl_cons abl_row (abl_cons rfl (abl_cons rfl rfl))))))) : okT 6 [bG a1, .row 4 1 0 (ra eBool []), .row 4 1 0 (ra eBool (List.replicate (Int.toNat (a1.sorts.length : Int)) false)), .row 4 1 0 (ra eBool []), .cells 83 [(.sl 2 0 1 0 (Int.toNat (a1.sorts.length : Int)))], .cells 103 [(.fn 63 [(.ptr 4 0)])]] = true)
   have q3 := (e2 : evH prg 6 [1, 3, 4] ir36_l1 (L36_1_s a1 (Int.toNat (a1.sorts.length : Int)) (List.replicate (Int.toNat (a1.sorts.length : Int)) false)) = some (.ret, (F36_d1 g2 a1 x2_0)))
   refine bi h (fun h3 h => ?_) fun h3 h => ?_
   ·
    rw [← sj h]
    exact fpn (n := 30) (v := (.sl 2 0 1 0 (Int.toNat (a1.sorts.length : Int)))) (h' := [bG a1, .row 4 1 0 (ra eBool []), .row 4 1 0 (ra eBool x2_0), .row 4 1 0 (ra eBool []), .cells 83 [(.sl 2 0 1 0 (Int.toNat (a1.sorts.length : Int)))], .cells 103 [(.fn 63 [(.ptr 4 0)])]]) ([(9, .v (i6 (a1.sorts.length : Int)))] ++ ((F36_c0 a1) ++ ((F36_c1 g2 a1 x2_0) ++ [(6000, .d true)]))) (apc (lg a1.sorts eStr 1) (apc q1 (apc q2 (apc q3 apn)))) (purA_sl (e := eBool) rfl h3) rfl (purA_sl (e := eBool) (getq rfl (nols_ra (fun _ => rfl))) h3) (by kernel_rfl)
   ·
    cases h
 ·
  cases h
inductive E_L35_0 where
  | k0 (x0 : Int)
  | k1
noncomputable def L35_0 (a1 : List Bool) (a2 : Int) (v1 : Int) : Option (E_L35_0 ⊕ (Int)) :=
  (bif (decide (v1 < a2)) then ((getI a1 v1).bind fun x2 => (bif ((false == x2) && true) then (some (.inl (.k0 v1))) else (some (.inr ((IntKind.wrap .i64 (v1 + 1))))))) else (some (.inl (.k1))))
def L35_0_s (a1 : List Bool) (a2 : Int) (v1 : Int) : St := ⟨fr 19 ug [(0, (.p (.lst 1 (a1.map eBool)))), (1, (vb false)), (7, (i6 a2)), (8, (i6 v1))], []⟩
def L35_0_x (a1 : List Bool) (a2 : Int) (e : E_L35_0) (r : Option (Out × St)) : Prop := match e with | .k0 x0 => ∃ g y, r = some (.ret, ⟨fr 19 g [(4, (i6 x0))], y⟩) | .k1 => ∃ g, r = some ((.brk 0), ⟨fr 19 g [(0, (.p (.lst 1 (a1.map eBool))))], []⟩)
theorem L35_0_ok (a1 : List Bool) (a2 : Int) (v1 : Int) {r : E_L35_0 ⊕ (Int)} (h : L35_0 a1 a2 v1 = some r) : OkR (fun e => L35_0_x a1 a2 e (evH prg 0 [0, 1, 7, 8] ir35_l0 (L35_0_s a1 a2 v1))) (fun s => evH prg 0 [0, 1, 7, 8] ir35_l0 (L35_0_s a1 a2 v1) = evH prg 0 [0, 1, 7, 8] ir35_l0 (L35_0_s a1 a2 s)) r := by
 unfold L35_0 at h
 refine bi h (fun h1 h => ?_) fun h1 h => ?_
 ·
  refine bn h fun x2 h2 h => ?_
  refine bi h (fun h3 h => ?_) fun h3 h => ?_
  ·
   rw [← sj h]
   exact xretY (n := 30) [(9, .d true), (14, .v (.ro [.val (.bool x2)])), (16, .d true), (6000, .d true)] (apc (cv h1) (apc (ig eBool 1 .i64 h2) (apc (cv h3) apn))) (by kernel_rfl)
  ·
   rw [← sj h]
   exact rnd (n := 30) [(9, .d true), (14, .v (.ro [.val (.bool x2)])), (16, .d false), (6000, .d true)] (apc (cv h1) (apc (ig eBool 1 .i64 h2) (apc (cv h3) (apc ((okT_of rfl rfl) : okT 0 [] = true) apn)))) (by kernel_rfl)
 ·
  rw [← sj h]
  exact xbrk (n := 30) [(9, .d false), (6000, .d true)] (apc (cv h1) apn) (by kernel_rfl)
theorem L35_0_run (a1 : List Bool) (a2 : Int) (s0 : Int) (e : E_L35_0) (h : runL (fun s => L35_0 a1 a2 s) s0 = some e) : L35_0_x a1 a2 e (evH prg 0 [0, 1, 7, 8] ir35_l0 (L35_0_s a1 a2 s0)) := by
  have q := @loop_sound' (Int) E_L35_0 (fun s => L35_0 a1 a2 s) (fun s => evH prg 0 [0, 1, 7, 8] ir35_l0 (L35_0_s a1 a2 s)) (L35_0_x a1 a2) (fun s r h => L35_0_ok a1 a2 s h) s0 e h
  exact q
def F35_v (a1 : List Bool) (x0 : Int) : AV := (i6 x0)
noncomputable def F35 (a1 : List Bool) : Option Int :=
  ((runL (fun s => L35_0 a1 (a1.length : Int) s) 0).bind fun r1 => match r1 with | .k0 x1_0 => (some x1_0) | .k1 => (some (-1)))
theorem F35_ok (a1 : List Bool) {r : Int} (h : F35 a1 = some r) : PR1 prg 35 [(.p (.lst 1 (a1.map eBool))), (vb false)] (F35_v a1 r) := by
 unfold F35 at h
 refine bn h fun r1 h1 h => ?_
 cases r1 with
 | k0 x1_0 =>
  obtain ⟨g1, y1, e1⟩ := L35_0_run a1 (a1.length : Int) 0 _ h1
  rw [← sj h]
  exact fpr (n := 30) [(7, .v (i6 (a1.length : Int))), (2000, .l .ret ⟨fr 19 g1 [(4, (i6 x1_0))], y1⟩), (6000, .d true)] (apc (lg a1 eBool 1) (apc ((okT_of rfl rfl) : okT 0 [] = true) (apc (e1 : evH prg 0 [0, 1, 7, 8] ir35_l0 (L35_0_s a1 (a1.length : Int) 0) = some (.ret, ⟨fr 19 g1 [(4, (i6 x1_0))], y1⟩)) apn))) rfl (by kernel_rfl)
 | k1 =>
  obtain ⟨g1, e1⟩ := L35_0_run a1 (a1.length : Int) 0 _ h1
  rw [← sj h]
  exact fpr (n := 30) [(7, .v (i6 (a1.length : Int))), (2000, .l (.brk 0) ⟨fr 19 g1 [(0, (.p (.lst 1 (a1.map eBool))))], []⟩), (6000, .d true)] (apc (lg a1 eBool 1) (apc ((okT_of rfl rfl) : okT 0 [] = true) (apc (e1 : evH prg 0 [0, 1, 7, 8] ir35_l0 (L35_0_s a1 (a1.length : Int) 0) = some ((.brk 0), ⟨fr 19 g1 [(0, (.p (.lst 1 (a1.map eBool))))], []⟩)) apn))) rfl (by kernel_rfl)
def F65_2_v (a1 : Int) (a2 : GramD) (a3 : Nat) (a4 : List Bool) (a5 : Nat) (a6 : List Bool) (a7 : Nat) (a8 : List Bool) (a9 : Nat) (x0 : (List Bool)) : AV := (.tup [])
def F65_2_h (a1 : Int) (a2 : GramD) (a3 : Nat) (a4 : List Bool) (a5 : Nat) (a6 : List Bool) (a7 : Nat) (a8 : List Bool) (a9 : Nat) (x0 : (List Bool)) : List AB := [bG a2, .cells 86 [(.fn 38 [])], .row 4 1 a3 (ra eBool a4), .row 4 1 a5 (ra eBool x0), .row 4 1 a7 (ra eBool a8), .cells 83 [(.sl 3 a5 1 0 a9)], .cells 111 [(.fn 65 [(.ptr 5 0), (.ptr 0 0), (.ptr 1 0), (.ptr 6 0)])]]
abbrev T_F65_2 := Int → GramD → Nat → (List Bool) → Nat → (List Bool) → Nat → (List Bool) → Nat → Option (List Bool)
abbrev H_F65_2 (f : T_F65_2) : Prop := ∀ (a1 : Int) (a2 : GramD) (a3 : Nat) (a4 : List Bool) (a5 : Nat) (a6 : List Bool) (a7 : Nat) (a8 : List Bool) (a9 : Nat) {r : (List Bool)}, f a1 a2 a3 a4 a5 a6 a7 a8 a9 = some r → ∀ hx : List AB, CS prg 65 [(i6 a1), (.ptr 5 0), (.ptr 0 0), (.ptr 1 0), (.ptr 6 0)] ([bG a2, .cells 86 [(.fn 38 [])], .row 4 1 a3 (ra eBool a4), .row 4 1 a5 (ra eBool a6), .row 4 1 a7 (ra eBool a8), .cells 83 [(.sl 3 a5 1 0 a9)], .cells 111 [(.fn 65 [(.ptr 5 0), (.ptr 0 0), (.ptr 1 0), (.ptr 6 0)])]] ++ hx) = some (F65_2_v a1 a2 a3 a4 a5 a6 a7 a8 a9 r, F65_2_h a1 a2 a3 a4 a5 a6 a7 a8 a9 r ++ hx)
inductive R_F38 where
  | k0
def F38_v (a1 : ProdD) (r : R_F38) : AV := match r with | .k0 => (vb true)
noncomputable def F38 : Option R_F38 :=
  (some (.k0))
theorem F38_ok (a1 : ProdD) {r : R_F38} (h : F38 = some r) : PR1 prg 38 [(aP a1)] (F38_v a1 r) := by
 unfold F38 at h
 rw [← sj h]
 exact fpr (n := 30) [] apn rfl (by kernel_rfl)
inductive E_L65_0_4 where
  | k0 (x0 : List Bool)
noncomputable def L65_0_4 (rF65_2 : T_F65_2) (a2 : GramD) (a5 : ProdD) (a6 : Int) (a7 : Nat) (a8 : List Bool) (a9 : Nat) (a11 : Nat) (a12 : List Bool) (a13 : Nat) (v1 : Int) (v2 : List Bool) : Option (E_L65_0_4 ⊕ (Int × (List Bool))) :=
  (bif (decide (v1 < a6)) then ((getI a5.right v1).bind fun x2 => (bif (x2.kind == 1) then ((rF65_2 x2.sort a2 a7 a8 a9 v2 a11 a12 a13).bind fun x4 => (some (.inr ((IntKind.wrap .i64 (v1 + 1)), x4)))) else (some (.inr ((IntKind.wrap .i64 (v1 + 1)), v2))))) else (some (.inl (.k0 v2))))
def L65_0_4_s (a1 : Int) (a2 : GramD) (a3 : Int) (a4 : Int) (a5 : ProdD) (a6 : Int) (a7 : Nat) (a8 : List Bool) (a9 : Nat) (a11 : Nat) (a12 : List Bool) (a13 : Nat) (v1 : Int) (v2 : List Bool) : St := ⟨fr 55 ug [(0, (i6 a1)), (3, (.ptr 1 0)), (4, (.ptr 6 0)), (18, (.p (.lst 7 (a2.prods.map eProd)))), (19, (i6 a3)), (20, (i6 a4)), (40, (.p (.lst 6 (a5.right.map eSym)))), (41, (i6 a6)), (42, (i6 v1))], [bG a2, .cells 86 [(.fn 38 [])], .row 4 1 a7 (ra eBool a8), .row 4 1 a9 (ra eBool v2), .row 4 1 a11 (ra eBool a12), .cells 83 [(.sl 3 a9 1 0 a13)], .cells 111 [(.fn 65 [(.ptr 5 0), (.ptr 0 0), (.ptr 1 0), (.ptr 6 0)])], .row 68 6 0 (ra eSym []), bP a5]⟩
def L65_0_4_x (a1 : Int) (a2 : GramD) (a3 : Int) (a4 : Int) (a5 : ProdD) (a6 : Int) (a7 : Nat) (a8 : List Bool) (a9 : Nat) (a11 : Nat) (a12 : List Bool) (a13 : Nat) (e : E_L65_0_4) (r : Option (Out × St)) : Prop := match e with | .k0 x0 => ∃ g, r = some ((.brk 2), ⟨fr 55 g [(0, (i6 a1)), (3, (.ptr 1 0)), (4, (.ptr 6 0)), (18, (.p (.lst 7 (a2.prods.map eProd)))), (19, (i6 a3)), (20, (i6 a4)), (40, (.p (.lst 6 (a5.right.map eSym))))], [bG a2, .cells 86 [(.fn 38 [])], .row 4 1 a7 (ra eBool a8), .row 4 1 a9 (ra eBool x0), .row 4 1 a11 (ra eBool a12), .cells 83 [(.sl 3 a9 1 0 a13)], .cells 111 [(.fn 65 [(.ptr 5 0), (.ptr 0 0), (.ptr 1 0), (.ptr 6 0)])], .row 68 6 0 (ra eSym []), bP a5]⟩)
abbrev L65_0_4_d0 (a2 : GramD) (a7 : Nat) (a8 : List Bool) (a9 : Nat) (x4 : List Bool) (a11 : Nat) (a12 : List Bool) (a13 : Nat) (a5 : ProdD) (x2 : SymD) : List AB := [bG a2, .cells 86 [(.fn 38 [])], .row 4 1 a7 (ra eBool a8), .row 4 1 a9 (ra eBool x4), .row 4 1 a11 (ra eBool a12), .cells 83 [(.sl 3 a9 1 0 a13)], .cells 111 [(.fn 65 [(.ptr 5 0), (.ptr 0 0), (.ptr 1 0), (.ptr 6 0)])], .row 68 6 0 (ra eSym []), bP a5, .cells 68 ((eSym x2).map .p)]
abbrev L65_0_4_d1 (a2 : GramD) (a7 : Nat) (a8 : List Bool) (a9 : Nat) (v2 : List Bool) (a11 : Nat) (a12 : List Bool) (a13 : Nat) (a5 : ProdD) (x2 : SymD) : List AB := [bG a2, .cells 86 [(.fn 38 [])], .row 4 1 a7 (ra eBool a8), .row 4 1 a9 (ra eBool v2), .row 4 1 a11 (ra eBool a12), .cells 83 [(.sl 3 a9 1 0 a13)], .cells 111 [(.fn 65 [(.ptr 5 0), (.ptr 0 0), (.ptr 1 0), (.ptr 6 0)])], .row 68 6 0 (ra eSym []), bP a5, .cells 68 ((eSym x2).map .p)]
theorem L65_0_4_ok (rF65_2 : T_F65_2) (hF65_2 : H_F65_2 rF65_2) (a1 : Int) (a2 : GramD) (a3 : Int) (a4 : Int) (a5 : ProdD) (a6 : Int) (a7 : Nat) (a8 : List Bool) (a9 : Nat) (a11 : Nat) (a12 : List Bool) (a13 : Nat) (v1 : Int) (v2 : List Bool) {r : E_L65_0_4 ⊕ (Int × (List Bool))} (h : L65_0_4 rF65_2 a2 a5 a6 a7 a8 a9 a11 a12 a13 v1 v2 = some r) : OkR (fun e => L65_0_4_x a1 a2 a3 a4 a5 a6 a7 a8 a9 a11 a12 a13 e (evH prg 9 [0, 3, 4, 18, 19, 20, 40, 41, 42] ir65_l0 (L65_0_4_s a1 a2 a3 a4 a5 a6 a7 a8 a9 a11 a12 a13 v1 v2))) (fun s => evH prg 9 [0, 3, 4, 18, 19, 20, 40, 41, 42] ir65_l0 (L65_0_4_s a1 a2 a3 a4 a5 a6 a7 a8 a9 a11 a12 a13 v1 v2) = evH prg 9 [0, 3, 4, 18, 19, 20, 40, 41, 42] ir65_l0 (L65_0_4_s a1 a2 a3 a4 a5 a6 a7 a8 a9 a11 a12 a13 s.1 s.2)) r := by
 unfold L65_0_4 at h
 refine bi h (fun h1 h => ?_) fun h1 h => ?_
 ·
  refine bn h fun x2 h2 h => ?_
  refine bi h (fun h3 h => ?_) fun h3 h => ?_
  ·
   refine bn h fun x4 h4 h => ?_
   rw [← sj h]
   exact rnd (n := 30) [(43, .d true), (44, .v (.ro (eSym x2))), (48, .d true), (52, .r (.tup []) (L65_0_4_d0 a2 a7 a8 a9 x4 a11 a12 a13 a5 x2)), (6000, .d true)] (apc (cv h1) (apc (ig eSym 6 .i64 h2) (apc (cv h3) (apc ((hF65_2 x2.sort a2 a7 a8 a9 v2 a11 a12 a13 h4 [.row 68 6 0 (ra eSym []), bP a5, .cells 68 ((eSym x2).map .p)]) : CS prg 65 [(i6 x2.sort), (.ptr 5 0), (.ptr 0 0), (.ptr 1 0), (.ptr 6 0)] (L65_0_4_d1 a2 a7 a8 a9 v2 a11 a12 a13 a5 x2) = some ((.tup []), (L65_0_4_d0 a2 a7 a8 a9 x4 a11 a12 a13 a5 x2))) (apc ((okT_of rfl (abl_cons rfl (abl_cons rfl (abl_cons abl_row (abl_cons abl_row (abl_cons abl_row (abl_cons rfl (abl_cons rfl (abl_cons abl_row (abl_cons rfl rfl)))))))))) : okT 9 (L65_0_4_d0 a2 a7 a8 a9 x4 a11 a12 a13 a5 x2) = true) apn))))) (by kernel_rfl)
  ·
   rw [← sj h]
   exact rnd (n := 30) [(43, .d true), (44, .v (.ro (eSym x2))), (48, .d false), (6000, .d true)] (apc (cv h1) (apc (ig eSym 6 .i64 h2) (apc (cv h3) (apc ((okT_of rfl (abl_cons rfl (abl_cons rfl (abl_cons abl_row (abl_cons abl_row (abl_cons abl_row (abl_cons rfl (abl_cons rfl (abl_cons abl_row (abl_cons rfl rfl)))))))))) : okT 9 (L65_0_4_d1 a2 a7 a8 a9 v2 a11 a12 a13 a5 x2) = true) apn)))) (by kernel_rfl)
 ·
  rw [← sj h]
  exact xbrk (n := 30) [(43, .d false), (6000, .d true)] (apc (cv h1) apn) (by kernel_rfl)
theorem L65_0_4_run (rF65_2 : T_F65_2) (hF65_2 : H_F65_2 rF65_2) (a1 : Int) (a2 : GramD) (a3 : Int) (a4 : Int) (a5 : ProdD) (a6 : Int) (a7 : Nat) (a8 : List Bool) (a9 : Nat) (a11 : Nat) (a12 : List Bool) (a13 : Nat) (s0 : Int × (List Bool)) (e : E_L65_0_4) (h : runL (fun s => L65_0_4 rF65_2 a2 a5 a6 a7 a8 a9 a11 a12 a13 s.1 s.2) s0 = some e) : L65_0_4_x a1 a2 a3 a4 a5 a6 a7 a8 a9 a11 a12 a13 e (evH prg 9 [0, 3, 4, 18, 19, 20, 40, 41, 42] ir65_l0 (L65_0_4_s a1 a2 a3 a4 a5 a6 a7 a8 a9 a11 a12 a13 s0.1 s0.2)) := by
  have q := @loop_sound' (Int × (List Bool)) E_L65_0_4 (fun s => L65_0_4 rF65_2 a2 a5 a6 a7 a8 a9 a11 a12 a13 s.1 s.2) (fun s => evH prg 9 [0, 3, 4, 18, 19, 20, 40, 41, 42] ir65_l0 (L65_0_4_s a1 a2 a3 a4 a5 a6 a7 a8 a9 a11 a12 a13 s.1 s.2)) (L65_0_4_x a1 a2 a3 a4 a5 a6 a7 a8 a9 a11 a12 a13) (fun s r h => L65_0_4_ok rF65_2 hF65_2 a1 a2 a3 a4 a5 a6 a7 a8 a9 a11 a12 a13 s.1 s.2 h) s0 e h
  exact q
inductive E_L65_1_2 where
  | k0 (x0 : List Bool)
noncomputable def L65_1_2 (rF65_2 : T_F65_2) (a1 : Int) (a2 : GramD) (a3 : Int) (a4 : Nat) (a5 : List Bool) (a6 : Nat) (a8 : Nat) (a9 : List Bool) (a10 : Nat) (v1 : Int) (v2 : List Bool) : Option (E_L65_1_2 ⊕ (Int × (List Bool))) :=
  (bif (decide (v1 < a3)) then ((getI a2.prods v1).bind fun x2 => (bif (x2.left != a1) then (some (.inr ((IntKind.wrap .i64 (v1 + 1)), v2))) else (bif (x2.role == 11) then (some (.inr ((IntKind.wrap .i64 (v1 + 1)), v2))) else ((F38).bind fun r5 => match r5 with | .k0 => ((runL (fun s => L65_0_4 rF65_2 a2 x2 (x2.right.length : Int) a4 a5 a6 a8 a9 a10 s.1 s.2) (0, v2)).bind fun r6 => match r6 with | .k0 x6_0 => (some (.inr ((IntKind.wrap .i64 (v1 + 1)), x6_0)))))))) else (some (.inl (.k0 v2))))
def L65_1_2_s (a1 : Int) (a2 : GramD) (a3 : Int) (a4 : Nat) (a5 : List Bool) (a6 : Nat) (a8 : Nat) (a9 : List Bool) (a10 : Nat) (v1 : Int) (v2 : List Bool) : St := ⟨fr 55 ug [(0, (i6 a1)), (3, (.ptr 1 0)), (4, (.ptr 6 0)), (18, (.p (.lst 7 (a2.prods.map eProd)))), (19, (i6 a3)), (20, (i6 v1))], [bG a2, .cells 86 [(.fn 38 [])], .row 4 1 a4 (ra eBool a5), .row 4 1 a6 (ra eBool v2), .row 4 1 a8 (ra eBool a9), .cells 83 [(.sl 3 a6 1 0 a10)], .cells 111 [(.fn 65 [(.ptr 5 0), (.ptr 0 0), (.ptr 1 0), (.ptr 6 0)])]]⟩
def L65_1_2_x (a1 : Int) (a2 : GramD) (a3 : Int) (a4 : Nat) (a5 : List Bool) (a6 : Nat) (a8 : Nat) (a9 : List Bool) (a10 : Nat) (e : E_L65_1_2) (r : Option (Out × St)) : Prop := match e with | .k0 x0 => ∃ g, r = some ((.brk 0), ⟨fr 55 g [(0, (i6 a1)), (18, (.p (.lst 7 (a2.prods.map eProd))))], [bG a2, .cells 86 [(.fn 38 [])], .row 4 1 a4 (ra eBool a5), .row 4 1 a6 (ra eBool x0), .row 4 1 a8 (ra eBool a9), .cells 83 [(.sl 3 a6 1 0 a10)], .cells 111 [(.fn 65 [(.ptr 5 0), (.ptr 0 0), (.ptr 1 0), (.ptr 6 0)])]]⟩)
abbrev L65_1_2_d0 (a2 : GramD) (a4 : Nat) (a5 : List Bool) (a6 : Nat) (v2 : List Bool) (a8 : Nat) (a9 : List Bool) (a10 : Nat) (x2 : ProdD) : List AB := [bG a2, .cells 86 [(.fn 38 [])], .row 4 1 a4 (ra eBool a5), .row 4 1 a6 (ra eBool v2), .row 4 1 a8 (ra eBool a9), .cells 83 [(.sl 3 a6 1 0 a10)], .cells 111 [(.fn 65 [(.ptr 5 0), (.ptr 0 0), (.ptr 1 0), (.ptr 6 0)])], .row 68 6 0 (ra eSym []), bP x2]
abbrev L65_1_2_d1 (g6 : Nat → AV) (a1 : Int) (a2 : GramD) (a3 : Int) (v1 : Int) (x2 : ProdD) (a4 : Nat) (a5 : List Bool) (a6 : Nat) (x6_0 : List Bool) (a8 : Nat) (a9 : List Bool) (a10 : Nat) : St := ⟨fr 55 g6 [(0, (i6 a1)), (3, (.ptr 1 0)), (4, (.ptr 6 0)), (18, (.p (.lst 7 (a2.prods.map eProd)))), (19, (i6 a3)), (20, (i6 v1)), (40, (.p (.lst 6 (x2.right.map eSym))))], [bG a2, .cells 86 [(.fn 38 [])], .row 4 1 a4 (ra eBool a5), .row 4 1 a6 (ra eBool x6_0), .row 4 1 a8 (ra eBool a9), .cells 83 [(.sl 3 a6 1 0 a10)], .cells 111 [(.fn 65 [(.ptr 5 0), (.ptr 0 0), (.ptr 1 0), (.ptr 6 0)])], .row 68 6 0 (ra eSym []), bP x2]⟩
theorem L65_1_2_ok (rF65_2 : T_F65_2) (hF65_2 : H_F65_2 rF65_2) (a1 : Int) (a2 : GramD) (a3 : Int) (a4 : Nat) (a5 : List Bool) (a6 : Nat) (a8 : Nat) (a9 : List Bool) (a10 : Nat) (v1 : Int) (v2 : List Bool) {r : E_L65_1_2 ⊕ (Int × (List Bool))} (h : L65_1_2 rF65_2 a1 a2 a3 a4 a5 a6 a8 a9 a10 v1 v2 = some r) : OkR (fun e => L65_1_2_x a1 a2 a3 a4 a5 a6 a8 a9 a10 e (evH prg 7 [0, 3, 4, 18, 19, 20] ir65_l1 (L65_1_2_s a1 a2 a3 a4 a5 a6 a8 a9 a10 v1 v2))) (fun s => evH prg 7 [0, 3, 4, 18, 19, 20] ir65_l1 (L65_1_2_s a1 a2 a3 a4 a5 a6 a8 a9 a10 v1 v2) = evH prg 7 [0, 3, 4, 18, 19, 20] ir65_l1 (L65_1_2_s a1 a2 a3 a4 a5 a6 a8 a9 a10 s.1 s.2)) r := by
 unfold L65_1_2 at h
 refine bi h (fun h1 h => ?_) fun h1 h => ?_
 ·
  refine bn h fun x2 h2 h => ?_
  refine bi h (fun h3 h => ?_) fun h3 h => ?_
  ·
   rw [← sj h]
   exact rnd (n := 30) [(21, .d true), (22, .v (.ro (eProd x2))), (27, .d true), (6000, .d true)] (apc (cv h1) (apc (ig eProd 7 .i64 h2) (apc (cv h3) (apc ((okT_of rfl (abl_cons rfl (abl_cons rfl (abl_cons abl_row (abl_cons abl_row (abl_cons abl_row (abl_cons rfl (abl_cons rfl rfl)))))))) : okT 7 (L65_1_2_d0 a2 a4 a5 a6 v2 a8 a9 a10 x2) = true) apn)))) (by kernel_rfl)
  ·
   refine bi h (fun h4 h => ?_) fun h4 h => ?_
   ·
    rw [← sj h]
    exact rnd (n := 30) [(21, .d true), (22, .v (.ro (eProd x2))), (27, .d false), (31, .d true), (6000, .d true)] (apc (cv h1) (apc (ig eProd 7 .i64 h2) (apc (cv h3) (apc (cv h4) (apc ((okT_of rfl (abl_cons rfl (abl_cons rfl (abl_cons abl_row (abl_cons abl_row (abl_cons abl_row (abl_cons rfl (abl_cons rfl rfl)))))))) : okT 7 (L65_1_2_d0 a2 a4 a5 a6 v2 a8 a9 a10 x2) = true) apn))))) (by kernel_rfl)
   ·
    refine bn h fun r5 h5 h => ?_
    cases r5 with
    | k0 =>
     refine bn h fun r6 h6 h => ?_
     cases r6 with
     | k0 x6_0 =>
      obtain ⟨g6, e6⟩ := L65_0_4_run rF65_2 hF65_2 a1 a2 a3 v1 x2 (x2.right.length : Int) a4 a5 a6 a8 a9 a10 (0, v2) _ h6
      rw [← sj h]
      exact rnd (n := 30) [(21, .d true), (22, .v (.ro (eProd x2))), (27, .d false), (31, .d false), (36, .v (vb true)), (41, .v (i6 (x2.right.length : Int))), (2002, .l (.brk 2) (L65_1_2_d1 g6 a1 a2 a3 v1 x2 a4 a5 a6 x6_0 a8 a9 a10)), (6000, .d true)] (apc (cv h1) (apc (ig eProd 7 .i64 h2) (apc (cv h3) (apc (cv h4) (apc (((F38_ok x2 h5).cp rfl _) : CP prg 38 [(aP x2)] (L65_1_2_d0 a2 a4 a5 a6 v2 a8 a9 a10 x2) = some (vb true)) (apc (lg x2.right eSym 6) (apc ((okT_of rfl (abl_cons rfl (abl_cons rfl (abl_cons abl_row (abl_cons abl_row (abl_cons abl_row (abl_cons rfl (abl_cons rfl (abl_cons abl_row (abl_cons rfl rfl)))))))))) : okT 9 (L65_1_2_d0 a2 a4 a5 a6 v2 a8 a9 a10 x2) = true) (apc (e6 : evH prg 9 [0, 3, 4, 18, 19, 20, 40, 41, 42] ir65_l0 (L65_0_4_s a1 a2 a3 v1 x2 (x2.right.length : Int) a4 a5 a6 a8 a9 a10 0 v2) = some ((.brk 2), (L65_1_2_d1 g6 a1 a2 a3 v1 x2 a4 a5 a6 x6_0 a8 a9 a10))) (apc ((okT_of rfl (abl_cons rfl (abl_cons rfl (abl_cons abl_row (abl_cons abl_row (abl_cons abl_row (abl_cons rfl (abl_cons rfl rfl)))))))) : okT 7 [bG a2, .cells 86 [(.fn 38 [])], .row 4 1 a4 (ra eBool a5), .row 4 1 a6 (ra eBool x6_0), .row 4 1 a8 (ra eBool a9), .cells 83 [(.sl 3 a6 1 0 a10)], .cells 111 [(.fn 65 [(.ptr 5 0), (.ptr 0 0), (.ptr 1 0), (.ptr 6 0)])], .row 68 6 0 (ra eSym []), bP x2] = true) apn))))))))) (by kernel_rfl)
 ·
  rw [← sj h]
  exact xbrk (n := 30) [(21, .d false), (6000, .d true)] (apc (cv h1) apn) (by kernel_rfl)
theorem L65_1_2_run (rF65_2 : T_F65_2) (hF65_2 : H_F65_2 rF65_2) (a1 : Int) (a2 : GramD) (a3 : Int) (a4 : Nat) (a5 : List Bool) (a6 : Nat) (a8 : Nat) (a9 : List Bool) (a10 : Nat) (s0 : Int × (List Bool)) (e : E_L65_1_2) (h : runL (fun s => L65_1_2 rF65_2 a1 a2 a3 a4 a5 a6 a8 a9 a10 s.1 s.2) s0 = some e) : L65_1_2_x a1 a2 a3 a4 a5 a6 a8 a9 a10 e (evH prg 7 [0, 3, 4, 18, 19, 20] ir65_l1 (L65_1_2_s a1 a2 a3 a4 a5 a6 a8 a9 a10 s0.1 s0.2)) := by
  have q := @loop_sound' (Int × (List Bool)) E_L65_1_2 (fun s => L65_1_2 rF65_2 a1 a2 a3 a4 a5 a6 a8 a9 a10 s.1 s.2) (fun s => evH prg 7 [0, 3, 4, 18, 19, 20] ir65_l1 (L65_1_2_s a1 a2 a3 a4 a5 a6 a8 a9 a10 s.1 s.2)) (L65_1_2_x a1 a2 a3 a4 a5 a6 a8 a9 a10) (fun s r h => L65_1_2_ok rF65_2 hF65_2 a1 a2 a3 a4 a5 a6 a8 a9 a10 s.1 s.2 h) s0 e h
  exact q
noncomputable def F65_2_b (rF65_2 : T_F65_2) (a1 : Int) (a2 : GramD) (a3 : Nat) (a4 : List Bool) (a5 : Nat) (a6 : List Bool) (a7 : Nat) (a8 : List Bool) (a9 : Nat) : Option (List Bool) :=
  ((ixN a9 a1).bind fun x1 => ((a6[x1]?).bind fun x2 => (bif x2 then (some a6) else ((runL (fun s => L65_1_2 rF65_2 a1 a2 (a2.prods.length : Int) a3 a4 a5 a7 a8 a9 s.1 s.2) (0, (a6.set x1 true))).bind fun r4 => match r4 with | .k0 x4_0 => (some x4_0)))))
abbrev F65_2_d0 (a2 : GramD) (a3 : Nat) (a4 : List Bool) (a5 : Nat) (a6 : List Bool) (a7 : Nat) (a8 : List Bool) (a9 : Nat) : List AB := [bG a2, .cells 86 [(.fn 38 [])], .row 4 1 a3 (ra eBool a4), .row 4 1 a5 (ra eBool a6), .row 4 1 a7 (ra eBool a8), .cells 83 [(.sl 3 a5 1 0 a9)], .cells 111 [(.fn 65 [(.ptr 5 0), (.ptr 0 0), (.ptr 1 0), (.ptr 6 0)])]]
abbrev F65_2_d1 (a2 : GramD) (a3 : Nat) (a4 : List Bool) (a5 : Nat) (a6 : List Bool) (x1 : Nat) (a7 : Nat) (a8 : List Bool) (a9 : Nat) : List AB := [bG a2, .cells 86 [(.fn 38 [])], .row 4 1 a3 (ra eBool a4), .row 4 1 a5 (ra eBool (a6.set x1 true)), .row 4 1 a7 (ra eBool a8), .cells 83 [(.sl 3 a5 1 0 a9)], .cells 111 [(.fn 65 [(.ptr 5 0), (.ptr 0 0), (.ptr 1 0), (.ptr 6 0)])]]
abbrev F65_2_d2 (g4 : Nat → AV) (a1 : Int) (a2 : GramD) (a3 : Nat) (a4 : List Bool) (a5 : Nat) (x4_0 : List Bool) (a7 : Nat) (a8 : List Bool) (a9 : Nat) : St := ⟨fr 55 g4 [(0, (i6 a1)), (18, (.p (.lst 7 (a2.prods.map eProd))))], [bG a2, .cells 86 [(.fn 38 [])], .row 4 1 a3 (ra eBool a4), .row 4 1 a5 (ra eBool x4_0), .row 4 1 a7 (ra eBool a8), .cells 83 [(.sl 3 a5 1 0 a9)], .cells 111 [(.fn 65 [(.ptr 5 0), (.ptr 0 0), (.ptr 1 0), (.ptr 6 0)])]]⟩
theorem F65_2_bok (rF65_2 : T_F65_2) (hF65_2 : H_F65_2 rF65_2) (a1 : Int) (a2 : GramD) (a3 : Nat) (a4 : List Bool) (a5 : Nat) (a6 : List Bool) (a7 : Nat) (a8 : List Bool) (a9 : Nat) {r : (List Bool)} (h : F65_2_b rF65_2 a1 a2 a3 a4 a5 a6 a7 a8 a9 = some r) : ∀ hx : List AB, CS prg 65 [(i6 a1), (.ptr 5 0), (.ptr 0 0), (.ptr 1 0), (.ptr 6 0)] ([bG a2, .cells 86 [(.fn 38 [])], .row 4 1 a3 (ra eBool a4), .row 4 1 a5 (ra eBool a6), .row 4 1 a7 (ra eBool a8), .cells 83 [(.sl 3 a5 1 0 a9)], .cells 111 [(.fn 65 [(.ptr 5 0), (.ptr 0 0), (.ptr 1 0), (.ptr 6 0)])]] ++ hx) = some (F65_2_v a1 a2 a3 a4 a5 a6 a7 a8 a9 r, F65_2_h a1 a2 a3 a4 a5 a6 a7 a8 a9 r ++ hx) := by
 unfold F65_2_b at h
 refine bn h fun x1 h1 h => ?_
 have q0 := ((idx_sl h1) : idxA 1 (.sl 3 a5 1 0 a9) (i6 a1) = some (.rp 3 a5 1 x1 0))
 refine bn h fun x2 h2 h => ?_
 refine bi h (fun h3 h => ?_) fun h3 h => ?_
 ·
  rw [← sj h]
  exact fcF (n := 30) (m := 7) (v := (.tup [])) (h' := (F65_2_d0 a2 a3 a4 a5 a6 a7 a8 a9)) [(12, .v (.rp 3 a5 1 x1 0)), (13, .v (vb true))] (apc q0 (apc (((ld_row (V := vb x2) rfl h2 rfl).trans (congrArg (fun z => some (vb z)) h3)) : ldA (F65_2_d0 a2 a3 a4 a5 a6 a7 a8 a9) .false 1 (.rp 3 a5 1 x1 0) = some (vb true)) apn)) rfl (abl_cons rfl (abl_cons rfl (abl_cons abl_row (abl_cons abl_row (abl_cons abl_row (abl_cons rfl (abl_cons rfl rfl))))))) rfl (abl_cons rfl (abl_cons rfl (abl_cons abl_row (abl_cons abl_row (abl_cons abl_row (abl_cons rfl (abl_cons rfl rfl))))))) rfl (by kernel_rfl)
 ·
  refine bn h fun r4 h4 h => ?_
  cases r4 with
  | k0 x4_0 =>
   obtain ⟨g4, e4⟩ := L65_1_2_run rF65_2 hF65_2 a1 a2 (a2.prods.length : Int) a3 a4 a5 a7 a8 a9 (0, (a6.set x1 true)) _ h4
   rw [← sj h]
   exact fcF (n := 30) (m := 7) (v := (.tup [])) (h' := [bG a2, .cells 86 [(.fn 38 [])], .row 4 1 a3 (ra eBool a4), .row 4 1 a5 (ra eBool x4_0), .row 4 1 a7 (ra eBool a8), .cells 83 [(.sl 3 a5 1 0 a9)], .cells 111 [(.fn 65 [(.ptr 5 0), (.ptr 0 0), (.ptr 1 0), (.ptr 6 0)])]]) [(12, .v (.rp 3 a5 1 x1 0)), (13, .v (vb false)), (16, .v (.rp 3 a5 1 x1 0)), (1016, .r ud (F65_2_d1 a2 a3 a4 a5 a6 x1 a7 a8 a9)), (19, .v (i6 (a2.prods.length : Int))), (2000, .l (.brk 0) (F65_2_d2 g4 a1 a2 a3 a4 a5 x4_0 a7 a8 a9)), (6000, .d true)] (apc q0 (apc (((ld_row (V := vb x2) rfl h2 rfl).trans (congrArg (fun z => some (vb z)) h3)) : ldA (F65_2_d0 a2 a3 a4 a5 a6 a7 a8 a9) .false 1 (.rp 3 a5 1 x1 0) = some (vb false)) (apc ((idx_sl h1) : idxA 1 (.sl 3 a5 1 0 a9) (i6 a1) = some (.rp 3 a5 1 x1 0)) (apc (⟨st_row (v' := true) rfl h2 rfl rfl (Nat.le_of_ble_eq_true rfl) rfl, rfl⟩ : stA (F65_2_d0 a2 a3 a4 a5 a6 a7 a8 a9) 1 (.rp 3 a5 1 x1 0) (vb true) = some (F65_2_d1 a2 a3 a4 a5 a6 x1 a7 a8 a9) ∧ ud = ud) (apc (lg a2.prods eProd 7) (apc ((okT_of rfl (abl_cons rfl (abl_cons rfl (abl_cons abl_row (abl_cons abl_row (abl_cons abl_row (abl_cons rfl (abl_cons rfl rfl)))))))) : okT 7 (F65_2_d1 a2 a3 a4 a5 a6 x1 a7 a8 a9) = true) (apc (e4 : evH prg 7 [0, 3, 4, 18, 19, 20] ir65_l1 (L65_1_2_s a1 a2 (a2.prods.length : Int) a3 a4 a5 a7 a8 a9 0 (a6.set x1 true)) = some ((.brk 0), (F65_2_d2 g4 a1 a2 a3 a4 a5 x4_0 a7 a8 a9))) apn))))))) rfl (abl_cons rfl (abl_cons rfl (abl_cons abl_row (abl_cons abl_row (abl_cons abl_row (abl_cons rfl (abl_cons rfl rfl))))))) rfl (abl_cons rfl (abl_cons rfl (abl_cons abl_row (abl_cons abl_row (abl_cons abl_row (abl_cons rfl (abl_cons rfl rfl))))))) rfl (by kernel_rfl)
noncomputable def F65_2 : Nat → T_F65_2
  | 0 => fun _ _ _ _ _ _ _ _ _ => none
  | Nf + 1 => F65_2_b (F65_2 Nf)
theorem F65_2_ok (Nf : Nat) : H_F65_2 (F65_2 Nf) := by
  induction Nf with
  | zero => intro a1 a2 a3 a4 a5 a6 a7 a8 a9 r h; have h : (none : Option (List Bool)) = some r := h; cases h
  | succ Nf ih => intro a1 a2 a3 a4 a5 a6 a7 a8 a9 r h; exact F65_2_bok (F65_2 Nf) ih a1 a2 a3 a4 a5 a6 a7 a8 a9 h
end Go.Proofs.Try
