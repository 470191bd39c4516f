/- Decompiled by a program: functions as plain data see them, part 1. -/
import Derived.Test.YtefidjmkfefilaaDoorFG5
namespace Go.Proofs.Tryd
set_option linter.unusedSimpArgs false
set_option linter.unusedVariables false
open Go Go.Vs
inductive E_L10_0 where
  | k0
  | k1
noncomputable def L10_0 (a1 : GramD) (v1 : Int) : Option (E_L10_0 ⊕ (Int)) :=
  (bif (decide (v1 < (a1.prods.length : Int))) then ((getI a1.prods v1).bind fun x2 => (bif (decide ((x2.right.length : Int) > 31)) then (some (.inl (.k0))) else (bif (decide ((x2.cons.size : Int) > 200)) then (some (.inl (.k0))) else (some (.inr ((IntKind.wrap .i64 (v1 + 1)))))))) else (some (.inl (.k1))))
def L10_0_s (a1 : GramD) (v1 : Int) : St := ⟨fr 51 ug [(1, (.ptr 0 0)), (3, (i6 v1))], [bG a1]⟩
def L10_0_x (a1 : GramD) (e : E_L10_0) (r : Option (Out × St)) : Prop := match e with | .k0 => ∃ g y, r = some (.ret, ⟨fr 51 g [(2, (vb true))], y⟩) | .k1 => ∃ g, r = some ((.brk 0), ⟨fr 51 g [(1, (.ptr 0 0))], [bG a1]⟩)
theorem L10_0_ok (a1 : GramD) (v1 : Int) {r : E_L10_0 ⊕ (Int)} (h : L10_0 a1 v1 = some r) : OkR (fun e => L10_0_x a1 e (evH prg 1 [1, 3] ir10_l0 (L10_0_s a1 v1))) (fun s => evH prg 1 [1, 3] ir10_l0 (L10_0_s a1 v1) = evH prg 1 [1, 3] ir10_l0 (L10_0_s a1 s)) r := by
 unfold L10_0 at h
 refine bi h (fun h1 h => ?_) fun h1 h => ?_
 ·
  refine bn h fun x2 h2 h => ?_
  refine bi h (fun h3 h => ?_) fun h3 h => ?_
  ·
   rw [← sj h]
   exact xretY (n := 30) [(29, .v (i6 (a1.prods.length : Int))), (30, .d true), (36, .v (.ro (eProd x2))), (39, .v (i6 (x2.right.length : Int))), (40, .d true), (6000, .d true)] (apc (lg a1.prods eProd 7) (apc (cv h1) (apc (ig eProd 7 .i64 h2) (apc (lg x2.right eSym 6) (apc (cv h3) apn))))) (by kernel_rfl)
  ·
   refine bi h (fun h4 h => ?_) fun h4 h => ?_
   ·
    rw [← sj h]
    exact xretY (n := 30) [(29, .v (i6 (a1.prods.length : Int))), (30, .d true), (36, .v (.ro (eProd x2))), (39, .v (i6 (x2.right.length : Int))), (40, .d false), (45, .v (.ro (eProd x2))), (49, .d true), (6000, .d true)] (apc (lg a1.prods eProd 7) (apc (cv h1) (apc (ig eProd 7 .i64 h2) (apc (lg x2.right eSym 6) (apc (cv h3) (apc (ig eProd 7 .i64 h2) (apc (cv h4) apn))))))) (by kernel_rfl)
   ·
    rw [← sj h]
    exact rnd (n := 30) [(29, .v (i6 (a1.prods.length : Int))), (30, .d true), (36, .v (.ro (eProd x2))), (39, .v (i6 (x2.right.length : Int))), (40, .d false), (45, .v (.ro (eProd x2))), (49, .d false), (6000, .d true)] (apc (lg a1.prods eProd 7) (apc (cv h1) (apc (ig eProd 7 .i64 h2) (apc (lg x2.right eSym 6) (apc (cv h3) (apc (ig eProd 7 .i64 h2) (apc (cv h4) (apc ((okT_of rfl (abl_cons rfl rfl)) : okT 1 [bG a1] = true) apn)))))))) (by kernel_rfl)
 ·
  rw [← sj h]
  exact xbrk (n := 30) [(29, .v (i6 (a1.prods.length : Int))), (30, .d false), (6000, .d true)] (apc (lg a1.prods eProd 7) (apc (cv h1) apn)) (by kernel_rfl)
theorem L10_0_run (a1 : GramD) (s0 : Int) (e : E_L10_0) (h : runL (fun s => L10_0 a1 s) s0 = some e) : L10_0_x a1 e (evH prg 1 [1, 3] ir10_l0 (L10_0_s a1 s0)) := by
  have q := @loop_sound' (Int) E_L10_0 (fun s => L10_0 a1 s) (fun s => evH prg 1 [1, 3] ir10_l0 (L10_0_s a1 s)) (L10_0_x a1) (fun s r h => L10_0_ok a1 s h) s0 e h
  exact q
noncomputable def F10 (a1 : GramD) : Option Bool :=
  (bif (decide ((a1.sorts.length : Int) > 40)) then (some true) else (bif (decide ((a1.prods.length : Int) > 80)) then (some true) else (bif (decide ((a1.forbid.length : Int) > 200)) then (some true) else (bif (decide ((a1.follow.length : Int) > 200)) then (some true) else ((runL (fun s => L10_0 a1 s) 0).bind fun r5 => match r5 with | .k0 => (some true) | .k1 => (some false))))))
def F10_v (a1 : GramD) (x0 : Bool) : AV := (vb x0)
theorem F10_ok (a1 : GramD) {r : Bool} (h : F10 a1 = some r) : PR1 prg 10 [(aG a1)] (F10_v a1 r) := by
 unfold F10 at h
 refine bi h (fun h1 h => ?_) fun h1 h => ?_
 ·
  rw [← sj h]
  exact fpr (n := 30) [(6, .v (i6 (a1.sorts.length : Int))), (7, .d true)] (apc (lg a1.sorts eStr 1) (apc (cv h1) apn)) rfl (by kernel_rfl)
 ·
  refine bi h (fun h2 h => ?_) fun h2 h => ?_
  ·
   rw [← sj h]
   exact fpr (n := 30) [(6, .v (i6 (a1.sorts.length : Int))), (7, .d false), (11, .v (i6 (a1.prods.length : Int))), (12, .d true)] (apc (lg a1.sorts eStr 1) (apc (cv h1) (apc (lg a1.prods eProd 7) (apc (cv h2) apn)))) rfl (by kernel_rfl)
  ·
   refine bi h (fun h3 h => ?_) fun h3 h => ?_
   ·
    rw [← sj h]
    exact fpr (n := 30) [(6, .v (i6 (a1.sorts.length : Int))), (7, .d false), (11, .v (i6 (a1.prods.length : Int))), (12, .d false), (17, .v (i6 (a1.forbid.length : Int))), (18, .d true)] (apc (lg a1.sorts eStr 1) (apc (cv h1) (apc (lg a1.prods eProd 7) (apc (cv h2) (apc (lg a1.forbid eForb 3) (apc (cv h3) apn)))))) rfl (by kernel_rfl)
   ·
    refine bi h (fun h4 h => ?_) fun h4 h => ?_
    ·
     rw [← sj h]
     exact fpr (n := 30) [(6, .v (i6 (a1.sorts.length : Int))), (7, .d false), (11, .v (i6 (a1.prods.length : Int))), (12, .d false), (17, .v (i6 (a1.forbid.length : Int))), (18, .d false), (23, .v (i6 (a1.follow.length : Int))), (24, .d true)] (apc (lg a1.sorts eStr 1) (apc (cv h1) (apc (lg a1.prods eProd 7) (apc (cv h2) (apc (lg a1.forbid eForb 3) (apc (cv h3) (apc (lg a1.follow eFoll 5) (apc (cv h4) apn)))))))) rfl (by kernel_rfl)
    ·
     refine bn h fun r5 h5 h => ?_
     cases r5 with
     | k0 =>
      obtain ⟨g5, y5, e5⟩ := L10_0_run a1 0 _ h5
      rw [← sj h]
      exact fpr (n := 30) [(6, .v (i6 (a1.sorts.length : Int))), (7, .d false), (11, .v (i6 (a1.prods.length : Int))), (12, .d false), (17, .v (i6 (a1.forbid.length : Int))), (18, .d false), (23, .v (i6 (a1.follow.length : Int))), (24, .d false), (2000, .l .ret ⟨fr 51 g5 [(2, (vb true))], y5⟩), (6000, .d true)] (apc (lg a1.sorts eStr 1) (apc (cv h1) (apc (lg a1.prods eProd 7) (apc (cv h2) (apc (lg a1.forbid eForb 3) (apc (cv h3) (apc (lg a1.follow eFoll 5) (apc (cv h4) (apc ((okT_of rfl (abl_cons rfl rfl)) : okT 1 [bG a1] = true) (apc (e5 : evH prg 1 [1, 3] ir10_l0 (L10_0_s a1 0) = some (.ret, ⟨fr 51 g5 [(2, (vb true))], y5⟩)) apn)))))))))) rfl (by kernel_rfl)
     | k1 =>
      obtain ⟨g5, e5⟩ := L10_0_run a1 0 _ h5
      rw [← sj h]
      exact fpr (n := 30) [(6, .v (i6 (a1.sorts.length : Int))), (7, .d false), (11, .v (i6 (a1.prods.length : Int))), (12, .d false), (17, .v (i6 (a1.forbid.length : Int))), (18, .d false), (23, .v (i6 (a1.follow.length : Int))), (24, .d false), (2000, .l (.brk 0) ⟨fr 51 g5 [(1, (.ptr 0 0))], [bG a1]⟩), (6000, .d true)] (apc (lg a1.sorts eStr 1) (apc (cv h1) (apc (lg a1.prods eProd 7) (apc (cv h2) (apc (lg a1.forbid eForb 3) (apc (cv h3) (apc (lg a1.follow eFoll 5) (apc (cv h4) (apc ((okT_of rfl (abl_cons rfl rfl)) : okT 1 [bG a1] = true) (apc (e5 : evH prg 1 [1, 3] ir10_l0 (L10_0_s a1 0) = some ((.brk 0), ⟨fr 51 g5 [(1, (.ptr 0 0))], [bG a1]⟩)) apn)))))))))) rfl (by kernel_rfl)
noncomputable def F41 (a1 : GramD) : Option Bool :=
  (bif (decide (a1.start ≥ 0)) then (some (decide (a1.start < (a1.sorts.length : Int)))) else (some false))
def F41_v (a1 : GramD) (x0 : Bool) : AV := (vb x0)
theorem F41_ok (a1 : GramD) {r : Bool} (h : F41 a1 = some r) : PR1 prg 41 [(aG a1), (i6 a1.start)] (F41_v a1 r) := by
 unfold F41 at h
 refine bi h (fun h1 h => ?_) fun h1 h => ?_
 ·
  rw [← sj h]
  exact fpr (n := 30) [(6, .d true), (11, .v (i6 (a1.sorts.length : Int)))] (apc (cv h1) (apc (lg a1.sorts eStr 1) apn)) rfl (by kernel_rfl)
 ·
  rw [← sj h]
  exact fpr (n := 30) [(6, .d false)] (apc (cv h1) apn) rfl (by kernel_rfl)
inductive E_L12_5 where
  | k0
  | k1
noncomputable def L12_5 (a1 : Int) (a2 : GramD) (v1 : Int) : Option (E_L12_5 ⊕ (Int)) :=
  (bif (decide (v1 < a1)) then ((getI a2.sorts v1).bind fun x2 => ((getI a2.sorts a1).bind fun x3 => (bif (x2.toList == x3.toList) then (some (.inl (.k0))) else (some (.inr ((IntKind.wrap .i64 (v1 + 1)))))))) else (some (.inl (.k1))))
def L12_5_s (a1 : Int) (a2 : GramD) (v1 : Int) : St := ⟨fr 160 ug [(1, (.ptr 0 0)), (3, (i6 a1)), (4, (i6 v1))], [bG a2]⟩
def L12_5_x (a1 : Int) (a2 : GramD) (e : E_L12_5) (r : Option (Out × St)) : Prop := match e with | .k0 => ∃ g y, r = some (.ret, ⟨fr 160 g [(2, (i6 160))], y⟩) | .k1 => ∃ g, r = some ((.brk 2), ⟨fr 160 g [(1, (.ptr 0 0)), (3, (i6 a1))], [bG a2]⟩)
theorem L12_5_ok (a1 : Int) (a2 : GramD) (v1 : Int) {r : E_L12_5 ⊕ (Int)} (h : L12_5 a1 a2 v1 = some r) : OkR (fun e => L12_5_x a1 a2 e (evH prg 1 [1, 3, 4] ir12_l5 (L12_5_s a1 a2 v1))) (fun s => evH prg 1 [1, 3, 4] ir12_l5 (L12_5_s a1 a2 v1) = evH prg 1 [1, 3, 4] ir12_l5 (L12_5_s a1 a2 s)) r := by
 unfold L12_5 at h
 refine bi h (fun h1 h => ?_) fun h1 h => ?_
 ·
  refine bn h fun x2 h2 h => ?_
  refine bn h fun x3 h3 h => ?_
  refine bi h (fun h4 h => ?_) fun h4 h => ?_
  ·
   rw [← sj h]
   exact xretY (n := 30) [(57, .d true), (63, .v (.ro [.val (.string x2)])), (68, .v (.ro [.val (.string x3)])), (70, .d true), (6000, .d true)] (apc (cv h1) (apc (ig eStr 1 .i64 h2) (apc (ig eStr 1 .i64 h3) (apc (cv h4) apn)))) (by kernel_rfl)
  ·
   rw [← sj h]
   exact rnd (n := 30) [(57, .d true), (63, .v (.ro [.val (.string x2)])), (68, .v (.ro [.val (.string x3)])), (70, .d false), (6000, .d true)] (apc (cv h1) (apc (ig eStr 1 .i64 h2) (apc (ig eStr 1 .i64 h3) (apc (cv h4) (apc ((okT_of rfl (abl_cons rfl rfl)) : okT 1 [bG a2] = true) apn))))) (by kernel_rfl)
 ·
  rw [← sj h]
  exact xbrk (n := 30) [(57, .d false), (6000, .d true)] (apc (cv h1) apn) (by kernel_rfl)
theorem L12_5_run (a1 : Int) (a2 : GramD) (s0 : Int) (e : E_L12_5) (h : runL (fun s => L12_5 a1 a2 s) s0 = some e) : L12_5_x a1 a2 e (evH prg 1 [1, 3, 4] ir12_l5 (L12_5_s a1 a2 s0)) := by
  have q := @loop_sound' (Int) E_L12_5 (fun s => L12_5 a1 a2 s) (fun s => evH prg 1 [1, 3, 4] ir12_l5 (L12_5_s a1 a2 s)) (L12_5_x a1 a2) (fun s r h => L12_5_ok a1 a2 s h) s0 e h
  exact q
inductive E_L12_6 where
  | k0
  | k1
noncomputable def L12_6 (a1 : GramD) (v1 : Int) : Option (E_L12_6 ⊕ (Int)) :=
  (bif (decide (v1 < (a1.sorts.length : Int))) then ((getI a1.sorts v1).bind fun x2 => (bif (x2.toList == (⟨([] : List UInt8).toArray⟩ : ByteArray).toList) then (some (.inl (.k0))) else (bif (decide ((x2.size : Int) > 1000)) then (some (.inl (.k0))) else ((runL (fun s => L12_5 v1 a1 s) 0).bind fun r5 => match r5 with | .k0 => (some (.inl (.k0))) | .k1 => (some (.inr ((IntKind.wrap .i64 (v1 + 1))))))))) else (some (.inl (.k1))))
def L12_6_s (a1 : GramD) (v1 : Int) : St := ⟨fr 160 ug [(1, (.ptr 0 0)), (3, (i6 v1))], [bG a1]⟩
def L12_6_x (a1 : GramD) (e : E_L12_6) (r : Option (Out × St)) : Prop := match e with | .k0 => ∃ g y, r = some (.ret, ⟨fr 160 g [(2, (i6 160))], y⟩) | .k1 => ∃ g, r = some ((.brk 0), ⟨fr 160 g [(1, (.ptr 0 0))], [bG a1]⟩)
theorem L12_6_ok (a1 : GramD) (v1 : Int) {r : E_L12_6 ⊕ (Int)} (h : L12_6 a1 v1 = some r) : OkR (fun e => L12_6_x a1 e (evH prg 1 [1, 3] ir12_l6 (L12_6_s a1 v1))) (fun s => evH prg 1 [1, 3] ir12_l6 (L12_6_s a1 v1) = evH prg 1 [1, 3] ir12_l6 (L12_6_s a1 s)) r := by
 unfold L12_6 at h
 refine bi h (fun h1 h => ?_) fun h1 h => ?_
 ·
  refine bn h fun x2 h2 h => ?_
  refine bi h (fun h3 h => ?_) fun h3 h => ?_
  ·
   rw [← sj h]
   exact xretY (n := 30) [(36, .v (i6 (a1.sorts.length : Int))), (37, .d true), (43, .v (.ro [.val (.string x2)])), (45, .d true), (6000, .d true)] (apc (lg a1.sorts eStr 1) (apc (cv h1) (apc (ig eStr 1 .i64 h2) (apc (cv h3) apn)))) (by kernel_rfl)
  ·
   refine bi h (fun h4 h => ?_) fun h4 h => ?_
   ·
    rw [← sj h]
    exact xretY (n := 30) [(36, .v (i6 (a1.sorts.length : Int))), (37, .d true), (43, .v (.ro [.val (.string x2)])), (45, .d false), (50, .v (.ro [.val (.string x2)])), (53, .d true), (6000, .d true)] (apc (lg a1.sorts eStr 1) (apc (cv h1) (apc (ig eStr 1 .i64 h2) (apc (cv h3) (apc (ig eStr 1 .i64 h2) (apc (cv h4) apn)))))) (by kernel_rfl)
   ·
    refine bn h fun r5 h5 h => ?_
    cases r5 with
    | k0 =>
     obtain ⟨g5, y5, e5⟩ := L12_5_run v1 a1 0 _ h5
     rw [← sj h]
     exact xretY (n := 30) [(36, .v (i6 (a1.sorts.length : Int))), (37, .d true), (43, .v (.ro [.val (.string x2)])), (45, .d false), (50, .v (.ro [.val (.string x2)])), (53, .d false), (2002, .l .ret ⟨fr 160 g5 [(2, (i6 160))], y5⟩), (6000, .d true)] (apc (lg a1.sorts eStr 1) (apc (cv h1) (apc (ig eStr 1 .i64 h2) (apc (cv h3) (apc (ig eStr 1 .i64 h2) (apc (cv h4) (apc ((okT_of rfl (abl_cons rfl rfl)) : okT 1 [bG a1] = true) (apc (e5 : evH prg 1 [1, 3, 4] ir12_l5 (L12_5_s v1 a1 0) = some (.ret, ⟨fr 160 g5 [(2, (i6 160))], y5⟩)) apn)))))))) (by kernel_rfl)
    | k1 =>
     obtain ⟨g5, e5⟩ := L12_5_run v1 a1 0 _ h5
     rw [← sj h]
     exact rnd (n := 30) [(36, .v (i6 (a1.sorts.length : Int))), (37, .d true), (43, .v (.ro [.val (.string x2)])), (45, .d false), (50, .v (.ro [.val (.string x2)])), (53, .d false), (2002, .l (.brk 2) ⟨fr 160 g5 [(1, (.ptr 0 0)), (3, (i6 v1))], [bG a1]⟩), (6000, .d true)] (apc (lg a1.sorts eStr 1) (apc (cv h1) (apc (ig eStr 1 .i64 h2) (apc (cv h3) (apc (ig eStr 1 .i64 h2) (apc (cv h4) (apc ((okT_of rfl (abl_cons rfl rfl)) : okT 1 [bG a1] = true) (apc (e5 : evH prg 1 [1, 3, 4] ir12_l5 (L12_5_s v1 a1 0) = some ((.brk 2), ⟨fr 160 g5 [(1, (.ptr 0 0)), (3, (i6 v1))], [bG a1]⟩)) (apc ((okT_of rfl (abl_cons rfl rfl)) : okT 1 [bG a1] = true) apn))))))))) (by kernel_rfl)
 ·
  rw [← sj h]
  exact xbrk (n := 30) [(36, .v (i6 (a1.sorts.length : Int))), (37, .d false), (6000, .d true)] (apc (lg a1.sorts eStr 1) (apc (cv h1) apn)) (by kernel_rfl)
theorem L12_6_run (a1 : GramD) (s0 : Int) (e : E_L12_6) (h : runL (fun s => L12_6 a1 s) s0 = some e) : L12_6_x a1 e (evH prg 1 [1, 3] ir12_l6 (L12_6_s a1 s0)) := by
  have q := @loop_sound' (Int) E_L12_6 (fun s => L12_6 a1 s) (fun s => evH prg 1 [1, 3] ir12_l6 (L12_6_s a1 s)) (L12_6_x a1) (fun s r h => L12_6_ok a1 s h) s0 e h
  exact q
noncomputable def F41_2 (a1 : GramD) (a2 : ProdD) : Option Bool :=
  (bif (decide (a2.left ≥ 0)) then (some (decide (a2.left < (a1.sorts.length : Int)))) else (some false))
def F41_2_v (a1 : GramD) (a2 : ProdD) (x0 : Bool) : AV := (vb x0)
theorem F41_2_ok (a1 : GramD) (a2 : ProdD) {r : Bool} (h : F41_2 a1 a2 = some r) : PR1 prg 41 [(aG a1), (i6 a2.left)] (F41_2_v a1 a2 r) := by
 unfold F41_2 at h
 refine bi h (fun h1 h => ?_) fun h1 h => ?_
 ·
  rw [← sj h]
  exact fpr (n := 30) [(6, .d true), (11, .v (i6 (a1.sorts.length : Int)))] (apc (cv h1) (apc (lg a1.sorts eStr 1) apn)) rfl (by kernel_rfl)
 ·
  rw [← sj h]
  exact fpr (n := 30) [(6, .d false)] (apc (cv h1) apn) rfl (by kernel_rfl)
noncomputable def F44 (a1 : SymD) : Option Bool :=
  (some ((IntKind.wrap .u64 ((BitVec.ofInt (IntKind.bits .u64) (IntKind.wrap .u64 ((BitVec.ofInt (IntKind.bits .u64) (IntKind.wrap .u64 ((BitVec.ofInt (IntKind.bits .u64) a1.a ||| BitVec.ofInt (IntKind.bits .u64) a1.b).toNat : Int)) ||| BitVec.ofInt (IntKind.bits .u64) a1.c).toNat : Int)) ||| BitVec.ofInt (IntKind.bits .u64) a1.d).toNat : Int)) == 0))
def F44_v (a1 : SymD) (x0 : Bool) : AV := (vb x0)
theorem F44_ok (a1 : SymD) {r : Bool} (h : F44 a1 = some r) : PR1 prg 44 [(.agg ((List.take 4 (List.drop 1 (eSym a1))).map .p))] (F44_v a1 r) := by
 unfold F44 at h
 rw [← sj h]
 exact fpr (n := 30) [] apn rfl (by kernel_rfl)
noncomputable def F41_3 (a1 : GramD) (a2 : SymD) : Option Bool :=
  (bif (decide (a2.sort ≥ 0)) then (some (decide (a2.sort < (a1.sorts.length : Int)))) else (some false))
def F41_3_v (a1 : GramD) (a2 : SymD) (x0 : Bool) : AV := (vb x0)
theorem F41_3_ok (a1 : GramD) (a2 : SymD) {r : Bool} (h : F41_3 a1 a2 = some r) : PR1 prg 41 [(aG a1), (i6 a2.sort)] (F41_3_v a1 a2 r) := by
 unfold F41_3 at h
 refine bi h (fun h1 h => ?_) fun h1 h => ?_
 ·
  rw [← sj h]
  exact fpr (n := 30) [(6, .d true), (11, .v (i6 (a1.sorts.length : Int)))] (apc (cv h1) (apc (lg a1.sorts eStr 1) apn)) rfl (by kernel_rfl)
 ·
  rw [← sj h]
  exact fpr (n := 30) [(6, .d false)] (apc (cv h1) apn) rfl (by kernel_rfl)
inductive E_L42_0 where
  | k0
  | k1
noncomputable def L42_0 (a1 : GramD) (a2 : ProdD) (v1 : Int) : Option (E_L42_0 ⊕ (Int)) :=
  (bif (decide (v1 < (a2.right.length : Int))) then ((getI a2.right v1).bind fun x2 => (bif (x2.kind == 0) then ((F44 x2).bind fun x4 => (bif x4 then (some (.inl (.k0))) else (bif (x2.sort != 0) then (some (.inl (.k0))) else (bif (x2.kind == 1) then ((F44 x2).bind fun x8 => (bif x8 then ((F41_3 a1 x2).bind fun x10 => (bif x10 then (bif (a2.role == 11) then (some (.inl (.k0))) else (bif (x2.kind != 0) then (bif (x2.kind != 1) then (some (.inl (.k0))) else (some (.inr ((IntKind.wrap .i64 (v1 + 1)))))) else (some (.inr ((IntKind.wrap .i64 (v1 + 1))))))) else (some (.inl (.k0))))) else (some (.inl (.k0))))) else (bif (x2.kind != 0) then (bif (x2.kind != 1) then (some (.inl (.k0))) else (some (.inr ((IntKind.wrap .i64 (v1 + 1)))))) else (some (.inr ((IntKind.wrap .i64 (v1 + 1)))))))))) else (bif (x2.kind == 1) then ((F44 x2).bind fun x5 => (bif x5 then ((F41_3 a1 x2).bind fun x7 => (bif x7 then (bif (a2.role == 11) then (some (.inl (.k0))) else (bif (x2.kind != 0) then (bif (x2.kind != 1) then (some (.inl (.k0))) else (some (.inr ((IntKind.wrap .i64 (v1 + 1)))))) else (some (.inr ((IntKind.wrap .i64 (v1 + 1))))))) else (some (.inl (.k0))))) else (some (.inl (.k0))))) else (bif (x2.kind != 0) then (bif (x2.kind != 1) then (some (.inl (.k0))) else (some (.inr ((IntKind.wrap .i64 (v1 + 1)))))) else (some (.inr ((IntKind.wrap .i64 (v1 + 1))))))))) else (some (.inl (.k1))))
def L42_0_s (a1 : GramD) (a2 : ProdD) (v1 : Int) : St := ⟨fr 111 ug [(2, (.ptr 0 0)), (3, (.ptr 1 0)), (5, (i6 v1))], [bG a1, bP a2]⟩
def L42_0_x (a1 : GramD) (a2 : ProdD) (e : E_L42_0) (r : Option (Out × St)) : Prop := match e with | .k0 => ∃ g y, r = some (.ret, ⟨fr 111 g [(4, (vb false))], y⟩) | .k1 => ∃ g, r = some ((.brk 0), ⟨fr 111 g [(2, (.ptr 0 0)), (3, (.ptr 1 0))], [bG a1, bP a2]⟩)
theorem L42_0_ok (a1 : GramD) (a2 : ProdD) (v1 : Int) {r : E_L42_0 ⊕ (Int)} (h : L42_0 a1 a2 v1 = some r) : OkR (fun e => L42_0_x a1 a2 e (evH prg 2 [2, 3, 5] ir42_l0 (L42_0_s a1 a2 v1))) (fun s => evH prg 2 [2, 3, 5] ir42_l0 (L42_0_s a1 a2 v1) = evH prg 2 [2, 3, 5] ir42_l0 (L42_0_s a1 a2 s)) r := by
 unfold L42_0 at h
 refine bi h (fun h1 h => ?_) fun h1 h => ?_
 ·
  refine bn h fun x2 h2 h => ?_
  refine bi h (fun h3 h => ?_) fun h3 h => ?_
  ·
   refine bn h fun x4 h4 h => ?_
   refine bi h (fun h5 h => ?_) fun h5 h => ?_
   ·
    rw [← sj h]
    exact xretY (n := 30) [(60, .v (i6 (a2.right.length : Int))), (61, .d true), (67, .v (.ro (eSym x2))), (71, .d true), (75, .v (vb true)), (6000, .d true)] (apc (lg a2.right eSym 6) (apc (cv h1) (apc (ig eSym 6 .i64 h2) (apc (cv h3) (apc ((((F44_ok x2 h4).cp rfl _).trans (congrArg (fun z => some (vb z)) h5)) : CP prg 44 [(.agg ((List.take 4 (List.drop 1 (eSym x2))).map .p))] [bG a1, bP a2, .cells 48 ((eSym x2).map .p)] = some (vb true)) apn))))) (by kernel_rfl)
   ·
    refine bi h (fun h6 h => ?_) fun h6 h => ?_
    ·
     rw [← sj h]
     exact xretY (n := 30) [(60, .v (i6 (a2.right.length : Int))), (61, .d true), (67, .v (.ro (eSym x2))), (71, .d true), (75, .v (vb false)), (79, .d true), (6000, .d true)] (apc (lg a2.right eSym 6) (apc (cv h1) (apc (ig eSym 6 .i64 h2) (apc (cv h3) (apc ((((F44_ok x2 h4).cp rfl _).trans (congrArg (fun z => some (vb z)) h5)) : CP prg 44 [(.agg ((List.take 4 (List.drop 1 (eSym x2))).map .p))] [bG a1, bP a2, .cells 48 ((eSym x2).map .p)] = some (vb false)) (apc (cv h6) apn)))))) (by kernel_rfl)
    ·
     refine bi h (fun h7 h => ?_) fun h7 h => ?_
     ·
      refine bn h fun x8 h8 h => ?_
      refine bi h (fun h9 h => ?_) fun h9 h => ?_
      ·
       refine bn h fun x10 h10 h => ?_
       refine bi h (fun h11 h => ?_) fun h11 h => ?_
       ·
        refine bi h (fun h12 h => ?_) fun h12 h => ?_
        ·
         rw [← sj h]
         exact xretY (n := 30) [(60, .v (i6 (a2.right.length : Int))), (61, .d true), (67, .v (.ro (eSym x2))), (71, .d true), (75, .v (vb false)), (79, .d false), (84, .d true), (88, .v (vb true)), (94, .v (vb true)), (100, .d true), (6000, .d true)] (apc (lg a2.right eSym 6) (apc (cv h1) (apc (ig eSym 6 .i64 h2) (apc (cv h3) (apc ((((F44_ok x2 h4).cp rfl _).trans (congrArg (fun z => some (vb z)) h5)) : CP prg 44 [(.agg ((List.take 4 (List.drop 1 (eSym x2))).map .p))] [bG a1, bP a2, .cells 48 ((eSym x2).map .p)] = some (vb false)) (apc (cv h6) (apc (cv h7) (apc ((((F44_ok x2 h8).cp rfl _).trans (congrArg (fun z => some (vb z)) h9)) : CP prg 44 [(.agg ((List.take 4 (List.drop 1 (eSym x2))).map .p))] [bG a1, bP a2, .cells 48 ((eSym x2).map .p)] = some (vb true)) (apc ((((F41_3_ok a1 x2 h10).cp rfl _).trans (congrArg (fun z => some (vb z)) h11)) : CP prg 41 [(aG a1), (i6 x2.sort)] [bG a1, bP a2, .cells 48 ((eSym x2).map .p)] = some (vb true)) (apc (cv h12) apn)))))))))) (by kernel_rfl)
        ·
         refine bi h (fun h13 h => ?_) fun h13 h => ?_
         ·
          refine bi h (fun h14 h => ?_) fun h14 h => ?_
          ·
           rw [← sj h]
           exact xretY (n := 30) [(60, .v (i6 (a2.right.length : Int))), (61, .d true), (67, .v (.ro (eSym x2))), (71, .d true), (75, .v (vb false)), (79, .d false), (84, .d true), (88, .v (vb true)), (94, .v (vb true)), (100, .d false), (105, .d true), (109, .d true), (6000, .d true)] (apc (lg a2.right eSym 6) (apc (cv h1) (apc (ig eSym 6 .i64 h2) (apc (cv h3) (apc ((((F44_ok x2 h4).cp rfl _).trans (congrArg (fun z => some (vb z)) h5)) : CP prg 44 [(.agg ((List.take 4 (List.drop 1 (eSym x2))).map .p))] [bG a1, bP a2, .cells 48 ((eSym x2).map .p)] = some (vb false)) (apc (cv h6) (apc (cv h7) (apc ((((F44_ok x2 h8).cp rfl _).trans (congrArg (fun z => some (vb z)) h9)) : CP prg 44 [(.agg ((List.take 4 (List.drop 1 (eSym x2))).map .p))] [bG a1, bP a2, .cells 48 ((eSym x2).map .p)] = some (vb true)) (apc ((((F41_3_ok a1 x2 h10).cp rfl _).trans (congrArg (fun z => some (vb z)) h11)) : CP prg 41 [(aG a1), (i6 x2.sort)] [bG a1, bP a2, .cells 48 ((eSym x2).map .p)] = some (vb true)) (apc (cv h12) (apc (cv h13) (apc (cv h14) apn)))))))))))) (by kernel_rfl)
          ·
           rw [← sj h]
           exact rnd (n := 30) [(60, .v (i6 (a2.right.length : Int))), (61, .d true), (67, .v (.ro (eSym x2))), (71, .d true), (75, .v (vb false)), (79, .d false), (84, .d true), (88, .v (vb true)), (94, .v (vb true)), (100, .d false), (105, .d true), (109, .d false), (6000, .d true)] (apc (lg a2.right eSym 6) (apc (cv h1) (apc (ig eSym 6 .i64 h2) (apc (cv h3) (apc ((((F44_ok x2 h4).cp rfl _).trans (congrArg (fun z => some (vb z)) h5)) : CP prg 44 [(.agg ((List.take 4 (List.drop 1 (eSym x2))).map .p))] [bG a1, bP a2, .cells 48 ((eSym x2).map .p)] = some (vb false)) (apc (cv h6) (apc (cv h7) (apc ((((F44_ok x2 h8).cp rfl _).trans (congrArg (fun z => some (vb z)) h9)) : CP prg 44 [(.agg ((List.take 4 (List.drop 1 (eSym x2))).map .p))] [bG a1, bP a2, .cells 48 ((eSym x2).map .p)] = some (vb true)) (apc ((((F41_3_ok a1 x2 h10).cp rfl _).trans (congrArg (fun z => some (vb z)) h11)) : CP prg 41 [(aG a1), (i6 x2.sort)] [bG a1, bP a2, .cells 48 ((eSym x2).map .p)] = some (vb true)) (apc (cv h12) (apc (cv h13) (apc (cv h14) (apc ((okT_of rfl (abl_cons rfl (abl_cons rfl rfl))) : okT 2 [bG a1, bP a2, .cells 48 ((eSym x2).map .p)] = true) apn))))))))))))) (by kernel_rfl)
         ·
          rw [← sj h]
          exact rnd (n := 30) [(60, .v (i6 (a2.right.length : Int))), (61, .d true), (67, .v (.ro (eSym x2))), (71, .d true), (75, .v (vb false)), (79, .d false), (84, .d true), (88, .v (vb true)), (94, .v (vb true)), (100, .d false), (105, .d false), (6000, .d true)] (apc (lg a2.right eSym 6) (apc (cv h1) (apc (ig eSym 6 .i64 h2) (apc (cv h3) (apc ((((F44_ok x2 h4).cp rfl _).trans (congrArg (fun z => some (vb z)) h5)) : CP prg 44 [(.agg ((List.take 4 (List.drop 1 (eSym x2))).map .p))] [bG a1, bP a2, .cells 48 ((eSym x2).map .p)] = some (vb false)) (apc (cv h6) (apc (cv h7) (apc ((((F44_ok x2 h8).cp rfl _).trans (congrArg (fun z => some (vb z)) h9)) : CP prg 44 [(.agg ((List.take 4 (List.drop 1 (eSym x2))).map .p))] [bG a1, bP a2, .cells 48 ((eSym x2).map .p)] = some (vb true)) (apc ((((F41_3_ok a1 x2 h10).cp rfl _).trans (congrArg (fun z => some (vb z)) h11)) : CP prg 41 [(aG a1), (i6 x2.sort)] [bG a1, bP a2, .cells 48 ((eSym x2).map .p)] = some (vb true)) (apc (cv h12) (apc (cv h13) (apc ((okT_of rfl (abl_cons rfl (abl_cons rfl rfl))) : okT 2 [bG a1, bP a2, .cells 48 ((eSym x2).map .p)] = true) apn)))))))))))) (by kernel_rfl)
       ·
        rw [← sj h]
        exact xretY (n := 30) [(60, .v (i6 (a2.right.length : Int))), (61, .d true), (67, .v (.ro (eSym x2))), (71, .d true), (75, .v (vb false)), (79, .d false), (84, .d true), (88, .v (vb true)), (94, .v (vb false)), (6000, .d true)] (apc (lg a2.right eSym 6) (apc (cv h1) (apc (ig eSym 6 .i64 h2) (apc (cv h3) (apc ((((F44_ok x2 h4).cp rfl _).trans (congrArg (fun z => some (vb z)) h5)) : CP prg 44 [(.agg ((List.take 4 (List.drop 1 (eSym x2))).map .p))] [bG a1, bP a2, .cells 48 ((eSym x2).map .p)] = some (vb false)) (apc (cv h6) (apc (cv h7) (apc ((((F44_ok x2 h8).cp rfl _).trans (congrArg (fun z => some (vb z)) h9)) : CP prg 44 [(.agg ((List.take 4 (List.drop 1 (eSym x2))).map .p))] [bG a1, bP a2, .cells 48 ((eSym x2).map .p)] = some (vb true)) (apc ((((F41_3_ok a1 x2 h10).cp rfl _).trans (congrArg (fun z => some (vb z)) h11)) : CP prg 41 [(aG a1), (i6 x2.sort)] [bG a1, bP a2, .cells 48 ((eSym x2).map .p)] = some (vb false)) apn))))))))) (by kernel_rfl)
      ·
       rw [← sj h]
       exact xretY (n := 30) [(60, .v (i6 (a2.right.length : Int))), (61, .d true), (67, .v (.ro (eSym x2))), (71, .d true), (75, .v (vb false)), (79, .d false), (84, .d true), (88, .v (vb false)), (6000, .d true)] (apc (lg a2.right eSym 6) (apc (cv h1) (apc (ig eSym 6 .i64 h2) (apc (cv h3) (apc ((((F44_ok x2 h4).cp rfl _).trans (congrArg (fun z => some (vb z)) h5)) : CP prg 44 [(.agg ((List.take 4 (List.drop 1 (eSym x2))).map .p))] [bG a1, bP a2, .cells 48 ((eSym x2).map .p)] = some (vb false)) (apc (cv h6) (apc (cv h7) (apc ((((F44_ok x2 h8).cp rfl _).trans (congrArg (fun z => some (vb z)) h9)) : CP prg 44 [(.agg ((List.take 4 (List.drop 1 (eSym x2))).map .p))] [bG a1, bP a2, .cells 48 ((eSym x2).map .p)] = some (vb false)) apn)))))))) (by kernel_rfl)
     ·
      refine bi h (fun h8 h => ?_) fun h8 h => ?_
      ·
       refine bi h (fun h9 h => ?_) fun h9 h => ?_
       ·
        rw [← sj h]
        exact xretY (n := 30) [(60, .v (i6 (a2.right.length : Int))), (61, .d true), (67, .v (.ro (eSym x2))), (71, .d true), (75, .v (vb false)), (79, .d false), (84, .d false), (105, .d true), (109, .d true), (6000, .d true)] (apc (lg a2.right eSym 6) (apc (cv h1) (apc (ig eSym 6 .i64 h2) (apc (cv h3) (apc ((((F44_ok x2 h4).cp rfl _).trans (congrArg (fun z => some (vb z)) h5)) : CP prg 44 [(.agg ((List.take 4 (List.drop 1 (eSym x2))).map .p))] [bG a1, bP a2, .cells 48 ((eSym x2).map .p)] = some (vb false)) (apc (cv h6) (apc (cv h7) (apc (cv h8) (apc (cv h9) apn))))))))) (by kernel_rfl)
       ·
        rw [← sj h]
        exact rnd (n := 30) [(60, .v (i6 (a2.right.length : Int))), (61, .d true), (67, .v (.ro (eSym x2))), (71, .d true), (75, .v (vb false)), (79, .d false), (84, .d false), (105, .d true), (109, .d false), (6000, .d true)] (apc (lg a2.right eSym 6) (apc (cv h1) (apc (ig eSym 6 .i64 h2) (apc (cv h3) (apc ((((F44_ok x2 h4).cp rfl _).trans (congrArg (fun z => some (vb z)) h5)) : CP prg 44 [(.agg ((List.take 4 (List.drop 1 (eSym x2))).map .p))] [bG a1, bP a2, .cells 48 ((eSym x2).map .p)] = some (vb false)) (apc (cv h6) (apc (cv h7) (apc (cv h8) (apc (cv h9) (apc ((okT_of rfl (abl_cons rfl (abl_cons rfl rfl))) : okT 2 [bG a1, bP a2, .cells 48 ((eSym x2).map .p)] = true) apn)))))))))) (by kernel_rfl)
      ·
       rw [← sj h]
       exact rnd (n := 30) [(60, .v (i6 (a2.right.length : Int))), (61, .d true), (67, .v (.ro (eSym x2))), (71, .d true), (75, .v (vb false)), (79, .d false), (84, .d false), (105, .d false), (6000, .d true)] (apc (lg a2.right eSym 6) (apc (cv h1) (apc (ig eSym 6 .i64 h2) (apc (cv h3) (apc ((((F44_ok x2 h4).cp rfl _).trans (congrArg (fun z => some (vb z)) h5)) : CP prg 44 [(.agg ((List.take 4 (List.drop 1 (eSym x2))).map .p))] [bG a1, bP a2, .cells 48 ((eSym x2).map .p)] = some (vb false)) (apc (cv h6) (apc (cv h7) (apc (cv h8) (apc ((okT_of rfl (abl_cons rfl (abl_cons rfl rfl))) : okT 2 [bG a1, bP a2, .cells 48 ((eSym x2).map .p)] = true) apn))))))))) (by kernel_rfl)
  ·
   refine bi h (fun h4 h => ?_) fun h4 h => ?_
   ·
    refine bn h fun x5 h5 h => ?_
    refine bi h (fun h6 h => ?_) fun h6 h => ?_
    ·
     refine bn h fun x7 h7 h => ?_
     refine bi h (fun h8 h => ?_) fun h8 h => ?_
     ·
      refine bi h (fun h9 h => ?_) fun h9 h => ?_
      ·
       rw [← sj h]
       exact xretY (n := 30) [(60, .v (i6 (a2.right.length : Int))), (61, .d true), (67, .v (.ro (eSym x2))), (71, .d false), (84, .d true), (88, .v (vb true)), (94, .v (vb true)), (100, .d true), (6000, .d true)] (apc (lg a2.right eSym 6) (apc (cv h1) (apc (ig eSym 6 .i64 h2) (apc (cv h3) (apc (cv h4) (apc ((((F44_ok x2 h5).cp rfl _).trans (congrArg (fun z => some (vb z)) h6)) : CP prg 44 [(.agg ((List.take 4 (List.drop 1 (eSym x2))).map .p))] [bG a1, bP a2, .cells 48 ((eSym x2).map .p)] = some (vb true)) (apc ((((F41_3_ok a1 x2 h7).cp rfl _).trans (congrArg (fun z => some (vb z)) h8)) : CP prg 41 [(aG a1), (i6 x2.sort)] [bG a1, bP a2, .cells 48 ((eSym x2).map .p)] = some (vb true)) (apc (cv h9) apn)))))))) (by kernel_rfl)
      ·
       refine bi h (fun h10 h => ?_) fun h10 h => ?_
       ·
        refine bi h (fun h11 h => ?_) fun h11 h => ?_
        ·
         rw [← sj h]
         exact xretY (n := 30) [(60, .v (i6 (a2.right.length : Int))), (61, .d true), (67, .v (.ro (eSym x2))), (71, .d false), (84, .d true), (88, .v (vb true)), (94, .v (vb true)), (100, .d false), (105, .d true), (109, .d true), (6000, .d true)] (apc (lg a2.right eSym 6) (apc (cv h1) (apc (ig eSym 6 .i64 h2) (apc (cv h3) (apc (cv h4) (apc ((((F44_ok x2 h5).cp rfl _).trans (congrArg (fun z => some (vb z)) h6)) : CP prg 44 [(.agg ((List.take 4 (List.drop 1 (eSym x2))).map .p))] [bG a1, bP a2, .cells 48 ((eSym x2).map .p)] = some (vb true)) (apc ((((F41_3_ok a1 x2 h7).cp rfl _).trans (congrArg (fun z => some (vb z)) h8)) : CP prg 41 [(aG a1), (i6 x2.sort)] [bG a1, bP a2, .cells 48 ((eSym x2).map .p)] = some (vb true)) (apc (cv h9) (apc (cv h10) (apc (cv h11) apn)))))))))) (by kernel_rfl)
        ·
         rw [← sj h]
         exact rnd (n := 30) [(60, .v (i6 (a2.right.length : Int))), (61, .d true), (67, .v (.ro (eSym x2))), (71, .d false), (84, .d true), (88, .v (vb true)), (94, .v (vb true)), (100, .d false), (105, .d true), (109, .d false), (6000, .d true)] (apc (lg a2.right eSym 6) (apc (cv h1) (apc (ig eSym 6 .i64 h2) (apc (cv h3) (apc (cv h4) (apc ((((F44_ok x2 h5).cp rfl _).trans (congrArg (fun z => some (vb z)) h6)) : CP prg 44 [(.agg ((List.take 4 (List.drop 1 (eSym x2))).map .p))] [bG a1, bP a2, .cells 48 ((eSym x2).map .p)] = some (vb true)) (apc ((((F41_3_ok a1 x2 h7).cp rfl _).trans (congrArg (fun z => some (vb z)) h8)) : CP prg 41 [(aG a1), (i6 x2.sort)] [bG a1, bP a2, .cells 48 ((eSym x2).map .p)] = some (vb true)) (apc (cv h9) (apc (cv h10) (apc (cv h11) (apc ((okT_of rfl (abl_cons rfl (abl_cons rfl rfl))) : okT 2 [bG a1, bP a2, .cells 48 ((eSym x2).map .p)] = true) apn))))))))))) (by kernel_rfl)
       ·
        rw [← sj h]
        exact rnd (n := 30) [(60, .v (i6 (a2.right.length : Int))), (61, .d true), (67, .v (.ro (eSym x2))), (71, .d false), (84, .d true), (88, .v (vb true)), (94, .v (vb true)), (100, .d false), (105, .d false), (6000, .d true)] (apc (lg a2.right eSym 6) (apc (cv h1) (apc (ig eSym 6 .i64 h2) (apc (cv h3) (apc (cv h4) (apc ((((F44_ok x2 h5).cp rfl _).trans (congrArg (fun z => some (vb z)) h6)) : CP prg 44 [(.agg ((List.take 4 (List.drop 1 (eSym x2))).map .p))] [bG a1, bP a2, .cells 48 ((eSym x2).map .p)] = some (vb true)) (apc ((((F41_3_ok a1 x2 h7).cp rfl _).trans (congrArg (fun z => some (vb z)) h8)) : CP prg 41 [(aG a1), (i6 x2.sort)] [bG a1, bP a2, .cells 48 ((eSym x2).map .p)] = some (vb true)) (apc (cv h9) (apc (cv h10) (apc ((okT_of rfl (abl_cons rfl (abl_cons rfl rfl))) : okT 2 [bG a1, bP a2, .cells 48 ((eSym x2).map .p)] = true) apn)))))))))) (by kernel_rfl)
     ·
      rw [← sj h]
      exact xretY (n := 30) [(60, .v (i6 (a2.right.length : Int))), (61, .d true), (67, .v (.ro (eSym x2))), (71, .d false), (84, .d true), (88, .v (vb true)), (94, .v (vb false)), (6000, .d true)] (apc (lg a2.right eSym 6) (apc (cv h1) (apc (ig eSym 6 .i64 h2) (apc (cv h3) (apc (cv h4) (apc ((((F44_ok x2 h5).cp rfl _).trans (congrArg (fun z => some (vb z)) h6)) : CP prg 44 [(.agg ((List.take 4 (List.drop 1 (eSym x2))).map .p))] [bG a1, bP a2, .cells 48 ((eSym x2).map .p)] = some (vb true)) (apc ((((F41_3_ok a1 x2 h7).cp rfl _).trans (congrArg (fun z => some (vb z)) h8)) : CP prg 41 [(aG a1), (i6 x2.sort)] [bG a1, bP a2, .cells 48 ((eSym x2).map .p)] = some (vb false)) apn))))))) (by kernel_rfl)
    ·
     rw [← sj h]
     exact xretY (n := 30) [(60, .v (i6 (a2.right.length : Int))), (61, .d true), (67, .v (.ro (eSym x2))), (71, .d false), (84, .d true), (88, .v (vb false)), (6000, .d true)] (apc (lg a2.right eSym 6) (apc (cv h1) (apc (ig eSym 6 .i64 h2) (apc (cv h3) (apc (cv h4) (apc ((((F44_ok x2 h5).cp rfl _).trans (congrArg (fun z => some (vb z)) h6)) : CP prg 44 [(.agg ((List.take 4 (List.drop 1 (eSym x2))).map .p))] [bG a1, bP a2, .cells 48 ((eSym x2).map .p)] = some (vb false)) apn)))))) (by kernel_rfl)
   ·
    refine bi h (fun h5 h => ?_) fun h5 h => ?_
    ·
     refine bi h (fun h6 h => ?_) fun h6 h => ?_
     ·
      rw [← sj h]
      exact xretY (n := 30) [(60, .v (i6 (a2.right.length : Int))), (61, .d true), (67, .v (.ro (eSym x2))), (71, .d false), (84, .d false), (105, .d true), (109, .d true), (6000, .d true)] (apc (lg a2.right eSym 6) (apc (cv h1) (apc (ig eSym 6 .i64 h2) (apc (cv h3) (apc (cv h4) (apc (cv h5) (apc (cv h6) apn))))))) (by kernel_rfl)
     ·
      rw [← sj h]
      exact rnd (n := 30) [(60, .v (i6 (a2.right.length : Int))), (61, .d true), (67, .v (.ro (eSym x2))), (71, .d false), (84, .d false), (105, .d true), (109, .d false), (6000, .d true)] (apc (lg a2.right eSym 6) (apc (cv h1) (apc (ig eSym 6 .i64 h2) (apc (cv h3) (apc (cv h4) (apc (cv h5) (apc (cv h6) (apc ((okT_of rfl (abl_cons rfl (abl_cons rfl rfl))) : okT 2 [bG a1, bP a2, .cells 48 ((eSym x2).map .p)] = true) apn)))))))) (by kernel_rfl)
    ·
     rw [← sj h]
     exact rnd (n := 30) [(60, .v (i6 (a2.right.length : Int))), (61, .d true), (67, .v (.ro (eSym x2))), (71, .d false), (84, .d false), (105, .d false), (6000, .d true)] (apc (lg a2.right eSym 6) (apc (cv h1) (apc (ig eSym 6 .i64 h2) (apc (cv h3) (apc (cv h4) (apc (cv h5) (apc ((okT_of rfl (abl_cons rfl (abl_cons rfl rfl))) : okT 2 [bG a1, bP a2, .cells 48 ((eSym x2).map .p)] = true) apn))))))) (by kernel_rfl)
 ·
  rw [← sj h]
  exact xbrk (n := 30) [(60, .v (i6 (a2.right.length : Int))), (61, .d false), (6000, .d true)] (apc (lg a2.right eSym 6) (apc (cv h1) apn)) (by kernel_rfl)
theorem L42_0_run (a1 : GramD) (a2 : ProdD) (s0 : Int) (e : E_L42_0) (h : runL (fun s => L42_0 a1 a2 s) s0 = some e) : L42_0_x a1 a2 e (evH prg 2 [2, 3, 5] ir42_l0 (L42_0_s a1 a2 s0)) := by
  have q := @loop_sound' (Int) E_L42_0 (fun s => L42_0 a1 a2 s) (fun s => evH prg 2 [2, 3, 5] ir42_l0 (L42_0_s a1 a2 s)) (L42_0_x a1 a2) (fun s r h => L42_0_ok a1 a2 s h) s0 e h
  exact q
noncomputable def F42 (a1 : GramD) (a2 : ProdD) : Option Bool :=
  ((F41_2 a1 a2).bind fun x1 => (bif x1 then (bif (decide ((a2.right.length : Int) > 30)) then (some false) else (bif (decide (a2.role < 0)) then (some false) else (bif (decide (a2.role > 11)) then (some false) else (bif (decide (a2.frm < (-1))) then (some false) else (bif (decide ((a2.cons.size : Int) > 64)) then (some false) else (bif (!(a2.cons.toList == (⟨([] : List UInt8).toArray⟩ : ByteArray).toList)) then (bif (a2.role != 0) then (some false) else (bif a2.prefer then (bif a2.avoid then (some false) else ((runL (fun s => L42_0 a1 a2 s) 0).bind fun r12 => match r12 with | .k0 => (some false) | .k1 => (some true))) else ((runL (fun s => L42_0 a1 a2 s) 0).bind fun r11 => match r11 with | .k0 => (some false) | .k1 => (some true)))) else (bif a2.prefer then (bif a2.avoid then (some false) else ((runL (fun s => L42_0 a1 a2 s) 0).bind fun r11 => match r11 with | .k0 => (some false) | .k1 => (some true))) else ((runL (fun s => L42_0 a1 a2 s) 0).bind fun r10 => match r10 with | .k0 => (some false) | .k1 => (some true))))))))) else (some false)))
def F42_v (a1 : GramD) (a2 : ProdD) (x0 : Bool) : AV := (vb x0)
theorem F42_ok (a1 : GramD) (a2 : ProdD) {r : Bool} (h : F42 a1 a2 = some r) : PR1 prg 42 [(aG a1), (aP a2)] (F42_v a1 a2 r) := by
 unfold F42 at h
 refine bn h fun x1 h1 h => ?_
 refine bi h (fun h2 h => ?_) fun h2 h => ?_
 ·
  refine bi h (fun h3 h => ?_) fun h3 h => ?_
  ·
   rw [← sj h]
   exact fpr (n := 30) [(10, .v (vb true)), (15, .v (i6 (a2.right.length : Int))), (16, .d true)] (apc ((((F41_2_ok a1 a2 h1).cp rfl _).trans (congrArg (fun z => some (vb z)) h2)) : CP prg 41 [(aG a1), (i6 a2.left)] [bG a1, bP a2] = some (vb true)) (apc (lg a2.right eSym 6) (apc (cv h3) apn))) rfl (by kernel_rfl)
  ·
   refine bi h (fun h4 h => ?_) fun h4 h => ?_
   ·
    rw [← sj h]
    exact fpr (n := 30) [(10, .v (vb true)), (15, .v (i6 (a2.right.length : Int))), (16, .d false), (21, .d true)] (apc ((((F41_2_ok a1 a2 h1).cp rfl _).trans (congrArg (fun z => some (vb z)) h2)) : CP prg 41 [(aG a1), (i6 a2.left)] [bG a1, bP a2] = some (vb true)) (apc (lg a2.right eSym 6) (apc (cv h3) (apc (cv h4) apn)))) rfl (by kernel_rfl)
   ·
    refine bi h (fun h5 h => ?_) fun h5 h => ?_
    ·
     rw [← sj h]
     exact fpr (n := 30) [(10, .v (vb true)), (15, .v (i6 (a2.right.length : Int))), (16, .d false), (21, .d false), (26, .d true)] (apc ((((F41_2_ok a1 a2 h1).cp rfl _).trans (congrArg (fun z => some (vb z)) h2)) : CP prg 41 [(aG a1), (i6 a2.left)] [bG a1, bP a2] = some (vb true)) (apc (lg a2.right eSym 6) (apc (cv h3) (apc (cv h4) (apc (cv h5) apn))))) rfl (by kernel_rfl)
    ·
     refine bi h (fun h6 h => ?_) fun h6 h => ?_
     ·
      rw [← sj h]
      exact fpr (n := 30) [(10, .v (vb true)), (15, .v (i6 (a2.right.length : Int))), (16, .d false), (21, .d false), (26, .d false), (31, .d true)] (apc ((((F41_2_ok a1 a2 h1).cp rfl _).trans (congrArg (fun z => some (vb z)) h2)) : CP prg 41 [(aG a1), (i6 a2.left)] [bG a1, bP a2] = some (vb true)) (apc (lg a2.right eSym 6) (apc (cv h3) (apc (cv h4) (apc (cv h5) (apc (cv h6) apn)))))) rfl (by kernel_rfl)
     ·
      refine bi h (fun h7 h => ?_) fun h7 h => ?_
      ·
       rw [← sj h]
       exact fpr (n := 30) [(10, .v (vb true)), (15, .v (i6 (a2.right.length : Int))), (16, .d false), (21, .d false), (26, .d false), (31, .d false), (37, .d true)] (apc ((((F41_2_ok a1 a2 h1).cp rfl _).trans (congrArg (fun z => some (vb z)) h2)) : CP prg 41 [(aG a1), (i6 a2.left)] [bG a1, bP a2] = some (vb true)) (apc (lg a2.right eSym 6) (apc (cv h3) (apc (cv h4) (apc (cv h5) (apc (cv h6) (apc (cv h7) apn))))))) rfl (by kernel_rfl)
      ·
       refine bi h (fun h8 h => ?_) fun h8 h => ?_
       ·
        refine bi h (fun h9 h => ?_) fun h9 h => ?_
        ·
         rw [← sj h]
         exact fpr (n := 30) [(10, .v (vb true)), (15, .v (i6 (a2.right.length : Int))), (16, .d false), (21, .d false), (26, .d false), (31, .d false), (37, .d false), (42, .d true), (46, .d true)] (apc ((((F41_2_ok a1 a2 h1).cp rfl _).trans (congrArg (fun z => some (vb z)) h2)) : CP prg 41 [(aG a1), (i6 a2.left)] [bG a1, bP a2] = some (vb true)) (apc (lg a2.right eSym 6) (apc (cv h3) (apc (cv h4) (apc (cv h5) (apc (cv h6) (apc (cv h7) (apc (cv h8) (apc (cv h9) apn))))))))) rfl (by kernel_rfl)
        ·
         refine bi h (fun h10 h => ?_) fun h10 h => ?_
         ·
          refine bi h (fun h11 h => ?_) fun h11 h => ?_
          ·
           rw [← sj h]
           exact fpr (n := 30) [(10, .v (vb true)), (15, .v (i6 (a2.right.length : Int))), (16, .d false), (21, .d false), (26, .d false), (31, .d false), (37, .d false), (42, .d true), (46, .d false), (51, .d true), (54, .d true)] (apc ((((F41_2_ok a1 a2 h1).cp rfl _).trans (congrArg (fun z => some (vb z)) h2)) : CP prg 41 [(aG a1), (i6 a2.left)] [bG a1, bP a2] = some (vb true)) (apc (lg a2.right eSym 6) (apc (cv h3) (apc (cv h4) (apc (cv h5) (apc (cv h6) (apc (cv h7) (apc (cv h8) (apc (cv h9) (apc (cv h10) (apc (cv h11) apn))))))))))) rfl (by kernel_rfl)
          ·
           refine bn h fun r12 h12 h => ?_
           cases r12 with
           | k0 =>
            obtain ⟨g12, y12, e12⟩ := L42_0_run a1 a2 0 _ h12
            rw [← sj h]
            exact fpr (n := 30) [(10, .v (vb true)), (15, .v (i6 (a2.right.length : Int))), (16, .d false), (21, .d false), (26, .d false), (31, .d false), (37, .d false), (42, .d true), (46, .d false), (51, .d true), (54, .d false), (2000, .l .ret ⟨fr 111 g12 [(4, (vb false))], y12⟩), (6000, .d true)] (apc ((((F41_2_ok a1 a2 h1).cp rfl _).trans (congrArg (fun z => some (vb z)) h2)) : CP prg 41 [(aG a1), (i6 a2.left)] [bG a1, bP a2] = some (vb true)) (apc (lg a2.right eSym 6) (apc (cv h3) (apc (cv h4) (apc (cv h5) (apc (cv h6) (apc (cv h7) (apc (cv h8) (apc (cv h9) (apc (cv h10) (apc (cv h11) (apc ((okT_of rfl (abl_cons rfl (abl_cons rfl rfl))) : okT 2 [bG a1, bP a2] = true) (apc (e12 : evH prg 2 [2, 3, 5] ir42_l0 (L42_0_s a1 a2 0) = some (.ret, ⟨fr 111 g12 [(4, (vb false))], y12⟩)) apn))))))))))))) rfl (by kernel_rfl)
           | k1 =>
            obtain ⟨g12, e12⟩ := L42_0_run a1 a2 0 _ h12
            rw [← sj h]
            exact fpr (n := 30) [(10, .v (vb true)), (15, .v (i6 (a2.right.length : Int))), (16, .d false), (21, .d false), (26, .d false), (31, .d false), (37, .d false), (42, .d true), (46, .d false), (51, .d true), (54, .d false), (2000, .l (.brk 0) ⟨fr 111 g12 [(2, (.ptr 0 0)), (3, (.ptr 1 0))], [bG a1, bP a2]⟩), (6000, .d true)] (apc ((((F41_2_ok a1 a2 h1).cp rfl _).trans (congrArg (fun z => some (vb z)) h2)) : CP prg 41 [(aG a1), (i6 a2.left)] [bG a1, bP a2] = some (vb true)) (apc (lg a2.right eSym 6) (apc (cv h3) (apc (cv h4) (apc (cv h5) (apc (cv h6) (apc (cv h7) (apc (cv h8) (apc (cv h9) (apc (cv h10) (apc (cv h11) (apc ((okT_of rfl (abl_cons rfl (abl_cons rfl rfl))) : okT 2 [bG a1, bP a2] = true) (apc (e12 : evH prg 2 [2, 3, 5] ir42_l0 (L42_0_s a1 a2 0) = some ((.brk 0), ⟨fr 111 g12 [(2, (.ptr 0 0)), (3, (.ptr 1 0))], [bG a1, bP a2]⟩)) apn))))))))))))) rfl (by kernel_rfl)
         ·
          refine bn h fun r11 h11 h => ?_
          cases r11 with
          | k0 =>
           obtain ⟨g11, y11, e11⟩ := L42_0_run a1 a2 0 _ h11
           rw [← sj h]
           exact fpr (n := 30) [(10, .v (vb true)), (15, .v (i6 (a2.right.length : Int))), (16, .d false), (21, .d false), (26, .d false), (31, .d false), (37, .d false), (42, .d true), (46, .d false), (51, .d false), (2000, .l .ret ⟨fr 111 g11 [(4, (vb false))], y11⟩), (6000, .d true)] (apc ((((F41_2_ok a1 a2 h1).cp rfl _).trans (congrArg (fun z => some (vb z)) h2)) : CP prg 41 [(aG a1), (i6 a2.left)] [bG a1, bP a2] = some (vb true)) (apc (lg a2.right eSym 6) (apc (cv h3) (apc (cv h4) (apc (cv h5) (apc (cv h6) (apc (cv h7) (apc (cv h8) (apc (cv h9) (apc (cv h10) (apc ((okT_of rfl (abl_cons rfl (abl_cons rfl rfl))) : okT 2 [bG a1, bP a2] = true) (apc (e11 : evH prg 2 [2, 3, 5] ir42_l0 (L42_0_s a1 a2 0) = some (.ret, ⟨fr 111 g11 [(4, (vb false))], y11⟩)) apn)))))))))))) rfl (by kernel_rfl)
          | k1 =>
           obtain ⟨g11, e11⟩ := L42_0_run a1 a2 0 _ h11
           rw [← sj h]
           exact fpr (n := 30) [(10, .v (vb true)), (15, .v (i6 (a2.right.length : Int))), (16, .d false), (21, .d false), (26, .d false), (31, .d false), (37, .d false), (42, .d true), (46, .d false), (51, .d false), (2000, .l (.brk 0) ⟨fr 111 g11 [(2, (.ptr 0 0)), (3, (.ptr 1 0))], [bG a1, bP a2]⟩), (6000, .d true)] (apc ((((F41_2_ok a1 a2 h1).cp rfl _).trans (congrArg (fun z => some (vb z)) h2)) : CP prg 41 [(aG a1), (i6 a2.left)] [bG a1, bP a2] = some (vb true)) (apc (lg a2.right eSym 6) (apc (cv h3) (apc (cv h4) (apc (cv h5) (apc (cv h6) (apc (cv h7) (apc (cv h8) (apc (cv h9) (apc (cv h10) (apc ((okT_of rfl (abl_cons rfl (abl_cons rfl rfl))) : okT 2 [bG a1, bP a2] = true) (apc (e11 : evH prg 2 [2, 3, 5] ir42_l0 (L42_0_s a1 a2 0) = some ((.brk 0), ⟨fr 111 g11 [(2, (.ptr 0 0)), (3, (.ptr 1 0))], [bG a1, bP a2]⟩)) apn)))))))))))) rfl (by kernel_rfl)
       ·
        refine bi h (fun h9 h => ?_) fun h9 h => ?_
        ·
         refine bi h (fun h10 h => ?_) fun h10 h => ?_
         ·
          rw [← sj h]
          exact fpr (n := 30) [(10, .v (vb true)), (15, .v (i6 (a2.right.length : Int))), (16, .d false), (21, .d false), (26, .d false), (31, .d false), (37, .d false), (42, .d false), (51, .d true), (54, .d true)] (apc ((((F41_2_ok a1 a2 h1).cp rfl _).trans (congrArg (fun z => some (vb z)) h2)) : CP prg 41 [(aG a1), (i6 a2.left)] [bG a1, bP a2] = some (vb true)) (apc (lg a2.right eSym 6) (apc (cv h3) (apc (cv h4) (apc (cv h5) (apc (cv h6) (apc (cv h7) (apc (cv h8) (apc (cv h9) (apc (cv h10) apn)))))))))) rfl (by kernel_rfl)
         ·
          refine bn h fun r11 h11 h => ?_
          cases r11 with
          | k0 =>
           obtain ⟨g11, y11, e11⟩ := L42_0_run a1 a2 0 _ h11
           rw [← sj h]
           exact fpr (n := 30) [(10, .v (vb true)), (15, .v (i6 (a2.right.length : Int))), (16, .d false), (21, .d false), (26, .d false), (31, .d false), (37, .d false), (42, .d false), (51, .d true), (54, .d false), (2000, .l .ret ⟨fr 111 g11 [(4, (vb false))], y11⟩), (6000, .d true)] (apc ((((F41_2_ok a1 a2 h1).cp rfl _).trans (congrArg (fun z => some (vb z)) h2)) : CP prg 41 [(aG a1), (i6 a2.left)] [bG a1, bP a2] = some (vb true)) (apc (lg a2.right eSym 6) (apc (cv h3) (apc (cv h4) (apc (cv h5) (apc (cv h6) (apc (cv h7) (apc (cv h8) (apc (cv h9) (apc (cv h10) (apc ((okT_of rfl (abl_cons rfl (abl_cons rfl rfl))) : okT 2 [bG a1, bP a2] = true) (apc (e11 : evH prg 2 [2, 3, 5] ir42_l0 (L42_0_s a1 a2 0) = some (.ret, ⟨fr 111 g11 [(4, (vb false))], y11⟩)) apn)))))))))))) rfl (by kernel_rfl)
          | k1 =>
           obtain ⟨g11, e11⟩ := L42_0_run a1 a2 0 _ h11
           rw [← sj h]
           exact fpr (n := 30) [(10, .v (vb true)), (15, .v (i6 (a2.right.length : Int))), (16, .d false), (21, .d false), (26, .d false), (31, .d false), (37, .d false), (42, .d false), (51, .d true), (54, .d false), (2000, .l (.brk 0) ⟨fr 111 g11 [(2, (.ptr 0 0)), (3, (.ptr 1 0))], [bG a1, bP a2]⟩), (6000, .d true)] (apc ((((F41_2_ok a1 a2 h1).cp rfl _).trans (congrArg (fun z => some (vb z)) h2)) : CP prg 41 [(aG a1), (i6 a2.left)] [bG a1, bP a2] = some (vb true)) (apc (lg a2.right eSym 6) (apc (cv h3) (apc (cv h4) (apc (cv h5) (apc (cv h6) (apc (cv h7) (apc (cv h8) (apc (cv h9) (apc (cv h10) (apc ((okT_of rfl (abl_cons rfl (abl_cons rfl rfl))) : okT 2 [bG a1, bP a2] = true) (apc (e11 : evH prg 2 [2, 3, 5] ir42_l0 (L42_0_s a1 a2 0) = some ((.brk 0), ⟨fr 111 g11 [(2, (.ptr 0 0)), (3, (.ptr 1 0))], [bG a1, bP a2]⟩)) apn)))))))))))) rfl (by kernel_rfl)
        ·
         refine bn h fun r10 h10 h => ?_
         cases r10 with
         | k0 =>
          obtain ⟨g10, y10, e10⟩ := L42_0_run a1 a2 0 _ h10
          rw [← sj h]
          exact fpr (n := 30) [(10, .v (vb true)), (15, .v (i6 (a2.right.length : Int))), (16, .d false), (21, .d false), (26, .d false), (31, .d false), (37, .d false), (42, .d false), (51, .d false), (2000, .l .ret ⟨fr 111 g10 [(4, (vb false))], y10⟩), (6000, .d true)] (apc ((((F41_2_ok a1 a2 h1).cp rfl _).trans (congrArg (fun z => some (vb z)) h2)) : CP prg 41 [(aG a1), (i6 a2.left)] [bG a1, bP a2] = some (vb true)) (apc (lg a2.right eSym 6) (apc (cv h3) (apc (cv h4) (apc (cv h5) (apc (cv h6) (apc (cv h7) (apc (cv h8) (apc (cv h9) (apc ((okT_of rfl (abl_cons rfl (abl_cons rfl rfl))) : okT 2 [bG a1, bP a2] = true) (apc (e10 : evH prg 2 [2, 3, 5] ir42_l0 (L42_0_s a1 a2 0) = some (.ret, ⟨fr 111 g10 [(4, (vb false))], y10⟩)) apn))))))))))) rfl (by kernel_rfl)
         | k1 =>
          obtain ⟨g10, e10⟩ := L42_0_run a1 a2 0 _ h10
          rw [← sj h]
          exact fpr (n := 30) [(10, .v (vb true)), (15, .v (i6 (a2.right.length : Int))), (16, .d false), (21, .d false), (26, .d false), (31, .d false), (37, .d false), (42, .d false), (51, .d false), (2000, .l (.brk 0) ⟨fr 111 g10 [(2, (.ptr 0 0)), (3, (.ptr 1 0))], [bG a1, bP a2]⟩), (6000, .d true)] (apc ((((F41_2_ok a1 a2 h1).cp rfl _).trans (congrArg (fun z => some (vb z)) h2)) : CP prg 41 [(aG a1), (i6 a2.left)] [bG a1, bP a2] = some (vb true)) (apc (lg a2.right eSym 6) (apc (cv h3) (apc (cv h4) (apc (cv h5) (apc (cv h6) (apc (cv h7) (apc (cv h8) (apc (cv h9) (apc ((okT_of rfl (abl_cons rfl (abl_cons rfl rfl))) : okT 2 [bG a1, bP a2] = true) (apc (e10 : evH prg 2 [2, 3, 5] ir42_l0 (L42_0_s a1 a2 0) = some ((.brk 0), ⟨fr 111 g10 [(2, (.ptr 0 0)), (3, (.ptr 1 0))], [bG a1, bP a2]⟩)) apn))))))))))) rfl (by kernel_rfl)
 ·
  rw [← sj h]
  exact fpr (n := 30) [(10, .v (vb false))] (apc ((((F41_2_ok a1 a2 h1).cp rfl _).trans (congrArg (fun z => some (vb z)) h2)) : CP prg 41 [(aG a1), (i6 a2.left)] [bG a1, bP a2] = some (vb false)) apn) rfl (by kernel_rfl)
inductive E_L12_4 where
  | k0
  | k1
noncomputable def L12_4 (a1 : GramD) (v1 : Int) : Option (E_L12_4 ⊕ (Int)) :=
  (bif (decide (v1 < (a1.prods.length : Int))) then ((getI a1.prods v1).bind fun x2 => ((F42 a1 x2).bind fun x3 => (bif x3 then (some (.inr ((IntKind.wrap .i64 (v1 + 1))))) else (some (.inl (.k0)))))) else (some (.inl (.k1))))
def L12_4_s (a1 : GramD) (v1 : Int) : St := ⟨fr 160 ug [(1, (.ptr 0 0)), (5, (i6 v1))], [bG a1]⟩
def L12_4_x (a1 : GramD) (e : E_L12_4) (r : Option (Out × St)) : Prop := match e with | .k0 => ∃ g y, r = some (.ret, ⟨fr 160 g [(2, (i6 160))], y⟩) | .k1 => ∃ g, r = some ((.brk 4), ⟨fr 160 g [(1, (.ptr 0 0))], [bG a1]⟩)
theorem L12_4_ok (a1 : GramD) (v1 : Int) {r : E_L12_4 ⊕ (Int)} (h : L12_4 a1 v1 = some r) : OkR (fun e => L12_4_x a1 e (evH prg 1 [1, 5] ir12_l4 (L12_4_s a1 v1))) (fun s => evH prg 1 [1, 5] ir12_l4 (L12_4_s a1 v1) = evH prg 1 [1, 5] ir12_l4 (L12_4_s a1 s)) r := by
 unfold L12_4 at h
 refine bi h (fun h1 h => ?_) fun h1 h => ?_
 ·
  refine bn h fun x2 h2 h => ?_
  refine bn h fun x3 h3 h => ?_
  refine bi h (fun h4 h => ?_) fun h4 h => ?_
  ·
   rw [← sj h]
   exact rnd (n := 30) [(74, .v (i6 (a1.prods.length : Int))), (75, .d true), (82, .v (.ro (eProd x2))), (84, .v (vb true)), (6000, .d true)] (apc (lg a1.prods eProd 7) (apc (cv h1) (apc (ig eProd 7 .i64 h2) (apc ((((F42_ok a1 x2 h3).cp rfl _).trans (congrArg (fun z => some (vb z)) h4)) : CP prg 42 [(aG a1), (aP x2)] [bG a1] = some (vb true)) (apc ((okT_of rfl (abl_cons rfl rfl)) : okT 1 [bG a1] = true) apn))))) (by kernel_rfl)
  ·
   rw [← sj h]
   exact xretY (n := 30) [(74, .v (i6 (a1.prods.length : Int))), (75, .d true), (82, .v (.ro (eProd x2))), (84, .v (vb false)), (6000, .d true)] (apc (lg a1.prods eProd 7) (apc (cv h1) (apc (ig eProd 7 .i64 h2) (apc ((((F42_ok a1 x2 h3).cp rfl _).trans (congrArg (fun z => some (vb z)) h4)) : CP prg 42 [(aG a1), (aP x2)] [bG a1] = some (vb false)) apn)))) (by kernel_rfl)
 ·
  rw [← sj h]
  exact xbrk (n := 30) [(74, .v (i6 (a1.prods.length : Int))), (75, .d false), (6000, .d true)] (apc (lg a1.prods eProd 7) (apc (cv h1) apn)) (by kernel_rfl)
theorem L12_4_run (a1 : GramD) (s0 : Int) (e : E_L12_4) (h : runL (fun s => L12_4 a1 s) s0 = some e) : L12_4_x a1 e (evH prg 1 [1, 5] ir12_l4 (L12_4_s a1 s0)) := by
  have q := @loop_sound' (Int) E_L12_4 (fun s => L12_4 a1 s) (fun s => evH prg 1 [1, 5] ir12_l4 (L12_4_s a1 s)) (L12_4_x a1) (fun s r h => L12_4_ok a1 s h) s0 e h
  exact q
noncomputable def F43 (a1 : GramD) (a2 : ForbD) : Option Bool :=
  (bif (decide (a2.parent < 0)) then (some false) else (bif (decide (a2.parent ≥ (a1.prods.length : Int))) then (some false) else (bif (decide (a2.child < 0)) then (some false) else (bif (decide (a2.child ≥ (a1.prods.length : Int))) then (some false) else ((getI a1.prods a2.parent).bind fun x5 => (bif (x5.role == 11) then (some false) else ((getI a1.prods a2.child).bind fun x7 => (bif (x7.role == 11) then (some false) else (bif (decide (a2.at_ < 1)) then (some false) else (bif (decide (a2.at_ > (x5.right.length : Int))) then (some false) else ((getI x5.right (IntKind.wrap .i64 (a2.at_ - 1))).bind fun x11 => (bif (x11.kind == 1) then (some (x11.sort == x7.left)) else (some false)))))))))))))
def F43_v (a1 : GramD) (a2 : ForbD) (x0 : Bool) : AV := (vb x0)
theorem F43_ok (a1 : GramD) (a2 : ForbD) {r : Bool} (h : F43 a1 a2 = some r) : PR1 prg 43 [(aG a1), (.agg ((eForb a2).map .p))] (F43_v a1 a2 r) := by
 unfold F43 at h
 refine bi h (fun h1 h => ?_) fun h1 h => ?_
 ·
  rw [← sj h]
  exact fpr (n := 30) [(8, .d true)] (apc (cv h1) apn) rfl (by kernel_rfl)
 ·
  refine bi h (fun h2 h => ?_) fun h2 h => ?_
  ·
   rw [← sj h]
   exact fpr (n := 30) [(8, .d false), (14, .v (i6 (a1.prods.length : Int))), (15, .d true)] (apc (cv h1) (apc (lg a1.prods eProd 7) (apc (cv h2) apn))) rfl (by kernel_rfl)
  ·
   refine bi h (fun h3 h => ?_) fun h3 h => ?_
   ·
    rw [← sj h]
    exact fpr (n := 30) [(8, .d false), (14, .v (i6 (a1.prods.length : Int))), (15, .d false), (20, .d true)] (apc (cv h1) (apc (lg a1.prods eProd 7) (apc (cv h2) (apc (cv h3) apn)))) rfl (by kernel_rfl)
   ·
    refine bi h (fun h4 h => ?_) fun h4 h => ?_
    ·
     rw [← sj h]
     exact fpr (n := 30) [(8, .d false), (14, .v (i6 (a1.prods.length : Int))), (15, .d false), (20, .d false), (27, .v (i6 (a1.prods.length : Int))), (28, .d true)] (apc (cv h1) (apc (lg a1.prods eProd 7) (apc (cv h2) (apc (cv h3) (apc (lg a1.prods eProd 7) (apc (cv h4) apn)))))) rfl (by kernel_rfl)
    ·
     refine bn h fun x5 h5 h => ?_
     refine bi h (fun h6 h => ?_) fun h6 h => ?_
     ·
      rw [← sj h]
      exact fpr (n := 30) [(8, .d false), (14, .v (i6 (a1.prods.length : Int))), (15, .d false), (20, .d false), (27, .v (i6 (a1.prods.length : Int))), (28, .d false), (35, .v (.ro (eProd x5))), (38, .d true)] (apc (cv h1) (apc (lg a1.prods eProd 7) (apc (cv h2) (apc (cv h3) (apc (lg a1.prods eProd 7) (apc (cv h4) (apc (ig eProd 7 .i64 h5) (apc (cv h6) apn)))))))) rfl (by kernel_rfl)
     ·
      refine bn h fun x7 h7 h => ?_
      refine bi h (fun h8 h => ?_) fun h8 h => ?_
      ·
       rw [← sj h]
       exact fpr (n := 30) [(8, .d false), (14, .v (i6 (a1.prods.length : Int))), (15, .d false), (20, .d false), (27, .v (i6 (a1.prods.length : Int))), (28, .d false), (35, .v (.ro (eProd x5))), (38, .d false), (45, .v (.ro (eProd x7))), (48, .d true)] (apc (cv h1) (apc (lg a1.prods eProd 7) (apc (cv h2) (apc (cv h3) (apc (lg a1.prods eProd 7) (apc (cv h4) (apc (ig eProd 7 .i64 h5) (apc (cv h6) (apc (ig eProd 7 .i64 h7) (apc (cv h8) apn)))))))))) rfl (by kernel_rfl)
      ·
       refine bi h (fun h9 h => ?_) fun h9 h => ?_
       ·
        rw [← sj h]
        exact fpr (n := 30) [(8, .d false), (14, .v (i6 (a1.prods.length : Int))), (15, .d false), (20, .d false), (27, .v (i6 (a1.prods.length : Int))), (28, .d false), (35, .v (.ro (eProd x5))), (38, .d false), (45, .v (.ro (eProd x7))), (48, .d false), (52, .d true)] (apc (cv h1) (apc (lg a1.prods eProd 7) (apc (cv h2) (apc (cv h3) (apc (lg a1.prods eProd 7) (apc (cv h4) (apc (ig eProd 7 .i64 h5) (apc (cv h6) (apc (ig eProd 7 .i64 h7) (apc (cv h8) (apc (cv h9) apn))))))))))) rfl (by kernel_rfl)
       ·
        refine bi h (fun h10 h => ?_) fun h10 h => ?_
        ·
         rw [← sj h]
         exact fpr (n := 30) [(8, .d false), (14, .v (i6 (a1.prods.length : Int))), (15, .d false), (20, .d false), (27, .v (i6 (a1.prods.length : Int))), (28, .d false), (35, .v (.ro (eProd x5))), (38, .d false), (45, .v (.ro (eProd x7))), (48, .d false), (52, .d false), (60, .v (.ro (eProd x5))), (63, .v (i6 (x5.right.length : Int))), (64, .d true)] (apc (cv h1) (apc (lg a1.prods eProd 7) (apc (cv h2) (apc (cv h3) (apc (lg a1.prods eProd 7) (apc (cv h4) (apc (ig eProd 7 .i64 h5) (apc (cv h6) (apc (ig eProd 7 .i64 h7) (apc (cv h8) (apc (cv h9) (apc (ig eProd 7 .i64 h5) (apc (lg x5.right eSym 6) (apc (cv h10) apn)))))))))))))) rfl (by kernel_rfl)
        ·
         refine bn h fun x11 h11 h => ?_
         refine bi h (fun h12 h => ?_) fun h12 h => ?_
         ·
          rw [← sj h]
          exact fpr (n := 30) [(8, .d false), (14, .v (i6 (a1.prods.length : Int))), (15, .d false), (20, .d false), (27, .v (i6 (a1.prods.length : Int))), (28, .d false), (35, .v (.ro (eProd x5))), (38, .d false), (45, .v (.ro (eProd x7))), (48, .d false), (52, .d false), (60, .v (.ro (eProd x5))), (63, .v (i6 (x5.right.length : Int))), (64, .d false), (70, .v (.ro (eProd x5))), (76, .v (.ro (eSym x11))), (80, .d true), (88, .v (.ro (eProd x7)))] (apc (cv h1) (apc (lg a1.prods eProd 7) (apc (cv h2) (apc (cv h3) (apc (lg a1.prods eProd 7) (apc (cv h4) (apc (ig eProd 7 .i64 h5) (apc (cv h6) (apc (ig eProd 7 .i64 h7) (apc (cv h8) (apc (cv h9) (apc (ig eProd 7 .i64 h5) (apc (lg x5.right eSym 6) (apc (cv h10) (apc (ig eProd 7 .i64 h5) (apc (ig eSym 6 .i64 h11) (apc (cv h12) (apc (ig eProd 7 .i64 h7) apn)))))))))))))))))) rfl (by kernel_rfl)
         ·
          rw [← sj h]
          exact fpr (n := 30) [(8, .d false), (14, .v (i6 (a1.prods.length : Int))), (15, .d false), (20, .d false), (27, .v (i6 (a1.prods.length : Int))), (28, .d false), (35, .v (.ro (eProd x5))), (38, .d false), (45, .v (.ro (eProd x7))), (48, .d false), (52, .d false), (60, .v (.ro (eProd x5))), (63, .v (i6 (x5.right.length : Int))), (64, .d false), (70, .v (.ro (eProd x5))), (76, .v (.ro (eSym x11))), (80, .d false)] (apc (cv h1) (apc (lg a1.prods eProd 7) (apc (cv h2) (apc (cv h3) (apc (lg a1.prods eProd 7) (apc (cv h4) (apc (ig eProd 7 .i64 h5) (apc (cv h6) (apc (ig eProd 7 .i64 h7) (apc (cv h8) (apc (cv h9) (apc (ig eProd 7 .i64 h5) (apc (lg x5.right eSym 6) (apc (cv h10) (apc (ig eProd 7 .i64 h5) (apc (ig eSym 6 .i64 h11) (apc (cv h12) apn))))))))))))))))) rfl (by kernel_rfl)
inductive E_L12_2 where
  | k0
  | k1
noncomputable def L12_2 (a1 : Int) (a2 : GramD) (v1 : Int) : Option (E_L12_2 ⊕ (Int)) :=
  (bif (decide (v1 < a1)) then ((getI a2.forbid v1).bind fun x2 => ((getI a2.forbid a1).bind fun x3 => (bif ((x2.parent == x3.parent) && ((x2.at_ == x3.at_) && ((x2.child == x3.child) && true))) then (some (.inl (.k0))) else (some (.inr ((IntKind.wrap .i64 (v1 + 1)))))))) else (some (.inl (.k1))))
def L12_2_s (a1 : Int) (a2 : GramD) (v1 : Int) : St := ⟨fr 160 ug [(1, (.ptr 0 0)), (6, (i6 a1)), (7, (i6 v1))], [bG a2]⟩
def L12_2_x (a1 : Int) (a2 : GramD) (e : E_L12_2) (r : Option (Out × St)) : Prop := match e with | .k0 => ∃ g y, r = some (.ret, ⟨fr 160 g [(2, (i6 160))], y⟩) | .k1 => ∃ g, r = some ((.brk 8), ⟨fr 160 g [(1, (.ptr 0 0)), (6, (i6 a1))], [bG a2]⟩)
theorem L12_2_ok (a1 : Int) (a2 : GramD) (v1 : Int) {r : E_L12_2 ⊕ (Int)} (h : L12_2 a1 a2 v1 = some r) : OkR (fun e => L12_2_x a1 a2 e (evH prg 1 [1, 6, 7] ir12_l2 (L12_2_s a1 a2 v1))) (fun s => evH prg 1 [1, 6, 7] ir12_l2 (L12_2_s a1 a2 v1) = evH prg 1 [1, 6, 7] ir12_l2 (L12_2_s a1 a2 s)) r := by
 unfold L12_2 at h
 refine bi h (fun h1 h => ?_) fun h1 h => ?_
 ·
  refine bn h fun x2 h2 h => ?_
  refine bn h fun x3 h3 h => ?_
  refine bi h (fun h4 h => ?_) fun h4 h => ?_
  ·
   rw [← sj h]
   exact xretY (n := 30) [(103, .d true), (109, .v (.ro (eForb x2))), (114, .v (.ro (eForb x3))), (116, .d true), (6000, .d true)] (apc (cv h1) (apc (ig eForb 3 .i64 h2) (apc (ig eForb 3 .i64 h3) (apc (cv h4) apn)))) (by kernel_rfl)
  ·
   rw [← sj h]
   exact rnd (n := 30) [(103, .d true), (109, .v (.ro (eForb x2))), (114, .v (.ro (eForb x3))), (116, .d false), (6000, .d true)] (apc (cv h1) (apc (ig eForb 3 .i64 h2) (apc (ig eForb 3 .i64 h3) (apc (cv h4) (apc ((okT_of rfl (abl_cons rfl rfl)) : okT 1 [bG a2] = true) apn))))) (by kernel_rfl)
 ·
  rw [← sj h]
  exact xbrk (n := 30) [(103, .d false), (6000, .d true)] (apc (cv h1) apn) (by kernel_rfl)
theorem L12_2_run (a1 : Int) (a2 : GramD) (s0 : Int) (e : E_L12_2) (h : runL (fun s => L12_2 a1 a2 s) s0 = some e) : L12_2_x a1 a2 e (evH prg 1 [1, 6, 7] ir12_l2 (L12_2_s a1 a2 s0)) := by
  have q := @loop_sound' (Int) E_L12_2 (fun s => L12_2 a1 a2 s) (fun s => evH prg 1 [1, 6, 7] ir12_l2 (L12_2_s a1 a2 s)) (L12_2_x a1 a2) (fun s r h => L12_2_ok a1 a2 s h) s0 e h
  exact q
inductive E_L12_3 where
  | k0
  | k1
noncomputable def L12_3 (a1 : GramD) (v1 : Int) : Option (E_L12_3 ⊕ (Int)) :=
  (bif (decide (v1 < (a1.forbid.length : Int))) then ((getI a1.forbid v1).bind fun x2 => ((F43 a1 x2).bind fun x3 => (bif x3 then ((runL (fun s => L12_2 v1 a1 s) 0).bind fun r5 => match r5 with | .k0 => (some (.inl (.k0))) | .k1 => (some (.inr ((IntKind.wrap .i64 (v1 + 1)))))) else (some (.inl (.k0)))))) else (some (.inl (.k1))))
def L12_3_s (a1 : GramD) (v1 : Int) : St := ⟨fr 160 ug [(1, (.ptr 0 0)), (6, (i6 v1))], [bG a1]⟩
def L12_3_x (a1 : GramD) (e : E_L12_3) (r : Option (Out × St)) : Prop := match e with | .k0 => ∃ g y, r = some (.ret, ⟨fr 160 g [(2, (i6 160))], y⟩) | .k1 => ∃ g, r = some ((.brk 6), ⟨fr 160 g [(1, (.ptr 0 0))], [bG a1]⟩)
theorem L12_3_ok (a1 : GramD) (v1 : Int) {r : E_L12_3 ⊕ (Int)} (h : L12_3 a1 v1 = some r) : OkR (fun e => L12_3_x a1 e (evH prg 1 [1, 6] ir12_l3 (L12_3_s a1 v1))) (fun s => evH prg 1 [1, 6] ir12_l3 (L12_3_s a1 v1) = evH prg 1 [1, 6] ir12_l3 (L12_3_s a1 s)) r := by
 unfold L12_3 at h
 refine bi h (fun h1 h => ?_) fun h1 h => ?_
 ·
  refine bn h fun x2 h2 h => ?_
  refine bn h fun x3 h3 h => ?_
  refine bi h (fun h4 h => ?_) fun h4 h => ?_
  ·
   refine bn h fun r5 h5 h => ?_
   cases r5 with
   | k0 =>
    obtain ⟨g5, y5, e5⟩ := L12_2_run v1 a1 0 _ h5
    rw [← sj h]
    exact xretY (n := 30) [(89, .v (i6 (a1.forbid.length : Int))), (90, .d true), (97, .v (.ro (eForb x2))), (99, .v (vb true)), (2008, .l .ret ⟨fr 160 g5 [(2, (i6 160))], y5⟩), (6000, .d true)] (apc (lg a1.forbid eForb 3) (apc (cv h1) (apc (ig eForb 3 .i64 h2) (apc ((((F43_ok a1 x2 h3).cp rfl _).trans (congrArg (fun z => some (vb z)) h4)) : CP prg 43 [(aG a1), (.agg ((eForb x2).map .p))] [bG a1] = some (vb true)) (apc ((okT_of rfl (abl_cons rfl rfl)) : okT 1 [bG a1] = true) (apc (e5 : evH prg 1 [1, 6, 7] ir12_l2 (L12_2_s v1 a1 0) = some (.ret, ⟨fr 160 g5 [(2, (i6 160))], y5⟩)) apn)))))) (by kernel_rfl)
   | k1 =>
    obtain ⟨g5, e5⟩ := L12_2_run v1 a1 0 _ h5
    rw [← sj h]
    exact rnd (n := 30) [(89, .v (i6 (a1.forbid.length : Int))), (90, .d true), (97, .v (.ro (eForb x2))), (99, .v (vb true)), (2008, .l (.brk 8) ⟨fr 160 g5 [(1, (.ptr 0 0)), (6, (i6 v1))], [bG a1]⟩), (6000, .d true)] (apc (lg a1.forbid eForb 3) (apc (cv h1) (apc (ig eForb 3 .i64 h2) (apc ((((F43_ok a1 x2 h3).cp rfl _).trans (congrArg (fun z => some (vb z)) h4)) : CP prg 43 [(aG a1), (.agg ((eForb x2).map .p))] [bG a1] = some (vb true)) (apc ((okT_of rfl (abl_cons rfl rfl)) : okT 1 [bG a1] = true) (apc (e5 : evH prg 1 [1, 6, 7] ir12_l2 (L12_2_s v1 a1 0) = some ((.brk 8), ⟨fr 160 g5 [(1, (.ptr 0 0)), (6, (i6 v1))], [bG a1]⟩)) (apc ((okT_of rfl (abl_cons rfl rfl)) : okT 1 [bG a1] = true) apn))))))) (by kernel_rfl)
  ·
   rw [← sj h]
   exact xretY (n := 30) [(89, .v (i6 (a1.forbid.length : Int))), (90, .d true), (97, .v (.ro (eForb x2))), (99, .v (vb false)), (6000, .d true)] (apc (lg a1.forbid eForb 3) (apc (cv h1) (apc (ig eForb 3 .i64 h2) (apc ((((F43_ok a1 x2 h3).cp rfl _).trans (congrArg (fun z => some (vb z)) h4)) : CP prg 43 [(aG a1), (.agg ((eForb x2).map .p))] [bG a1] = some (vb false)) apn)))) (by kernel_rfl)
 ·
  rw [← sj h]
  exact xbrk (n := 30) [(89, .v (i6 (a1.forbid.length : Int))), (90, .d false), (6000, .d true)] (apc (lg a1.forbid eForb 3) (apc (cv h1) apn)) (by kernel_rfl)
theorem L12_3_run (a1 : GramD) (s0 : Int) (e : E_L12_3) (h : runL (fun s => L12_3 a1 s) s0 = some e) : L12_3_x a1 e (evH prg 1 [1, 6] ir12_l3 (L12_3_s a1 s0)) := by
  have q := @loop_sound' (Int) E_L12_3 (fun s => L12_3 a1 s) (fun s => evH prg 1 [1, 6] ir12_l3 (L12_3_s a1 s)) (L12_3_x a1) (fun s r h => L12_3_ok a1 s h) s0 e h
  exact q
noncomputable def F41_4 (a1 : GramD) (a2 : FollD) : Option Bool :=
  (bif (decide (a2.sort ≥ 0)) then (some (decide (a2.sort < (a1.sorts.length : Int)))) else (some false))
def F41_4_v (a1 : GramD) (a2 : FollD) (x0 : Bool) : AV := (vb x0)
theorem F41_4_ok (a1 : GramD) (a2 : FollD) {r : Bool} (h : F41_4 a1 a2 = some r) : PR1 prg 41 [(aG a1), (i6 a2.sort)] (F41_4_v a1 a2 r) := by
 unfold F41_4 at h
 refine bi h (fun h1 h => ?_) fun h1 h => ?_
 ·
  rw [← sj h]
  exact fpr (n := 30) [(6, .d true), (11, .v (i6 (a1.sorts.length : Int)))] (apc (cv h1) (apc (lg a1.sorts eStr 1) apn)) rfl (by kernel_rfl)
 ·
  rw [← sj h]
  exact fpr (n := 30) [(6, .d false)] (apc (cv h1) apn) rfl (by kernel_rfl)
noncomputable def F44_2 (a1 : FollD) : Option Bool :=
  (some ((IntKind.wrap .u64 ((BitVec.ofInt (IntKind.bits .u64) (IntKind.wrap .u64 ((BitVec.ofInt (IntKind.bits .u64) (IntKind.wrap .u64 ((BitVec.ofInt (IntKind.bits .u64) a1.a ||| BitVec.ofInt (IntKind.bits .u64) a1.b).toNat : Int)) ||| BitVec.ofInt (IntKind.bits .u64) a1.c).toNat : Int)) ||| BitVec.ofInt (IntKind.bits .u64) a1.d).toNat : Int)) == 0))
def F44_2_v (a1 : FollD) (x0 : Bool) : AV := (vb x0)
theorem F44_2_ok (a1 : FollD) {r : Bool} (h : F44_2 a1 = some r) : PR1 prg 44 [(.agg ((List.drop 1 (eFoll a1)).map .p))] (F44_2_v a1 r) := by
 unfold F44_2 at h
 rw [← sj h]
 exact fpr (n := 30) [] apn rfl (by kernel_rfl)
inductive E_L12_0 where
  | k0
  | k1
noncomputable def L12_0 (a1 : Int) (a2 : GramD) (v1 : Int) : Option (E_L12_0 ⊕ (Int)) :=
  (bif (decide (v1 < a1)) then ((getI a2.follow v1).bind fun x2 => ((getI a2.follow a1).bind fun x3 => (bif (x2.sort == x3.sort) then (some (.inl (.k0))) else (some (.inr ((IntKind.wrap .i64 (v1 + 1)))))))) else (some (.inl (.k1))))
def L12_0_s (a1 : Int) (a2 : GramD) (v1 : Int) : St := ⟨fr 160 ug [(1, (.ptr 0 0)), (8, (i6 a1)), (9, (i6 v1))], [bG a2]⟩
def L12_0_x (a1 : Int) (a2 : GramD) (e : E_L12_0) (r : Option (Out × St)) : Prop := match e with | .k0 => ∃ g y, r = some (.ret, ⟨fr 160 g [(2, (i6 160))], y⟩) | .k1 => ∃ g, r = some ((.brk 12), ⟨fr 160 g [(1, (.ptr 0 0)), (8, (i6 a1))], [bG a2]⟩)
theorem L12_0_ok (a1 : Int) (a2 : GramD) (v1 : Int) {r : E_L12_0 ⊕ (Int)} (h : L12_0 a1 a2 v1 = some r) : OkR (fun e => L12_0_x a1 a2 e (evH prg 1 [1, 8, 9] ir12_l0 (L12_0_s a1 a2 v1))) (fun s => evH prg 1 [1, 8, 9] ir12_l0 (L12_0_s a1 a2 v1) = evH prg 1 [1, 8, 9] ir12_l0 (L12_0_s a1 a2 s)) r := by
 unfold L12_0 at h
 refine bi h (fun h1 h => ?_) fun h1 h => ?_
 ·
  refine bn h fun x2 h2 h => ?_
  refine bn h fun x3 h3 h => ?_
  refine bi h (fun h4 h => ?_) fun h4 h => ?_
  ·
   rw [← sj h]
   exact xretY (n := 30) [(144, .d true), (150, .v (.ro (eFoll x2))), (156, .v (.ro (eFoll x3))), (159, .d true), (6000, .d true)] (apc (cv h1) (apc (ig eFoll 5 .i64 h2) (apc (ig eFoll 5 .i64 h3) (apc (cv h4) apn)))) (by kernel_rfl)
  ·
   rw [← sj h]
   exact rnd (n := 30) [(144, .d true), (150, .v (.ro (eFoll x2))), (156, .v (.ro (eFoll x3))), (159, .d false), (6000, .d true)] (apc (cv h1) (apc (ig eFoll 5 .i64 h2) (apc (ig eFoll 5 .i64 h3) (apc (cv h4) (apc ((okT_of rfl (abl_cons rfl rfl)) : okT 1 [bG a2] = true) apn))))) (by kernel_rfl)
 ·
  rw [← sj h]
  exact xbrk (n := 30) [(144, .d false), (6000, .d true)] (apc (cv h1) apn) (by kernel_rfl)
theorem L12_0_run (a1 : Int) (a2 : GramD) (s0 : Int) (e : E_L12_0) (h : runL (fun s => L12_0 a1 a2 s) s0 = some e) : L12_0_x a1 a2 e (evH prg 1 [1, 8, 9] ir12_l0 (L12_0_s a1 a2 s0)) := by
  have q := @loop_sound' (Int) E_L12_0 (fun s => L12_0 a1 a2 s) (fun s => evH prg 1 [1, 8, 9] ir12_l0 (L12_0_s a1 a2 s)) (L12_0_x a1 a2) (fun s r h => L12_0_ok a1 a2 s h) s0 e h
  exact q
inductive E_L12_1 where
  | k0
  | k1
noncomputable def L12_1 (a1 : GramD) (v1 : Int) : Option (E_L12_1 ⊕ (Int)) :=
  (bif (decide (v1 < (a1.follow.length : Int))) then ((getI a1.follow v1).bind fun x2 => ((F41_4 a1 x2).bind fun x3 => (bif x3 then ((F44_2 x2).bind fun x5 => (bif x5 then (some (.inl (.k0))) else ((runL (fun s => L12_0 v1 a1 s) 0).bind fun r7 => match r7 with | .k0 => (some (.inl (.k0))) | .k1 => (some (.inr ((IntKind.wrap .i64 (v1 + 1)))))))) else (some (.inl (.k0)))))) else (some (.inl (.k1))))
def L12_1_s (a1 : GramD) (v1 : Int) : St := ⟨fr 160 ug [(1, (.ptr 0 0)), (8, (i6 v1))], [bG a1]⟩
def L12_1_x (a1 : GramD) (e : E_L12_1) (r : Option (Out × St)) : Prop := match e with | .k0 => ∃ g y, r = some (.ret, ⟨fr 160 g [(2, (i6 160))], y⟩) | .k1 => ∃ g, r = some ((.brk 10), ⟨fr 160 g [(1, (.ptr 0 0))], [bG a1]⟩)
theorem L12_1_ok (a1 : GramD) (v1 : Int) {r : E_L12_1 ⊕ (Int)} (h : L12_1 a1 v1 = some r) : OkR (fun e => L12_1_x a1 e (evH prg 1 [1, 8] ir12_l1 (L12_1_s a1 v1))) (fun s => evH prg 1 [1, 8] ir12_l1 (L12_1_s a1 v1) = evH prg 1 [1, 8] ir12_l1 (L12_1_s a1 s)) r := by
 unfold L12_1 at h
 refine bi h (fun h1 h => ?_) fun h1 h => ?_
 ·
  refine bn h fun x2 h2 h => ?_
  refine bn h fun x3 h3 h => ?_
  refine bi h (fun h4 h => ?_) fun h4 h => ?_
  ·
   refine bn h fun x5 h5 h => ?_
   refine bi h (fun h6 h => ?_) fun h6 h => ?_
   ·
    rw [← sj h]
    exact xretY (n := 30) [(120, .v (i6 (a1.follow.length : Int))), (121, .d true), (128, .v (.ro (eFoll x2))), (131, .v (vb true)), (137, .v (.ro (eFoll x2))), (140, .v (vb true)), (6000, .d true)] (apc (lg a1.follow eFoll 5) (apc (cv h1) (apc (ig eFoll 5 .i64 h2) (apc ((((F41_4_ok a1 x2 h3).cp rfl _).trans (congrArg (fun z => some (vb z)) h4)) : CP prg 41 [(aG a1), (i6 x2.sort)] [bG a1] = some (vb true)) (apc (ig eFoll 5 .i64 h2) (apc ((((F44_2_ok x2 h5).cp rfl _).trans (congrArg (fun z => some (vb z)) h6)) : CP prg 44 [(.agg ((List.drop 1 (eFoll x2)).map .p))] [bG a1] = some (vb true)) apn)))))) (by kernel_rfl)
   ·
    refine bn h fun r7 h7 h => ?_
    cases r7 with
    | k0 =>
     obtain ⟨g7, y7, e7⟩ := L12_0_run v1 a1 0 _ h7
     rw [← sj h]
     exact xretY (n := 30) [(120, .v (i6 (a1.follow.length : Int))), (121, .d true), (128, .v (.ro (eFoll x2))), (131, .v (vb true)), (137, .v (.ro (eFoll x2))), (140, .v (vb false)), (2012, .l .ret ⟨fr 160 g7 [(2, (i6 160))], y7⟩), (6000, .d true)] (apc (lg a1.follow eFoll 5) (apc (cv h1) (apc (ig eFoll 5 .i64 h2) (apc ((((F41_4_ok a1 x2 h3).cp rfl _).trans (congrArg (fun z => some (vb z)) h4)) : CP prg 41 [(aG a1), (i6 x2.sort)] [bG a1] = some (vb true)) (apc (ig eFoll 5 .i64 h2) (apc ((((F44_2_ok x2 h5).cp rfl _).trans (congrArg (fun z => some (vb z)) h6)) : CP prg 44 [(.agg ((List.drop 1 (eFoll x2)).map .p))] [bG a1] = some (vb false)) (apc ((okT_of rfl (abl_cons rfl rfl)) : okT 1 [bG a1] = true) (apc (e7 : evH prg 1 [1, 8, 9] ir12_l0 (L12_0_s v1 a1 0) = some (.ret, ⟨fr 160 g7 [(2, (i6 160))], y7⟩)) apn)))))))) (by kernel_rfl)
    | k1 =>
     obtain ⟨g7, e7⟩ := L12_0_run v1 a1 0 _ h7
     rw [← sj h]
     exact rnd (n := 30) [(120, .v (i6 (a1.follow.length : Int))), (121, .d true), (128, .v (.ro (eFoll x2))), (131, .v (vb true)), (137, .v (.ro (eFoll x2))), (140, .v (vb false)), (2012, .l (.brk 12) ⟨fr 160 g7 [(1, (.ptr 0 0)), (8, (i6 v1))], [bG a1]⟩), (6000, .d true)] (apc (lg a1.follow eFoll 5) (apc (cv h1) (apc (ig eFoll 5 .i64 h2) (apc ((((F41_4_ok a1 x2 h3).cp rfl _).trans (congrArg (fun z => some (vb z)) h4)) : CP prg 41 [(aG a1), (i6 x2.sort)] [bG a1] = some (vb true)) (apc (ig eFoll 5 .i64 h2) (apc ((((F44_2_ok x2 h5).cp rfl _).trans (congrArg (fun z => some (vb z)) h6)) : CP prg 44 [(.agg ((List.drop 1 (eFoll x2)).map .p))] [bG a1] = some (vb false)) (apc ((okT_of rfl (abl_cons rfl rfl)) : okT 1 [bG a1] = true) (apc (e7 : evH prg 1 [1, 8, 9] ir12_l0 (L12_0_s v1 a1 0) = some ((.brk 12), ⟨fr 160 g7 [(1, (.ptr 0 0)), (8, (i6 v1))], [bG a1]⟩)) (apc ((okT_of rfl (abl_cons rfl rfl)) : okT 1 [bG a1] = true) apn))))))))) (by kernel_rfl)
  ·
   rw [← sj h]
   exact xretY (n := 30) [(120, .v (i6 (a1.follow.length : Int))), (121, .d true), (128, .v (.ro (eFoll x2))), (131, .v (vb false)), (6000, .d true)] (apc (lg a1.follow eFoll 5) (apc (cv h1) (apc (ig eFoll 5 .i64 h2) (apc ((((F41_4_ok a1 x2 h3).cp rfl _).trans (congrArg (fun z => some (vb z)) h4)) : CP prg 41 [(aG a1), (i6 x2.sort)] [bG a1] = some (vb false)) apn)))) (by kernel_rfl)
 ·
  rw [← sj h]
  exact xbrk (n := 30) [(120, .v (i6 (a1.follow.length : Int))), (121, .d false), (6000, .d true)] (apc (lg a1.follow eFoll 5) (apc (cv h1) apn)) (by kernel_rfl)
theorem L12_1_run (a1 : GramD) (s0 : Int) (e : E_L12_1) (h : runL (fun s => L12_1 a1 s) s0 = some e) : L12_1_x a1 e (evH prg 1 [1, 8] ir12_l1 (L12_1_s a1 s0)) := by
  have q := @loop_sound' (Int) E_L12_1 (fun s => L12_1 a1 s) (fun s => evH prg 1 [1, 8] ir12_l1 (L12_1_s a1 s)) (L12_1_x a1) (fun s r h => L12_1_ok a1 s h) s0 e h
  exact q
noncomputable def F12 (a1 : GramD) : Option Int :=
  (bif (decide ((a1.sorts.length : Int) < 1)) then (some 160) else (bif (decide ((a1.sorts.length : Int) > 1000)) then (some 160) else (bif (decide ((a1.prods.length : Int) > 1000)) then (some 160) else ((F41 a1).bind fun x4 => (bif x4 then ((runL (fun s => L12_6 a1 s) 0).bind fun r6 => match r6 with | .k0 => (some 160) | .k1 => ((runL (fun s => L12_4 a1 s) 0).bind fun r7 => match r7 with | .k0 => (some 160) | .k1 => ((runL (fun s => L12_3 a1 s) 0).bind fun r8 => match r8 with | .k0 => (some 160) | .k1 => ((runL (fun s => L12_1 a1 s) 0).bind fun r9 => match r9 with | .k0 => (some 160) | .k1 => (some 0))))) else (some 160))))))
def F12_v (a1 : GramD) (x0 : Int) : AV := (i6 x0)
theorem F12_ok (a1 : GramD) {r : Int} (h : F12 a1 = some r) : PR1 prg 12 [(aG a1)] (F12_v a1 r) := by
 unfold F12 at h
 refine bi h (fun h1 h => ?_) fun h1 h => ?_
 ·
  rw [← sj h]
  exact fpr (n := 30) [(12, .v (i6 (a1.sorts.length : Int))), (13, .d true)] (apc (lg a1.sorts eStr 1) (apc (cv h1) apn)) rfl (by kernel_rfl)
 ·
  refine bi h (fun h2 h => ?_) fun h2 h => ?_
  ·
   rw [← sj h]
   exact fpr (n := 30) [(12, .v (i6 (a1.sorts.length : Int))), (13, .d false), (17, .v (i6 (a1.sorts.length : Int))), (18, .d true)] (apc (lg a1.sorts eStr 1) (apc (cv h1) (apc (lg a1.sorts eStr 1) (apc (cv h2) apn)))) rfl (by kernel_rfl)
  ·
   refine bi h (fun h3 h => ?_) fun h3 h => ?_
   ·
    rw [← sj h]
    exact fpr (n := 30) [(12, .v (i6 (a1.sorts.length : Int))), (13, .d false), (17, .v (i6 (a1.sorts.length : Int))), (18, .d false), (23, .v (i6 (a1.prods.length : Int))), (24, .d true)] (apc (lg a1.sorts eStr 1) (apc (cv h1) (apc (lg a1.sorts eStr 1) (apc (cv h2) (apc (lg a1.prods eProd 7) (apc (cv h3) apn)))))) rfl (by kernel_rfl)
   ·
    refine bn h fun x4 h4 h => ?_
    refine bi h (fun h5 h => ?_) fun h5 h => ?_
    ·
     refine bn h fun r6 h6 h => ?_
     cases r6 with
     | k0 =>
      obtain ⟨g6, y6, e6⟩ := L12_6_run a1 0 _ h6
      rw [← sj h]
      exact fpr (n := 30) [(12, .v (i6 (a1.sorts.length : Int))), (13, .d false), (17, .v (i6 (a1.sorts.length : Int))), (18, .d false), (23, .v (i6 (a1.prods.length : Int))), (24, .d false), (30, .v (vb true)), (2000, .l .ret ⟨fr 160 g6 [(2, (i6 160))], y6⟩), (6000, .d true)] (apc (lg a1.sorts eStr 1) (apc (cv h1) (apc (lg a1.sorts eStr 1) (apc (cv h2) (apc (lg a1.prods eProd 7) (apc (cv h3) (apc ((((F41_ok a1 h4).cp rfl _).trans (congrArg (fun z => some (vb z)) h5)) : CP prg 41 [(aG a1), (i6 a1.start)] [bG a1] = some (vb true)) (apc ((okT_of rfl (abl_cons rfl rfl)) : okT 1 [bG a1] = true) (apc (e6 : evH prg 1 [1, 3] ir12_l6 (L12_6_s a1 0) = some (.ret, ⟨fr 160 g6 [(2, (i6 160))], y6⟩)) apn))))))))) rfl (by kernel_rfl)
     | k1 =>
      obtain ⟨g6, e6⟩ := L12_6_run a1 0 _ h6
      refine bn h fun r7 h7 h => ?_
      cases r7 with
      | k0 =>
       obtain ⟨g7, y7, e7⟩ := L12_4_run a1 0 _ h7
       rw [← sj h]
       exact fpr (n := 30) [(12, .v (i6 (a1.sorts.length : Int))), (13, .d false), (17, .v (i6 (a1.sorts.length : Int))), (18, .d false), (23, .v (i6 (a1.prods.length : Int))), (24, .d false), (30, .v (vb true)), (2000, .l (.brk 0) ⟨fr 160 g6 [(1, (.ptr 0 0))], [bG a1]⟩), (2004, .l .ret ⟨fr 160 g7 [(2, (i6 160))], y7⟩), (6000, .d true)] (apc (lg a1.sorts eStr 1) (apc (cv h1) (apc (lg a1.sorts eStr 1) (apc (cv h2) (apc (lg a1.prods eProd 7) (apc (cv h3) (apc ((((F41_ok a1 h4).cp rfl _).trans (congrArg (fun z => some (vb z)) h5)) : CP prg 41 [(aG a1), (i6 a1.start)] [bG a1] = some (vb true)) (apc ((okT_of rfl (abl_cons rfl rfl)) : okT 1 [bG a1] = true) (apc (e6 : evH prg 1 [1, 3] ir12_l6 (L12_6_s a1 0) = some ((.brk 0), ⟨fr 160 g6 [(1, (.ptr 0 0))], [bG a1]⟩)) (apc ((okT_of rfl (abl_cons rfl rfl)) : okT 1 [bG a1] = true) (apc (e7 : evH prg 1 [1, 5] ir12_l4 (L12_4_s a1 0) = some (.ret, ⟨fr 160 g7 [(2, (i6 160))], y7⟩)) apn))))))))))) rfl (by kernel_rfl)
      | k1 =>
       obtain ⟨g7, e7⟩ := L12_4_run a1 0 _ h7
       refine bn h fun r8 h8 h => ?_
       cases r8 with
       | k0 =>
        obtain ⟨g8, y8, e8⟩ := L12_3_run a1 0 _ h8
        rw [← sj h]
        exact fpr (n := 30) [(12, .v (i6 (a1.sorts.length : Int))), (13, .d false), (17, .v (i6 (a1.sorts.length : Int))), (18, .d false), (23, .v (i6 (a1.prods.length : Int))), (24, .d false), (30, .v (vb true)), (2000, .l (.brk 0) ⟨fr 160 g6 [(1, (.ptr 0 0))], [bG a1]⟩), (2004, .l (.brk 4) ⟨fr 160 g7 [(1, (.ptr 0 0))], [bG a1]⟩), (2006, .l .ret ⟨fr 160 g8 [(2, (i6 160))], y8⟩), (6000, .d true)] (apc (lg a1.sorts eStr 1) (apc (cv h1) (apc (lg a1.sorts eStr 1) (apc (cv h2) (apc (lg a1.prods eProd 7) (apc (cv h3) (apc ((((F41_ok a1 h4).cp rfl _).trans (congrArg (fun z => some (vb z)) h5)) : CP prg 41 [(aG a1), (i6 a1.start)] [bG a1] = some (vb true)) (apc ((okT_of rfl (abl_cons rfl rfl)) : okT 1 [bG a1] = true) (apc (e6 : evH prg 1 [1, 3] ir12_l6 (L12_6_s a1 0) = some ((.brk 0), ⟨fr 160 g6 [(1, (.ptr 0 0))], [bG a1]⟩)) (apc ((okT_of rfl (abl_cons rfl rfl)) : okT 1 [bG a1] = true) (apc (e7 : evH prg 1 [1, 5] ir12_l4 (L12_4_s a1 0) = some ((.brk 4), ⟨fr 160 g7 [(1, (.ptr 0 0))], [bG a1]⟩)) (apc ((okT_of rfl (abl_cons rfl rfl)) : okT 1 [bG a1] = true) (apc (e8 : evH prg 1 [1, 6] ir12_l3 (L12_3_s a1 0) = some (.ret, ⟨fr 160 g8 [(2, (i6 160))], y8⟩)) apn))))))))))))) rfl (by kernel_rfl)
       | k1 =>
        obtain ⟨g8, e8⟩ := L12_3_run a1 0 _ h8
        refine bn h fun r9 h9 h => ?_
        cases r9 with
        | k0 =>
         obtain ⟨g9, y9, e9⟩ := L12_1_run a1 0 _ h9
         rw [← sj h]
         exact fpr (n := 30) [(12, .v (i6 (a1.sorts.length : Int))), (13, .d false), (17, .v (i6 (a1.sorts.length : Int))), (18, .d false), (23, .v (i6 (a1.prods.length : Int))), (24, .d false), (30, .v (vb true)), (2000, .l (.brk 0) ⟨fr 160 g6 [(1, (.ptr 0 0))], [bG a1]⟩), (2004, .l (.brk 4) ⟨fr 160 g7 [(1, (.ptr 0 0))], [bG a1]⟩), (2006, .l (.brk 6) ⟨fr 160 g8 [(1, (.ptr 0 0))], [bG a1]⟩), (2010, .l .ret ⟨fr 160 g9 [(2, (i6 160))], y9⟩), (6000, .d true)] (apc (lg a1.sorts eStr 1) (apc (cv h1) (apc (lg a1.sorts eStr 1) (apc (cv h2) (apc (lg a1.prods eProd 7) (apc (cv h3) (apc ((((F41_ok a1 h4).cp rfl _).trans (congrArg (fun z => some (vb z)) h5)) : CP prg 41 [(aG a1), (i6 a1.start)] [bG a1] = some (vb true)) (apc ((okT_of rfl (abl_cons rfl rfl)) : okT 1 [bG a1] = true) (apc (e6 : evH prg 1 [1, 3] ir12_l6 (L12_6_s a1 0) = some ((.brk 0), ⟨fr 160 g6 [(1, (.ptr 0 0))], [bG a1]⟩)) (apc ((okT_of rfl (abl_cons rfl rfl)) : okT 1 [bG a1] = true) (apc (e7 : evH prg 1 [1, 5] ir12_l4 (L12_4_s a1 0) = some ((.brk 4), ⟨fr 160 g7 [(1, (.ptr 0 0))], [bG a1]⟩)) (apc ((okT_of rfl (abl_cons rfl rfl)) : okT 1 [bG a1] = true) (apc (e8 : evH prg 1 [1, 6] ir12_l3 (L12_3_s a1 0) = some ((.brk 6), ⟨fr 160 g8 [(1, (.ptr 0 0))], [bG a1]⟩)) (apc ((okT_of rfl (abl_cons rfl rfl)) : okT 1 [bG a1] = true) (apc (e9 : evH prg 1 [1, 8] ir12_l1 (L12_1_s a1 0) = some (.ret, ⟨fr 160 g9 [(2, (i6 160))], y9⟩)) apn))))))))))))))) rfl (by kernel_rfl)
        | k1 =>
         obtain ⟨g9, e9⟩ := L12_1_run a1 0 _ h9
         rw [← sj h]
         exact fpr (n := 30) [(12, .v (i6 (a1.sorts.length : Int))), (13, .d false), (17, .v (i6 (a1.sorts.length : Int))), (18, .d false), (23, .v (i6 (a1.prods.length : Int))), (24, .d false), (30, .v (vb true)), (2000, .l (.brk 0) ⟨fr 160 g6 [(1, (.ptr 0 0))], [bG a1]⟩), (2004, .l (.brk 4) ⟨fr 160 g7 [(1, (.ptr 0 0))], [bG a1]⟩), (2006, .l (.brk 6) ⟨fr 160 g8 [(1, (.ptr 0 0))], [bG a1]⟩), (2010, .l (.brk 10) ⟨fr 160 g9 [(1, (.ptr 0 0))], [bG a1]⟩), (6000, .d true)] (apc (lg a1.sorts eStr 1) (apc (cv h1) (apc (lg a1.sorts eStr 1) (apc (cv h2) (apc (lg a1.prods eProd 7) (apc (cv h3) (apc ((((F41_ok a1 h4).cp rfl _).trans (congrArg (fun z => some (vb z)) h5)) : CP prg 41 [(aG a1), (i6 a1.start)] [bG a1] = some (vb true)) (apc ((okT_of rfl (abl_cons rfl rfl)) : okT 1 [bG a1] = true) (apc (e6 : evH prg 1 [1, 3] ir12_l6 (L12_6_s a1 0) = some ((.brk 0), ⟨fr 160 g6 [(1, (.ptr 0 0))], [bG a1]⟩)) (apc ((okT_of rfl (abl_cons rfl rfl)) : okT 1 [bG a1] = true) (apc (e7 : evH prg 1 [1, 5] ir12_l4 (L12_4_s a1 0) = some ((.brk 4), ⟨fr 160 g7 [(1, (.ptr 0 0))], [bG a1]⟩)) (apc ((okT_of rfl (abl_cons rfl rfl)) : okT 1 [bG a1] = true) (apc (e8 : evH prg 1 [1, 6] ir12_l3 (L12_3_s a1 0) = some ((.brk 6), ⟨fr 160 g8 [(1, (.ptr 0 0))], [bG a1]⟩)) (apc ((okT_of rfl (abl_cons rfl rfl)) : okT 1 [bG a1] = true) (apc (e9 : evH prg 1 [1, 8] ir12_l1 (L12_1_s a1 0) = some ((.brk 10), ⟨fr 160 g9 [(1, (.ptr 0 0))], [bG a1]⟩)) apn))))))))))))))) rfl (by kernel_rfl)
    ·
     rw [← sj h]
     exact fpr (n := 30) [(12, .v (i6 (a1.sorts.length : Int))), (13, .d false), (17, .v (i6 (a1.sorts.length : Int))), (18, .d false), (23, .v (i6 (a1.prods.length : Int))), (24, .d false), (30, .v (vb false))] (apc (lg a1.sorts eStr 1) (apc (cv h1) (apc (lg a1.sorts eStr 1) (apc (cv h2) (apc (lg a1.prods eProd 7) (apc (cv h3) (apc ((((F41_ok a1 h4).cp rfl _).trans (congrArg (fun z => some (vb z)) h5)) : CP prg 41 [(aG a1), (i6 a1.start)] [bG a1] = some (vb false)) apn))))))) rfl (by kernel_rfl)
inductive E_L57_0 where
  | k0
  | k1 (x0 : List (ByteArray × Int))
noncomputable def L57_0 (a1 : GramD) (a2 : Int) (v1 : Int) (v2 : List (ByteArray × Int)) : Option (E_L57_0 ⊕ (Int × (List (ByteArray × Int)))) :=
  (bif (decide (v1 < a2)) then ((getI a1.sorts v1).bind fun x2 => (bif (x2.toList == (⟨([] : List UInt8).toArray⟩ : ByteArray).toList) then (some (.inl (.k0))) else (bif (decide ((x2.size : Int) > 1000)) then (some (.inl (.k0))) else (bif (decide ((mget 0 (mput x2 (IntKind.wrap .i64 ((mget 0 v2 x2) + 1)) v2) x2) > 1)) then (some (.inl (.k0))) else (some (.inr ((IntKind.wrap .i64 (v1 + 1)), (mput x2 (IntKind.wrap .i64 ((mget 0 v2 x2) + 1)) v2)))))))) else (some (.inl (.k1 v2))))
def L57_0_s (a1 : GramD) (a2 : Int) (v1 : Int) (v2 : List (ByteArray × Int)) : St := ⟨fr 55 ug [(1, (.ptr 0 0)), (3, (.mp 1)), (8, (.p (.lst 1 (a1.sorts.map eStr)))), (9, (i6 a2)), (10, (i6 v1))], [bG a1, mSI v2]⟩
def L57_0_x (a1 : GramD) (a2 : Int) (e : E_L57_0) (r : Option (Out × St)) : Prop := match e with | .k0 => ∃ g y, r = some (.ret, ⟨fr 55 g [(2, (vb false))], y⟩) | .k1 x0 => ∃ g, r = some ((.brk 0), ⟨fr 55 g [(1, (.ptr 0 0)), (8, (.p (.lst 1 (a1.sorts.map eStr))))], [bG a1, mSI x0]⟩)
theorem L57_0_ok (a1 : GramD) (a2 : Int) (v1 : Int) (v2 : List (ByteArray × Int)) {r : E_L57_0 ⊕ (Int × (List (ByteArray × Int)))} (h : L57_0 a1 a2 v1 v2 = some r) : OkR (fun e => L57_0_x a1 a2 e (evH prg 2 [1, 3, 8, 9, 10] ir57_l0 (L57_0_s a1 a2 v1 v2))) (fun s => evH prg 2 [1, 3, 8, 9, 10] ir57_l0 (L57_0_s a1 a2 v1 v2) = evH prg 2 [1, 3, 8, 9, 10] ir57_l0 (L57_0_s a1 a2 s.1 s.2)) r := by
 unfold L57_0 at h
 refine bi h (fun h1 h => ?_) fun h1 h => ?_
 ·
  refine bn h fun x2 h2 h => ?_
  refine bi h (fun h3 h => ?_) fun h3 h => ?_
  ·
   rw [← sj h]
   exact xretY (n := 30) [(11, .d true), (12, .v (.ro [.val (.string x2)])), (16, .v (i6 (mget 0 v2 x2))), (7017, .r ud [bG a1, .map (mrow (fun s => vs s) (fun n => vi .i64 n) (mput x2 (w6 ((mget 0 v2 x2) + 1)) v2))]), (19, .d true), (6000, .d true)] (apc (cv h1) (apc (ig eStr 1 .i64 h2) (apc ((lk_row key_str (es := v2) (k := x2) (z := 0) rfl rfl) : lkA [bG a1, mSI v2] [2] .false .false [(.val (.int .i64 0))] .false (.mp 1) (vs x2) = some (i6 (mget 0 v2 x2))) (apc (⟨up_row key_str (es := v2) (k := x2) (v := (w6 ((mget 0 v2 x2) + 1))) rfl, rfl⟩ : upA [bG a1, mSI v2] [2] .false (.mp 1) (vs x2) (i6 (w6 ((mget 0 v2 x2) + 1))) = some [bG a1, .map (mrow (fun s => vs s) (fun n => vi .i64 n) (mput x2 (w6 ((mget 0 v2 x2) + 1)) v2))] ∧ ud = ud) (apc (cv h3) apn))))) (by kernel_rfl)
  ·
   refine bi h (fun h4 h => ?_) fun h4 h => ?_
   ·
    rw [← sj h]
    exact xretY (n := 30) [(11, .d true), (12, .v (.ro [.val (.string x2)])), (16, .v (i6 (mget 0 v2 x2))), (7017, .r ud [bG a1, .map (mrow (fun s => vs s) (fun n => vi .i64 n) (mput x2 (w6 ((mget 0 v2 x2) + 1)) v2))]), (19, .d false), (23, .d true), (6000, .d true)] (apc (cv h1) (apc (ig eStr 1 .i64 h2) (apc ((lk_row key_str (es := v2) (k := x2) (z := 0) rfl rfl) : lkA [bG a1, mSI v2] [2] .false .false [(.val (.int .i64 0))] .false (.mp 1) (vs x2) = some (i6 (mget 0 v2 x2))) (apc (⟨up_row key_str (es := v2) (k := x2) (v := (w6 ((mget 0 v2 x2) + 1))) rfl, rfl⟩ : upA [bG a1, mSI v2] [2] .false (.mp 1) (vs x2) (i6 (w6 ((mget 0 v2 x2) + 1))) = some [bG a1, .map (mrow (fun s => vs s) (fun n => vi .i64 n) (mput x2 (w6 ((mget 0 v2 x2) + 1)) v2))] ∧ ud = ud) (apc (cv h3) (apc (cv h4) apn)))))) (by kernel_rfl)
   ·
    refine bi h (fun h5 h => ?_) fun h5 h => ?_
    ·
     rw [← sj h]
     exact xretY (n := 30) [(11, .d true), (12, .v (.ro [.val (.string x2)])), (16, .v (i6 (mget 0 v2 x2))), (7017, .r ud [bG a1, .map (mrow (fun s => vs s) (fun n => vi .i64 n) (mput x2 (w6 ((mget 0 v2 x2) + 1)) v2))]), (19, .d false), (23, .d false), (28, .v (i6 (mget 0 (mput x2 (w6 ((mget 0 v2 x2) + 1)) v2) x2))), (29, .d true), (6000, .d true)] (apc (cv h1) (apc (ig eStr 1 .i64 h2) (apc ((lk_row key_str (es := v2) (k := x2) (z := 0) rfl rfl) : lkA [bG a1, mSI v2] [2] .false .false [(.val (.int .i64 0))] .false (.mp 1) (vs x2) = some (i6 (mget 0 v2 x2))) (apc (⟨up_row key_str (es := v2) (k := x2) (v := (w6 ((mget 0 v2 x2) + 1))) rfl, rfl⟩ : upA [bG a1, mSI v2] [2] .false (.mp 1) (vs x2) (i6 (w6 ((mget 0 v2 x2) + 1))) = some [bG a1, .map (mrow (fun s => vs s) (fun n => vi .i64 n) (mput x2 (w6 ((mget 0 v2 x2) + 1)) v2))] ∧ ud = ud) (apc (cv h3) (apc (cv h4) (apc ((lk_row key_str (es := (mput x2 (w6 ((mget 0 v2 x2) + 1)) v2)) (k := x2) (z := 0) rfl rfl) : lkA [bG a1, .map (mrow (fun s => vs s) (fun n => vi .i64 n) (mput x2 (w6 ((mget 0 v2 x2) + 1)) v2))] [2] .false .false [(.val (.int .i64 0))] .false (.mp 1) (vs x2) = some (i6 (mget 0 (mput x2 (w6 ((mget 0 v2 x2) + 1)) v2) x2))) (apc (cv h5) apn)))))))) (by kernel_rfl)
    ·
     rw [← sj h]
     exact rnd (n := 30) [(11, .d true), (12, .v (.ro [.val (.string x2)])), (16, .v (i6 (mget 0 v2 x2))), (7017, .r ud [bG a1, .map (mrow (fun s => vs s) (fun n => vi .i64 n) (mput x2 (w6 ((mget 0 v2 x2) + 1)) v2))]), (19, .d false), (23, .d false), (28, .v (i6 (mget 0 (mput x2 (w6 ((mget 0 v2 x2) + 1)) v2) x2))), (29, .d false), (6000, .d true)] (apc (cv h1) (apc (ig eStr 1 .i64 h2) (apc ((lk_row key_str (es := v2) (k := x2) (z := 0) rfl rfl) : lkA [bG a1, mSI v2] [2] .false .false [(.val (.int .i64 0))] .false (.mp 1) (vs x2) = some (i6 (mget 0 v2 x2))) (apc (⟨up_row key_str (es := v2) (k := x2) (v := (w6 ((mget 0 v2 x2) + 1))) rfl, rfl⟩ : upA [bG a1, mSI v2] [2] .false (.mp 1) (vs x2) (i6 (w6 ((mget 0 v2 x2) + 1))) = some [bG a1, .map (mrow (fun s => vs s) (fun n => vi .i64 n) (mput x2 (w6 ((mget 0 v2 x2) + 1)) v2))] ∧ ud = ud) (apc (cv h3) (apc (cv h4) (apc ((lk_row key_str (es := (mput x2 (w6 ((mget 0 v2 x2) + 1)) v2)) (k := x2) (z := 0) rfl rfl) : lkA [bG a1, .map (mrow (fun s => vs s) (fun n => vi .i64 n) (mput x2 (w6 ((mget 0 v2 x2) + 1)) v2))] [2] .false .false [(.val (.int .i64 0))] .false (.mp 1) (vs x2) = some (i6 (mget 0 (mput x2 (w6 ((mget 0 v2 x2) + 1)) v2) x2))) (apc (cv h5) (apc ((okT_of rfl (abl_cons rfl (abl_cons (abl_map (fun _ => rfl) (fun _ => rfl)) rfl))) : okT 2 [bG a1, .map (mrow (fun s => vs s) (fun n => vi .i64 n) (mput x2 (w6 ((mget 0 v2 x2) + 1)) v2))] = true) apn))))))))) (by kernel_rfl)
 ·
  rw [← sj h]
  exact xbrk (n := 30) [(11, .d false), (6000, .d true)] (apc (cv h1) apn) (by kernel_rfl)
theorem L57_0_run (a1 : GramD) (a2 : Int) (s0 : Int × (List (ByteArray × Int))) (e : E_L57_0) (h : runL (fun s => L57_0 a1 a2 s.1 s.2) s0 = some e) : L57_0_x a1 a2 e (evH prg 2 [1, 3, 8, 9, 10] ir57_l0 (L57_0_s a1 a2 s0.1 s0.2)) := by
  have q := @loop_sound' (Int × (List (ByteArray × Int))) E_L57_0 (fun s => L57_0 a1 a2 s.1 s.2) (fun s => evH prg 2 [1, 3, 8, 9, 10] ir57_l0 (L57_0_s a1 a2 s.1 s.2)) (L57_0_x a1 a2) (fun s r h => L57_0_ok a1 a2 s.1 s.2 h) s0 e h
  exact q
noncomputable def F57 (a1 : GramD) : Option Bool :=
  ((runL (fun s => L57_0 a1 (a1.sorts.length : Int) s.1 s.2) (0, [])).bind fun r1 => match r1 with | .k0 => (some false) | .k1 x1_0 => (bif (decide ((a1.sorts.length : Int) ≥ 1)) then (bif (decide ((a1.sorts.length : Int) ≤ 1000)) then (bif (decide (a1.start ≥ 0)) then (some (decide (a1.start < (a1.sorts.length : Int)))) else (some false)) else (some false)) else (some false)))
def F57_v (a1 : GramD) (x0 : Bool) : AV := (vb x0)
theorem F57_ok (a1 : GramD) {r : Bool} (h : F57 a1 = some r) : PR1 prg 57 [(aG a1)] (F57_v a1 r) := by
 unfold F57 at h
 refine bn h fun r1 h1 h => ?_
 cases r1 with
 | k0 =>
  obtain ⟨g1, y1, e1⟩ := L57_0_run a1 (a1.sorts.length : Int) (0, []) _ h1
  rw [← sj h]
  exact fpr (n := 30) [(9, .v (i6 (a1.sorts.length : Int))), (2000, .l .ret ⟨fr 55 g1 [(2, (vb false))], y1⟩), (6000, .d true)] (apc (lg a1.sorts eStr 1) (apc ((okT_of rfl (abl_cons rfl (abl_cons rfl rfl))) : okT 2 [bG a1, .map []] = true) (apc (e1 : evH prg 2 [1, 3, 8, 9, 10] ir57_l0 (L57_0_s a1 (a1.sorts.length : Int) 0 ([])) = some (.ret, ⟨fr 55 g1 [(2, (vb false))], y1⟩)) apn))) rfl (by kernel_rfl)
 | k1 x1_0 =>
  obtain ⟨g1, e1⟩ := L57_0_run a1 (a1.sorts.length : Int) (0, []) _ h1
  refine bi h (fun h2 h => ?_) fun h2 h => ?_
  ·
   refine bi h (fun h3 h => ?_) fun h3 h => ?_
   ·
    refine bi h (fun h4 h => ?_) fun h4 h => ?_
    ·
     rw [← sj h]
     exact fpr (n := 30) [(9, .v (i6 (a1.sorts.length : Int))), (2000, .l (.brk 0) ⟨fr 55 g1 [(1, (.ptr 0 0)), (8, (.p (.lst 1 (a1.sorts.map eStr))))], [bG a1, mSI x1_0]⟩), (34, .v (i6 (a1.sorts.length : Int))), (35, .d true), (39, .v (i6 (a1.sorts.length : Int))), (40, .d true), (45, .d true), (52, .v (i6 (a1.sorts.length : Int))), (6000, .d true)] (apc (lg a1.sorts eStr 1) (apc ((okT_of rfl (abl_cons rfl (abl_cons rfl rfl))) : okT 2 [bG a1, .map []] = true) (apc (e1 : evH prg 2 [1, 3, 8, 9, 10] ir57_l0 (L57_0_s a1 (a1.sorts.length : Int) 0 ([])) = some ((.brk 0), ⟨fr 55 g1 [(1, (.ptr 0 0)), (8, (.p (.lst 1 (a1.sorts.map eStr))))], [bG a1, mSI x1_0]⟩)) (apc (lg a1.sorts eStr 1) (apc (cv h2) (apc (lg a1.sorts eStr 1) (apc (cv h3) (apc (cv h4) (apc (lg a1.sorts eStr 1) apn))))))))) rfl (by kernel_rfl)
    ·
     rw [← sj h]
     exact fpr (n := 30) [(9, .v (i6 (a1.sorts.length : Int))), (2000, .l (.brk 0) ⟨fr 55 g1 [(1, (.ptr 0 0)), (8, (.p (.lst 1 (a1.sorts.map eStr))))], [bG a1, mSI x1_0]⟩), (34, .v (i6 (a1.sorts.length : Int))), (35, .d true), (39, .v (i6 (a1.sorts.length : Int))), (40, .d true), (45, .d false), (6000, .d true)] (apc (lg a1.sorts eStr 1) (apc ((okT_of rfl (abl_cons rfl (abl_cons rfl rfl))) : okT 2 [bG a1, .map []] = true) (apc (e1 : evH prg 2 [1, 3, 8, 9, 10] ir57_l0 (L57_0_s a1 (a1.sorts.length : Int) 0 ([])) = some ((.brk 0), ⟨fr 55 g1 [(1, (.ptr 0 0)), (8, (.p (.lst 1 (a1.sorts.map eStr))))], [bG a1, mSI x1_0]⟩)) (apc (lg a1.sorts eStr 1) (apc (cv h2) (apc (lg a1.sorts eStr 1) (apc (cv h3) (apc (cv h4) apn)))))))) rfl (by kernel_rfl)
   ·
    rw [← sj h]
    exact fpr (n := 30) [(9, .v (i6 (a1.sorts.length : Int))), (2000, .l (.brk 0) ⟨fr 55 g1 [(1, (.ptr 0 0)), (8, (.p (.lst 1 (a1.sorts.map eStr))))], [bG a1, mSI x1_0]⟩), (34, .v (i6 (a1.sorts.length : Int))), (35, .d true), (39, .v (i6 (a1.sorts.length : Int))), (40, .d false), (6000, .d true)] (apc (lg a1.sorts eStr 1) (apc ((okT_of rfl (abl_cons rfl (abl_cons rfl rfl))) : okT 2 [bG a1, .map []] = true) (apc (e1 : evH prg 2 [1, 3, 8, 9, 10] ir57_l0 (L57_0_s a1 (a1.sorts.length : Int) 0 ([])) = some ((.brk 0), ⟨fr 55 g1 [(1, (.ptr 0 0)), (8, (.p (.lst 1 (a1.sorts.map eStr))))], [bG a1, mSI x1_0]⟩)) (apc (lg a1.sorts eStr 1) (apc (cv h2) (apc (lg a1.sorts eStr 1) (apc (cv h3) apn))))))) rfl (by kernel_rfl)
  ·
   rw [← sj h]
   exact fpr (n := 30) [(9, .v (i6 (a1.sorts.length : Int))), (2000, .l (.brk 0) ⟨fr 55 g1 [(1, (.ptr 0 0)), (8, (.p (.lst 1 (a1.sorts.map eStr))))], [bG a1, mSI x1_0]⟩), (34, .v (i6 (a1.sorts.length : Int))), (35, .d false), (6000, .d true)] (apc (lg a1.sorts eStr 1) (apc ((okT_of rfl (abl_cons rfl (abl_cons rfl rfl))) : okT 2 [bG a1, .map []] = true) (apc (e1 : evH prg 2 [1, 3, 8, 9, 10] ir57_l0 (L57_0_s a1 (a1.sorts.length : Int) 0 ([])) = some ((.brk 0), ⟨fr 55 g1 [(1, (.ptr 0 0)), (8, (.p (.lst 1 (a1.sorts.map eStr))))], [bG a1, mSI x1_0]⟩)) (apc (lg a1.sorts eStr 1) (apc (cv h2) apn))))) rfl (by kernel_rfl)
noncomputable def F73 (a1 : ProdD) (a2 : GramD) : Option Bool :=
  (bif (decide (a1.left ≥ 0)) then (some (decide (a1.left < (a2.sorts.length : Int)))) else (some false))
def F73_v (a1 : ProdD) (a2 : GramD) (x0 : Bool) : AV := (vb x0)
theorem F73_ok (a1 : ProdD) (a2 : GramD) {r : Bool} (h : F73 a1 a2 = some r) : PR1 prg 73 [(i6 a1.left), (.ro (eGram a2))] (F73_v a1 a2 r) := by
 unfold F73 at h
 refine bi h (fun h1 h => ?_) fun h1 h => ?_
 ·
  rw [← sj h]
  exact fpr (n := 30) [(5, .d true), (10, .v (i6 (a2.sorts.length : Int)))] (apc (cv h1) (apc (lg a2.sorts eStr 1) apn)) rfl (by kernel_rfl)
 ·
  rw [← sj h]
  exact fpr (n := 30) [(5, .d false)] (apc (cv h1) apn) rfl (by kernel_rfl)
noncomputable def F73_2 (a1 : SymD) (a2 : GramD) : Option Bool :=
  (bif (decide (a1.sort ≥ 0)) then (some (decide (a1.sort < (a2.sorts.length : Int)))) else (some false))
def F73_2_v (a1 : SymD) (a2 : GramD) (x0 : Bool) : AV := (vb x0)
theorem F73_2_ok (a1 : SymD) (a2 : GramD) {r : Bool} (h : F73_2 a1 a2 = some r) : PR1 prg 73 [(i6 a1.sort), (.ro (eGram a2))] (F73_2_v a1 a2 r) := by
 unfold F73_2 at h
 refine bi h (fun h1 h => ?_) fun h1 h => ?_
 ·
  rw [← sj h]
  exact fpr (n := 30) [(5, .d true), (10, .v (i6 (a2.sorts.length : Int)))] (apc (cv h1) (apc (lg a2.sorts eStr 1) apn)) rfl (by kernel_rfl)
 ·
  rw [← sj h]
  exact fpr (n := 30) [(5, .d false)] (apc (cv h1) apn) rfl (by kernel_rfl)
inductive E_L58_0 where
  | k0
  | k1
noncomputable def L58_0 (a1 : GramD) (a4 : ProdD) (a5 : Int) (v1 : Int) : Option (E_L58_0 ⊕ (Int)) :=
  (bif (decide (v1 < a5)) then ((getI a4.right v1).bind fun x2 => (bif (x2.kind == 0) then (bif ((x2.a == 0) && ((x2.b == 0) && ((x2.c == 0) && ((x2.d == 0) && true)))) then (some (.inl (.k0))) else (bif (x2.sort != 0) then (some (.inl (.k0))) else (some (.inr ((IntKind.wrap .i64 (v1 + 1))))))) else (bif (x2.kind == 1) then (bif (!((x2.a == 0) && ((x2.b == 0) && ((x2.c == 0) && ((x2.d == 0) && true))))) then (some (.inl (.k0))) else ((F73_2 x2 a1).bind fun x6 => (bif x6 then (bif (a4.role == 11) then (some (.inl (.k0))) else (some (.inr ((IntKind.wrap .i64 (v1 + 1)))))) else (some (.inl (.k0)))))) else (some (.inl (.k0)))))) else (some (.inl (.k1))))
def L58_0_s (a1 : GramD) (a2 : Int) (a3 : Int) (a4 : ProdD) (a5 : Int) (v1 : Int) : St := ⟨fr 110 ug [(1, (.ptr 0 0)), (3, (.fn 73 [(.ptr 0 0)])), (5, (.ptr 2 0)), (10, (.p (.lst 7 (a1.prods.map eProd)))), (11, (i6 a2)), (12, (i6 a3)), (67, (.p (.lst 6 (a4.right.map eSym)))), (68, (i6 a5)), (69, (i6 v1))], [bG a1, .row 48 6 0 (ra eSym []), bP a4]⟩
def L58_0_x (a1 : GramD) (a2 : Int) (a3 : Int) (a4 : ProdD) (a5 : Int) (e : E_L58_0) (r : Option (Out × St)) : Prop := match e with | .k0 => ∃ g y, r = some (.ret, ⟨fr 110 g [(2, (vb false))], y⟩) | .k1 => ∃ g, r = some ((.brk 2), ⟨fr 110 g [(1, (.ptr 0 0)), (3, (.fn 73 [(.ptr 0 0)])), (5, (.ptr 2 0)), (10, (.p (.lst 7 (a1.prods.map eProd)))), (11, (i6 a2)), (12, (i6 a3)), (67, (.p (.lst 6 (a4.right.map eSym))))], [bG a1, .row 48 6 0 (ra eSym []), bP a4]⟩)
theorem L58_0_ok (a1 : GramD) (a2 : Int) (a3 : Int) (a4 : ProdD) (a5 : Int) (v1 : Int) {r : E_L58_0 ⊕ (Int)} (h : L58_0 a1 a4 a5 v1 = some r) : OkR (fun e => L58_0_x a1 a2 a3 a4 a5 e (evH prg 3 [1, 3, 5, 10, 11, 12, 67, 68, 69] ir58_l0 (L58_0_s a1 a2 a3 a4 a5 v1))) (fun s => evH prg 3 [1, 3, 5, 10, 11, 12, 67, 68, 69] ir58_l0 (L58_0_s a1 a2 a3 a4 a5 v1) = evH prg 3 [1, 3, 5, 10, 11, 12, 67, 68, 69] ir58_l0 (L58_0_s a1 a2 a3 a4 a5 s)) r := by
 unfold L58_0 at h
 refine bi h (fun h1 h => ?_) fun h1 h => ?_
 ·
  refine bn h fun x2 h2 h => ?_
  refine bi h (fun h3 h => ?_) fun h3 h => ?_
  ·
   refine bi h (fun h4 h => ?_) fun h4 h => ?_
   ·
    rw [← sj h]
    exact xretY (n := 30) [(70, .d true), (71, .v (.ro (eSym x2))), (76, .d true), (80, .d true), (6000, .d true)] (apc (cv h1) (apc (ig eSym 6 .i64 h2) (apc (cv h3) (apc (cv h4) apn)))) (by kernel_rfl)
   ·
    refine bi h (fun h5 h => ?_) fun h5 h => ?_
    ·
     rw [← sj h]
     exact xretY (n := 30) [(70, .d true), (71, .v (.ro (eSym x2))), (76, .d true), (80, .d false), (84, .d true), (6000, .d true)] (apc (cv h1) (apc (ig eSym 6 .i64 h2) (apc (cv h3) (apc (cv h4) (apc (cv h5) apn))))) (by kernel_rfl)
    ·
     rw [← sj h]
     exact rnd (n := 30) [(70, .d true), (71, .v (.ro (eSym x2))), (76, .d true), (80, .d false), (84, .d false), (6000, .d true)] (apc (cv h1) (apc (ig eSym 6 .i64 h2) (apc (cv h3) (apc (cv h4) (apc (cv h5) (apc ((okT_of rfl (abl_cons rfl (abl_cons abl_row (abl_cons rfl rfl)))) : okT 3 [bG a1, .row 48 6 0 (ra eSym []), bP a4, .cells 48 ((eSym x2).map .p)] = true) apn)))))) (by kernel_rfl)
  ·
   refine bi h (fun h4 h => ?_) fun h4 h => ?_
   ·
    refine bi h (fun h5 h => ?_) fun h5 h => ?_
    ·
     rw [← sj h]
     exact xretY (n := 30) [(70, .d true), (71, .v (.ro (eSym x2))), (76, .d false), (87, .d true), (91, .d true), (6000, .d true)] (apc (cv h1) (apc (ig eSym 6 .i64 h2) (apc (cv h3) (apc (cv h4) (apc (cv h5) apn))))) (by kernel_rfl)
    ·
     refine bn h fun x6 h6 h => ?_
     refine bi h (fun h7 h => ?_) fun h7 h => ?_
     ·
      refine bi h (fun h8 h => ?_) fun h8 h => ?_
      ·
       rw [← sj h]
       exact xretY (n := 30) [(70, .d true), (71, .v (.ro (eSym x2))), (76, .d false), (87, .d true), (91, .d false), (96, .v (vb true)), (102, .d true), (6000, .d true)] (apc (cv h1) (apc (ig eSym 6 .i64 h2) (apc (cv h3) (apc (cv h4) (apc (cv h5) (apc ((((F73_2_ok x2 a1 h6).own rfl (purAs_cons rfl (purAs_cons (purA_ptr rfl (mapO_con rfl (mapO_con rfl (mapO_con rfl (mapO_con rfl (mapO_con rfl rfl)))))) purAs_nil)) rfl).trans (congrArg (fun z => some (vb z)) h7)) : CP prg 73 [(i6 x2.sort), (.ptr 0 0)] [bG a1, .row 48 6 0 (ra eSym []), bP a4, .cells 48 ((eSym x2).map .p)] = some (vb true)) (apc (cv h8) apn))))))) (by kernel_rfl)
      ·
       rw [← sj h]
       exact rnd (n := 30) [(70, .d true), (71, .v (.ro (eSym x2))), (76, .d false), (87, .d true), (91, .d false), (96, .v (vb true)), (102, .d false), (6000, .d true)] (apc (cv h1) (apc (ig eSym 6 .i64 h2) (apc (cv h3) (apc (cv h4) (apc (cv h5) (apc ((((F73_2_ok x2 a1 h6).own rfl (purAs_cons rfl (purAs_cons (purA_ptr rfl (mapO_con rfl (mapO_con rfl (mapO_con rfl (mapO_con rfl (mapO_con rfl rfl)))))) purAs_nil)) rfl).trans (congrArg (fun z => some (vb z)) h7)) : CP prg 73 [(i6 x2.sort), (.ptr 0 0)] [bG a1, .row 48 6 0 (ra eSym []), bP a4, .cells 48 ((eSym x2).map .p)] = some (vb true)) (apc (cv h8) (apc ((okT_of rfl (abl_cons rfl (abl_cons abl_row (abl_cons rfl rfl)))) : okT 3 [bG a1, .row 48 6 0 (ra eSym []), bP a4, .cells 48 ((eSym x2).map .p)] = true) apn)))))))) (by kernel_rfl)
     ·
      rw [← sj h]
      exact xretY (n := 30) [(70, .d true), (71, .v (.ro (eSym x2))), (76, .d false), (87, .d true), (91, .d false), (96, .v (vb false)), (6000, .d true)] (apc (cv h1) (apc (ig eSym 6 .i64 h2) (apc (cv h3) (apc (cv h4) (apc (cv h5) (apc ((((F73_2_ok x2 a1 h6).own rfl (purAs_cons rfl (purAs_cons (purA_ptr rfl (mapO_con rfl (mapO_con rfl (mapO_con rfl (mapO_con rfl (mapO_con rfl rfl)))))) purAs_nil)) rfl).trans (congrArg (fun z => some (vb z)) h7)) : CP prg 73 [(i6 x2.sort), (.ptr 0 0)] [bG a1, .row 48 6 0 (ra eSym []), bP a4, .cells 48 ((eSym x2).map .p)] = some (vb false)) apn)))))) (by kernel_rfl)
   ·
    rw [← sj h]
    exact xretY (n := 30) [(70, .d true), (71, .v (.ro (eSym x2))), (76, .d false), (87, .d false), (6000, .d true)] (apc (cv h1) (apc (ig eSym 6 .i64 h2) (apc (cv h3) (apc (cv h4) apn)))) (by kernel_rfl)
 ·
  rw [← sj h]
  exact xbrk (n := 30) [(70, .d false), (6000, .d true)] (apc (cv h1) apn) (by kernel_rfl)
theorem L58_0_run (a1 : GramD) (a2 : Int) (a3 : Int) (a4 : ProdD) (a5 : Int) (s0 : Int) (e : E_L58_0) (h : runL (fun s => L58_0 a1 a4 a5 s) s0 = some e) : L58_0_x a1 a2 a3 a4 a5 e (evH prg 3 [1, 3, 5, 10, 11, 12, 67, 68, 69] ir58_l0 (L58_0_s a1 a2 a3 a4 a5 s0)) := by
  have q := @loop_sound' (Int) E_L58_0 (fun s => L58_0 a1 a4 a5 s) (fun s => evH prg 3 [1, 3, 5, 10, 11, 12, 67, 68, 69] ir58_l0 (L58_0_s a1 a2 a3 a4 a5 s)) (L58_0_x a1 a2 a3 a4 a5) (fun s r h => L58_0_ok a1 a2 a3 a4 a5 s h) s0 e h
  exact q
inductive E_L58_1 where
  | k0
  | k1
noncomputable def L58_1 (a1 : GramD) (a2 : Int) (v1 : Int) : Option (E_L58_1 ⊕ (Int)) :=
  (bif (decide (v1 < a2)) then ((getI a1.prods v1).bind fun x2 => ((F73 x2 a1).bind fun x3 => (bif x3 then (bif (decide ((x2.right.length : Int) > 30)) then (some (.inl (.k0))) else (bif (decide (x2.role < 0)) then (some (.inl (.k0))) else (bif (decide (x2.role > 11)) then (some (.inl (.k0))) else (bif (decide (x2.frm < (-1))) then (some (.inl (.k0))) else (bif (decide ((x2.cons.size : Int) > 64)) then (some (.inl (.k0))) else (bif (!(x2.cons.toList == (⟨([] : List UInt8).toArray⟩ : ByteArray).toList)) then (bif (x2.role != 0) then (some (.inl (.k0))) else (bif x2.prefer then (bif x2.avoid then (some (.inl (.k0))) else ((runL (fun s => L58_0 a1 x2 (x2.right.length : Int) s) 0).bind fun r14 => match r14 with | .k0 => (some (.inl (.k0))) | .k1 => (some (.inr ((IntKind.wrap .i64 (v1 + 1))))))) else ((runL (fun s => L58_0 a1 x2 (x2.right.length : Int) s) 0).bind fun r13 => match r13 with | .k0 => (some (.inl (.k0))) | .k1 => (some (.inr ((IntKind.wrap .i64 (v1 + 1)))))))) else (bif x2.prefer then (bif x2.avoid then (some (.inl (.k0))) else ((runL (fun s => L58_0 a1 x2 (x2.right.length : Int) s) 0).bind fun r13 => match r13 with | .k0 => (some (.inl (.k0))) | .k1 => (some (.inr ((IntKind.wrap .i64 (v1 + 1))))))) else ((runL (fun s => L58_0 a1 x2 (x2.right.length : Int) s) 0).bind fun r12 => match r12 with | .k0 => (some (.inl (.k0))) | .k1 => (some (.inr ((IntKind.wrap .i64 (v1 + 1))))))))))))) else (some (.inl (.k0)))))) else (some (.inl (.k1))))
def L58_1_s (a1 : GramD) (a2 : Int) (v1 : Int) : St := ⟨fr 110 ug [(1, (.ptr 0 0)), (3, (.fn 73 [(.ptr 0 0)])), (10, (.p (.lst 7 (a1.prods.map eProd)))), (11, (i6 a2)), (12, (i6 v1))], [bG a1]⟩
def L58_1_x (a1 : GramD) (a2 : Int) (e : E_L58_1) (r : Option (Out × St)) : Prop := match e with | .k0 => ∃ g y, r = some (.ret, ⟨fr 110 g [(2, (vb false))], y⟩) | .k1 => ∃ g, r = some ((.brk 0), ⟨fr 110 g [(1, (.ptr 0 0)), (10, (.p (.lst 7 (a1.prods.map eProd))))], [bG a1]⟩)
theorem L58_1_ok (a1 : GramD) (a2 : Int) (v1 : Int) {r : E_L58_1 ⊕ (Int)} (h : L58_1 a1 a2 v1 = some r) : OkR (fun e => L58_1_x a1 a2 e (evH prg 1 [1, 3, 10, 11, 12] ir58_l1 (L58_1_s a1 a2 v1))) (fun s => evH prg 1 [1, 3, 10, 11, 12] ir58_l1 (L58_1_s a1 a2 v1) = evH prg 1 [1, 3, 10, 11, 12] ir58_l1 (L58_1_s a1 a2 s)) r := by
 unfold L58_1 at h
 refine bi h (fun h1 h => ?_) fun h1 h => ?_
 ·
  refine bn h fun x2 h2 h => ?_
  refine bn h fun x3 h3 h => ?_
  refine bi h (fun h4 h => ?_) fun h4 h => ?_
  ·
   refine bi h (fun h5 h => ?_) fun h5 h => ?_
   ·
    rw [← sj h]
    exact xretY (n := 30) [(13, .d true), (14, .v (.ro (eProd x2))), (19, .v (vb true)), (24, .v (i6 (x2.right.length : Int))), (25, .d true), (6000, .d true)] (apc (cv h1) (apc (ig eProd 7 .i64 h2) (apc ((((F73_ok x2 a1 h3).own rfl (purAs_cons rfl (purAs_cons (purA_ptr rfl (mapO_con rfl (mapO_con rfl (mapO_con rfl (mapO_con rfl (mapO_con rfl rfl)))))) purAs_nil)) rfl).trans (congrArg (fun z => some (vb z)) h4)) : CP prg 73 [(i6 x2.left), (.ptr 0 0)] [bG a1, .row 48 6 0 (ra eSym []), bP x2] = some (vb true)) (apc (lg x2.right eSym 6) (apc (cv h5) apn))))) (by kernel_rfl)
   ·
    refine bi h (fun h6 h => ?_) fun h6 h => ?_
    ·
     rw [← sj h]
     exact xretY (n := 30) [(13, .d true), (14, .v (.ro (eProd x2))), (19, .v (vb true)), (24, .v (i6 (x2.right.length : Int))), (25, .d false), (30, .d true), (6000, .d true)] (apc (cv h1) (apc (ig eProd 7 .i64 h2) (apc ((((F73_ok x2 a1 h3).own rfl (purAs_cons rfl (purAs_cons (purA_ptr rfl (mapO_con rfl (mapO_con rfl (mapO_con rfl (mapO_con rfl (mapO_con rfl rfl)))))) purAs_nil)) rfl).trans (congrArg (fun z => some (vb z)) h4)) : CP prg 73 [(i6 x2.left), (.ptr 0 0)] [bG a1, .row 48 6 0 (ra eSym []), bP x2] = some (vb true)) (apc (lg x2.right eSym 6) (apc (cv h5) (apc (cv h6) apn)))))) (by kernel_rfl)
    ·
     refine bi h (fun h7 h => ?_) fun h7 h => ?_
     ·
      rw [← sj h]
      exact xretY (n := 30) [(13, .d true), (14, .v (.ro (eProd x2))), (19, .v (vb true)), (24, .v (i6 (x2.right.length : Int))), (25, .d false), (30, .d false), (35, .d true), (6000, .d true)] (apc (cv h1) (apc (ig eProd 7 .i64 h2) (apc ((((F73_ok x2 a1 h3).own rfl (purAs_cons rfl (purAs_cons (purA_ptr rfl (mapO_con rfl (mapO_con rfl (mapO_con rfl (mapO_con rfl (mapO_con rfl rfl)))))) purAs_nil)) rfl).trans (congrArg (fun z => some (vb z)) h4)) : CP prg 73 [(i6 x2.left), (.ptr 0 0)] [bG a1, .row 48 6 0 (ra eSym []), bP x2] = some (vb true)) (apc (lg x2.right eSym 6) (apc (cv h5) (apc (cv h6) (apc (cv h7) apn))))))) (by kernel_rfl)
     ·
      refine bi h (fun h8 h => ?_) fun h8 h => ?_
      ·
       rw [← sj h]
       exact xretY (n := 30) [(13, .d true), (14, .v (.ro (eProd x2))), (19, .v (vb true)), (24, .v (i6 (x2.right.length : Int))), (25, .d false), (30, .d false), (35, .d false), (40, .d true), (6000, .d true)] (apc (cv h1) (apc (ig eProd 7 .i64 h2) (apc ((((F73_ok x2 a1 h3).own rfl (purAs_cons rfl (purAs_cons (purA_ptr rfl (mapO_con rfl (mapO_con rfl (mapO_con rfl (mapO_con rfl (mapO_con rfl rfl)))))) purAs_nil)) rfl).trans (congrArg (fun z => some (vb z)) h4)) : CP prg 73 [(i6 x2.left), (.ptr 0 0)] [bG a1, .row 48 6 0 (ra eSym []), bP x2] = some (vb true)) (apc (lg x2.right eSym 6) (apc (cv h5) (apc (cv h6) (apc (cv h7) (apc (cv h8) apn)))))))) (by kernel_rfl)
      ·
       refine bi h (fun h9 h => ?_) fun h9 h => ?_
       ·
        rw [← sj h]
        exact xretY (n := 30) [(13, .d true), (14, .v (.ro (eProd x2))), (19, .v (vb true)), (24, .v (i6 (x2.right.length : Int))), (25, .d false), (30, .d false), (35, .d false), (40, .d false), (46, .d true), (6000, .d true)] (apc (cv h1) (apc (ig eProd 7 .i64 h2) (apc ((((F73_ok x2 a1 h3).own rfl (purAs_cons rfl (purAs_cons (purA_ptr rfl (mapO_con rfl (mapO_con rfl (mapO_con rfl (mapO_con rfl (mapO_con rfl rfl)))))) purAs_nil)) rfl).trans (congrArg (fun z => some (vb z)) h4)) : CP prg 73 [(i6 x2.left), (.ptr 0 0)] [bG a1, .row 48 6 0 (ra eSym []), bP x2] = some (vb true)) (apc (lg x2.right eSym 6) (apc (cv h5) (apc (cv h6) (apc (cv h7) (apc (cv h8) (apc (cv h9) apn))))))))) (by kernel_rfl)
       ·
        refine bi h (fun h10 h => ?_) fun h10 h => ?_
        ·
         refine bi h (fun h11 h => ?_) fun h11 h => ?_
         ·
          rw [← sj h]
          exact xretY (n := 30) [(13, .d true), (14, .v (.ro (eProd x2))), (19, .v (vb true)), (24, .v (i6 (x2.right.length : Int))), (25, .d false), (30, .d false), (35, .d false), (40, .d false), (46, .d false), (51, .d true), (55, .d true), (6000, .d true)] (apc (cv h1) (apc (ig eProd 7 .i64 h2) (apc ((((F73_ok x2 a1 h3).own rfl (purAs_cons rfl (purAs_cons (purA_ptr rfl (mapO_con rfl (mapO_con rfl (mapO_con rfl (mapO_con rfl (mapO_con rfl rfl)))))) purAs_nil)) rfl).trans (congrArg (fun z => some (vb z)) h4)) : CP prg 73 [(i6 x2.left), (.ptr 0 0)] [bG a1, .row 48 6 0 (ra eSym []), bP x2] = some (vb true)) (apc (lg x2.right eSym 6) (apc (cv h5) (apc (cv h6) (apc (cv h7) (apc (cv h8) (apc (cv h9) (apc (cv h10) (apc (cv h11) apn))))))))))) (by kernel_rfl)
         ·
          refine bi h (fun h12 h => ?_) fun h12 h => ?_
          ·
           refine bi h (fun h13 h => ?_) fun h13 h => ?_
           ·
            rw [← sj h]
            exact xretY (n := 30) [(13, .d true), (14, .v (.ro (eProd x2))), (19, .v (vb true)), (24, .v (i6 (x2.right.length : Int))), (25, .d false), (30, .d false), (35, .d false), (40, .d false), (46, .d false), (51, .d true), (55, .d false), (60, .d true), (63, .d true), (6000, .d true)] (apc (cv h1) (apc (ig eProd 7 .i64 h2) (apc ((((F73_ok x2 a1 h3).own rfl (purAs_cons rfl (purAs_cons (purA_ptr rfl (mapO_con rfl (mapO_con rfl (mapO_con rfl (mapO_con rfl (mapO_con rfl rfl)))))) purAs_nil)) rfl).trans (congrArg (fun z => some (vb z)) h4)) : CP prg 73 [(i6 x2.left), (.ptr 0 0)] [bG a1, .row 48 6 0 (ra eSym []), bP x2] = some (vb true)) (apc (lg x2.right eSym 6) (apc (cv h5) (apc (cv h6) (apc (cv h7) (apc (cv h8) (apc (cv h9) (apc (cv h10) (apc (cv h11) (apc (cv h12) (apc (cv h13) apn))))))))))))) (by kernel_rfl)
           ·
            refine bn h fun r14 h14 h => ?_
            cases r14 with
            | k0 =>
             obtain ⟨g14, y14, e14⟩ := L58_0_run a1 a2 v1 x2 (x2.right.length : Int) 0 _ h14
             rw [← sj h]
             exact xretY (n := 30) [(13, .d true), (14, .v (.ro (eProd x2))), (19, .v (vb true)), (24, .v (i6 (x2.right.length : Int))), (25, .d false), (30, .d false), (35, .d false), (40, .d false), (46, .d false), (51, .d true), (55, .d false), (60, .d true), (63, .d false), (68, .v (i6 (x2.right.length : Int))), (2002, .l .ret ⟨fr 110 g14 [(2, (vb false))], y14⟩), (6000, .d true)] (apc (cv h1) (apc (ig eProd 7 .i64 h2) (apc ((((F73_ok x2 a1 h3).own rfl (purAs_cons rfl (purAs_cons (purA_ptr rfl (mapO_con rfl (mapO_con rfl (mapO_con rfl (mapO_con rfl (mapO_con rfl rfl)))))) purAs_nil)) rfl).trans (congrArg (fun z => some (vb z)) h4)) : CP prg 73 [(i6 x2.left), (.ptr 0 0)] [bG a1, .row 48 6 0 (ra eSym []), bP x2] = some (vb true)) (apc (lg x2.right eSym 6) (apc (cv h5) (apc (cv h6) (apc (cv h7) (apc (cv h8) (apc (cv h9) (apc (cv h10) (apc (cv h11) (apc (cv h12) (apc (cv h13) (apc (lg x2.right eSym 6) (apc ((okT_of rfl (abl_cons rfl (abl_cons abl_row (abl_cons rfl rfl)))) : okT 3 [bG a1, .row 48 6 0 (ra eSym []), bP x2] = true) (apc (e14 : evH prg 3 [1, 3, 5, 10, 11, 12, 67, 68, 69] ir58_l0 (L58_0_s a1 a2 v1 x2 (x2.right.length : Int) 0) = some (.ret, ⟨fr 110 g14 [(2, (vb false))], y14⟩)) apn)))))))))))))))) (by kernel_rfl)
            | k1 =>
             obtain ⟨g14, e14⟩ := L58_0_run a1 a2 v1 x2 (x2.right.length : Int) 0 _ h14
             rw [← sj h]
             exact rnd (n := 30) [(13, .d true), (14, .v (.ro (eProd x2))), (19, .v (vb true)), (24, .v (i6 (x2.right.length : Int))), (25, .d false), (30, .d false), (35, .d false), (40, .d false), (46, .d false), (51, .d true), (55, .d false), (60, .d true), (63, .d false), (68, .v (i6 (x2.right.length : Int))), (2002, .l (.brk 2) ⟨fr 110 g14 [(1, (.ptr 0 0)), (3, (.fn 73 [(.ptr 0 0)])), (5, (.ptr 2 0)), (10, (.p (.lst 7 (a1.prods.map eProd)))), (11, (i6 a2)), (12, (i6 v1)), (67, (.p (.lst 6 (x2.right.map eSym))))], [bG a1, .row 48 6 0 (ra eSym []), bP x2]⟩), (6000, .d true)] (apc (cv h1) (apc (ig eProd 7 .i64 h2) (apc ((((F73_ok x2 a1 h3).own rfl (purAs_cons rfl (purAs_cons (purA_ptr rfl (mapO_con rfl (mapO_con rfl (mapO_con rfl (mapO_con rfl (mapO_con rfl rfl)))))) purAs_nil)) rfl).trans (congrArg (fun z => some (vb z)) h4)) : CP prg 73 [(i6 x2.left), (.ptr 0 0)] [bG a1, .row 48 6 0 (ra eSym []), bP x2] = some (vb true)) (apc (lg x2.right eSym 6) (apc (cv h5) (apc (cv h6) (apc (cv h7) (apc (cv h8) (apc (cv h9) (apc (cv h10) (apc (cv h11) (apc (cv h12) (apc (cv h13) (apc (lg x2.right eSym 6) (apc ((okT_of rfl (abl_cons rfl (abl_cons abl_row (abl_cons rfl rfl)))) : okT 3 [bG a1, .row 48 6 0 (ra eSym []), bP x2] = true) (apc (e14 : evH prg 3 [1, 3, 5, 10, 11, 12, 67, 68, 69] ir58_l0 (L58_0_s a1 a2 v1 x2 (x2.right.length : Int) 0) = some ((.brk 2), ⟨fr 110 g14 [(1, (.ptr 0 0)), (3, (.fn 73 [(.ptr 0 0)])), (5, (.ptr 2 0)), (10, (.p (.lst 7 (a1.prods.map eProd)))), (11, (i6 a2)), (12, (i6 v1)), (67, (.p (.lst 6 (x2.right.map eSym))))], [bG a1, .row 48 6 0 (ra eSym []), bP x2]⟩)) (apc ((okT_of rfl (abl_cons rfl rfl)) : okT 1 [bG a1, .row 48 6 0 (ra eSym []), bP x2] = true) apn))))))))))))))))) (by kernel_rfl)
          ·
           refine bn h fun r13 h13 h => ?_
           cases r13 with
           | k0 =>
            obtain ⟨g13, y13, e13⟩ := L58_0_run a1 a2 v1 x2 (x2.right.length : Int) 0 _ h13
            rw [← sj h]
            exact xretY (n := 30) [(13, .d true), (14, .v (.ro (eProd x2))), (19, .v (vb true)), (24, .v (i6 (x2.right.length : Int))), (25, .d false), (30, .d false), (35, .d false), (40, .d false), (46, .d false), (51, .d true), (55, .d false), (60, .d false), (68, .v (i6 (x2.right.length : Int))), (2002, .l .ret ⟨fr 110 g13 [(2, (vb false))], y13⟩), (6000, .d true)] (apc (cv h1) (apc (ig eProd 7 .i64 h2) (apc ((((F73_ok x2 a1 h3).own rfl (purAs_cons rfl (purAs_cons (purA_ptr rfl (mapO_con rfl (mapO_con rfl (mapO_con rfl (mapO_con rfl (mapO_con rfl rfl)))))) purAs_nil)) rfl).trans (congrArg (fun z => some (vb z)) h4)) : CP prg 73 [(i6 x2.left), (.ptr 0 0)] [bG a1, .row 48 6 0 (ra eSym []), bP x2] = some (vb true)) (apc (lg x2.right eSym 6) (apc (cv h5) (apc (cv h6) (apc (cv h7) (apc (cv h8) (apc (cv h9) (apc (cv h10) (apc (cv h11) (apc (cv h12) (apc (lg x2.right eSym 6) (apc ((okT_of rfl (abl_cons rfl (abl_cons abl_row (abl_cons rfl rfl)))) : okT 3 [bG a1, .row 48 6 0 (ra eSym []), bP x2] = true) (apc (e13 : evH prg 3 [1, 3, 5, 10, 11, 12, 67, 68, 69] ir58_l0 (L58_0_s a1 a2 v1 x2 (x2.right.length : Int) 0) = some (.ret, ⟨fr 110 g13 [(2, (vb false))], y13⟩)) apn))))))))))))))) (by kernel_rfl)
           | k1 =>
            obtain ⟨g13, e13⟩ := L58_0_run a1 a2 v1 x2 (x2.right.length : Int) 0 _ h13
            rw [← sj h]
            exact rnd (n := 30) [(13, .d true), (14, .v (.ro (eProd x2))), (19, .v (vb true)), (24, .v (i6 (x2.right.length : Int))), (25, .d false), (30, .d false), (35, .d false), (40, .d false), (46, .d false), (51, .d true), (55, .d false), (60, .d false), (68, .v (i6 (x2.right.length : Int))), (2002, .l (.brk 2) ⟨fr 110 g13 [(1, (.ptr 0 0)), (3, (.fn 73 [(.ptr 0 0)])), (5, (.ptr 2 0)), (10, (.p (.lst 7 (a1.prods.map eProd)))), (11, (i6 a2)), (12, (i6 v1)), (67, (.p (.lst 6 (x2.right.map eSym))))], [bG a1, .row 48 6 0 (ra eSym []), bP x2]⟩), (6000, .d true)] (apc (cv h1) (apc (ig eProd 7 .i64 h2) (apc ((((F73_ok x2 a1 h3).own rfl (purAs_cons rfl (purAs_cons (purA_ptr rfl (mapO_con rfl (mapO_con rfl (mapO_con rfl (mapO_con rfl (mapO_con rfl rfl)))))) purAs_nil)) rfl).trans (congrArg (fun z => some (vb z)) h4)) : CP prg 73 [(i6 x2.left), (.ptr 0 0)] [bG a1, .row 48 6 0 (ra eSym []), bP x2] = some (vb true)) (apc (lg x2.right eSym 6) (apc (cv h5) (apc (cv h6) (apc (cv h7) (apc (cv h8) (apc (cv h9) (apc (cv h10) (apc (cv h11) (apc (cv h12) (apc (lg x2.right eSym 6) (apc ((okT_of rfl (abl_cons rfl (abl_cons abl_row (abl_cons rfl rfl)))) : okT 3 [bG a1, .row 48 6 0 (ra eSym []), bP x2] = true) (apc (e13 : evH prg 3 [1, 3, 5, 10, 11, 12, 67, 68, 69] ir58_l0 (L58_0_s a1 a2 v1 x2 (x2.right.length : Int) 0) = some ((.brk 2), ⟨fr 110 g13 [(1, (.ptr 0 0)), (3, (.fn 73 [(.ptr 0 0)])), (5, (.ptr 2 0)), (10, (.p (.lst 7 (a1.prods.map eProd)))), (11, (i6 a2)), (12, (i6 v1)), (67, (.p (.lst 6 (x2.right.map eSym))))], [bG a1, .row 48 6 0 (ra eSym []), bP x2]⟩)) (apc ((okT_of rfl (abl_cons rfl rfl)) : okT 1 [bG a1, .row 48 6 0 (ra eSym []), bP x2] = true) apn)))))))))))))))) (by kernel_rfl)
        ·
         refine bi h (fun h11 h => ?_) fun h11 h => ?_
         ·
          refine bi h (fun h12 h => ?_) fun h12 h => ?_
          ·
           rw [← sj h]
           exact xretY (n := 30) [(13, .d true), (14, .v (.ro (eProd x2))), (19, .v (vb true)), (24, .v (i6 (x2.right.length : Int))), (25, .d false), (30, .d false), (35, .d false), (40, .d false), (46, .d false), (51, .d false), (60, .d true), (63, .d true), (6000, .d true)] (apc (cv h1) (apc (ig eProd 7 .i64 h2) (apc ((((F73_ok x2 a1 h3).own rfl (purAs_cons rfl (purAs_cons (purA_ptr rfl (mapO_con rfl (mapO_con rfl (mapO_con rfl (mapO_con rfl (mapO_con rfl rfl)))))) purAs_nil)) rfl).trans (congrArg (fun z => some (vb z)) h4)) : CP prg 73 [(i6 x2.left), (.ptr 0 0)] [bG a1, .row 48 6 0 (ra eSym []), bP x2] = some (vb true)) (apc (lg x2.right eSym 6) (apc (cv h5) (apc (cv h6) (apc (cv h7) (apc (cv h8) (apc (cv h9) (apc (cv h10) (apc (cv h11) (apc (cv h12) apn)))))))))))) (by kernel_rfl)
          ·
           refine bn h fun r13 h13 h => ?_
           cases r13 with
           | k0 =>
            obtain ⟨g13, y13, e13⟩ := L58_0_run a1 a2 v1 x2 (x2.right.length : Int) 0 _ h13
            rw [← sj h]
            exact xretY (n := 30) [(13, .d true), (14, .v (.ro (eProd x2))), (19, .v (vb true)), (24, .v (i6 (x2.right.length : Int))), (25, .d false), (30, .d false), (35, .d false), (40, .d false), (46, .d false), (51, .d false), (60, .d true), (63, .d false), (68, .v (i6 (x2.right.length : Int))), (2002, .l .ret ⟨fr 110 g13 [(2, (vb false))], y13⟩), (6000, .d true)] (apc (cv h1) (apc (ig eProd 7 .i64 h2) (apc ((((F73_ok x2 a1 h3).own rfl (purAs_cons rfl (purAs_cons (purA_ptr rfl (mapO_con rfl (mapO_con rfl (mapO_con rfl (mapO_con rfl (mapO_con rfl rfl)))))) purAs_nil)) rfl).trans (congrArg (fun z => some (vb z)) h4)) : CP prg 73 [(i6 x2.left), (.ptr 0 0)] [bG a1, .row 48 6 0 (ra eSym []), bP x2] = some (vb true)) (apc (lg x2.right eSym 6) (apc (cv h5) (apc (cv h6) (apc (cv h7) (apc (cv h8) (apc (cv h9) (apc (cv h10) (apc (cv h11) (apc (cv h12) (apc (lg x2.right eSym 6) (apc ((okT_of rfl (abl_cons rfl (abl_cons abl_row (abl_cons rfl rfl)))) : okT 3 [bG a1, .row 48 6 0 (ra eSym []), bP x2] = true) (apc (e13 : evH prg 3 [1, 3, 5, 10, 11, 12, 67, 68, 69] ir58_l0 (L58_0_s a1 a2 v1 x2 (x2.right.length : Int) 0) = some (.ret, ⟨fr 110 g13 [(2, (vb false))], y13⟩)) apn))))))))))))))) (by kernel_rfl)
           | k1 =>
            obtain ⟨g13, e13⟩ := L58_0_run a1 a2 v1 x2 (x2.right.length : Int) 0 _ h13
            rw [← sj h]
            exact rnd (n := 30) [(13, .d true), (14, .v (.ro (eProd x2))), (19, .v (vb true)), (24, .v (i6 (x2.right.length : Int))), (25, .d false), (30, .d false), (35, .d false), (40, .d false), (46, .d false), (51, .d false), (60, .d true), (63, .d false), (68, .v (i6 (x2.right.length : Int))), (2002, .l (.brk 2) ⟨fr 110 g13 [(1, (.ptr 0 0)), (3, (.fn 73 [(.ptr 0 0)])), (5, (.ptr 2 0)), (10, (.p (.lst 7 (a1.prods.map eProd)))), (11, (i6 a2)), (12, (i6 v1)), (67, (.p (.lst 6 (x2.right.map eSym))))], [bG a1, .row 48 6 0 (ra eSym []), bP x2]⟩), (6000, .d true)] (apc (cv h1) (apc (ig eProd 7 .i64 h2) (apc ((((F73_ok x2 a1 h3).own rfl (purAs_cons rfl (purAs_cons (purA_ptr rfl (mapO_con rfl (mapO_con rfl (mapO_con rfl (mapO_con rfl (mapO_con rfl rfl)))))) purAs_nil)) rfl).trans (congrArg (fun z => some (vb z)) h4)) : CP prg 73 [(i6 x2.left), (.ptr 0 0)] [bG a1, .row 48 6 0 (ra eSym []), bP x2] = some (vb true)) (apc (lg x2.right eSym 6) (apc (cv h5) (apc (cv h6) (apc (cv h7) (apc (cv h8) (apc (cv h9) (apc (cv h10) (apc (cv h11) (apc (cv h12) (apc (lg x2.right eSym 6) (apc ((okT_of rfl (abl_cons rfl (abl_cons abl_row (abl_cons rfl rfl)))) : okT 3 [bG a1, .row 48 6 0 (ra eSym []), bP x2] = true) (apc (e13 : evH prg 3 [1, 3, 5, 10, 11, 12, 67, 68, 69] ir58_l0 (L58_0_s a1 a2 v1 x2 (x2.right.length : Int) 0) = some ((.brk 2), ⟨fr 110 g13 [(1, (.ptr 0 0)), (3, (.fn 73 [(.ptr 0 0)])), (5, (.ptr 2 0)), (10, (.p (.lst 7 (a1.prods.map eProd)))), (11, (i6 a2)), (12, (i6 v1)), (67, (.p (.lst 6 (x2.right.map eSym))))], [bG a1, .row 48 6 0 (ra eSym []), bP x2]⟩)) (apc ((okT_of rfl (abl_cons rfl rfl)) : okT 1 [bG a1, .row 48 6 0 (ra eSym []), bP x2] = true) apn)))))))))))))))) (by kernel_rfl)
         ·
          refine bn h fun r12 h12 h => ?_
          cases r12 with
          | k0 =>
           obtain ⟨g12, y12, e12⟩ := L58_0_run a1 a2 v1 x2 (x2.right.length : Int) 0 _ h12
           rw [← sj h]
           exact xretY (n := 30) [(13, .d true), (14, .v (.ro (eProd x2))), (19, .v (vb true)), (24, .v (i6 (x2.right.length : Int))), (25, .d false), (30, .d false), (35, .d false), (40, .d false), (46, .d false), (51, .d false), (60, .d false), (68, .v (i6 (x2.right.length : Int))), (2002, .l .ret ⟨fr 110 g12 [(2, (vb false))], y12⟩), (6000, .d true)] (apc (cv h1) (apc (ig eProd 7 .i64 h2) (apc ((((F73_ok x2 a1 h3).own rfl (purAs_cons rfl (purAs_cons (purA_ptr rfl (mapO_con rfl (mapO_con rfl (mapO_con rfl (mapO_con rfl (mapO_con rfl rfl)))))) purAs_nil)) rfl).trans (congrArg (fun z => some (vb z)) h4)) : CP prg 73 [(i6 x2.left), (.ptr 0 0)] [bG a1, .row 48 6 0 (ra eSym []), bP x2] = some (vb true)) (apc (lg x2.right eSym 6) (apc (cv h5) (apc (cv h6) (apc (cv h7) (apc (cv h8) (apc (cv h9) (apc (cv h10) (apc (cv h11) (apc (lg x2.right eSym 6) (apc ((okT_of rfl (abl_cons rfl (abl_cons abl_row (abl_cons rfl rfl)))) : okT 3 [bG a1, .row 48 6 0 (ra eSym []), bP x2] = true) (apc (e12 : evH prg 3 [1, 3, 5, 10, 11, 12, 67, 68, 69] ir58_l0 (L58_0_s a1 a2 v1 x2 (x2.right.length : Int) 0) = some (.ret, ⟨fr 110 g12 [(2, (vb false))], y12⟩)) apn)))))))))))))) (by kernel_rfl)
          | k1 =>
           obtain ⟨g12, e12⟩ := L58_0_run a1 a2 v1 x2 (x2.right.length : Int) 0 _ h12
           rw [← sj h]
           exact rnd (n := 30) [(13, .d true), (14, .v (.ro (eProd x2))), (19, .v (vb true)), (24, .v (i6 (x2.right.length : Int))), (25, .d false), (30, .d false), (35, .d false), (40, .d false), (46, .d false), (51, .d false), (60, .d false), (68, .v (i6 (x2.right.length : Int))), (2002, .l (.brk 2) ⟨fr 110 g12 [(1, (.ptr 0 0)), (3, (.fn 73 [(.ptr 0 0)])), (5, (.ptr 2 0)), (10, (.p (.lst 7 (a1.prods.map eProd)))), (11, (i6 a2)), (12, (i6 v1)), (67, (.p (.lst 6 (x2.right.map eSym))))], [bG a1, .row 48 6 0 (ra eSym []), bP x2]⟩), (6000, .d true)] (apc (cv h1) (apc (ig eProd 7 .i64 h2) (apc ((((F73_ok x2 a1 h3).own rfl (purAs_cons rfl (purAs_cons (purA_ptr rfl (mapO_con rfl (mapO_con rfl (mapO_con rfl (mapO_con rfl (mapO_con rfl rfl)))))) purAs_nil)) rfl).trans (congrArg (fun z => some (vb z)) h4)) : CP prg 73 [(i6 x2.left), (.ptr 0 0)] [bG a1, .row 48 6 0 (ra eSym []), bP x2] = some (vb true)) (apc (lg x2.right eSym 6) (apc (cv h5) (apc (cv h6) (apc (cv h7) (apc (cv h8) (apc (cv h9) (apc (cv h10) (apc (cv h11) (apc (lg x2.right eSym 6) (apc ((okT_of rfl (abl_cons rfl (abl_cons abl_row (abl_cons rfl rfl)))) : okT 3 [bG a1, .row 48 6 0 (ra eSym []), bP x2] = true) (apc (e12 : evH prg 3 [1, 3, 5, 10, 11, 12, 67, 68, 69] ir58_l0 (L58_0_s a1 a2 v1 x2 (x2.right.length : Int) 0) = some ((.brk 2), ⟨fr 110 g12 [(1, (.ptr 0 0)), (3, (.fn 73 [(.ptr 0 0)])), (5, (.ptr 2 0)), (10, (.p (.lst 7 (a1.prods.map eProd)))), (11, (i6 a2)), (12, (i6 v1)), (67, (.p (.lst 6 (x2.right.map eSym))))], [bG a1, .row 48 6 0 (ra eSym []), bP x2]⟩)) (apc ((okT_of rfl (abl_cons rfl rfl)) : okT 1 [bG a1, .row 48 6 0 (ra eSym []), bP x2] = true) apn))))))))))))))) (by kernel_rfl)
  ·
   rw [← sj h]
   exact xretY (n := 30) [(13, .d true), (14, .v (.ro (eProd x2))), (19, .v (vb false)), (6000, .d true)] (apc (cv h1) (apc (ig eProd 7 .i64 h2) (apc ((((F73_ok x2 a1 h3).own rfl (purAs_cons rfl (purAs_cons (purA_ptr rfl (mapO_con rfl (mapO_con rfl (mapO_con rfl (mapO_con rfl (mapO_con rfl rfl)))))) purAs_nil)) rfl).trans (congrArg (fun z => some (vb z)) h4)) : CP prg 73 [(i6 x2.left), (.ptr 0 0)] [bG a1, .row 48 6 0 (ra eSym []), bP x2] = some (vb false)) apn))) (by kernel_rfl)
 ·
  rw [← sj h]
  exact xbrk (n := 30) [(13, .d false), (6000, .d true)] (apc (cv h1) apn) (by kernel_rfl)
theorem L58_1_run (a1 : GramD) (a2 : Int) (s0 : Int) (e : E_L58_1) (h : runL (fun s => L58_1 a1 a2 s) s0 = some e) : L58_1_x a1 a2 e (evH prg 1 [1, 3, 10, 11, 12] ir58_l1 (L58_1_s a1 a2 s0)) := by
  have q := @loop_sound' (Int) E_L58_1 (fun s => L58_1 a1 a2 s) (fun s => evH prg 1 [1, 3, 10, 11, 12] ir58_l1 (L58_1_s a1 a2 s)) (L58_1_x a1 a2) (fun s r h => L58_1_ok a1 a2 s h) s0 e h
  exact q
noncomputable def F58 (a1 : GramD) : Option Bool :=
  ((runL (fun s => L58_1 a1 (a1.prods.length : Int) s) 0).bind fun r1 => match r1 with | .k0 => (some false) | .k1 => (some (decide ((a1.prods.length : Int) ≤ 1000))))
def F58_v (a1 : GramD) (x0 : Bool) : AV := (vb x0)
theorem F58_ok (a1 : GramD) {r : Bool} (h : F58 a1 = some r) : PR1 prg 58 [(aG a1)] (F58_v a1 r) := by
 unfold F58 at h
 refine bn h fun r1 h1 h => ?_
 cases r1 with
 | k0 =>
  obtain ⟨g1, y1, e1⟩ := L58_1_run a1 (a1.prods.length : Int) 0 _ h1
  rw [← sj h]
  exact fpr (n := 30) [(11, .v (i6 (a1.prods.length : Int))), (2000, .l .ret ⟨fr 110 g1 [(2, (vb false))], y1⟩), (6000, .d true)] (apc (lg a1.prods eProd 7) (apc ((okT_of rfl (abl_cons rfl rfl)) : okT 1 [bG a1] = true) (apc (e1 : evH prg 1 [1, 3, 10, 11, 12] ir58_l1 (L58_1_s a1 (a1.prods.length : Int) 0) = some (.ret, ⟨fr 110 g1 [(2, (vb false))], y1⟩)) apn))) rfl (by kernel_rfl)
 | k1 =>
  obtain ⟨g1, e1⟩ := L58_1_run a1 (a1.prods.length : Int) 0 _ h1
  rw [← sj h]
  exact fpr (n := 30) [(11, .v (i6 (a1.prods.length : Int))), (2000, .l (.brk 0) ⟨fr 110 g1 [(1, (.ptr 0 0)), (10, (.p (.lst 7 (a1.prods.map eProd))))], [bG a1]⟩), (108, .v (i6 (a1.prods.length : Int))), (6000, .d true)] (apc (lg a1.prods eProd 7) (apc ((okT_of rfl (abl_cons rfl rfl)) : okT 1 [bG a1] = true) (apc (e1 : evH prg 1 [1, 3, 10, 11, 12] ir58_l1 (L58_1_s a1 (a1.prods.length : Int) 0) = some ((.brk 0), ⟨fr 110 g1 [(1, (.ptr 0 0)), (10, (.p (.lst 7 (a1.prods.map eProd))))], [bG a1]⟩)) (apc (lg a1.prods eProd 7) apn)))) rfl (by kernel_rfl)
noncomputable def F74 (a1 : ForbD) (a2 : GramD) : Option Bool :=
  (bif (decide (a1.parent ≥ 0)) then (bif (decide (a1.parent < (a2.prods.length : Int))) then ((getI a2.prods a1.parent).bind fun x3 => (some (x3.role != 11))) else (some false)) else (some false))
def F74_v (a1 : ForbD) (a2 : GramD) (x0 : Bool) : AV := (vb x0)
theorem F74_ok (a1 : ForbD) (a2 : GramD) {r : Bool} (h : F74 a1 a2 = some r) : PR1 prg 74 [(i6 a1.parent), (.ro (eGram a2))] (F74_v a1 a2 r) := by
 unfold F74 at h
 refine bi h (fun h1 h => ?_) fun h1 h => ?_
 ·
  refine bi h (fun h2 h => ?_) fun h2 h => ?_
  ·
   refine bn h fun x3 h3 h => ?_
   rw [← sj h]
   exact fpr (n := 30) [(5, .d true), (10, .v (i6 (a2.prods.length : Int))), (11, .d true), (17, .v (.ro (eProd x3)))] (apc (cv h1) (apc (lg a2.prods eProd 7) (apc (cv h2) (apc (ig eProd 7 .i64 h3) apn)))) rfl (by kernel_rfl)
  ·
   rw [← sj h]
   exact fpr (n := 30) [(5, .d true), (10, .v (i6 (a2.prods.length : Int))), (11, .d false)] (apc (cv h1) (apc (lg a2.prods eProd 7) (apc (cv h2) apn))) rfl (by kernel_rfl)
 ·
  rw [← sj h]
  exact fpr (n := 30) [(5, .d false)] (apc (cv h1) apn) rfl (by kernel_rfl)
noncomputable def F74_2 (a1 : ForbD) (a2 : GramD) : Option Bool :=
  (bif (decide (a1.child ≥ 0)) then (bif (decide (a1.child < (a2.prods.length : Int))) then ((getI a2.prods a1.child).bind fun x3 => (some (x3.role != 11))) else (some false)) else (some false))
def F74_2_v (a1 : ForbD) (a2 : GramD) (x0 : Bool) : AV := (vb x0)
theorem F74_2_ok (a1 : ForbD) (a2 : GramD) {r : Bool} (h : F74_2 a1 a2 = some r) : PR1 prg 74 [(i6 a1.child), (.ro (eGram a2))] (F74_2_v a1 a2 r) := by
 unfold F74_2 at h
 refine bi h (fun h1 h => ?_) fun h1 h => ?_
 ·
  refine bi h (fun h2 h => ?_) fun h2 h => ?_
  ·
   refine bn h fun x3 h3 h => ?_
   rw [← sj h]
   exact fpr (n := 30) [(5, .d true), (10, .v (i6 (a2.prods.length : Int))), (11, .d true), (17, .v (.ro (eProd x3)))] (apc (cv h1) (apc (lg a2.prods eProd 7) (apc (cv h2) (apc (ig eProd 7 .i64 h3) apn)))) rfl (by kernel_rfl)
  ·
   rw [← sj h]
   exact fpr (n := 30) [(5, .d true), (10, .v (i6 (a2.prods.length : Int))), (11, .d false)] (apc (cv h1) (apc (lg a2.prods eProd 7) (apc (cv h2) apn))) rfl (by kernel_rfl)
 ·
  rw [← sj h]
  exact fpr (n := 30) [(5, .d false)] (apc (cv h1) apn) rfl (by kernel_rfl)
inductive E_L59_0 where
  | k0
  | k1 (x0 : List ((Int × Int × Int) × Int))
noncomputable def L59_0 (a1 : GramD) (a2 : Int) (v1 : Int) (v2 : List ((Int × Int × Int) × Int)) : Option (E_L59_0 ⊕ (Int × (List ((Int × Int × Int) × Int)))) :=
  (bif (decide (v1 < a2)) then ((getI a1.forbid v1).bind fun x2 => (bif (decide ((mget 0 (mput (x2.parent, x2.at_, x2.child) (IntKind.wrap .i64 ((mget 0 v2 (x2.parent, x2.at_, x2.child)) + 1)) v2) (x2.parent, x2.at_, x2.child)) > 1)) then (some (.inl (.k0))) else ((F74 x2 a1).bind fun x4 => (bif x4 then ((F74_2 x2 a1).bind fun x6 => (bif x6 then (bif (decide (x2.at_ < 1)) then (some (.inl (.k0))) else ((getI a1.prods x2.parent).bind fun x9 => (bif (decide (x2.at_ > (x9.right.length : Int))) then (some (.inl (.k0))) else ((getI x9.right (IntKind.wrap .i64 (x2.at_ - 1))).bind fun x11 => (bif (x11.kind != 1) then (some (.inl (.k0))) else ((getI a1.prods x2.child).bind fun x13 => (bif (x11.sort != x13.left) then (some (.inl (.k0))) else (some (.inr ((IntKind.wrap .i64 (v1 + 1)), (mput (x2.parent, x2.at_, x2.child) (IntKind.wrap .i64 ((mget 0 v2 (x2.parent, x2.at_, x2.child)) + 1)) v2))))))))))) else (some (.inl (.k0))))) else (some (.inl (.k0))))))) else (some (.inl (.k1 v2))))
def L59_0_s (a1 : GramD) (a2 : Int) (v1 : Int) (v2 : List ((Int × Int × Int) × Int)) : St := ⟨fr 87 ug [(1, (.ptr 0 0)), (3, (.mp 1)), (4, (.fn 74 [(.ptr 0 0)])), (11, (.p (.lst 3 (a1.forbid.map eForb)))), (12, (i6 a2)), (13, (i6 v1))], [bG a1, mFI v2]⟩
def L59_0_x (a1 : GramD) (a2 : Int) (e : E_L59_0) (r : Option (Out × St)) : Prop := match e with | .k0 => ∃ g y, r = some (.ret, ⟨fr 87 g [(2, (vb false))], y⟩) | .k1 x0 => ∃ g, r = some ((.brk 0), ⟨fr 87 g [(1, (.ptr 0 0)), (11, (.p (.lst 3 (a1.forbid.map eForb))))], [bG a1, mFI x0]⟩)
theorem L59_0_ok (a1 : GramD) (a2 : Int) (v1 : Int) (v2 : List ((Int × Int × Int) × Int)) {r : E_L59_0 ⊕ (Int × (List ((Int × Int × Int) × Int)))} (h : L59_0 a1 a2 v1 v2 = some r) : OkR (fun e => L59_0_x a1 a2 e (evH prg 2 [1, 3, 4, 11, 12, 13] ir59_l0 (L59_0_s a1 a2 v1 v2))) (fun s => evH prg 2 [1, 3, 4, 11, 12, 13] ir59_l0 (L59_0_s a1 a2 v1 v2) = evH prg 2 [1, 3, 4, 11, 12, 13] ir59_l0 (L59_0_s a1 a2 s.1 s.2)) r := by
 unfold L59_0 at h
 refine bi h (fun h1 h => ?_) fun h1 h => ?_
 ·
  refine bn h fun x2 h2 h => ?_
  refine bi h (fun h3 h => ?_) fun h3 h => ?_
  ·
   rw [← sj h]
   exact xretY (n := 30) [(14, .d true), (15, .v (.ro (eForb x2))), (19, .v (i6 (mget 0 v2 (x2.parent, x2.at_, x2.child)))), (21, .r (.tup [(i6 (mget 0 v2 (x2.parent, x2.at_, x2.child))), (i6 (midx v2 (x2.parent, x2.at_, x2.child) : Int))]) [bG a1, .map (mrow (fun n => .agg [vi .i64 n.1, vi .i64 n.2.1, vi .i64 n.2.2]) (fun n => vi .i64 n) (ment 0 v2 (x2.parent, x2.at_, x2.child))), .cells 85 ((eForb x2).map .p)]), (8020, .r ud [bG a1, .map (mrow (fun n => .agg [vi .i64 n.1, vi .i64 n.2.1, vi .i64 n.2.2]) (fun n => vi .i64 n) (mput (x2.parent, x2.at_, x2.child) (w6 ((mget 0 v2 (x2.parent, x2.at_, x2.child)) + 1)) v2)), .cells 85 ((eForb x2).map .p)]), (25, .v (i6 (mget 0 (mput (x2.parent, x2.at_, x2.child) (w6 ((mget 0 v2 (x2.parent, x2.at_, x2.child)) + 1)) v2) (x2.parent, x2.at_, x2.child)))), (26, .d true), (6000, .d true)] (apc (cv h1) (apc (ig eForb 3 .i64 h2) (apc ((lk_row key_int3 (es := v2) (k := (x2.parent, x2.at_, x2.child)) (z := 0) rfl rfl) : lkA [bG a1, mFI v2, .cells 85 ((eForb x2).map .p)] [1, 1, 1] .true .false [(.val (.int .i64 0))] .false (.mp 1) (.agg ((eForb x2).map .p)) = some (i6 (mget 0 v2 (x2.parent, x2.at_, x2.child)))) (apc ((en_row key_int3 (es := v2) (k := (x2.parent, x2.at_, x2.child)) (z := 0) rfl rfl) : enA [bG a1, mFI v2, .cells 85 ((eForb x2).map .p)] [1, 1, 1] .true .false [(.val (.int .i64 0))] (.mp 1) (.agg ((eForb x2).map .p)) = some ((.tup [(i6 (mget 0 v2 (x2.parent, x2.at_, x2.child))), (i6 (midx v2 (x2.parent, x2.at_, x2.child) : Int))]), [bG a1, .map (mrow (fun n => .agg [vi .i64 n.1, vi .i64 n.2.1, vi .i64 n.2.2]) (fun n => vi .i64 n) (ment 0 v2 (x2.parent, x2.at_, x2.child))), .cells 85 ((eForb x2).map .p)])) (apc (⟨es_row key_int3 (es := v2) (k := (x2.parent, x2.at_, x2.child)) (v := (w6 ((mget 0 v2 (x2.parent, x2.at_, x2.child)) + 1))) (z := 0) rfl, rfl⟩ : esA [bG a1, .map (mrow (fun n => .agg [vi .i64 n.1, vi .i64 n.2.1, vi .i64 n.2.2]) (fun n => vi .i64 n) (ment 0 v2 (x2.parent, x2.at_, x2.child))), .cells 85 ((eForb x2).map .p)] (.mp 1) (i6 (midx v2 (x2.parent, x2.at_, x2.child) : Int)) (i6 (w6 ((mget 0 v2 (x2.parent, x2.at_, x2.child)) + 1))) = some [bG a1, .map (mrow (fun n => .agg [vi .i64 n.1, vi .i64 n.2.1, vi .i64 n.2.2]) (fun n => vi .i64 n) (mput (x2.parent, x2.at_, x2.child) (w6 ((mget 0 v2 (x2.parent, x2.at_, x2.child)) + 1)) v2)), .cells 85 ((eForb x2).map .p)] ∧ ud = ud) (apc ((lk_row key_int3 (es := (mput (x2.parent, x2.at_, x2.child) (w6 ((mget 0 v2 (x2.parent, x2.at_, x2.child)) + 1)) v2)) (k := (x2.parent, x2.at_, x2.child)) (z := 0) rfl rfl) : lkA [bG a1, .map (mrow (fun n => .agg [vi .i64 n.1, vi .i64 n.2.1, vi .i64 n.2.2]) (fun n => vi .i64 n) (mput (x2.parent, x2.at_, x2.child) (w6 ((mget 0 v2 (x2.parent, x2.at_, x2.child)) + 1)) v2)), .cells 85 ((eForb x2).map .p)] [1, 1, 1] .true .false [(.val (.int .i64 0))] .false (.mp 1) (.agg ((eForb x2).map .p)) = some (i6 (mget 0 (mput (x2.parent, x2.at_, x2.child) (w6 ((mget 0 v2 (x2.parent, x2.at_, x2.child)) + 1)) v2) (x2.parent, x2.at_, x2.child)))) (apc (cv h3) apn))))))) (by kernel_rfl)
  ·
   refine bn h fun x4 h4 h => ?_
   refine bi h (fun h5 h => ?_) fun h5 h => ?_
   ·
    refine bn h fun x6 h6 h => ?_
    refine bi h (fun h7 h => ?_) fun h7 h => ?_
    ·
     refine bi h (fun h8 h => ?_) fun h8 h => ?_
     ·
      rw [← sj h]
      exact xretY (n := 30) [(14, .d true), (15, .v (.ro (eForb x2))), (19, .v (i6 (mget 0 v2 (x2.parent, x2.at_, x2.child)))), (21, .r (.tup [(i6 (mget 0 v2 (x2.parent, x2.at_, x2.child))), (i6 (midx v2 (x2.parent, x2.at_, x2.child) : Int))]) [bG a1, .map (mrow (fun n => .agg [vi .i64 n.1, vi .i64 n.2.1, vi .i64 n.2.2]) (fun n => vi .i64 n) (ment 0 v2 (x2.parent, x2.at_, x2.child))), .cells 85 ((eForb x2).map .p)]), (8020, .r ud [bG a1, .map (mrow (fun n => .agg [vi .i64 n.1, vi .i64 n.2.1, vi .i64 n.2.2]) (fun n => vi .i64 n) (mput (x2.parent, x2.at_, x2.child) (w6 ((mget 0 v2 (x2.parent, x2.at_, x2.child)) + 1)) v2)), .cells 85 ((eForb x2).map .p)]), (25, .v (i6 (mget 0 (mput (x2.parent, x2.at_, x2.child) (w6 ((mget 0 v2 (x2.parent, x2.at_, x2.child)) + 1)) v2) (x2.parent, x2.at_, x2.child)))), (26, .d false), (31, .v (vb true)), (38, .v (vb true)), (44, .d true), (6000, .d true)] (apc (cv h1) (apc (ig eForb 3 .i64 h2) (apc ((lk_row key_int3 (es := v2) (k := (x2.parent, x2.at_, x2.child)) (z := 0) rfl rfl) : lkA [bG a1, mFI v2, .cells 85 ((eForb x2).map .p)] [1, 1, 1] .true .false [(.val (.int .i64 0))] .false (.mp 1) (.agg ((eForb x2).map .p)) = some (i6 (mget 0 v2 (x2.parent, x2.at_, x2.child)))) (apc ((en_row key_int3 (es := v2) (k := (x2.parent, x2.at_, x2.child)) (z := 0) rfl rfl) : enA [bG a1, mFI v2, .cells 85 ((eForb x2).map .p)] [1, 1, 1] .true .false [(.val (.int .i64 0))] (.mp 1) (.agg ((eForb x2).map .p)) = some ((.tup [(i6 (mget 0 v2 (x2.parent, x2.at_, x2.child))), (i6 (midx v2 (x2.parent, x2.at_, x2.child) : Int))]), [bG a1, .map (mrow (fun n => .agg [vi .i64 n.1, vi .i64 n.2.1, vi .i64 n.2.2]) (fun n => vi .i64 n) (ment 0 v2 (x2.parent, x2.at_, x2.child))), .cells 85 ((eForb x2).map .p)])) (apc (⟨es_row key_int3 (es := v2) (k := (x2.parent, x2.at_, x2.child)) (v := (w6 ((mget 0 v2 (x2.parent, x2.at_, x2.child)) + 1))) (z := 0) rfl, rfl⟩ : esA [bG a1, .map (mrow (fun n => .agg [vi .i64 n.1, vi .i64 n.2.1, vi .i64 n.2.2]) (fun n => vi .i64 n) (ment 0 v2 (x2.parent, x2.at_, x2.child))), .cells 85 ((eForb x2).map .p)] (.mp 1) (i6 (midx v2 (x2.parent, x2.at_, x2.child) : Int)) (i6 (w6 ((mget 0 v2 (x2.parent, x2.at_, x2.child)) + 1))) = some [bG a1, .map (mrow (fun n => .agg [vi .i64 n.1, vi .i64 n.2.1, vi .i64 n.2.2]) (fun n => vi .i64 n) (mput (x2.parent, x2.at_, x2.child) (w6 ((mget 0 v2 (x2.parent, x2.at_, x2.child)) + 1)) v2)), .cells 85 ((eForb x2).map .p)] ∧ ud = ud) (apc ((lk_row key_int3 (es := (mput (x2.parent, x2.at_, x2.child) (w6 ((mget 0 v2 (x2.parent, x2.at_, x2.child)) + 1)) v2)) (k := (x2.parent, x2.at_, x2.child)) (z := 0) rfl rfl) : lkA [bG a1, .map (mrow (fun n => .agg [vi .i64 n.1, vi .i64 n.2.1, vi .i64 n.2.2]) (fun n => vi .i64 n) (mput (x2.parent, x2.at_, x2.child) (w6 ((mget 0 v2 (x2.parent, x2.at_, x2.child)) + 1)) v2)), .cells 85 ((eForb x2).map .p)] [1, 1, 1] .true .false [(.val (.int .i64 0))] .false (.mp 1) (.agg ((eForb x2).map .p)) = some (i6 (mget 0 (mput (x2.parent, x2.at_, x2.child) (w6 ((mget 0 v2 (x2.parent, x2.at_, x2.child)) + 1)) v2) (x2.parent, x2.at_, x2.child)))) (apc (cv h3) (apc ((((F74_ok x2 a1 h4).own rfl (purAs_cons rfl (purAs_cons (purA_ptr rfl (mapO_con rfl (mapO_con rfl (mapO_con rfl (mapO_con rfl (mapO_con rfl rfl)))))) purAs_nil)) rfl).trans (congrArg (fun z => some (vb z)) h5)) : CP prg 74 [(i6 x2.parent), (.ptr 0 0)] [bG a1, .map (mrow (fun n => .agg [vi .i64 n.1, vi .i64 n.2.1, vi .i64 n.2.2]) (fun n => vi .i64 n) (mput (x2.parent, x2.at_, x2.child) (w6 ((mget 0 v2 (x2.parent, x2.at_, x2.child)) + 1)) v2)), .cells 85 ((eForb x2).map .p)] = some (vb true)) (apc ((((F74_2_ok x2 a1 h6).own rfl (purAs_cons rfl (purAs_cons (purA_ptr rfl (mapO_con rfl (mapO_con rfl (mapO_con rfl (mapO_con rfl (mapO_con rfl rfl)))))) purAs_nil)) rfl).trans (congrArg (fun z => some (vb z)) h7)) : CP prg 74 [(i6 x2.child), (.ptr 0 0)] [bG a1, .map (mrow (fun n => .agg [vi .i64 n.1, vi .i64 n.2.1, vi .i64 n.2.2]) (fun n => vi .i64 n) (mput (x2.parent, x2.at_, x2.child) (w6 ((mget 0 v2 (x2.parent, x2.at_, x2.child)) + 1)) v2)), .cells 85 ((eForb x2).map .p)] = some (vb true)) (apc (cv h8) apn)))))))))) (by kernel_rfl)
     ·
      refine bn h fun x9 h9 h => ?_
      refine bi h (fun h10 h => ?_) fun h10 h => ?_
      ·
       rw [← sj h]
       exact xretY (n := 30) [(14, .d true), (15, .v (.ro (eForb x2))), (19, .v (i6 (mget 0 v2 (x2.parent, x2.at_, x2.child)))), (21, .r (.tup [(i6 (mget 0 v2 (x2.parent, x2.at_, x2.child))), (i6 (midx v2 (x2.parent, x2.at_, x2.child) : Int))]) [bG a1, .map (mrow (fun n => .agg [vi .i64 n.1, vi .i64 n.2.1, vi .i64 n.2.2]) (fun n => vi .i64 n) (ment 0 v2 (x2.parent, x2.at_, x2.child))), .cells 85 ((eForb x2).map .p)]), (8020, .r ud [bG a1, .map (mrow (fun n => .agg [vi .i64 n.1, vi .i64 n.2.1, vi .i64 n.2.2]) (fun n => vi .i64 n) (mput (x2.parent, x2.at_, x2.child) (w6 ((mget 0 v2 (x2.parent, x2.at_, x2.child)) + 1)) v2)), .cells 85 ((eForb x2).map .p)]), (25, .v (i6 (mget 0 (mput (x2.parent, x2.at_, x2.child) (w6 ((mget 0 v2 (x2.parent, x2.at_, x2.child)) + 1)) v2) (x2.parent, x2.at_, x2.child)))), (26, .d false), (31, .v (vb true)), (38, .v (vb true)), (44, .d false), (53, .v (.ro (eProd x9))), (56, .v (i6 (x9.right.length : Int))), (57, .d true), (6000, .d true)] (apc (cv h1) (apc (ig eForb 3 .i64 h2) (apc ((lk_row key_int3 (es := v2) (k := (x2.parent, x2.at_, x2.child)) (z := 0) rfl rfl) : lkA [bG a1, mFI v2, .cells 85 ((eForb x2).map .p)] [1, 1, 1] .true .false [(.val (.int .i64 0))] .false (.mp 1) (.agg ((eForb x2).map .p)) = some (i6 (mget 0 v2 (x2.parent, x2.at_, x2.child)))) (apc ((en_row key_int3 (es := v2) (k := (x2.parent, x2.at_, x2.child)) (z := 0) rfl rfl) : enA [bG a1, mFI v2, .cells 85 ((eForb x2).map .p)] [1, 1, 1] .true .false [(.val (.int .i64 0))] (.mp 1) (.agg ((eForb x2).map .p)) = some ((.tup [(i6 (mget 0 v2 (x2.parent, x2.at_, x2.child))), (i6 (midx v2 (x2.parent, x2.at_, x2.child) : Int))]), [bG a1, .map (mrow (fun n => .agg [vi .i64 n.1, vi .i64 n.2.1, vi .i64 n.2.2]) (fun n => vi .i64 n) (ment 0 v2 (x2.parent, x2.at_, x2.child))), .cells 85 ((eForb x2).map .p)])) (apc (⟨es_row key_int3 (es := v2) (k := (x2.parent, x2.at_, x2.child)) (v := (w6 ((mget 0 v2 (x2.parent, x2.at_, x2.child)) + 1))) (z := 0) rfl, rfl⟩ : esA [bG a1, .map (mrow (fun n => .agg [vi .i64 n.1, vi .i64 n.2.1, vi .i64 n.2.2]) (fun n => vi .i64 n) (ment 0 v2 (x2.parent, x2.at_, x2.child))), .cells 85 ((eForb x2).map .p)] (.mp 1) (i6 (midx v2 (x2.parent, x2.at_, x2.child) : Int)) (i6 (w6 ((mget 0 v2 (x2.parent, x2.at_, x2.child)) + 1))) = some [bG a1, .map (mrow (fun n => .agg [vi .i64 n.1, vi .i64 n.2.1, vi .i64 n.2.2]) (fun n => vi .i64 n) (mput (x2.parent, x2.at_, x2.child) (w6 ((mget 0 v2 (x2.parent, x2.at_, x2.child)) + 1)) v2)), .cells 85 ((eForb x2).map .p)] ∧ ud = ud) (apc ((lk_row key_int3 (es := (mput (x2.parent, x2.at_, x2.child) (w6 ((mget 0 v2 (x2.parent, x2.at_, x2.child)) + 1)) v2)) (k := (x2.parent, x2.at_, x2.child)) (z := 0) rfl rfl) : lkA [bG a1, .map (mrow (fun n => .agg [vi .i64 n.1, vi .i64 n.2.1, vi .i64 n.2.2]) (fun n => vi .i64 n) (mput (x2.parent, x2.at_, x2.child) (w6 ((mget 0 v2 (x2.parent, x2.at_, x2.child)) + 1)) v2)), .cells 85 ((eForb x2).map .p)] [1, 1, 1] .true .false [(.val (.int .i64 0))] .false (.mp 1) (.agg ((eForb x2).map .p)) = some (i6 (mget 0 (mput (x2.parent, x2.at_, x2.child) (w6 ((mget 0 v2 (x2.parent, x2.at_, x2.child)) + 1)) v2) (x2.parent, x2.at_, x2.child)))) (apc (cv h3) (apc ((((F74_ok x2 a1 h4).own rfl (purAs_cons rfl (purAs_cons (purA_ptr rfl (mapO_con rfl (mapO_con rfl (mapO_con rfl (mapO_con rfl (mapO_con rfl rfl)))))) purAs_nil)) rfl).trans (congrArg (fun z => some (vb z)) h5)) : CP prg 74 [(i6 x2.parent), (.ptr 0 0)] [bG a1, .map (mrow (fun n => .agg [vi .i64 n.1, vi .i64 n.2.1, vi .i64 n.2.2]) (fun n => vi .i64 n) (mput (x2.parent, x2.at_, x2.child) (w6 ((mget 0 v2 (x2.parent, x2.at_, x2.child)) + 1)) v2)), .cells 85 ((eForb x2).map .p)] = some (vb true)) (apc ((((F74_2_ok x2 a1 h6).own rfl (purAs_cons rfl (purAs_cons (purA_ptr rfl (mapO_con rfl (mapO_con rfl (mapO_con rfl (mapO_con rfl (mapO_con rfl rfl)))))) purAs_nil)) rfl).trans (congrArg (fun z => some (vb z)) h7)) : CP prg 74 [(i6 x2.child), (.ptr 0 0)] [bG a1, .map (mrow (fun n => .agg [vi .i64 n.1, vi .i64 n.2.1, vi .i64 n.2.2]) (fun n => vi .i64 n) (mput (x2.parent, x2.at_, x2.child) (w6 ((mget 0 v2 (x2.parent, x2.at_, x2.child)) + 1)) v2)), .cells 85 ((eForb x2).map .p)] = some (vb true)) (apc (cv h8) (apc (ig eProd 7 .i64 h9) (apc (lg x9.right eSym 6) (apc (cv h10) apn))))))))))))) (by kernel_rfl)
      ·
       refine bn h fun x11 h11 h => ?_
       refine bi h (fun h12 h => ?_) fun h12 h => ?_
       ·
        rw [← sj h]
        exact xretY (n := 30) [(14, .d true), (15, .v (.ro (eForb x2))), (19, .v (i6 (mget 0 v2 (x2.parent, x2.at_, x2.child)))), (21, .r (.tup [(i6 (mget 0 v2 (x2.parent, x2.at_, x2.child))), (i6 (midx v2 (x2.parent, x2.at_, x2.child) : Int))]) [bG a1, .map (mrow (fun n => .agg [vi .i64 n.1, vi .i64 n.2.1, vi .i64 n.2.2]) (fun n => vi .i64 n) (ment 0 v2 (x2.parent, x2.at_, x2.child))), .cells 85 ((eForb x2).map .p)]), (8020, .r ud [bG a1, .map (mrow (fun n => .agg [vi .i64 n.1, vi .i64 n.2.1, vi .i64 n.2.2]) (fun n => vi .i64 n) (mput (x2.parent, x2.at_, x2.child) (w6 ((mget 0 v2 (x2.parent, x2.at_, x2.child)) + 1)) v2)), .cells 85 ((eForb x2).map .p)]), (25, .v (i6 (mget 0 (mput (x2.parent, x2.at_, x2.child) (w6 ((mget 0 v2 (x2.parent, x2.at_, x2.child)) + 1)) v2) (x2.parent, x2.at_, x2.child)))), (26, .d false), (31, .v (vb true)), (38, .v (vb true)), (44, .d false), (53, .v (.ro (eProd x9))), (56, .v (i6 (x9.right.length : Int))), (57, .d false), (63, .v (.ro (eProd x9))), (69, .v (.ro (eSym x11))), (73, .d true), (6000, .d true)] (apc (cv h1) (apc (ig eForb 3 .i64 h2) (apc ((lk_row key_int3 (es := v2) (k := (x2.parent, x2.at_, x2.child)) (z := 0) rfl rfl) : lkA [bG a1, mFI v2, .cells 85 ((eForb x2).map .p)] [1, 1, 1] .true .false [(.val (.int .i64 0))] .false (.mp 1) (.agg ((eForb x2).map .p)) = some (i6 (mget 0 v2 (x2.parent, x2.at_, x2.child)))) (apc ((en_row key_int3 (es := v2) (k := (x2.parent, x2.at_, x2.child)) (z := 0) rfl rfl) : enA [bG a1, mFI v2, .cells 85 ((eForb x2).map .p)] [1, 1, 1] .true .false [(.val (.int .i64 0))] (.mp 1) (.agg ((eForb x2).map .p)) = some ((.tup [(i6 (mget 0 v2 (x2.parent, x2.at_, x2.child))), (i6 (midx v2 (x2.parent, x2.at_, x2.child) : Int))]), [bG a1, .map (mrow (fun n => .agg [vi .i64 n.1, vi .i64 n.2.1, vi .i64 n.2.2]) (fun n => vi .i64 n) (ment 0 v2 (x2.parent, x2.at_, x2.child))), .cells 85 ((eForb x2).map .p)])) (apc (⟨es_row key_int3 (es := v2) (k := (x2.parent, x2.at_, x2.child)) (v := (w6 ((mget 0 v2 (x2.parent, x2.at_, x2.child)) + 1))) (z := 0) rfl, rfl⟩ : esA [bG a1, .map (mrow (fun n => .agg [vi .i64 n.1, vi .i64 n.2.1, vi .i64 n.2.2]) (fun n => vi .i64 n) (ment 0 v2 (x2.parent, x2.at_, x2.child))), .cells 85 ((eForb x2).map .p)] (.mp 1) (i6 (midx v2 (x2.parent, x2.at_, x2.child) : Int)) (i6 (w6 ((mget 0 v2 (x2.parent, x2.at_, x2.child)) + 1))) = some [bG a1, .map (mrow (fun n => .agg [vi .i64 n.1, vi .i64 n.2.1, vi .i64 n.2.2]) (fun n => vi .i64 n) (mput (x2.parent, x2.at_, x2.child) (w6 ((mget 0 v2 (x2.parent, x2.at_, x2.child)) + 1)) v2)), .cells 85 ((eForb x2).map .p)] ∧ ud = ud) (apc ((lk_row key_int3 (es := (mput (x2.parent, x2.at_, x2.child) (w6 ((mget 0 v2 (x2.parent, x2.at_, x2.child)) + 1)) v2)) (k := (x2.parent, x2.at_, x2.child)) (z := 0) rfl rfl) : lkA [bG a1, .map (mrow (fun n => .agg [vi .i64 n.1, vi .i64 n.2.1, vi .i64 n.2.2]) (fun n => vi .i64 n) (mput (x2.parent, x2.at_, x2.child) (w6 ((mget 0 v2 (x2.parent, x2.at_, x2.child)) + 1)) v2)), .cells 85 ((eForb x2).map .p)] [1, 1, 1] .true .false [(.val (.int .i64 0))] .false (.mp 1) (.agg ((eForb x2).map .p)) = some (i6 (mget 0 (mput (x2.parent, x2.at_, x2.child) (w6 ((mget 0 v2 (x2.parent, x2.at_, x2.child)) + 1)) v2) (x2.parent, x2.at_, x2.child)))) (apc (cv h3) (apc ((((F74_ok x2 a1 h4).own rfl (purAs_cons rfl (purAs_cons (purA_ptr rfl (mapO_con rfl (mapO_con rfl (mapO_con rfl (mapO_con rfl (mapO_con rfl rfl)))))) purAs_nil)) rfl).trans (congrArg (fun z => some (vb z)) h5)) : CP prg 74 [(i6 x2.parent), (.ptr 0 0)] [bG a1, .map (mrow (fun n => .agg [vi .i64 n.1, vi .i64 n.2.1, vi .i64 n.2.2]) (fun n => vi .i64 n) (mput (x2.parent, x2.at_, x2.child) (w6 ((mget 0 v2 (x2.parent, x2.at_, x2.child)) + 1)) v2)), .cells 85 ((eForb x2).map .p)] = some (vb true)) (apc ((((F74_2_ok x2 a1 h6).own rfl (purAs_cons rfl (purAs_cons (purA_ptr rfl (mapO_con rfl (mapO_con rfl (mapO_con rfl (mapO_con rfl (mapO_con rfl rfl)))))) purAs_nil)) rfl).trans (congrArg (fun z => some (vb z)) h7)) : CP prg 74 [(i6 x2.child), (.ptr 0 0)] [bG a1, .map (mrow (fun n => .agg [vi .i64 n.1, vi .i64 n.2.1, vi .i64 n.2.2]) (fun n => vi .i64 n) (mput (x2.parent, x2.at_, x2.child) (w6 ((mget 0 v2 (x2.parent, x2.at_, x2.child)) + 1)) v2)), .cells 85 ((eForb x2).map .p)] = some (vb true)) (apc (cv h8) (apc (ig eProd 7 .i64 h9) (apc (lg x9.right eSym 6) (apc (cv h10) (apc (ig eProd 7 .i64 h9) (apc (ig eSym 6 .i64 h11) (apc (cv h12) apn)))))))))))))))) (by kernel_rfl)
       ·
        refine bn h fun x13 h13 h => ?_
        refine bi h (fun h14 h => ?_) fun h14 h => ?_
        ·
         rw [← sj h]
         exact xretY (n := 30) [(14, .d true), (15, .v (.ro (eForb x2))), (19, .v (i6 (mget 0 v2 (x2.parent, x2.at_, x2.child)))), (21, .r (.tup [(i6 (mget 0 v2 (x2.parent, x2.at_, x2.child))), (i6 (midx v2 (x2.parent, x2.at_, x2.child) : Int))]) [bG a1, .map (mrow (fun n => .agg [vi .i64 n.1, vi .i64 n.2.1, vi .i64 n.2.2]) (fun n => vi .i64 n) (ment 0 v2 (x2.parent, x2.at_, x2.child))), .cells 85 ((eForb x2).map .p)]), (8020, .r ud [bG a1, .map (mrow (fun n => .agg [vi .i64 n.1, vi .i64 n.2.1, vi .i64 n.2.2]) (fun n => vi .i64 n) (mput (x2.parent, x2.at_, x2.child) (w6 ((mget 0 v2 (x2.parent, x2.at_, x2.child)) + 1)) v2)), .cells 85 ((eForb x2).map .p)]), (25, .v (i6 (mget 0 (mput (x2.parent, x2.at_, x2.child) (w6 ((mget 0 v2 (x2.parent, x2.at_, x2.child)) + 1)) v2) (x2.parent, x2.at_, x2.child)))), (26, .d false), (31, .v (vb true)), (38, .v (vb true)), (44, .d false), (53, .v (.ro (eProd x9))), (56, .v (i6 (x9.right.length : Int))), (57, .d false), (63, .v (.ro (eProd x9))), (69, .v (.ro (eSym x11))), (73, .d false), (81, .v (.ro (eProd x13))), (84, .d true), (6000, .d true)] (apc (cv h1) (apc (ig eForb 3 .i64 h2) (apc ((lk_row key_int3 (es := v2) (k := (x2.parent, x2.at_, x2.child)) (z := 0) rfl rfl) : lkA [bG a1, mFI v2, .cells 85 ((eForb x2).map .p)] [1, 1, 1] .true .false [(.val (.int .i64 0))] .false (.mp 1) (.agg ((eForb x2).map .p)) = some (i6 (mget 0 v2 (x2.parent, x2.at_, x2.child)))) (apc ((en_row key_int3 (es := v2) (k := (x2.parent, x2.at_, x2.child)) (z := 0) rfl rfl) : enA [bG a1, mFI v2, .cells 85 ((eForb x2).map .p)] [1, 1, 1] .true .false [(.val (.int .i64 0))] (.mp 1) (.agg ((eForb x2).map .p)) = some ((.tup [(i6 (mget 0 v2 (x2.parent, x2.at_, x2.child))), (i6 (midx v2 (x2.parent, x2.at_, x2.child) : Int))]), [bG a1, .map (mrow (fun n => .agg [vi .i64 n.1, vi .i64 n.2.1, vi .i64 n.2.2]) (fun n => vi .i64 n) (ment 0 v2 (x2.parent, x2.at_, x2.child))), .cells 85 ((eForb x2).map .p)])) (apc (⟨es_row key_int3 (es := v2) (k := (x2.parent, x2.at_, x2.child)) (v := (w6 ((mget 0 v2 (x2.parent, x2.at_, x2.child)) + 1))) (z := 0) rfl, rfl⟩ : esA [bG a1, .map (mrow (fun n => .agg [vi .i64 n.1, vi .i64 n.2.1, vi .i64 n.2.2]) (fun n => vi .i64 n) (ment 0 v2 (x2.parent, x2.at_, x2.child))), .cells 85 ((eForb x2).map .p)] (.mp 1) (i6 (midx v2 (x2.parent, x2.at_, x2.child) : Int)) (i6 (w6 ((mget 0 v2 (x2.parent, x2.at_, x2.child)) + 1))) = some [bG a1, .map (mrow (fun n => .agg [vi .i64 n.1, vi .i64 n.2.1, vi .i64 n.2.2]) (fun n => vi .i64 n) (mput (x2.parent, x2.at_, x2.child) (w6 ((mget 0 v2 (x2.parent, x2.at_, x2.child)) + 1)) v2)), .cells 85 ((eForb x2).map .p)] ∧ ud = ud) (apc ((lk_row key_int3 (es := (mput (x2.parent, x2.at_, x2.child) (w6 ((mget 0 v2 (x2.parent, x2.at_, x2.child)) + 1)) v2)) (k := (x2.parent, x2.at_, x2.child)) (z := 0) rfl rfl) : lkA [bG a1, .map (mrow (fun n => .agg [vi .i64 n.1, vi .i64 n.2.1, vi .i64 n.2.2]) (fun n => vi .i64 n) (mput (x2.parent, x2.at_, x2.child) (w6 ((mget 0 v2 (x2.parent, x2.at_, x2.child)) + 1)) v2)), .cells 85 ((eForb x2).map .p)] [1, 1, 1] .true .false [(.val (.int .i64 0))] .false (.mp 1) (.agg ((eForb x2).map .p)) = some (i6 (mget 0 (mput (x2.parent, x2.at_, x2.child) (w6 ((mget 0 v2 (x2.parent, x2.at_, x2.child)) + 1)) v2) (x2.parent, x2.at_, x2.child)))) (apc (cv h3) (apc ((((F74_ok x2 a1 h4).own rfl (purAs_cons rfl (purAs_cons (purA_ptr rfl (mapO_con rfl (mapO_con rfl (mapO_con rfl (mapO_con rfl (mapO_con rfl rfl)))))) purAs_nil)) rfl).trans (congrArg (fun z => some (vb z)) h5)) : CP prg 74 [(i6 x2.parent), (.ptr 0 0)] [bG a1, .map (mrow (fun n => .agg [vi .i64 n.1, vi .i64 n.2.1, vi .i64 n.2.2]) (fun n => vi .i64 n) (mput (x2.parent, x2.at_, x2.child) (w6 ((mget 0 v2 (x2.parent, x2.at_, x2.child)) + 1)) v2)), .cells 85 ((eForb x2).map .p)] = some (vb true)) (apc ((((F74_2_ok x2 a1 h6).own rfl (purAs_cons rfl (purAs_cons (purA_ptr rfl (mapO_con rfl (mapO_con rfl (mapO_con rfl (mapO_con rfl (mapO_con rfl rfl)))))) purAs_nil)) rfl).trans (congrArg (fun z => some (vb z)) h7)) : CP prg 74 [(i6 x2.child), (.ptr 0 0)] [bG a1, .map (mrow (fun n => .agg [vi .i64 n.1, vi .i64 n.2.1, vi .i64 n.2.2]) (fun n => vi .i64 n) (mput (x2.parent, x2.at_, x2.child) (w6 ((mget 0 v2 (x2.parent, x2.at_, x2.child)) + 1)) v2)), .cells 85 ((eForb x2).map .p)] = some (vb true)) (apc (cv h8) (apc (ig eProd 7 .i64 h9) (apc (lg x9.right eSym 6) (apc (cv h10) (apc (ig eProd 7 .i64 h9) (apc (ig eSym 6 .i64 h11) (apc (cv h12) (apc (ig eProd 7 .i64 h13) (apc (cv h14) apn)))))))))))))))))) (by kernel_rfl)
        ·
         rw [← sj h]
         exact rnd (n := 30) [(14, .d true), (15, .v (.ro (eForb x2))), (19, .v (i6 (mget 0 v2 (x2.parent, x2.at_, x2.child)))), (21, .r (.tup [(i6 (mget 0 v2 (x2.parent, x2.at_, x2.child))), (i6 (midx v2 (x2.parent, x2.at_, x2.child) : Int))]) [bG a1, .map (mrow (fun n => .agg [vi .i64 n.1, vi .i64 n.2.1, vi .i64 n.2.2]) (fun n => vi .i64 n) (ment 0 v2 (x2.parent, x2.at_, x2.child))), .cells 85 ((eForb x2).map .p)]), (8020, .r ud [bG a1, .map (mrow (fun n => .agg [vi .i64 n.1, vi .i64 n.2.1, vi .i64 n.2.2]) (fun n => vi .i64 n) (mput (x2.parent, x2.at_, x2.child) (w6 ((mget 0 v2 (x2.parent, x2.at_, x2.child)) + 1)) v2)), .cells 85 ((eForb x2).map .p)]), (25, .v (i6 (mget 0 (mput (x2.parent, x2.at_, x2.child) (w6 ((mget 0 v2 (x2.parent, x2.at_, x2.child)) + 1)) v2) (x2.parent, x2.at_, x2.child)))), (26, .d false), (31, .v (vb true)), (38, .v (vb true)), (44, .d false), (53, .v (.ro (eProd x9))), (56, .v (i6 (x9.right.length : Int))), (57, .d false), (63, .v (.ro (eProd x9))), (69, .v (.ro (eSym x11))), (73, .d false), (81, .v (.ro (eProd x13))), (84, .d false), (6000, .d true)] (apc (cv h1) (apc (ig eForb 3 .i64 h2) (apc ((lk_row key_int3 (es := v2) (k := (x2.parent, x2.at_, x2.child)) (z := 0) rfl rfl) : lkA [bG a1, mFI v2, .cells 85 ((eForb x2).map .p)] [1, 1, 1] .true .false [(.val (.int .i64 0))] .false (.mp 1) (.agg ((eForb x2).map .p)) = some (i6 (mget 0 v2 (x2.parent, x2.at_, x2.child)))) (apc ((en_row key_int3 (es := v2) (k := (x2.parent, x2.at_, x2.child)) (z := 0) rfl rfl) : enA [bG a1, mFI v2, .cells 85 ((eForb x2).map .p)] [1, 1, 1] .true .false [(.val (.int .i64 0))] (.mp 1) (.agg ((eForb x2).map .p)) = some ((.tup [(i6 (mget 0 v2 (x2.parent, x2.at_, x2.child))), (i6 (midx v2 (x2.parent, x2.at_, x2.child) : Int))]), [bG a1, .map (mrow (fun n => .agg [vi .i64 n.1, vi .i64 n.2.1, vi .i64 n.2.2]) (fun n => vi .i64 n) (ment 0 v2 (x2.parent, x2.at_, x2.child))), .cells 85 ((eForb x2).map .p)])) (apc (⟨es_row key_int3 (es := v2) (k := (x2.parent, x2.at_, x2.child)) (v := (w6 ((mget 0 v2 (x2.parent, x2.at_, x2.child)) + 1))) (z := 0) rfl, rfl⟩ : esA [bG a1, .map (mrow (fun n => .agg [vi .i64 n.1, vi .i64 n.2.1, vi .i64 n.2.2]) (fun n => vi .i64 n) (ment 0 v2 (x2.parent, x2.at_, x2.child))), .cells 85 ((eForb x2).map .p)] (.mp 1) (i6 (midx v2 (x2.parent, x2.at_, x2.child) : Int)) (i6 (w6 ((mget 0 v2 (x2.parent, x2.at_, x2.child)) + 1))) = some [bG a1, .map (mrow (fun n => .agg [vi .i64 n.1, vi .i64 n.2.1, vi .i64 n.2.2]) (fun n => vi .i64 n) (mput (x2.parent, x2.at_, x2.child) (w6 ((mget 0 v2 (x2.parent, x2.at_, x2.child)) + 1)) v2)), .cells 85 ((eForb x2).map .p)] ∧ ud = ud) (apc ((lk_row key_int3 (es := (mput (x2.parent, x2.at_, x2.child) (w6 ((mget 0 v2 (x2.parent, x2.at_, x2.child)) + 1)) v2)) (k := (x2.parent, x2.at_, x2.child)) (z := 0) rfl rfl) : lkA [bG a1, .map (mrow (fun n => .agg [vi .i64 n.1, vi .i64 n.2.1, vi .i64 n.2.2]) (fun n => vi .i64 n) (mput (x2.parent, x2.at_, x2.child) (w6 ((mget 0 v2 (x2.parent, x2.at_, x2.child)) + 1)) v2)), .cells 85 ((eForb x2).map .p)] [1, 1, 1] .true .false [(.val (.int .i64 0))] .false (.mp 1) (.agg ((eForb x2).map .p)) = some (i6 (mget 0 (mput (x2.parent, x2.at_, x2.child) (w6 ((mget 0 v2 (x2.parent, x2.at_, x2.child)) + 1)) v2) (x2.parent, x2.at_, x2.child)))) (apc (cv h3) (apc ((((F74_ok x2 a1 h4).own rfl (purAs_cons rfl (purAs_cons (purA_ptr rfl (mapO_con rfl (mapO_con rfl (mapO_con rfl (mapO_con rfl (mapO_con rfl rfl)))))) purAs_nil)) rfl).trans (congrArg (fun z => some (vb z)) h5)) : CP prg 74 [(i6 x2.parent), (.ptr 0 0)] [bG a1, .map (mrow (fun n => .agg [vi .i64 n.1, vi .i64 n.2.1, vi .i64 n.2.2]) (fun n => vi .i64 n) (mput (x2.parent, x2.at_, x2.child) (w6 ((mget 0 v2 (x2.parent, x2.at_, x2.child)) + 1)) v2)), .cells 85 ((eForb x2).map .p)] = some (vb true)) (apc ((((F74_2_ok x2 a1 h6).own rfl (purAs_cons rfl (purAs_cons (purA_ptr rfl (mapO_con rfl (mapO_con rfl (mapO_con rfl (mapO_con rfl (mapO_con rfl rfl)))))) purAs_nil)) rfl).trans (congrArg (fun z => some (vb z)) h7)) : CP prg 74 [(i6 x2.child), (.ptr 0 0)] [bG a1, .map (mrow (fun n => .agg [vi .i64 n.1, vi .i64 n.2.1, vi .i64 n.2.2]) (fun n => vi .i64 n) (mput (x2.parent, x2.at_, x2.child) (w6 ((mget 0 v2 (x2.parent, x2.at_, x2.child)) + 1)) v2)), .cells 85 ((eForb x2).map .p)] = some (vb true)) (apc (cv h8) (apc (ig eProd 7 .i64 h9) (apc (lg x9.right eSym 6) (apc (cv h10) (apc (ig eProd 7 .i64 h9) (apc (ig eSym 6 .i64 h11) (apc (cv h12) (apc (ig eProd 7 .i64 h13) (apc (cv h14) (apc ((okT_of rfl (abl_cons rfl (abl_cons (abl_map (fun _ => rfl) (fun _ => rfl)) rfl))) : okT 2 [bG a1, .map (mrow (fun n => .agg [vi .i64 n.1, vi .i64 n.2.1, vi .i64 n.2.2]) (fun n => vi .i64 n) (mput (x2.parent, x2.at_, x2.child) (w6 ((mget 0 v2 (x2.parent, x2.at_, x2.child)) + 1)) v2)), .cells 85 ((eForb x2).map .p), .cells 48 ((eSym x11).map .p)] = true) apn))))))))))))))))))) (by kernel_rfl)
    ·
     rw [← sj h]
     exact xretY (n := 30) [(14, .d true), (15, .v (.ro (eForb x2))), (19, .v (i6 (mget 0 v2 (x2.parent, x2.at_, x2.child)))), (21, .r (.tup [(i6 (mget 0 v2 (x2.parent, x2.at_, x2.child))), (i6 (midx v2 (x2.parent, x2.at_, x2.child) : Int))]) [bG a1, .map (mrow (fun n => .agg [vi .i64 n.1, vi .i64 n.2.1, vi .i64 n.2.2]) (fun n => vi .i64 n) (ment 0 v2 (x2.parent, x2.at_, x2.child))), .cells 85 ((eForb x2).map .p)]), (8020, .r ud [bG a1, .map (mrow (fun n => .agg [vi .i64 n.1, vi .i64 n.2.1, vi .i64 n.2.2]) (fun n => vi .i64 n) (mput (x2.parent, x2.at_, x2.child) (w6 ((mget 0 v2 (x2.parent, x2.at_, x2.child)) + 1)) v2)), .cells 85 ((eForb x2).map .p)]), (25, .v (i6 (mget 0 (mput (x2.parent, x2.at_, x2.child) (w6 ((mget 0 v2 (x2.parent, x2.at_, x2.child)) + 1)) v2) (x2.parent, x2.at_, x2.child)))), (26, .d false), (31, .v (vb true)), (38, .v (vb false)), (6000, .d true)] (apc (cv h1) (apc (ig eForb 3 .i64 h2) (apc ((lk_row key_int3 (es := v2) (k := (x2.parent, x2.at_, x2.child)) (z := 0) rfl rfl) : lkA [bG a1, mFI v2, .cells 85 ((eForb x2).map .p)] [1, 1, 1] .true .false [(.val (.int .i64 0))] .false (.mp 1) (.agg ((eForb x2).map .p)) = some (i6 (mget 0 v2 (x2.parent, x2.at_, x2.child)))) (apc ((en_row key_int3 (es := v2) (k := (x2.parent, x2.at_, x2.child)) (z := 0) rfl rfl) : enA [bG a1, mFI v2, .cells 85 ((eForb x2).map .p)] [1, 1, 1] .true .false [(.val (.int .i64 0))] (.mp 1) (.agg ((eForb x2).map .p)) = some ((.tup [(i6 (mget 0 v2 (x2.parent, x2.at_, x2.child))), (i6 (midx v2 (x2.parent, x2.at_, x2.child) : Int))]), [bG a1, .map (mrow (fun n => .agg [vi .i64 n.1, vi .i64 n.2.1, vi .i64 n.2.2]) (fun n => vi .i64 n) (ment 0 v2 (x2.parent, x2.at_, x2.child))), .cells 85 ((eForb x2).map .p)])) (apc (⟨es_row key_int3 (es := v2) (k := (x2.parent, x2.at_, x2.child)) (v := (w6 ((mget 0 v2 (x2.parent, x2.at_, x2.child)) + 1))) (z := 0) rfl, rfl⟩ : esA [bG a1, .map (mrow (fun n => .agg [vi .i64 n.1, vi .i64 n.2.1, vi .i64 n.2.2]) (fun n => vi .i64 n) (ment 0 v2 (x2.parent, x2.at_, x2.child))), .cells 85 ((eForb x2).map .p)] (.mp 1) (i6 (midx v2 (x2.parent, x2.at_, x2.child) : Int)) (i6 (w6 ((mget 0 v2 (x2.parent, x2.at_, x2.child)) + 1))) = some [bG a1, .map (mrow (fun n => .agg [vi .i64 n.1, vi .i64 n.2.1, vi .i64 n.2.2]) (fun n => vi .i64 n) (mput (x2.parent, x2.at_, x2.child) (w6 ((mget 0 v2 (x2.parent, x2.at_, x2.child)) + 1)) v2)), .cells 85 ((eForb x2).map .p)] ∧ ud = ud) (apc ((lk_row key_int3 (es := (mput (x2.parent, x2.at_, x2.child) (w6 ((mget 0 v2 (x2.parent, x2.at_, x2.child)) + 1)) v2)) (k := (x2.parent, x2.at_, x2.child)) (z := 0) rfl rfl) : lkA [bG a1, .map (mrow (fun n => .agg [vi .i64 n.1, vi .i64 n.2.1, vi .i64 n.2.2]) (fun n => vi .i64 n) (mput (x2.parent, x2.at_, x2.child) (w6 ((mget 0 v2 (x2.parent, x2.at_, x2.child)) + 1)) v2)), .cells 85 ((eForb x2).map .p)] [1, 1, 1] .true .false [(.val (.int .i64 0))] .false (.mp 1) (.agg ((eForb x2).map .p)) = some (i6 (mget 0 (mput (x2.parent, x2.at_, x2.child) (w6 ((mget 0 v2 (x2.parent, x2.at_, x2.child)) + 1)) v2) (x2.parent, x2.at_, x2.child)))) (apc (cv h3) (apc ((((F74_ok x2 a1 h4).own rfl (purAs_cons rfl (purAs_cons (purA_ptr rfl (mapO_con rfl (mapO_con rfl (mapO_con rfl (mapO_con rfl (mapO_con rfl rfl)))))) purAs_nil)) rfl).trans (congrArg (fun z => some (vb z)) h5)) : CP prg 74 [(i6 x2.parent), (.ptr 0 0)] [bG a1, .map (mrow (fun n => .agg [vi .i64 n.1, vi .i64 n.2.1, vi .i64 n.2.2]) (fun n => vi .i64 n) (mput (x2.parent, x2.at_, x2.child) (w6 ((mget 0 v2 (x2.parent, x2.at_, x2.child)) + 1)) v2)), .cells 85 ((eForb x2).map .p)] = some (vb true)) (apc ((((F74_2_ok x2 a1 h6).own rfl (purAs_cons rfl (purAs_cons (purA_ptr rfl (mapO_con rfl (mapO_con rfl (mapO_con rfl (mapO_con rfl (mapO_con rfl rfl)))))) purAs_nil)) rfl).trans (congrArg (fun z => some (vb z)) h7)) : CP prg 74 [(i6 x2.child), (.ptr 0 0)] [bG a1, .map (mrow (fun n => .agg [vi .i64 n.1, vi .i64 n.2.1, vi .i64 n.2.2]) (fun n => vi .i64 n) (mput (x2.parent, x2.at_, x2.child) (w6 ((mget 0 v2 (x2.parent, x2.at_, x2.child)) + 1)) v2)), .cells 85 ((eForb x2).map .p)] = some (vb false)) apn))))))))) (by kernel_rfl)
   ·
    rw [← sj h]
    exact xretY (n := 30) [(14, .d true), (15, .v (.ro (eForb x2))), (19, .v (i6 (mget 0 v2 (x2.parent, x2.at_, x2.child)))), (21, .r (.tup [(i6 (mget 0 v2 (x2.parent, x2.at_, x2.child))), (i6 (midx v2 (x2.parent, x2.at_, x2.child) : Int))]) [bG a1, .map (mrow (fun n => .agg [vi .i64 n.1, vi .i64 n.2.1, vi .i64 n.2.2]) (fun n => vi .i64 n) (ment 0 v2 (x2.parent, x2.at_, x2.child))), .cells 85 ((eForb x2).map .p)]), (8020, .r ud [bG a1, .map (mrow (fun n => .agg [vi .i64 n.1, vi .i64 n.2.1, vi .i64 n.2.2]) (fun n => vi .i64 n) (mput (x2.parent, x2.at_, x2.child) (w6 ((mget 0 v2 (x2.parent, x2.at_, x2.child)) + 1)) v2)), .cells 85 ((eForb x2).map .p)]), (25, .v (i6 (mget 0 (mput (x2.parent, x2.at_, x2.child) (w6 ((mget 0 v2 (x2.parent, x2.at_, x2.child)) + 1)) v2) (x2.parent, x2.at_, x2.child)))), (26, .d false), (31, .v (vb false)), (6000, .d true)] (apc (cv h1) (apc (ig eForb 3 .i64 h2) (apc ((lk_row key_int3 (es := v2) (k := (x2.parent, x2.at_, x2.child)) (z := 0) rfl rfl) : lkA [bG a1, mFI v2, .cells 85 ((eForb x2).map .p)] [1, 1, 1] .true .false [(.val (.int .i64 0))] .false (.mp 1) (.agg ((eForb x2).map .p)) = some (i6 (mget 0 v2 (x2.parent, x2.at_, x2.child)))) (apc ((en_row key_int3 (es := v2) (k := (x2.parent, x2.at_, x2.child)) (z := 0) rfl rfl) : enA [bG a1, mFI v2, .cells 85 ((eForb x2).map .p)] [1, 1, 1] .true .false [(.val (.int .i64 0))] (.mp 1) (.agg ((eForb x2).map .p)) = some ((.tup [(i6 (mget 0 v2 (x2.parent, x2.at_, x2.child))), (i6 (midx v2 (x2.parent, x2.at_, x2.child) : Int))]), [bG a1, .map (mrow (fun n => .agg [vi .i64 n.1, vi .i64 n.2.1, vi .i64 n.2.2]) (fun n => vi .i64 n) (ment 0 v2 (x2.parent, x2.at_, x2.child))), .cells 85 ((eForb x2).map .p)])) (apc (⟨es_row key_int3 (es := v2) (k := (x2.parent, x2.at_, x2.child)) (v := (w6 ((mget 0 v2 (x2.parent, x2.at_, x2.child)) + 1))) (z := 0) rfl, rfl⟩ : esA [bG a1, .map (mrow (fun n => .agg [vi .i64 n.1, vi .i64 n.2.1, vi .i64 n.2.2]) (fun n => vi .i64 n) (ment 0 v2 (x2.parent, x2.at_, x2.child))), .cells 85 ((eForb x2).map .p)] (.mp 1) (i6 (midx v2 (x2.parent, x2.at_, x2.child) : Int)) (i6 (w6 ((mget 0 v2 (x2.parent, x2.at_, x2.child)) + 1))) = some [bG a1, .map (mrow (fun n => .agg [vi .i64 n.1, vi .i64 n.2.1, vi .i64 n.2.2]) (fun n => vi .i64 n) (mput (x2.parent, x2.at_, x2.child) (w6 ((mget 0 v2 (x2.parent, x2.at_, x2.child)) + 1)) v2)), .cells 85 ((eForb x2).map .p)] ∧ ud = ud) (apc ((lk_row key_int3 (es := (mput (x2.parent, x2.at_, x2.child) (w6 ((mget 0 v2 (x2.parent, x2.at_, x2.child)) + 1)) v2)) (k := (x2.parent, x2.at_, x2.child)) (z := 0) rfl rfl) : lkA [bG a1, .map (mrow (fun n => .agg [vi .i64 n.1, vi .i64 n.2.1, vi .i64 n.2.2]) (fun n => vi .i64 n) (mput (x2.parent, x2.at_, x2.child) (w6 ((mget 0 v2 (x2.parent, x2.at_, x2.child)) + 1)) v2)), .cells 85 ((eForb x2).map .p)] [1, 1, 1] .true .false [(.val (.int .i64 0))] .false (.mp 1) (.agg ((eForb x2).map .p)) = some (i6 (mget 0 (mput (x2.parent, x2.at_, x2.child) (w6 ((mget 0 v2 (x2.parent, x2.at_, x2.child)) + 1)) v2) (x2.parent, x2.at_, x2.child)))) (apc (cv h3) (apc ((((F74_ok x2 a1 h4).own rfl (purAs_cons rfl (purAs_cons (purA_ptr rfl (mapO_con rfl (mapO_con rfl (mapO_con rfl (mapO_con rfl (mapO_con rfl rfl)))))) purAs_nil)) rfl).trans (congrArg (fun z => some (vb z)) h5)) : CP prg 74 [(i6 x2.parent), (.ptr 0 0)] [bG a1, .map (mrow (fun n => .agg [vi .i64 n.1, vi .i64 n.2.1, vi .i64 n.2.2]) (fun n => vi .i64 n) (mput (x2.parent, x2.at_, x2.child) (w6 ((mget 0 v2 (x2.parent, x2.at_, x2.child)) + 1)) v2)), .cells 85 ((eForb x2).map .p)] = some (vb false)) apn)))))))) (by kernel_rfl)
 ·
  rw [← sj h]
  exact xbrk (n := 30) [(14, .d false), (6000, .d true)] (apc (cv h1) apn) (by kernel_rfl)
theorem L59_0_run (a1 : GramD) (a2 : Int) (s0 : Int × (List ((Int × Int × Int) × Int))) (e : E_L59_0) (h : runL (fun s => L59_0 a1 a2 s.1 s.2) s0 = some e) : L59_0_x a1 a2 e (evH prg 2 [1, 3, 4, 11, 12, 13] ir59_l0 (L59_0_s a1 a2 s0.1 s0.2)) := by
  have q := @loop_sound' (Int × (List ((Int × Int × Int) × Int))) E_L59_0 (fun s => L59_0 a1 a2 s.1 s.2) (fun s => evH prg 2 [1, 3, 4, 11, 12, 13] ir59_l0 (L59_0_s a1 a2 s.1 s.2)) (L59_0_x a1 a2) (fun s r h => L59_0_ok a1 a2 s.1 s.2 h) s0 e h
  exact q
noncomputable def F59 (a1 : GramD) : Option Bool :=
  ((runL (fun s => L59_0 a1 (a1.forbid.length : Int) s.1 s.2) (0, [])).bind fun r1 => match r1 with | .k0 => (some false) | .k1 x1_0 => (some true))
def F59_v (a1 : GramD) (x0 : Bool) : AV := (vb x0)
theorem F59_ok (a1 : GramD) {r : Bool} (h : F59 a1 = some r) : PR1 prg 59 [(aG a1)] (F59_v a1 r) := by
 unfold F59 at h
 refine bn h fun r1 h1 h => ?_
 cases r1 with
 | k0 =>
  obtain ⟨g1, y1, e1⟩ := L59_0_run a1 (a1.forbid.length : Int) (0, []) _ h1
  rw [← sj h]
  exact fpr (n := 30) [(12, .v (i6 (a1.forbid.length : Int))), (2000, .l .ret ⟨fr 87 g1 [(2, (vb false))], y1⟩), (6000, .d true)] (apc (lg a1.forbid eForb 3) (apc ((okT_of rfl (abl_cons rfl (abl_cons rfl rfl))) : okT 2 [bG a1, .map []] = true) (apc (e1 : evH prg 2 [1, 3, 4, 11, 12, 13] ir59_l0 (L59_0_s a1 (a1.forbid.length : Int) 0 ([])) = some (.ret, ⟨fr 87 g1 [(2, (vb false))], y1⟩)) apn))) rfl (by kernel_rfl)
 | k1 x1_0 =>
  obtain ⟨g1, e1⟩ := L59_0_run a1 (a1.forbid.length : Int) (0, []) _ h1
  rw [← sj h]
  exact fpr (n := 30) [(12, .v (i6 (a1.forbid.length : Int))), (2000, .l (.brk 0) ⟨fr 87 g1 [(1, (.ptr 0 0)), (11, (.p (.lst 3 (a1.forbid.map eForb))))], [bG a1, mFI x1_0]⟩), (6000, .d true)] (apc (lg a1.forbid eForb 3) (apc ((okT_of rfl (abl_cons rfl (abl_cons rfl rfl))) : okT 2 [bG a1, .map []] = true) (apc (e1 : evH prg 2 [1, 3, 4, 11, 12, 13] ir59_l0 (L59_0_s a1 (a1.forbid.length : Int) 0 ([])) = some ((.brk 0), ⟨fr 87 g1 [(1, (.ptr 0 0)), (11, (.p (.lst 3 (a1.forbid.map eForb))))], [bG a1, mFI x1_0]⟩)) apn))) rfl (by kernel_rfl)
inductive E_L60_0 where
  | k0
  | k1 (x0 : List (Int × Int))
noncomputable def L60_0 (a1 : GramD) (a2 : Int) (v1 : Int) (v2 : List (Int × Int)) : Option (E_L60_0 ⊕ (Int × (List (Int × Int)))) :=
  (bif (decide (v1 < a2)) then ((getI a1.follow v1).bind fun x2 => (bif (decide ((mget 0 (mput x2.sort (IntKind.wrap .i64 ((mget 0 v2 x2.sort) + 1)) v2) x2.sort) > 1)) then (some (.inl (.k0))) else (bif (decide (x2.sort < 0)) then (some (.inl (.k0))) else (bif (decide (x2.sort ≥ (a1.sorts.length : Int))) then (some (.inl (.k0))) else (bif ((x2.a == 0) && ((x2.b == 0) && ((x2.c == 0) && ((x2.d == 0) && true)))) then (some (.inl (.k0))) else (some (.inr ((IntKind.wrap .i64 (v1 + 1)), (mput x2.sort (IntKind.wrap .i64 ((mget 0 v2 x2.sort) + 1)) v2))))))))) else (some (.inl (.k1 v2))))
def L60_0_s (a1 : GramD) (a2 : Int) (v1 : Int) (v2 : List (Int × Int)) : St := ⟨fr 44 ug [(1, (.ptr 0 0)), (3, (.mp 1)), (8, (.p (.lst 5 (a1.follow.map eFoll)))), (9, (i6 a2)), (10, (i6 v1))], [bG a1, mII v2]⟩
def L60_0_x (a1 : GramD) (a2 : Int) (e : E_L60_0) (r : Option (Out × St)) : Prop := match e with | .k0 => ∃ g y, r = some (.ret, ⟨fr 44 g [(2, (vb false))], y⟩) | .k1 x0 => ∃ g, r = some ((.brk 0), ⟨fr 44 g [(1, (.ptr 0 0)), (8, (.p (.lst 5 (a1.follow.map eFoll))))], [bG a1, mII x0]⟩)
theorem L60_0_ok (a1 : GramD) (a2 : Int) (v1 : Int) (v2 : List (Int × Int)) {r : E_L60_0 ⊕ (Int × (List (Int × Int)))} (h : L60_0 a1 a2 v1 v2 = some r) : OkR (fun e => L60_0_x a1 a2 e (evH prg 2 [1, 3, 8, 9, 10] ir60_l0 (L60_0_s a1 a2 v1 v2))) (fun s => evH prg 2 [1, 3, 8, 9, 10] ir60_l0 (L60_0_s a1 a2 v1 v2) = evH prg 2 [1, 3, 8, 9, 10] ir60_l0 (L60_0_s a1 a2 s.1 s.2)) r := by
 unfold L60_0 at h
 refine bi h (fun h1 h => ?_) fun h1 h => ?_
 ·
  refine bn h fun x2 h2 h => ?_
  refine bi h (fun h3 h => ?_) fun h3 h => ?_
  ·
   rw [← sj h]
   exact xretY (n := 30) [(11, .d true), (12, .v (.ro (eFoll x2))), (17, .v (i6 (mget 0 v2 x2.sort))), (7018, .r ud [bG a1, .map (mrow (fun n => vi .i64 n) (fun n => vi .i64 n) (mput x2.sort (w6 ((mget 0 v2 x2.sort) + 1)) v2)), .cells 87 ((eFoll x2).map .p)]), (22, .v (i6 (mget 0 (mput x2.sort (w6 ((mget 0 v2 x2.sort) + 1)) v2) x2.sort))), (23, .d true), (6000, .d true)] (apc (cv h1) (apc (ig eFoll 5 .i64 h2) (apc ((lk_row key_int (es := v2) (k := x2.sort) (z := 0) rfl rfl) : lkA [bG a1, mII v2, .cells 87 ((eFoll x2).map .p)] [1] .false .false [(.val (.int .i64 0))] .false (.mp 1) (i6 x2.sort) = some (i6 (mget 0 v2 x2.sort))) (apc (⟨up_row key_int (es := v2) (k := x2.sort) (v := (w6 ((mget 0 v2 x2.sort) + 1))) rfl, rfl⟩ : upA [bG a1, mII v2, .cells 87 ((eFoll x2).map .p)] [1] .false (.mp 1) (i6 x2.sort) (i6 (w6 ((mget 0 v2 x2.sort) + 1))) = some [bG a1, .map (mrow (fun n => vi .i64 n) (fun n => vi .i64 n) (mput x2.sort (w6 ((mget 0 v2 x2.sort) + 1)) v2)), .cells 87 ((eFoll x2).map .p)] ∧ ud = ud) (apc ((lk_row key_int (es := (mput x2.sort (w6 ((mget 0 v2 x2.sort) + 1)) v2)) (k := x2.sort) (z := 0) rfl rfl) : lkA [bG a1, .map (mrow (fun n => vi .i64 n) (fun n => vi .i64 n) (mput x2.sort (w6 ((mget 0 v2 x2.sort) + 1)) v2)), .cells 87 ((eFoll x2).map .p)] [1] .false .false [(.val (.int .i64 0))] .false (.mp 1) (i6 x2.sort) = some (i6 (mget 0 (mput x2.sort (w6 ((mget 0 v2 x2.sort) + 1)) v2) x2.sort))) (apc (cv h3) apn)))))) (by kernel_rfl)
  ·
   refine bi h (fun h4 h => ?_) fun h4 h => ?_
   ·
    rw [← sj h]
    exact xretY (n := 30) [(11, .d true), (12, .v (.ro (eFoll x2))), (17, .v (i6 (mget 0 v2 x2.sort))), (7018, .r ud [bG a1, .map (mrow (fun n => vi .i64 n) (fun n => vi .i64 n) (mput x2.sort (w6 ((mget 0 v2 x2.sort) + 1)) v2)), .cells 87 ((eFoll x2).map .p)]), (22, .v (i6 (mget 0 (mput x2.sort (w6 ((mget 0 v2 x2.sort) + 1)) v2) x2.sort))), (23, .d false), (27, .d true), (6000, .d true)] (apc (cv h1) (apc (ig eFoll 5 .i64 h2) (apc ((lk_row key_int (es := v2) (k := x2.sort) (z := 0) rfl rfl) : lkA [bG a1, mII v2, .cells 87 ((eFoll x2).map .p)] [1] .false .false [(.val (.int .i64 0))] .false (.mp 1) (i6 x2.sort) = some (i6 (mget 0 v2 x2.sort))) (apc (⟨up_row key_int (es := v2) (k := x2.sort) (v := (w6 ((mget 0 v2 x2.sort) + 1))) rfl, rfl⟩ : upA [bG a1, mII v2, .cells 87 ((eFoll x2).map .p)] [1] .false (.mp 1) (i6 x2.sort) (i6 (w6 ((mget 0 v2 x2.sort) + 1))) = some [bG a1, .map (mrow (fun n => vi .i64 n) (fun n => vi .i64 n) (mput x2.sort (w6 ((mget 0 v2 x2.sort) + 1)) v2)), .cells 87 ((eFoll x2).map .p)] ∧ ud = ud) (apc ((lk_row key_int (es := (mput x2.sort (w6 ((mget 0 v2 x2.sort) + 1)) v2)) (k := x2.sort) (z := 0) rfl rfl) : lkA [bG a1, .map (mrow (fun n => vi .i64 n) (fun n => vi .i64 n) (mput x2.sort (w6 ((mget 0 v2 x2.sort) + 1)) v2)), .cells 87 ((eFoll x2).map .p)] [1] .false .false [(.val (.int .i64 0))] .false (.mp 1) (i6 x2.sort) = some (i6 (mget 0 (mput x2.sort (w6 ((mget 0 v2 x2.sort) + 1)) v2) x2.sort))) (apc (cv h3) (apc (cv h4) apn))))))) (by kernel_rfl)
   ·
    refine bi h (fun h5 h => ?_) fun h5 h => ?_
    ·
     rw [← sj h]
     exact xretY (n := 30) [(11, .d true), (12, .v (.ro (eFoll x2))), (17, .v (i6 (mget 0 v2 x2.sort))), (7018, .r ud [bG a1, .map (mrow (fun n => vi .i64 n) (fun n => vi .i64 n) (mput x2.sort (w6 ((mget 0 v2 x2.sort) + 1)) v2)), .cells 87 ((eFoll x2).map .p)]), (22, .v (i6 (mget 0 (mput x2.sort (w6 ((mget 0 v2 x2.sort) + 1)) v2) x2.sort))), (23, .d false), (27, .d false), (34, .v (i6 (a1.sorts.length : Int))), (35, .d true), (6000, .d true)] (apc (cv h1) (apc (ig eFoll 5 .i64 h2) (apc ((lk_row key_int (es := v2) (k := x2.sort) (z := 0) rfl rfl) : lkA [bG a1, mII v2, .cells 87 ((eFoll x2).map .p)] [1] .false .false [(.val (.int .i64 0))] .false (.mp 1) (i6 x2.sort) = some (i6 (mget 0 v2 x2.sort))) (apc (⟨up_row key_int (es := v2) (k := x2.sort) (v := (w6 ((mget 0 v2 x2.sort) + 1))) rfl, rfl⟩ : upA [bG a1, mII v2, .cells 87 ((eFoll x2).map .p)] [1] .false (.mp 1) (i6 x2.sort) (i6 (w6 ((mget 0 v2 x2.sort) + 1))) = some [bG a1, .map (mrow (fun n => vi .i64 n) (fun n => vi .i64 n) (mput x2.sort (w6 ((mget 0 v2 x2.sort) + 1)) v2)), .cells 87 ((eFoll x2).map .p)] ∧ ud = ud) (apc ((lk_row key_int (es := (mput x2.sort (w6 ((mget 0 v2 x2.sort) + 1)) v2)) (k := x2.sort) (z := 0) rfl rfl) : lkA [bG a1, .map (mrow (fun n => vi .i64 n) (fun n => vi .i64 n) (mput x2.sort (w6 ((mget 0 v2 x2.sort) + 1)) v2)), .cells 87 ((eFoll x2).map .p)] [1] .false .false [(.val (.int .i64 0))] .false (.mp 1) (i6 x2.sort) = some (i6 (mget 0 (mput x2.sort (w6 ((mget 0 v2 x2.sort) + 1)) v2) x2.sort))) (apc (cv h3) (apc (cv h4) (apc (lg a1.sorts eStr 1) (apc (cv h5) apn))))))))) (by kernel_rfl)
    ·
     refine bi h (fun h6 h => ?_) fun h6 h => ?_
     ·
      rw [← sj h]
      exact xretY (n := 30) [(11, .d true), (12, .v (.ro (eFoll x2))), (17, .v (i6 (mget 0 v2 x2.sort))), (7018, .r ud [bG a1, .map (mrow (fun n => vi .i64 n) (fun n => vi .i64 n) (mput x2.sort (w6 ((mget 0 v2 x2.sort) + 1)) v2)), .cells 87 ((eFoll x2).map .p)]), (22, .v (i6 (mget 0 (mput x2.sort (w6 ((mget 0 v2 x2.sort) + 1)) v2) x2.sort))), (23, .d false), (27, .d false), (34, .v (i6 (a1.sorts.length : Int))), (35, .d false), (41, .d true), (6000, .d true)] (apc (cv h1) (apc (ig eFoll 5 .i64 h2) (apc ((lk_row key_int (es := v2) (k := x2.sort) (z := 0) rfl rfl) : lkA [bG a1, mII v2, .cells 87 ((eFoll x2).map .p)] [1] .false .false [(.val (.int .i64 0))] .false (.mp 1) (i6 x2.sort) = some (i6 (mget 0 v2 x2.sort))) (apc (⟨up_row key_int (es := v2) (k := x2.sort) (v := (w6 ((mget 0 v2 x2.sort) + 1))) rfl, rfl⟩ : upA [bG a1, mII v2, .cells 87 ((eFoll x2).map .p)] [1] .false (.mp 1) (i6 x2.sort) (i6 (w6 ((mget 0 v2 x2.sort) + 1))) = some [bG a1, .map (mrow (fun n => vi .i64 n) (fun n => vi .i64 n) (mput x2.sort (w6 ((mget 0 v2 x2.sort) + 1)) v2)), .cells 87 ((eFoll x2).map .p)] ∧ ud = ud) (apc ((lk_row key_int (es := (mput x2.sort (w6 ((mget 0 v2 x2.sort) + 1)) v2)) (k := x2.sort) (z := 0) rfl rfl) : lkA [bG a1, .map (mrow (fun n => vi .i64 n) (fun n => vi .i64 n) (mput x2.sort (w6 ((mget 0 v2 x2.sort) + 1)) v2)), .cells 87 ((eFoll x2).map .p)] [1] .false .false [(.val (.int .i64 0))] .false (.mp 1) (i6 x2.sort) = some (i6 (mget 0 (mput x2.sort (w6 ((mget 0 v2 x2.sort) + 1)) v2) x2.sort))) (apc (cv h3) (apc (cv h4) (apc (lg a1.sorts eStr 1) (apc (cv h5) (apc (cv h6) apn)))))))))) (by kernel_rfl)
     ·
      rw [← sj h]
      exact rnd (n := 30) [(11, .d true), (12, .v (.ro (eFoll x2))), (17, .v (i6 (mget 0 v2 x2.sort))), (7018, .r ud [bG a1, .map (mrow (fun n => vi .i64 n) (fun n => vi .i64 n) (mput x2.sort (w6 ((mget 0 v2 x2.sort) + 1)) v2)), .cells 87 ((eFoll x2).map .p)]), (22, .v (i6 (mget 0 (mput x2.sort (w6 ((mget 0 v2 x2.sort) + 1)) v2) x2.sort))), (23, .d false), (27, .d false), (34, .v (i6 (a1.sorts.length : Int))), (35, .d false), (41, .d false), (6000, .d true)] (apc (cv h1) (apc (ig eFoll 5 .i64 h2) (apc ((lk_row key_int (es := v2) (k := x2.sort) (z := 0) rfl rfl) : lkA [bG a1, mII v2, .cells 87 ((eFoll x2).map .p)] [1] .false .false [(.val (.int .i64 0))] .false (.mp 1) (i6 x2.sort) = some (i6 (mget 0 v2 x2.sort))) (apc (⟨up_row key_int (es := v2) (k := x2.sort) (v := (w6 ((mget 0 v2 x2.sort) + 1))) rfl, rfl⟩ : upA [bG a1, mII v2, .cells 87 ((eFoll x2).map .p)] [1] .false (.mp 1) (i6 x2.sort) (i6 (w6 ((mget 0 v2 x2.sort) + 1))) = some [bG a1, .map (mrow (fun n => vi .i64 n) (fun n => vi .i64 n) (mput x2.sort (w6 ((mget 0 v2 x2.sort) + 1)) v2)), .cells 87 ((eFoll x2).map .p)] ∧ ud = ud) (apc ((lk_row key_int (es := (mput x2.sort (w6 ((mget 0 v2 x2.sort) + 1)) v2)) (k := x2.sort) (z := 0) rfl rfl) : lkA [bG a1, .map (mrow (fun n => vi .i64 n) (fun n => vi .i64 n) (mput x2.sort (w6 ((mget 0 v2 x2.sort) + 1)) v2)), .cells 87 ((eFoll x2).map .p)] [1] .false .false [(.val (.int .i64 0))] .false (.mp 1) (i6 x2.sort) = some (i6 (mget 0 (mput x2.sort (w6 ((mget 0 v2 x2.sort) + 1)) v2) x2.sort))) (apc (cv h3) (apc (cv h4) (apc (lg a1.sorts eStr 1) (apc (cv h5) (apc (cv h6) (apc ((okT_of rfl (abl_cons rfl (abl_cons (abl_map (fun _ => rfl) (fun _ => rfl)) rfl))) : okT 2 [bG a1, .map (mrow (fun n => vi .i64 n) (fun n => vi .i64 n) (mput x2.sort (w6 ((mget 0 v2 x2.sort) + 1)) v2)), .cells 87 ((eFoll x2).map .p)] = true) apn))))))))))) (by kernel_rfl)
 ·
  rw [← sj h]
  exact xbrk (n := 30) [(11, .d false), (6000, .d true)] (apc (cv h1) apn) (by kernel_rfl)
theorem L60_0_run (a1 : GramD) (a2 : Int) (s0 : Int × (List (Int × Int))) (e : E_L60_0) (h : runL (fun s => L60_0 a1 a2 s.1 s.2) s0 = some e) : L60_0_x a1 a2 e (evH prg 2 [1, 3, 8, 9, 10] ir60_l0 (L60_0_s a1 a2 s0.1 s0.2)) := by
  have q := @loop_sound' (Int × (List (Int × Int))) E_L60_0 (fun s => L60_0 a1 a2 s.1 s.2) (fun s => evH prg 2 [1, 3, 8, 9, 10] ir60_l0 (L60_0_s a1 a2 s.1 s.2)) (L60_0_x a1 a2) (fun s r h => L60_0_ok a1 a2 s.1 s.2 h) s0 e h
  exact q
noncomputable def F60 (a1 : GramD) : Option Bool :=
  ((runL (fun s => L60_0 a1 (a1.follow.length : Int) s.1 s.2) (0, [])).bind fun r1 => match r1 with | .k0 => (some false) | .k1 x1_0 => (some true))
def F60_v (a1 : GramD) (x0 : Bool) : AV := (vb x0)
theorem F60_ok (a1 : GramD) {r : Bool} (h : F60 a1 = some r) : PR1 prg 60 [(aG a1)] (F60_v a1 r) := by
 unfold F60 at h
 refine bn h fun r1 h1 h => ?_
 cases r1 with
 | k0 =>
  obtain ⟨g1, y1, e1⟩ := L60_0_run a1 (a1.follow.length : Int) (0, []) _ h1
  rw [← sj h]
  exact fpr (n := 30) [(9, .v (i6 (a1.follow.length : Int))), (2000, .l .ret ⟨fr 44 g1 [(2, (vb false))], y1⟩), (6000, .d true)] (apc (lg a1.follow eFoll 5) (apc ((okT_of rfl (abl_cons rfl (abl_cons rfl rfl))) : okT 2 [bG a1, .map []] = true) (apc (e1 : evH prg 2 [1, 3, 8, 9, 10] ir60_l0 (L60_0_s a1 (a1.follow.length : Int) 0 ([])) = some (.ret, ⟨fr 44 g1 [(2, (vb false))], y1⟩)) apn))) rfl (by kernel_rfl)
 | k1 x1_0 =>
  obtain ⟨g1, e1⟩ := L60_0_run a1 (a1.follow.length : Int) (0, []) _ h1
  rw [← sj h]
  exact fpr (n := 30) [(9, .v (i6 (a1.follow.length : Int))), (2000, .l (.brk 0) ⟨fr 44 g1 [(1, (.ptr 0 0)), (8, (.p (.lst 5 (a1.follow.map eFoll))))], [bG a1, mII x1_0]⟩), (6000, .d true)] (apc (lg a1.follow eFoll 5) (apc ((okT_of rfl (abl_cons rfl (abl_cons rfl rfl))) : okT 2 [bG a1, .map []] = true) (apc (e1 : evH prg 2 [1, 3, 8, 9, 10] ir60_l0 (L60_0_s a1 (a1.follow.length : Int) 0 ([])) = some ((.brk 0), ⟨fr 44 g1 [(1, (.ptr 0 0)), (8, (.p (.lst 5 (a1.follow.map eFoll))))], [bG a1, mII x1_0]⟩)) apn))) rfl (by kernel_rfl)
inductive E_L29_0 where
  | k0
  | k1
noncomputable def L29_0 (a1 : GramD) (v1 : Int) : Option (E_L29_0 ⊕ (Int)) :=
  (bif (decide (v1 < 4)) then (bif (v1 == 0) then ((F57 a1).bind fun x3 => (bif x3 then (some (.inr ((IntKind.wrap .i64 (v1 + 1))))) else (some (.inl (.k0))))) else (bif (v1 == 1) then ((F58 a1).bind fun x4 => (bif x4 then (some (.inr ((IntKind.wrap .i64 (v1 + 1))))) else (some (.inl (.k0))))) else (bif (v1 == 2) then ((F59 a1).bind fun x5 => (bif x5 then (some (.inr ((IntKind.wrap .i64 (v1 + 1))))) else (some (.inl (.k0))))) else (bif (v1 == 3) then ((F60 a1).bind fun x6 => (bif x6 then (some (.inr ((IntKind.wrap .i64 (v1 + 1))))) else (some (.inl (.k0))))) else none)))) else (some (.inl (.k1))))
def L29_0_s (a1 : GramD) (v1 : Int) : St := ⟨fr 14 ug [(1, (.ptr 0 0)), (5, (.agg [(.fn 57 []), (.fn 58 []), (.fn 59 []), (.fn 60 [])])), (6, (i6 v1))], [bG a1]⟩
def L29_0_x (a1 : GramD) (e : E_L29_0) (r : Option (Out × St)) : Prop := match e with | .k0 => ∃ g y, r = some (.ret, ⟨fr 14 g [(2, (i6 160))], y⟩) | .k1 => ∃ g, r = some ((.brk 0), ⟨fr 14 g [], [bG a1]⟩)
theorem L29_0_ok (a1 : GramD) (v1 : Int) {r : E_L29_0 ⊕ (Int)} (h : L29_0 a1 v1 = some r) : OkR (fun e => L29_0_x a1 e (evH prg 1 [1, 5, 6] ir29_l0 (L29_0_s a1 v1))) (fun s => evH prg 1 [1, 5, 6] ir29_l0 (L29_0_s a1 v1) = evH prg 1 [1, 5, 6] ir29_l0 (L29_0_s a1 s)) r := by
 unfold L29_0 at h
 refine bi h (fun h1 h => ?_) fun h1 h => ?_
 ·
  refine bi h (fun h2 h => ?_) fun h2 h => ?_
  ·
   refine bn h fun x3 h3 h => ?_
   refine bi h (fun h4 h => ?_) fun h4 h => ?_
   ·
    rw [← sj h]
    exact rnd (n := 30) [(7, .d true), (8, .v (.fn 57 [])), (11, .v (vb true)), (6000, .d true)] (apc (cv h1) (apc ((ix_lit h2 (fun z => ixG false 4 1 (.agg [(.fn 57 []), (.fn 58 []), (.fn 59 []), (.fn 60 [])]) (i6 z)) rfl) : ixG false 4 1 (.agg [(.fn 57 []), (.fn 58 []), (.fn 59 []), (.fn 60 [])]) (i6 v1) = some (.fn 57 [])) (apc ((((F57_ok a1 h3).cp rfl _).trans (congrArg (fun z => some (vb z)) h4)) : CP prg 57 [(aG a1)] [bG a1] = some (vb true)) (apc ((okT_of rfl (abl_cons rfl rfl)) : okT 1 [bG a1] = true) apn)))) (by kernel_rfl)
   ·
    rw [← sj h]
    exact xretY (n := 30) [(7, .d true), (8, .v (.fn 57 [])), (11, .v (vb false)), (6000, .d true)] (apc (cv h1) (apc ((ix_lit h2 (fun z => ixG false 4 1 (.agg [(.fn 57 []), (.fn 58 []), (.fn 59 []), (.fn 60 [])]) (i6 z)) rfl) : ixG false 4 1 (.agg [(.fn 57 []), (.fn 58 []), (.fn 59 []), (.fn 60 [])]) (i6 v1) = some (.fn 57 [])) (apc ((((F57_ok a1 h3).cp rfl _).trans (congrArg (fun z => some (vb z)) h4)) : CP prg 57 [(aG a1)] [bG a1] = some (vb false)) apn))) (by kernel_rfl)
  ·
   refine bi h (fun h3 h => ?_) fun h3 h => ?_
   ·
    refine bn h fun x4 h4 h => ?_
    refine bi h (fun h5 h => ?_) fun h5 h => ?_
    ·
     rw [← sj h]
     exact rnd (n := 30) [(7, .d true), (8, .v (.fn 58 [])), (11, .v (vb true)), (6000, .d true)] (apc (cv h1) (apc ((ix_lit h3 (fun z => ixG false 4 1 (.agg [(.fn 57 []), (.fn 58 []), (.fn 59 []), (.fn 60 [])]) (i6 z)) rfl) : ixG false 4 1 (.agg [(.fn 57 []), (.fn 58 []), (.fn 59 []), (.fn 60 [])]) (i6 v1) = some (.fn 58 [])) (apc ((((F58_ok a1 h4).cp rfl _).trans (congrArg (fun z => some (vb z)) h5)) : CP prg 58 [(aG a1)] [bG a1] = some (vb true)) (apc ((okT_of rfl (abl_cons rfl rfl)) : okT 1 [bG a1] = true) apn)))) (by kernel_rfl)
    ·
     rw [← sj h]
     exact xretY (n := 30) [(7, .d true), (8, .v (.fn 58 [])), (11, .v (vb false)), (6000, .d true)] (apc (cv h1) (apc ((ix_lit h3 (fun z => ixG false 4 1 (.agg [(.fn 57 []), (.fn 58 []), (.fn 59 []), (.fn 60 [])]) (i6 z)) rfl) : ixG false 4 1 (.agg [(.fn 57 []), (.fn 58 []), (.fn 59 []), (.fn 60 [])]) (i6 v1) = some (.fn 58 [])) (apc ((((F58_ok a1 h4).cp rfl _).trans (congrArg (fun z => some (vb z)) h5)) : CP prg 58 [(aG a1)] [bG a1] = some (vb false)) apn))) (by kernel_rfl)
   ·
    refine bi h (fun h4 h => ?_) fun h4 h => ?_
    ·
     refine bn h fun x5 h5 h => ?_
     refine bi h (fun h6 h => ?_) fun h6 h => ?_
     ·
      rw [← sj h]
      exact rnd (n := 30) [(7, .d true), (8, .v (.fn 59 [])), (11, .v (vb true)), (6000, .d true)] (apc (cv h1) (apc ((ix_lit h4 (fun z => ixG false 4 1 (.agg [(.fn 57 []), (.fn 58 []), (.fn 59 []), (.fn 60 [])]) (i6 z)) rfl) : ixG false 4 1 (.agg [(.fn 57 []), (.fn 58 []), (.fn 59 []), (.fn 60 [])]) (i6 v1) = some (.fn 59 [])) (apc ((((F59_ok a1 h5).cp rfl _).trans (congrArg (fun z => some (vb z)) h6)) : CP prg 59 [(aG a1)] [bG a1] = some (vb true)) (apc ((okT_of rfl (abl_cons rfl rfl)) : okT 1 [bG a1] = true) apn)))) (by kernel_rfl)
     ·
      rw [← sj h]
      exact xretY (n := 30) [(7, .d true), (8, .v (.fn 59 [])), (11, .v (vb false)), (6000, .d true)] (apc (cv h1) (apc ((ix_lit h4 (fun z => ixG false 4 1 (.agg [(.fn 57 []), (.fn 58 []), (.fn 59 []), (.fn 60 [])]) (i6 z)) rfl) : ixG false 4 1 (.agg [(.fn 57 []), (.fn 58 []), (.fn 59 []), (.fn 60 [])]) (i6 v1) = some (.fn 59 [])) (apc ((((F59_ok a1 h5).cp rfl _).trans (congrArg (fun z => some (vb z)) h6)) : CP prg 59 [(aG a1)] [bG a1] = some (vb false)) apn))) (by kernel_rfl)
    ·
     refine bi h (fun h5 h => ?_) fun h5 h => ?_
     ·
      refine bn h fun x6 h6 h => ?_
      refine bi h (fun h7 h => ?_) fun h7 h => ?_
      ·
       rw [← sj h]
       exact rnd (n := 30) [(7, .d true), (8, .v (.fn 60 [])), (11, .v (vb true)), (6000, .d true)] (apc (cv h1) (apc ((ix_lit h5 (fun z => ixG false 4 1 (.agg [(.fn 57 []), (.fn 58 []), (.fn 59 []), (.fn 60 [])]) (i6 z)) rfl) : ixG false 4 1 (.agg [(.fn 57 []), (.fn 58 []), (.fn 59 []), (.fn 60 [])]) (i6 v1) = some (.fn 60 [])) (apc ((((F60_ok a1 h6).cp rfl _).trans (congrArg (fun z => some (vb z)) h7)) : CP prg 60 [(aG a1)] [bG a1] = some (vb true)) (apc ((okT_of rfl (abl_cons rfl rfl)) : okT 1 [bG a1] = true) apn)))) (by kernel_rfl)
      ·
       rw [← sj h]
       exact xretY (n := 30) [(7, .d true), (8, .v (.fn 60 [])), (11, .v (vb false)), (6000, .d true)] (apc (cv h1) (apc ((ix_lit h5 (fun z => ixG false 4 1 (.agg [(.fn 57 []), (.fn 58 []), (.fn 59 []), (.fn 60 [])]) (i6 z)) rfl) : ixG false 4 1 (.agg [(.fn 57 []), (.fn 58 []), (.fn 59 []), (.fn 60 [])]) (i6 v1) = some (.fn 60 [])) (apc ((((F60_ok a1 h6).cp rfl _).trans (congrArg (fun z => some (vb z)) h7)) : CP prg 60 [(aG a1)] [bG a1] = some (vb false)) apn))) (by kernel_rfl)
     ·
      cases h
 ·
  rw [← sj h]
  exact xbrk (n := 30) [(7, .d false), (6000, .d true)] (apc (cv h1) apn) (by kernel_rfl)
theorem L29_0_run (a1 : GramD) (s0 : Int) (e : E_L29_0) (h : runL (fun s => L29_0 a1 s) s0 = some e) : L29_0_x a1 e (evH prg 1 [1, 5, 6] ir29_l0 (L29_0_s a1 s0)) := by
  have q := @loop_sound' (Int) E_L29_0 (fun s => L29_0 a1 s) (fun s => evH prg 1 [1, 5, 6] ir29_l0 (L29_0_s a1 s)) (L29_0_x a1) (fun s r h => L29_0_ok a1 s h) s0 e h
  exact q
noncomputable def F29 (a1 : GramD) : Option Int :=
  ((runL (fun s => L29_0 a1 s) 0).bind fun r1 => match r1 with | .k0 => (some 160) | .k1 => (some 0))
def F29_v (a1 : GramD) (x0 : Int) : AV := (i6 x0)
theorem F29_ok (a1 : GramD) {r : Int} (h : F29 a1 = some r) : PR1 prg 29 [(aG a1)] (F29_v a1 r) := by
 unfold F29 at h
 refine bn h fun r1 h1 h => ?_
 cases r1 with
 | k0 =>
  obtain ⟨g1, y1, e1⟩ := L29_0_run a1 0 _ h1
  rw [← sj h]
  exact fpr (n := 30) [(2000, .l .ret ⟨fr 14 g1 [(2, (i6 160))], y1⟩), (6000, .d true)] (apc ((okT_of rfl (abl_cons rfl rfl)) : okT 1 [bG a1] = true) (apc (e1 : evH prg 1 [1, 5, 6] ir29_l0 (L29_0_s a1 0) = some (.ret, ⟨fr 14 g1 [(2, (i6 160))], y1⟩)) apn)) rfl (by kernel_rfl)
 | k1 =>
  obtain ⟨g1, e1⟩ := L29_0_run a1 0 _ h1
  rw [← sj h]
  exact fpr (n := 30) [(2000, .l (.brk 0) ⟨fr 14 g1 [], [bG a1]⟩), (6000, .d true)] (apc ((okT_of rfl (abl_cons rfl rfl)) : okT 1 [bG a1] = true) (apc (e1 : evH prg 1 [1, 5, 6] ir29_l0 (L29_0_s a1 0) = some ((.brk 0), ⟨fr 14 g1 [], [bG a1]⟩)) apn)) rfl (by kernel_rfl)
inductive E_L45_0 where
  | k0 (x0 : List Int)
noncomputable def L45_0 (a1 : Int) (a5 : Nat) (v1 : Int) (v2 : List Int) : Option (E_L45_0 ⊕ (Int × (List Int))) :=
  (bif (decide (v1 < a1)) then ((ixN a5 v1).bind fun x2 => ((v2[x2]?).bind fun x3 => (some (.inr ((IntKind.wrap .i64 (v1 + 1)), (v2.set x2 (-1))))))) else (some (.inl (.k0 v2))))
def L45_0_s (a1 : Int) (a2 : GramD) (a4 : List Bool) (a5 : Nat) (v1 : Int) (v2 : List Int) : St := ⟨fr 42 ug [(5, (.ptr 4 0)), (27, (i6 a1)), (28, (i6 v1))], [bG a2, bI v2, bB a4, .cells 93 (ap (eGram a2) [(.sl 1 0 1 0 a5), (.sl 2 0 1 0 a5)]), .cells 89 [(.ptr 3 0)]]⟩
def L45_0_x (a1 : Int) (a2 : GramD) (a4 : List Bool) (a5 : Nat) (e : E_L45_0) (r : Option (Out × St)) : Prop := match e with | .k0 x0 => ∃ g, r = some ((.brk 0), ⟨fr 42 g [(5, (.ptr 4 0))], [bG a2, bI x0, bB a4, .cells 93 (ap (eGram a2) [(.sl 1 0 1 0 a5), (.sl 2 0 1 0 a5)]), .cells 89 [(.ptr 3 0)]]⟩)
theorem L45_0_ok (a1 : Int) (a2 : GramD) (a4 : List Bool) (a5 : Nat) (v1 : Int) (v2 : List Int) {r : E_L45_0 ⊕ (Int × (List Int))} (h : L45_0 a1 a5 v1 v2 = some r) : OkR (fun e => L45_0_x a1 a2 a4 a5 e (evH prg 5 [5, 27, 28] ir45_l0 (L45_0_s a1 a2 a4 a5 v1 v2))) (fun s => evH prg 5 [5, 27, 28] ir45_l0 (L45_0_s a1 a2 a4 a5 v1 v2) = evH prg 5 [5, 27, 28] ir45_l0 (L45_0_s a1 a2 a4 a5 s.1 s.2)) r := by
 unfold L45_0 at h
 refine bi h (fun h1 h => ?_) fun h1 h => ?_
 ·
  refine bn h fun x2 h2 h => ?_
  refine bn h fun x3 h3 h => ?_
  rw [← sj h]
  exact rnd (n := 30) [(29, .d true), (36, .v (.rp 1 0 1 x2 0)), (1036, .r ud [bG a2, .row 3 1 0 (ra eI64 (v2.set x2 (-1))), bB a4, .cells 93 (ap (eGram a2) [(.sl 1 0 1 0 a5), (.sl 2 0 1 0 a5)]), .cells 89 [(.ptr 3 0)]]), (6000, .d true)] (apc (cv h1) (apc ((idx_sl h2) : idxA 1 (.sl 1 0 1 0 a5) (i6 v1) = some (.rp 1 0 1 x2 0)) (apc (⟨st_row (v' := (-1)) rfl h3 rfl rfl (Nat.le_of_ble_eq_true rfl) rfl, rfl⟩ : stA [bG a2, bI v2, bB a4, .cells 93 (ap (eGram a2) [(.sl 1 0 1 0 a5), (.sl 2 0 1 0 a5)]), .cells 89 [(.ptr 3 0)]] 1 (.rp 1 0 1 x2 0) (i6 (-1)) = some [bG a2, .row 3 1 0 (ra eI64 (v2.set x2 (-1))), bB a4, .cells 93 (ap (eGram a2) [(.sl 1 0 1 0 a5), (.sl 2 0 1 0 a5)]), .cells 89 [(.ptr 3 0)]] ∧ ud = ud) (apc ((okT_of rfl (abl_cons rfl (abl_cons abl_row (abl_cons abl_row (abl_cons rfl (abl_cons rfl rfl)))))) : okT 5 [bG a2, .row 3 1 0 (ra eI64 (v2.set x2 (-1))), bB a4, .cells 93 (ap (eGram a2) [(.sl 1 0 1 0 a5), (.sl 2 0 1 0 a5)]), .cells 89 [(.ptr 3 0)]] = true) apn)))) (by kernel_rfl)
 ·
  rw [← sj h]
  exact xbrk (n := 30) [(29, .d false), (6000, .d true)] (apc (cv h1) apn) (by kernel_rfl)
theorem L45_0_run (a1 : Int) (a2 : GramD) (a4 : List Bool) (a5 : Nat) (s0 : Int × (List Int)) (e : E_L45_0) (h : runL (fun s => L45_0 a1 a5 s.1 s.2) s0 = some e) : L45_0_x a1 a2 a4 a5 e (evH prg 5 [5, 27, 28] ir45_l0 (L45_0_s a1 a2 a4 a5 s0.1 s0.2)) := by
  have q := @loop_sound' (Int × (List Int)) E_L45_0 (fun s => L45_0 a1 a5 s.1 s.2) (fun s => evH prg 5 [5, 27, 28] ir45_l0 (L45_0_s a1 a2 a4 a5 s.1 s.2)) (L45_0_x a1 a2 a4 a5) (fun s r h => L45_0_ok a1 a2 a4 a5 s.1 s.2 h) s0 e h
  exact q
noncomputable def F54 (a1 : ProdD) : Option Bool :=
  (some (a1.role != 11))
def F54_v (a1 : ProdD) (x0 : Bool) : AV := (vb x0)
theorem F54_ok (a1 : ProdD) {r : Bool} (h : F54 a1 = some r) : PR1 prg 54 [(aP a1)] (F54_v a1 r) := by
 unfold F54 at h
 rw [← sj h]
 exact fpr (n := 30) [] apn rfl (by kernel_rfl)
inductive E_L48_0 where
  | k0
  | k1 (x0 : Int)
noncomputable def L48_0 (a2 : List Int) (a4 : ProdD) (a5 : Int) (v1 : Int) (v2 : Int) : Option (E_L48_0 ⊕ (Int × Int)) :=
  (bif (decide (v2 < a5)) then ((getI a4.right v2).bind fun x2 => (bif (x2.kind == 1) then ((getI a2 x2.sort).bind fun x4 => (bif (decide (x4 < 0)) then (some (.inl (.k0))) else (some (.inr ((if 1048577 < (IntKind.wrap .i64 (v1 + x4)) then 1048577 else (IntKind.wrap .i64 (v1 + x4))), (IntKind.wrap .i64 (v2 + 1))))))) else (some (.inr ((if 1048577 < (IntKind.wrap .i64 (v1 + 1)) then 1048577 else (IntKind.wrap .i64 (v1 + 1))), (IntKind.wrap .i64 (v2 + 1))))))) else (some (.inl (.k1 v1))))
def L48_0_s (a1 : GramD) (a2 : List Int) (a3 : List Bool) (a4 : ProdD) (a5 : Int) (v1 : Int) (v2 : Int) : St := ⟨fr 35 ug [(0, (.ro ((eGram a1) ++ [.lst 1 (a2.map eI64), .lst 1 (a3.map eBool)]))), (5, (i6 v1)), (10, (.p (.lst 6 (a4.right.map eSym)))), (11, (i6 a5)), (12, (i6 v2))], [bP a4]⟩
def L48_0_x (a1 : GramD) (a2 : List Int) (a3 : List Bool) (a4 : ProdD) (a5 : Int) (e : E_L48_0) (r : Option (Out × St)) : Prop := match e with | .k0 => ∃ g y, r = some (.ret, ⟨fr 35 g [(4, (i6 (-1)))], y⟩) | .k1 x0 => ∃ g, r = some ((.brk 0), ⟨fr 35 g [(5, (i6 x0)), (10, (.p (.lst 6 (a4.right.map eSym))))], [bP a4]⟩)
theorem L48_0_ok (a1 : GramD) (a2 : List Int) (a3 : List Bool) (a4 : ProdD) (a5 : Int) (v1 : Int) (v2 : Int) {r : E_L48_0 ⊕ (Int × Int)} (h : L48_0 a2 a4 a5 v1 v2 = some r) : OkR (fun e => L48_0_x a1 a2 a3 a4 a5 e (evH prg 1 [0, 5, 10, 11, 12] ir48_l0 (L48_0_s a1 a2 a3 a4 a5 v1 v2))) (fun s => evH prg 1 [0, 5, 10, 11, 12] ir48_l0 (L48_0_s a1 a2 a3 a4 a5 v1 v2) = evH prg 1 [0, 5, 10, 11, 12] ir48_l0 (L48_0_s a1 a2 a3 a4 a5 s.1 s.2)) r := by
 unfold L48_0 at h
 refine bi h (fun h1 h => ?_) fun h1 h => ?_
 ·
  refine bn h fun x2 h2 h => ?_
  refine bi h (fun h3 h => ?_) fun h3 h => ?_
  ·
   refine bn h fun x4 h4 h => ?_
   refine bi h (fun h5 h => ?_) fun h5 h => ?_
   ·
    rw [← sj h]
    exact xretY (n := 30) [(13, .d true), (14, .v (.ro (eSym x2))), (18, .d true), (25, .v (.ro [.val (.int .i64 x4)])), (28, .d true), (6000, .d true)] (apc (cv h1) (apc (ig eSym 6 .i64 h2) (apc (cv h3) (apc (ig eI64 1 .i64 h4) (apc (cv h5) apn))))) (by kernel_rfl)
   ·
    rw [← sj h]
    exact rnd (n := 30) [(13, .d true), (14, .v (.ro (eSym x2))), (18, .d true), (25, .v (.ro [.val (.int .i64 x4)])), (28, .d false), (6000, .d true)] (apc (cv h1) (apc (ig eSym 6 .i64 h2) (apc (cv h3) (apc (ig eI64 1 .i64 h4) (apc (cv h5) (apc ((okT_of rfl (abl_cons rfl rfl)) : okT 1 [bP a4, .cells 48 ((eSym x2).map .p)] = true) apn)))))) (by kernel_rfl)
  ·
   rw [← sj h]
   exact rnd (n := 30) [(13, .d true), (14, .v (.ro (eSym x2))), (18, .d false), (6000, .d true)] (apc (cv h1) (apc (ig eSym 6 .i64 h2) (apc (cv h3) (apc ((okT_of rfl (abl_cons rfl rfl)) : okT 1 [bP a4, .cells 48 ((eSym x2).map .p)] = true) apn)))) (by kernel_rfl)
 ·
  rw [← sj h]
  exact xbrk (n := 30) [(13, .d false), (6000, .d true)] (apc (cv h1) apn) (by kernel_rfl)
theorem L48_0_run (a1 : GramD) (a2 : List Int) (a3 : List Bool) (a4 : ProdD) (a5 : Int) (s0 : Int × Int) (e : E_L48_0) (h : runL (fun s => L48_0 a2 a4 a5 s.1 s.2) s0 = some e) : L48_0_x a1 a2 a3 a4 a5 e (evH prg 1 [0, 5, 10, 11, 12] ir48_l0 (L48_0_s a1 a2 a3 a4 a5 s0.1 s0.2)) := by
  have q := @loop_sound' (Int × Int) E_L48_0 (fun s => L48_0 a2 a4 a5 s.1 s.2) (fun s => evH prg 1 [0, 5, 10, 11, 12] ir48_l0 (L48_0_s a1 a2 a3 a4 a5 s.1 s.2)) (L48_0_x a1 a2 a3 a4 a5) (fun s r h => L48_0_ok a1 a2 a3 a4 a5 s.1 s.2 h) s0 e h
  exact q
noncomputable def F48 (a2 : List Int) (a4 : ProdD) : Option Int :=
  ((runL (fun s => L48_0 a2 a4 (a4.right.length : Int) s.1 s.2) (0, 0)).bind fun r1 => match r1 with | .k0 => (some (-1)) | .k1 x1_0 => (some x1_0))
def F48_v (a1 : GramD) (a2 : List Int) (a3 : List Bool) (a4 : ProdD) (x0 : Int) : AV := (i6 x0)
theorem F48_ok (a1 : GramD) (a2 : List Int) (a3 : List Bool) (a4 : ProdD) {r : Int} (h : F48 a2 a4 = some r) : PR1 prg 48 [(.ro ((eGram a1) ++ [.lst 1 (a2.map eI64), .lst 1 (a3.map eBool)])), (aP a4)] (F48_v a1 a2 a3 a4 r) := by
 unfold F48 at h
 refine bn h fun r1 h1 h => ?_
 cases r1 with
 | k0 =>
  obtain ⟨g1, y1, e1⟩ := L48_0_run a1 a2 a3 a4 (a4.right.length : Int) (0, 0) _ h1
  rw [← sj h]
  exact fpr (n := 30) [(11, .v (i6 (a4.right.length : Int))), (2000, .l .ret ⟨fr 35 g1 [(4, (i6 (-1)))], y1⟩), (6000, .d true)] (apc (lg a4.right eSym 6) (apc ((okT_of rfl (abl_cons rfl rfl)) : okT 1 [bP a4] = true) (apc (e1 : evH prg 1 [0, 5, 10, 11, 12] ir48_l0 (L48_0_s a1 a2 a3 a4 (a4.right.length : Int) 0 0) = some (.ret, ⟨fr 35 g1 [(4, (i6 (-1)))], y1⟩)) apn))) rfl (by kernel_rfl)
 | k1 x1_0 =>
  obtain ⟨g1, e1⟩ := L48_0_run a1 a2 a3 a4 (a4.right.length : Int) (0, 0) _ h1
  rw [← sj h]
  exact fpr (n := 30) [(11, .v (i6 (a4.right.length : Int))), (2000, .l (.brk 0) ⟨fr 35 g1 [(5, (i6 x1_0)), (10, (.p (.lst 6 (a4.right.map eSym))))], [bP a4]⟩), (6000, .d true)] (apc (lg a4.right eSym 6) (apc ((okT_of rfl (abl_cons rfl rfl)) : okT 1 [bP a4] = true) (apc (e1 : evH prg 1 [0, 5, 10, 11, 12] ir48_l0 (L48_0_s a1 a2 a3 a4 (a4.right.length : Int) 0 0) = some ((.brk 0), ⟨fr 35 g1 [(5, (i6 x1_0)), (10, (.p (.lst 6 (a4.right.map eSym))))], [bP a4]⟩)) apn))) rfl (by kernel_rfl)
inductive R_F69 where
  | k0 (x0 : Bool) (x1 : List Int) (x2 : List Bool)
noncomputable def F69 (a1 : ProdD) (a3 : List Int) (a4 : List Bool) (a5 : Nat) : Option R_F69 :=
  (bif (decide (a5 ≤ a3.length)) then (bif (decide (a5 ≤ a4.length)) then ((F48 (a3.take a5) a1).bind fun x3 => ((ixN a5 a1.left).bind fun x4 => ((a3[x4]?).bind fun x5 => (bif (decide (x3 < 0)) then (some (.k0 false a3 a4)) else (bif (decide (x5 ≥ 0)) then (bif (decide (x5 ≤ x3)) then (some (.k0 false a3 a4)) else ((a4[x4]?).bind fun x9 => (some (.k0 true (a3.set x4 x3) (a4.set x4 (x3 == 0)))))) else ((a4[x4]?).bind fun x8 => (some (.k0 true (a3.set x4 x3) (a4.set x4 (x3 == 0)))))))))) else none) else none)
def F69_v (a1 : ProdD) (a2 : GramD) (a3 : List Int) (a4 : List Bool) (a5 : Nat) (r : R_F69) : AV := match r with | .k0 x0 x1 x2 => (vb x0)
def F69_h (a1 : ProdD) (a2 : GramD) (a3 : List Int) (a4 : List Bool) (a5 : Nat) (r : R_F69) : List AB := match r with | .k0 x0 x1 x2 => [bG a2, bI x1, bB x2, .cells 93 (ap (eGram a2) [(.sl 1 0 1 0 a5), (.sl 2 0 1 0 a5)]), .cells 89 [(.ptr 3 0)], .row 48 6 0 (ra eSym []), bP a1, bP a1]
theorem F69_ok (a1 : ProdD) (a2 : GramD) (a3 : List Int) (a4 : List Bool) (a5 : Nat) {r : R_F69} (h : F69 a1 a3 a4 a5 = some r) : CS prg 69 [(aP a1), (.ptr 4 0)] [bG a2, bI a3, bB a4, .cells 93 (ap (eGram a2) [(.sl 1 0 1 0 a5), (.sl 2 0 1 0 a5)]), .cells 89 [(.ptr 3 0)], .row 48 6 0 (ra eSym []), bP a1] = some (F69_v a1 a2 a3 a4 a5 r, F69_h a1 a2 a3 a4 a5 r) := by
 unfold F69 at h
 refine bi h (fun h1 h => ?_) fun h1 h => ?_
 ·
  refine bi h (fun h2 h => ?_) fun h2 h => ?_
  ·
   refine bn h fun x3 h3 h => ?_
   refine bn h fun x4 h4 h => ?_
   refine bn h fun x5 h5 h => ?_
   refine bi h (fun h6 h => ?_) fun h6 h => ?_
   ·
    rw [← sj h]
    exact fcs (n := 30) [(8, .v (i6 x3)), (15, .v (.rp 1 0 1 x4 0)), (16, .v (i6 x5)), (18, .d true)] (apc (((F48_ok a2 (a3.take a5) (a4.take a5) a1 h3).own rfl (purAs_cons (purA_ptr rfl (mapO_con rfl (mapO_con rfl (mapO_con rfl (mapO_con rfl (mapO_con rfl (mapO_con (purP_sl rfl h1) (mapO_con (purP_sl rfl h2) rfl)))))))) (purAs_cons rfl purAs_nil)) rfl) : CP prg 48 [(.ptr 3 0), (aP a1)] [bG a2, bI a3, bB a4, .cells 93 (ap (eGram a2) [(.sl 1 0 1 0 a5), (.sl 2 0 1 0 a5)]), .cells 89 [(.ptr 3 0)], .row 48 6 0 (ra eSym []), bP a1, bP a1] = some (i6 x3)) (apc ((idx_sl h4) : idxA 1 (.sl 1 0 1 0 a5) (i6 a1.left) = some (.rp 1 0 1 x4 0)) (apc ((ld_row rfl h5 rfl) : ldA [bG a2, bI a3, bB a4, .cells 93 (ap (eGram a2) [(.sl 1 0 1 0 a5), (.sl 2 0 1 0 a5)]), .cells 89 [(.ptr 3 0)], .row 48 6 0 (ra eSym []), bP a1, bP a1] .false 1 (.rp 1 0 1 x4 0) = some (i6 x5)) (apc (cv h6) apn)))) (by kernel_rfl)
   ·
    refine bi h (fun h7 h => ?_) fun h7 h => ?_
    ·
     refine bi h (fun h8 h => ?_) fun h8 h => ?_
     ·
      rw [← sj h]
      exact fcs (n := 30) [(8, .v (i6 x3)), (15, .v (.rp 1 0 1 x4 0)), (16, .v (i6 x5)), (18, .d false), (21, .d true), (25, .d true)] (apc (((F48_ok a2 (a3.take a5) (a4.take a5) a1 h3).own rfl (purAs_cons (purA_ptr rfl (mapO_con rfl (mapO_con rfl (mapO_con rfl (mapO_con rfl (mapO_con rfl (mapO_con (purP_sl rfl h1) (mapO_con (purP_sl rfl h2) rfl)))))))) (purAs_cons rfl purAs_nil)) rfl) : CP prg 48 [(.ptr 3 0), (aP a1)] [bG a2, bI a3, bB a4, .cells 93 (ap (eGram a2) [(.sl 1 0 1 0 a5), (.sl 2 0 1 0 a5)]), .cells 89 [(.ptr 3 0)], .row 48 6 0 (ra eSym []), bP a1, bP a1] = some (i6 x3)) (apc ((idx_sl h4) : idxA 1 (.sl 1 0 1 0 a5) (i6 a1.left) = some (.rp 1 0 1 x4 0)) (apc ((ld_row rfl h5 rfl) : ldA [bG a2, bI a3, bB a4, .cells 93 (ap (eGram a2) [(.sl 1 0 1 0 a5), (.sl 2 0 1 0 a5)]), .cells 89 [(.ptr 3 0)], .row 48 6 0 (ra eSym []), bP a1, bP a1] .false 1 (.rp 1 0 1 x4 0) = some (i6 x5)) (apc (cv h6) (apc (cv h7) (apc (cv h8) apn)))))) (by kernel_rfl)
     ·
      refine bn h fun x9 h9 h => ?_
      rw [← sj h]
      exact fcs (n := 30) [(8, .v (i6 x3)), (15, .v (.rp 1 0 1 x4 0)), (16, .v (i6 x5)), (18, .d false), (21, .d true), (25, .d false), (35, .v (.rp 1 0 1 x4 0)), (1035, .r ud [bG a2, .row 3 1 0 (ra eI64 (a3.set x4 x3)), bB a4, .cells 93 (ap (eGram a2) [(.sl 1 0 1 0 a5), (.sl 2 0 1 0 a5)]), .cells 89 [(.ptr 3 0)], .row 48 6 0 (ra eSym []), bP a1, bP a1]), (44, .v (.rp 2 0 1 x4 0)), (1044, .r ud [bG a2, .row 3 1 0 (ra eI64 (a3.set x4 x3)), .row 4 1 0 (ra eBool (a4.set x4 (x3 == 0))), .cells 93 (ap (eGram a2) [(.sl 1 0 1 0 a5), (.sl 2 0 1 0 a5)]), .cells 89 [(.ptr 3 0)], .row 48 6 0 (ra eSym []), bP a1, bP a1])] (apc (((F48_ok a2 (a3.take a5) (a4.take a5) a1 h3).own rfl (purAs_cons (purA_ptr rfl (mapO_con rfl (mapO_con rfl (mapO_con rfl (mapO_con rfl (mapO_con rfl (mapO_con (purP_sl rfl h1) (mapO_con (purP_sl rfl h2) rfl)))))))) (purAs_cons rfl purAs_nil)) rfl) : CP prg 48 [(.ptr 3 0), (aP a1)] [bG a2, bI a3, bB a4, .cells 93 (ap (eGram a2) [(.sl 1 0 1 0 a5), (.sl 2 0 1 0 a5)]), .cells 89 [(.ptr 3 0)], .row 48 6 0 (ra eSym []), bP a1, bP a1] = some (i6 x3)) (apc ((idx_sl h4) : idxA 1 (.sl 1 0 1 0 a5) (i6 a1.left) = some (.rp 1 0 1 x4 0)) (apc ((ld_row rfl h5 rfl) : ldA [bG a2, bI a3, bB a4, .cells 93 (ap (eGram a2) [(.sl 1 0 1 0 a5), (.sl 2 0 1 0 a5)]), .cells 89 [(.ptr 3 0)], .row 48 6 0 (ra eSym []), bP a1, bP a1] .false 1 (.rp 1 0 1 x4 0) = some (i6 x5)) (apc (cv h6) (apc (cv h7) (apc (cv h8) (apc ((idx_sl h4) : idxA 1 (.sl 1 0 1 0 a5) (i6 a1.left) = some (.rp 1 0 1 x4 0)) (apc (⟨st_row (v' := x3) rfl h5 rfl rfl (Nat.le_of_ble_eq_true rfl) rfl, rfl⟩ : stA [bG a2, bI a3, bB a4, .cells 93 (ap (eGram a2) [(.sl 1 0 1 0 a5), (.sl 2 0 1 0 a5)]), .cells 89 [(.ptr 3 0)], .row 48 6 0 (ra eSym []), bP a1, bP a1] 1 (.rp 1 0 1 x4 0) (i6 x3) = some [bG a2, .row 3 1 0 (ra eI64 (a3.set x4 x3)), bB a4, .cells 93 (ap (eGram a2) [(.sl 1 0 1 0 a5), (.sl 2 0 1 0 a5)]), .cells 89 [(.ptr 3 0)], .row 48 6 0 (ra eSym []), bP a1, bP a1] ∧ ud = ud) (apc ((idx_sl h4) : idxA 1 (.sl 2 0 1 0 a5) (i6 a1.left) = some (.rp 2 0 1 x4 0)) (apc (⟨st_row (v' := (x3 == 0)) rfl h9 rfl rfl (Nat.le_of_ble_eq_true rfl) rfl, rfl⟩ : stA [bG a2, .row 3 1 0 (ra eI64 (a3.set x4 x3)), bB a4, .cells 93 (ap (eGram a2) [(.sl 1 0 1 0 a5), (.sl 2 0 1 0 a5)]), .cells 89 [(.ptr 3 0)], .row 48 6 0 (ra eSym []), bP a1, bP a1] 1 (.rp 2 0 1 x4 0) (vb (x3 == 0)) = some [bG a2, .row 3 1 0 (ra eI64 (a3.set x4 x3)), .row 4 1 0 (ra eBool (a4.set x4 (x3 == 0))), .cells 93 (ap (eGram a2) [(.sl 1 0 1 0 a5), (.sl 2 0 1 0 a5)]), .cells 89 [(.ptr 3 0)], .row 48 6 0 (ra eSym []), bP a1, bP a1] ∧ ud = ud) apn)))))))))) (by kernel_rfl)
    ·
     refine bn h fun x8 h8 h => ?_
     rw [← sj h]
     exact fcs (n := 30) [(8, .v (i6 x3)), (15, .v (.rp 1 0 1 x4 0)), (16, .v (i6 x5)), (18, .d false), (21, .d false), (35, .v (.rp 1 0 1 x4 0)), (1035, .r ud [bG a2, .row 3 1 0 (ra eI64 (a3.set x4 x3)), bB a4, .cells 93 (ap (eGram a2) [(.sl 1 0 1 0 a5), (.sl 2 0 1 0 a5)]), .cells 89 [(.ptr 3 0)], .row 48 6 0 (ra eSym []), bP a1, bP a1]), (44, .v (.rp 2 0 1 x4 0)), (1044, .r ud [bG a2, .row 3 1 0 (ra eI64 (a3.set x4 x3)), .row 4 1 0 (ra eBool (a4.set x4 (x3 == 0))), .cells 93 (ap (eGram a2) [(.sl 1 0 1 0 a5), (.sl 2 0 1 0 a5)]), .cells 89 [(.ptr 3 0)], .row 48 6 0 (ra eSym []), bP a1, bP a1])] (apc (((F48_ok a2 (a3.take a5) (a4.take a5) a1 h3).own rfl (purAs_cons (purA_ptr rfl (mapO_con rfl (mapO_con rfl (mapO_con rfl (mapO_con rfl (mapO_con rfl (mapO_con (purP_sl rfl h1) (mapO_con (purP_sl rfl h2) rfl)))))))) (purAs_cons rfl purAs_nil)) rfl) : CP prg 48 [(.ptr 3 0), (aP a1)] [bG a2, bI a3, bB a4, .cells 93 (ap (eGram a2) [(.sl 1 0 1 0 a5), (.sl 2 0 1 0 a5)]), .cells 89 [(.ptr 3 0)], .row 48 6 0 (ra eSym []), bP a1, bP a1] = some (i6 x3)) (apc ((idx_sl h4) : idxA 1 (.sl 1 0 1 0 a5) (i6 a1.left) = some (.rp 1 0 1 x4 0)) (apc ((ld_row rfl h5 rfl) : ldA [bG a2, bI a3, bB a4, .cells 93 (ap (eGram a2) [(.sl 1 0 1 0 a5), (.sl 2 0 1 0 a5)]), .cells 89 [(.ptr 3 0)], .row 48 6 0 (ra eSym []), bP a1, bP a1] .false 1 (.rp 1 0 1 x4 0) = some (i6 x5)) (apc (cv h6) (apc (cv h7) (apc ((idx_sl h4) : idxA 1 (.sl 1 0 1 0 a5) (i6 a1.left) = some (.rp 1 0 1 x4 0)) (apc (⟨st_row (v' := x3) rfl h5 rfl rfl (Nat.le_of_ble_eq_true rfl) rfl, rfl⟩ : stA [bG a2, bI a3, bB a4, .cells 93 (ap (eGram a2) [(.sl 1 0 1 0 a5), (.sl 2 0 1 0 a5)]), .cells 89 [(.ptr 3 0)], .row 48 6 0 (ra eSym []), bP a1, bP a1] 1 (.rp 1 0 1 x4 0) (i6 x3) = some [bG a2, .row 3 1 0 (ra eI64 (a3.set x4 x3)), bB a4, .cells 93 (ap (eGram a2) [(.sl 1 0 1 0 a5), (.sl 2 0 1 0 a5)]), .cells 89 [(.ptr 3 0)], .row 48 6 0 (ra eSym []), bP a1, bP a1] ∧ ud = ud) (apc ((idx_sl h4) : idxA 1 (.sl 2 0 1 0 a5) (i6 a1.left) = some (.rp 2 0 1 x4 0)) (apc (⟨st_row (v' := (x3 == 0)) rfl h8 rfl rfl (Nat.le_of_ble_eq_true rfl) rfl, rfl⟩ : stA [bG a2, .row 3 1 0 (ra eI64 (a3.set x4 x3)), bB a4, .cells 93 (ap (eGram a2) [(.sl 1 0 1 0 a5), (.sl 2 0 1 0 a5)]), .cells 89 [(.ptr 3 0)], .row 48 6 0 (ra eSym []), bP a1, bP a1] 1 (.rp 2 0 1 x4 0) (vb (x3 == 0)) = some [bG a2, .row 3 1 0 (ra eI64 (a3.set x4 x3)), .row 4 1 0 (ra eBool (a4.set x4 (x3 == 0))), .cells 93 (ap (eGram a2) [(.sl 1 0 1 0 a5), (.sl 2 0 1 0 a5)]), .cells 89 [(.ptr 3 0)], .row 48 6 0 (ra eSym []), bP a1, bP a1] ∧ ud = ud) apn))))))))) (by kernel_rfl)
  ·
   cases h
 ·
  cases h
end Go.Proofs.Tryd
