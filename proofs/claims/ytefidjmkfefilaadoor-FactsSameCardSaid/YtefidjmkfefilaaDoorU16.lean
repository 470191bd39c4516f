/- Decompiled by a program: functions as plain data see them, part 1. -/
import Derived.Test.YtefidjmkfefilaaDoorFG6
namespace Go.Proofs.Tryd
set_option linter.unusedSimpArgs false
set_option linter.unusedVariables false
open Go Go.Vs
inductive E_L10_0 where
  | k0
  | k1
noncomputable def L10_0 (a1 : GramD) (v1 : Int) : Option (E_L10_0 ⊕ (Int)) :=
  (bif (decide (v1 < (a1.prods.length : Int))) then ((getI a1.prods v1).bind fun x2 => (bif (decide ((x2.right.length : Int) > 31)) then (some (.inl (.k0))) else (bif (decide ((x2.cons.size : Int) > 200)) then (some (.inl (.k0))) else (some (.inr ((IntKind.wrap .i64 (v1 + 1)))))))) else (some (.inl (.k1))))
def L10_0_s (a1 : GramD) (v1 : Int) : St := ⟨fr 51 ug [(1, (.ptr 0 0)), (3, (i6 v1))], [bG a1]⟩
def L10_0_x (a1 : GramD) (e : E_L10_0) (r : Option (Out × St)) : Prop := match e with | .k0 => ∃ g y, r = some (.ret, ⟨fr 51 g [(2, (vb true))], y⟩) | .k1 => ∃ g, r = some ((.brk 0), ⟨fr 51 g [(1, (.ptr 0 0))], [bG a1]⟩)
theorem L10_0_ok (a1 : GramD) (v1 : Int) {r : E_L10_0 ⊕ (Int)} (h : L10_0 a1 v1 = some r) : OkR (fun e => L10_0_x a1 e (evH prg 1 [1, 3] ir10_l0 (L10_0_s a1 v1))) (fun s => evH prg 1 [1, 3] ir10_l0 (L10_0_s a1 v1) = evH prg 1 [1, 3] ir10_l0 (L10_0_s a1 s)) r := by
 unfold L10_0 at h
 refine bi h (fun h1 h => ?_) fun h1 h => ?_
 ·
  refine bn h fun x2 h2 h => ?_
  refine bi h (fun h3 h => ?_) fun h3 h => ?_
  ·
   rw [← sj h]
   exact xretY (n := 30) [(29, .v (i6 (a1.prods.length : Int))), (30, .d true), (36, .v (.ro (eProd x2))), (39, .v (i6 (x2.right.length : Int))), (40, .d true), (6000, .d true)] (apc (lg a1.prods eProd 7) (apc (cv h1) (apc (ig eProd 7 .i64 h2) (apc (lg x2.right eSym 6) (apc (cv h3) apn))))) (by kernel_rfl)
  ·
   refine bi h (fun h4 h => ?_) fun h4 h => ?_
   ·
    rw [← sj h]
    exact xretY (n := 30) [(29, .v (i6 (a1.prods.length : Int))), (30, .d true), (36, .v (.ro (eProd x2))), (39, .v (i6 (x2.right.length : Int))), (40, .d false), (45, .v (.ro (eProd x2))), (49, .d true), (6000, .d true)] (apc (lg a1.prods eProd 7) (apc (cv h1) (apc (ig eProd 7 .i64 h2) (apc (lg x2.right eSym 6) (apc (cv h3) (apc (ig eProd 7 .i64 h2) (apc (cv h4) apn))))))) (by kernel_rfl)
   ·
    rw [← sj h]
    exact rnd (n := 30) [(29, .v (i6 (a1.prods.length : Int))), (30, .d true), (36, .v (.ro (eProd x2))), (39, .v (i6 (x2.right.length : Int))), (40, .d false), (45, .v (.ro (eProd x2))), (49, .d false), (6000, .d true)] (apc (lg a1.prods eProd 7) (apc (cv h1) (apc (ig eProd 7 .i64 h2) (apc (lg x2.right eSym 6) (apc (cv h3) (apc (ig eProd 7 .i64 h2) (apc (cv h4) (apc ((okT_of rfl (abl_cons rfl rfl)) : okT 1 [bG a1] = true) apn)))))))) (by kernel_rfl)
 ·
  rw [← sj h]
  exact xbrk (n := 30) [(29, .v (i6 (a1.prods.length : Int))), (30, .d false), (6000, .d true)] (apc (lg a1.prods eProd 7) (apc (cv h1) apn)) (by kernel_rfl)
theorem L10_0_run (a1 : GramD) (s0 : Int) (e : E_L10_0) (h : runL (fun s => L10_0 a1 s) s0 = some e) : L10_0_x a1 e (evH prg 1 [1, 3] ir10_l0 (L10_0_s a1 s0)) := by
  have q := @loop_sound' (Int) E_L10_0 (fun s => L10_0 a1 s) (fun s => evH prg 1 [1, 3] ir10_l0 (L10_0_s a1 s)) (L10_0_x a1) (fun s r h => L10_0_ok a1 s h) s0 e h
  exact q
noncomputable def F10 (a1 : GramD) : Option Bool :=
  (bif (decide ((a1.sorts.length : Int) > 40)) then (some true) else (bif (decide ((a1.prods.length : Int) > 80)) then (some true) else (bif (decide ((a1.forbid.length : Int) > 200)) then (some true) else (bif (decide ((a1.follow.length : Int) > 200)) then (some true) else ((runL (fun s => L10_0 a1 s) 0).bind fun r5 => match r5 with | .k0 => (some true) | .k1 => (some false))))))
def F10_v (a1 : GramD) (x0 : Bool) : AV := (vb x0)
theorem F10_ok (a1 : GramD) {r : Bool} (h : F10 a1 = some r) : PR1 prg 10 [(aG a1)] (F10_v a1 r) := by
 unfold F10 at h
 refine bi h (fun h1 h => ?_) fun h1 h => ?_
 ·
  rw [← sj h]
  exact fpr (n := 30) [(6, .v (i6 (a1.sorts.length : Int))), (7, .d true)] (apc (lg a1.sorts eStr 1) (apc (cv h1) apn)) rfl (by kernel_rfl)
 ·
  refine bi h (fun h2 h => ?_) fun h2 h => ?_
  ·
   rw [← sj h]
   exact fpr (n := 30) [(6, .v (i6 (a1.sorts.length : Int))), (7, .d false), (11, .v (i6 (a1.prods.length : Int))), (12, .d true)] (apc (lg a1.sorts eStr 1) (apc (cv h1) (apc (lg a1.prods eProd 7) (apc (cv h2) apn)))) rfl (by kernel_rfl)
  ·
   refine bi h (fun h3 h => ?_) fun h3 h => ?_
   ·
    rw [← sj h]
    exact fpr (n := 30) [(6, .v (i6 (a1.sorts.length : Int))), (7, .d false), (11, .v (i6 (a1.prods.length : Int))), (12, .d false), (17, .v (i6 (a1.forbid.length : Int))), (18, .d true)] (apc (lg a1.sorts eStr 1) (apc (cv h1) (apc (lg a1.prods eProd 7) (apc (cv h2) (apc (lg a1.forbid eForb 3) (apc (cv h3) apn)))))) rfl (by kernel_rfl)
   ·
    refine bi h (fun h4 h => ?_) fun h4 h => ?_
    ·
     rw [← sj h]
     exact fpr (n := 30) [(6, .v (i6 (a1.sorts.length : Int))), (7, .d false), (11, .v (i6 (a1.prods.length : Int))), (12, .d false), (17, .v (i6 (a1.forbid.length : Int))), (18, .d false), (23, .v (i6 (a1.follow.length : Int))), (24, .d true)] (apc (lg a1.sorts eStr 1) (apc (cv h1) (apc (lg a1.prods eProd 7) (apc (cv h2) (apc (lg a1.forbid eForb 3) (apc (cv h3) (apc (lg a1.follow eFoll 5) (apc (cv h4) apn)))))))) rfl (by kernel_rfl)
    ·
     refine bn h fun r5 h5 h => ?_
     cases r5 with
     | k0 =>
      obtain ⟨g5, y5, e5⟩ := L10_0_run a1 0 _ h5
      rw [← sj h]
      exact fpr (n := 30) [(6, .v (i6 (a1.sorts.length : Int))), (7, .d false), (11, .v (i6 (a1.prods.length : Int))), (12, .d false), (17, .v (i6 (a1.forbid.length : Int))), (18, .d false), (23, .v (i6 (a1.follow.length : Int))), (24, .d false), (2000, .l .ret ⟨fr 51 g5 [(2, (vb true))], y5⟩), (6000, .d true)] (apc (lg a1.sorts eStr 1) (apc (cv h1) (apc (lg a1.prods eProd 7) (apc (cv h2) (apc (lg a1.forbid eForb 3) (apc (cv h3) (apc (lg a1.follow eFoll 5) (apc (cv h4) (apc ((okT_of rfl (abl_cons rfl rfl)) : okT 1 [bG a1] = true) (apc (e5 : evH prg 1 [1, 3] ir10_l0 (L10_0_s a1 0) = some (.ret, ⟨fr 51 g5 [(2, (vb true))], y5⟩)) apn)))))))))) rfl (by kernel_rfl)
     | k1 =>
      obtain ⟨g5, e5⟩ := L10_0_run a1 0 _ h5
      rw [← sj h]
      exact fpr (n := 30) [(6, .v (i6 (a1.sorts.length : Int))), (7, .d false), (11, .v (i6 (a1.prods.length : Int))), (12, .d false), (17, .v (i6 (a1.forbid.length : Int))), (18, .d false), (23, .v (i6 (a1.follow.length : Int))), (24, .d false), (2000, .l (.brk 0) ⟨fr 51 g5 [(1, (.ptr 0 0))], [bG a1]⟩), (6000, .d true)] (apc (lg a1.sorts eStr 1) (apc (cv h1) (apc (lg a1.prods eProd 7) (apc (cv h2) (apc (lg a1.forbid eForb 3) (apc (cv h3) (apc (lg a1.follow eFoll 5) (apc (cv h4) (apc ((okT_of rfl (abl_cons rfl rfl)) : okT 1 [bG a1] = true) (apc (e5 : evH prg 1 [1, 3] ir10_l0 (L10_0_s a1 0) = some ((.brk 0), ⟨fr 51 g5 [(1, (.ptr 0 0))], [bG a1]⟩)) apn)))))))))) rfl (by kernel_rfl)
inductive E_L57_0 where
  | k0
  | k1 (x0 : List (ByteArray × Int))
noncomputable def L57_0 (a1 : GramD) (a2 : Int) (v1 : Int) (v2 : List (ByteArray × Int)) : Option (E_L57_0 ⊕ (Int × (List (ByteArray × Int)))) :=
  (bif (decide (v1 < a2)) then ((getI a1.sorts v1).bind fun x2 => (bif (x2.toList == (⟨([] : List UInt8).toArray⟩ : ByteArray).toList) then (some (.inl (.k0))) else (bif (decide ((x2.size : Int) > 1000)) then (some (.inl (.k0))) else (bif (decide ((mget 0 (mput x2 (IntKind.wrap .i64 ((mget 0 v2 x2) + 1)) v2) x2) > 1)) then (some (.inl (.k0))) else (some (.inr ((IntKind.wrap .i64 (v1 + 1)), (mput x2 (IntKind.wrap .i64 ((mget 0 v2 x2) + 1)) v2)))))))) else (some (.inl (.k1 v2))))
def L57_0_s (a1 : GramD) (a2 : Int) (v1 : Int) (v2 : List (ByteArray × Int)) : St := ⟨fr 55 ug [(1, (.ptr 0 0)), (3, (.mp 1)), (8, (.p (.lst 1 (a1.sorts.map eStr)))), (9, (i6 a2)), (10, (i6 v1))], [bG a1, mSI v2]⟩
def L57_0_x (a1 : GramD) (a2 : Int) (e : E_L57_0) (r : Option (Out × St)) : Prop := match e with | .k0 => ∃ g y, r = some (.ret, ⟨fr 55 g [(2, (vb false))], y⟩) | .k1 x0 => ∃ g, r = some ((.brk 0), ⟨fr 55 g [(1, (.ptr 0 0)), (8, (.p (.lst 1 (a1.sorts.map eStr))))], [bG a1, mSI x0]⟩)
theorem L57_0_ok (a1 : GramD) (a2 : Int) (v1 : Int) (v2 : List (ByteArray × Int)) {r : E_L57_0 ⊕ (Int × (List (ByteArray × Int)))} (h : L57_0 a1 a2 v1 v2 = some r) : OkR (fun e => L57_0_x a1 a2 e (evH prg 2 [1, 3, 8, 9, 10] ir57_l0 (L57_0_s a1 a2 v1 v2))) (fun s => evH prg 2 [1, 3, 8, 9, 10] ir57_l0 (L57_0_s a1 a2 v1 v2) = evH prg 2 [1, 3, 8, 9, 10] ir57_l0 (L57_0_s a1 a2 s.1 s.2)) r := by
 unfold L57_0 at h
 refine bi h (fun h1 h => ?_) fun h1 h => ?_
 ·
  refine bn h fun x2 h2 h => ?_
  refine bi h (fun h3 h => ?_) fun h3 h => ?_
  ·
   rw [← sj h]
   exact xretY (n := 30) [(11, .d true), (12, .v (.ro [.val (.string x2)])), (16, .v (i6 (mget 0 v2 x2))), (7017, .r ud [bG a1, .map (mrow (fun s => vs s) (fun n => vi .i64 n) (mput x2 (w6 ((mget 0 v2 x2) + 1)) v2))]), (19, .d true), (6000, .d true)] (apc (cv h1) (apc (ig eStr 1 .i64 h2) (apc ((lk_row key_str (es := v2) (k := x2) (z := 0) rfl rfl) : lkA [bG a1, mSI v2] [2] .false .false [(.val (.int .i64 0))] .false (.mp 1) (vs x2) = some (i6 (mget 0 v2 x2))) (apc (⟨up_row key_str (es := v2) (k := x2) (v := (w6 ((mget 0 v2 x2) + 1))) rfl, rfl⟩ : upA [bG a1, mSI v2] [2] .false (.mp 1) (vs x2) (i6 (w6 ((mget 0 v2 x2) + 1))) = some [bG a1, .map (mrow (fun s => vs s) (fun n => vi .i64 n) (mput x2 (w6 ((mget 0 v2 x2) + 1)) v2))] ∧ ud = ud) (apc (cv h3) apn))))) (by kernel_rfl)
  ·
   refine bi h (fun h4 h => ?_) fun h4 h => ?_
   ·
    rw [← sj h]
    exact xretY (n := 30) [(11, .d true), (12, .v (.ro [.val (.string x2)])), (16, .v (i6 (mget 0 v2 x2))), (7017, .r ud [bG a1, .map (mrow (fun s => vs s) (fun n => vi .i64 n) (mput x2 (w6 ((mget 0 v2 x2) + 1)) v2))]), (19, .d false), (23, .d true), (6000, .d true)] (apc (cv h1) (apc (ig eStr 1 .i64 h2) (apc ((lk_row key_str (es := v2) (k := x2) (z := 0) rfl rfl) : lkA [bG a1, mSI v2] [2] .false .false [(.val (.int .i64 0))] .false (.mp 1) (vs x2) = some (i6 (mget 0 v2 x2))) (apc (⟨up_row key_str (es := v2) (k := x2) (v := (w6 ((mget 0 v2 x2) + 1))) rfl, rfl⟩ : upA [bG a1, mSI v2] [2] .false (.mp 1) (vs x2) (i6 (w6 ((mget 0 v2 x2) + 1))) = some [bG a1, .map (mrow (fun s => vs s) (fun n => vi .i64 n) (mput x2 (w6 ((mget 0 v2 x2) + 1)) v2))] ∧ ud = ud) (apc (cv h3) (apc (cv h4) apn)))))) (by kernel_rfl)
   ·
    refine bi h (fun h5 h => ?_) fun h5 h => ?_
    ·
     rw [← sj h]
     exact xretY (n := 30) [(11, .d true), (12, .v (.ro [.val (.string x2)])), (16, .v (i6 (mget 0 v2 x2))), (7017, .r ud [bG a1, .map (mrow (fun s => vs s) (fun n => vi .i64 n) (mput x2 (w6 ((mget 0 v2 x2) + 1)) v2))]), (19, .d false), (23, .d false), (28, .v (i6 (mget 0 (mput x2 (w6 ((mget 0 v2 x2) + 1)) v2) x2))), (29, .d true), (6000, .d true)] (apc (cv h1) (apc (ig eStr 1 .i64 h2) (apc ((lk_row key_str (es := v2) (k := x2) (z := 0) rfl rfl) : lkA [bG a1, mSI v2] [2] .false .false [(.val (.int .i64 0))] .false (.mp 1) (vs x2) = some (i6 (mget 0 v2 x2))) (apc (⟨up_row key_str (es := v2) (k := x2) (v := (w6 ((mget 0 v2 x2) + 1))) rfl, rfl⟩ : upA [bG a1, mSI v2] [2] .false (.mp 1) (vs x2) (i6 (w6 ((mget 0 v2 x2) + 1))) = some [bG a1, .map (mrow (fun s => vs s) (fun n => vi .i64 n) (mput x2 (w6 ((mget 0 v2 x2) + 1)) v2))] ∧ ud = ud) (apc (cv h3) (apc (cv h4) (apc ((lk_row key_str (es := (mput x2 (w6 ((mget 0 v2 x2) + 1)) v2)) (k := x2) (z := 0) rfl rfl) : lkA [bG a1, .map (mrow (fun s => vs s) (fun n => vi .i64 n) (mput x2 (w6 ((mget 0 v2 x2) + 1)) v2))] [2] .false .false [(.val (.int .i64 0))] .false (.mp 1) (vs x2) = some (i6 (mget 0 (mput x2 (w6 ((mget 0 v2 x2) + 1)) v2) x2))) (apc (cv h5) apn)))))))) (by kernel_rfl)
    ·
     rw [← sj h]
     exact rnd (n := 30) [(11, .d true), (12, .v (.ro [.val (.string x2)])), (16, .v (i6 (mget 0 v2 x2))), (7017, .r ud [bG a1, .map (mrow (fun s => vs s) (fun n => vi .i64 n) (mput x2 (w6 ((mget 0 v2 x2) + 1)) v2))]), (19, .d false), (23, .d false), (28, .v (i6 (mget 0 (mput x2 (w6 ((mget 0 v2 x2) + 1)) v2) x2))), (29, .d false), (6000, .d true)] (apc (cv h1) (apc (ig eStr 1 .i64 h2) (apc ((lk_row key_str (es := v2) (k := x2) (z := 0) rfl rfl) : lkA [bG a1, mSI v2] [2] .false .false [(.val (.int .i64 0))] .false (.mp 1) (vs x2) = some (i6 (mget 0 v2 x2))) (apc (⟨up_row key_str (es := v2) (k := x2) (v := (w6 ((mget 0 v2 x2) + 1))) rfl, rfl⟩ : upA [bG a1, mSI v2] [2] .false (.mp 1) (vs x2) (i6 (w6 ((mget 0 v2 x2) + 1))) = some [bG a1, .map (mrow (fun s => vs s) (fun n => vi .i64 n) (mput x2 (w6 ((mget 0 v2 x2) + 1)) v2))] ∧ ud = ud) (apc (cv h3) (apc (cv h4) (apc ((lk_row key_str (es := (mput x2 (w6 ((mget 0 v2 x2) + 1)) v2)) (k := x2) (z := 0) rfl rfl) : lkA [bG a1, .map (mrow (fun s => vs s) (fun n => vi .i64 n) (mput x2 (w6 ((mget 0 v2 x2) + 1)) v2))] [2] .false .false [(.val (.int .i64 0))] .false (.mp 1) (vs x2) = some (i6 (mget 0 (mput x2 (w6 ((mget 0 v2 x2) + 1)) v2) x2))) (apc (cv h5) (apc ((okT_of rfl (abl_cons rfl (abl_cons (abl_map (fun _ => rfl) (fun _ => rfl)) rfl))) : okT 2 [bG a1, .map (mrow (fun s => vs s) (fun n => vi .i64 n) (mput x2 (w6 ((mget 0 v2 x2) + 1)) v2))] = true) apn))))))))) (by kernel_rfl)
 ·
  rw [← sj h]
  exact xbrk (n := 30) [(11, .d false), (6000, .d true)] (apc (cv h1) apn) (by kernel_rfl)
theorem L57_0_run (a1 : GramD) (a2 : Int) (s0 : Int × (List (ByteArray × Int))) (e : E_L57_0) (h : runL (fun s => L57_0 a1 a2 s.1 s.2) s0 = some e) : L57_0_x a1 a2 e (evH prg 2 [1, 3, 8, 9, 10] ir57_l0 (L57_0_s a1 a2 s0.1 s0.2)) := by
  have q := @loop_sound' (Int × (List (ByteArray × Int))) E_L57_0 (fun s => L57_0 a1 a2 s.1 s.2) (fun s => evH prg 2 [1, 3, 8, 9, 10] ir57_l0 (L57_0_s a1 a2 s.1 s.2)) (L57_0_x a1 a2) (fun s r h => L57_0_ok a1 a2 s.1 s.2 h) s0 e h
  exact q
noncomputable def F57 (a1 : GramD) : Option Bool :=
  ((runL (fun s => L57_0 a1 (a1.sorts.length : Int) s.1 s.2) (0, [])).bind fun r1 => match r1 with | .k0 => (some false) | .k1 x1_0 => (bif (decide ((a1.sorts.length : Int) ≥ 1)) then (bif (decide ((a1.sorts.length : Int) ≤ 1000)) then (bif (decide (a1.start ≥ 0)) then (some (decide (a1.start < (a1.sorts.length : Int)))) else (some false)) else (some false)) else (some false)))
def F57_v (a1 : GramD) (x0 : Bool) : AV := (vb x0)
theorem F57_ok (a1 : GramD) {r : Bool} (h : F57 a1 = some r) : PR1 prg 57 [(aG a1)] (F57_v a1 r) := by
 unfold F57 at h
 refine bn h fun r1 h1 h => ?_
 cases r1 with
 | k0 =>
  obtain ⟨g1, y1, e1⟩ := L57_0_run a1 (a1.sorts.length : Int) (0, []) _ h1
  rw [← sj h]
  exact fpr (n := 30) [(9, .v (i6 (a1.sorts.length : Int))), (2000, .l .ret ⟨fr 55 g1 [(2, (vb false))], y1⟩), (6000, .d true)] (apc (lg a1.sorts eStr 1) (apc ((okT_of rfl (abl_cons rfl (abl_cons rfl rfl))) : okT 2 [bG a1, .map []] = true) (apc (e1 : evH prg 2 [1, 3, 8, 9, 10] ir57_l0 (L57_0_s a1 (a1.sorts.length : Int) 0 ([])) = some (.ret, ⟨fr 55 g1 [(2, (vb false))], y1⟩)) apn))) rfl (by kernel_rfl)
 | k1 x1_0 =>
  obtain ⟨g1, e1⟩ := L57_0_run a1 (a1.sorts.length : Int) (0, []) _ h1
  refine bi h (fun h2 h => ?_) fun h2 h => ?_
  ·
   refine bi h (fun h3 h => ?_) fun h3 h => ?_
   ·
    refine bi h (fun h4 h => ?_) fun h4 h => ?_
    ·
     rw [← sj h]
     exact fpr (n := 30) [(9, .v (i6 (a1.sorts.length : Int))), (2000, .l (.brk 0) ⟨fr 55 g1 [(1, (.ptr 0 0)), (8, (.p (.lst 1 (a1.sorts.map eStr))))], [bG a1, mSI x1_0]⟩), (34, .v (i6 (a1.sorts.length : Int))), (35, .d true), (39, .v (i6 (a1.sorts.length : Int))), (40, .d true), (45, .d true), (52, .v (i6 (a1.sorts.length : Int))), (6000, .d true)] (apc (lg a1.sorts eStr 1) (apc ((okT_of rfl (abl_cons rfl (abl_cons rfl rfl))) : okT 2 [bG a1, .map []] = true) (apc (e1 : evH prg 2 [1, 3, 8, 9, 10] ir57_l0 (L57_0_s a1 (a1.sorts.length : Int) 0 ([])) = some ((.brk 0), ⟨fr 55 g1 [(1, (.ptr 0 0)), (8, (.p (.lst 1 (a1.sorts.map eStr))))], [bG a1, mSI x1_0]⟩)) (apc (lg a1.sorts eStr 1) (apc (cv h2) (apc (lg a1.sorts eStr 1) (apc (cv h3) (apc (cv h4) (apc (lg a1.sorts eStr 1) apn))))))))) rfl (by kernel_rfl)
    ·
     rw [← sj h]
     exact fpr (n := 30) [(9, .v (i6 (a1.sorts.length : Int))), (2000, .l (.brk 0) ⟨fr 55 g1 [(1, (.ptr 0 0)), (8, (.p (.lst 1 (a1.sorts.map eStr))))], [bG a1, mSI x1_0]⟩), (34, .v (i6 (a1.sorts.length : Int))), (35, .d true), (39, .v (i6 (a1.sorts.length : Int))), (40, .d true), (45, .d false), (6000, .d true)] (apc (lg a1.sorts eStr 1) (apc ((okT_of rfl (abl_cons rfl (abl_cons rfl rfl))) : okT 2 [bG a1, .map []] = true) (apc (e1 : evH prg 2 [1, 3, 8, 9, 10] ir57_l0 (L57_0_s a1 (a1.sorts.length : Int) 0 ([])) = some ((.brk 0), ⟨fr 55 g1 [(1, (.ptr 0 0)), (8, (.p (.lst 1 (a1.sorts.map eStr))))], [bG a1, mSI x1_0]⟩)) (apc (lg a1.sorts eStr 1) (apc (cv h2) (apc (lg a1.sorts eStr 1) (apc (cv h3) (apc (cv h4) apn)))))))) rfl (by kernel_rfl)
   ·
    rw [← sj h]
    exact fpr (n := 30) [(9, .v (i6 (a1.sorts.length : Int))), (2000, .l (.brk 0) ⟨fr 55 g1 [(1, (.ptr 0 0)), (8, (.p (.lst 1 (a1.sorts.map eStr))))], [bG a1, mSI x1_0]⟩), (34, .v (i6 (a1.sorts.length : Int))), (35, .d true), (39, .v (i6 (a1.sorts.length : Int))), (40, .d false), (6000, .d true)] (apc (lg a1.sorts eStr 1) (apc ((okT_of rfl (abl_cons rfl (abl_cons rfl rfl))) : okT 2 [bG a1, .map []] = true) (apc (e1 : evH prg 2 [1, 3, 8, 9, 10] ir57_l0 (L57_0_s a1 (a1.sorts.length : Int) 0 ([])) = some ((.brk 0), ⟨fr 55 g1 [(1, (.ptr 0 0)), (8, (.p (.lst 1 (a1.sorts.map eStr))))], [bG a1, mSI x1_0]⟩)) (apc (lg a1.sorts eStr 1) (apc (cv h2) (apc (lg a1.sorts eStr 1) (apc (cv h3) apn))))))) rfl (by kernel_rfl)
  ·
   rw [← sj h]
   exact fpr (n := 30) [(9, .v (i6 (a1.sorts.length : Int))), (2000, .l (.brk 0) ⟨fr 55 g1 [(1, (.ptr 0 0)), (8, (.p (.lst 1 (a1.sorts.map eStr))))], [bG a1, mSI x1_0]⟩), (34, .v (i6 (a1.sorts.length : Int))), (35, .d false), (6000, .d true)] (apc (lg a1.sorts eStr 1) (apc ((okT_of rfl (abl_cons rfl (abl_cons rfl rfl))) : okT 2 [bG a1, .map []] = true) (apc (e1 : evH prg 2 [1, 3, 8, 9, 10] ir57_l0 (L57_0_s a1 (a1.sorts.length : Int) 0 ([])) = some ((.brk 0), ⟨fr 55 g1 [(1, (.ptr 0 0)), (8, (.p (.lst 1 (a1.sorts.map eStr))))], [bG a1, mSI x1_0]⟩)) (apc (lg a1.sorts eStr 1) (apc (cv h2) apn))))) rfl (by kernel_rfl)
noncomputable def F73 (a1 : ProdD) (a2 : GramD) : Option Bool :=
  (bif (decide (a1.left ≥ 0)) then (some (decide (a1.left < (a2.sorts.length : Int)))) else (some false))
def F73_v (a1 : ProdD) (a2 : GramD) (x0 : Bool) : AV := (vb x0)
theorem F73_ok (a1 : ProdD) (a2 : GramD) {r : Bool} (h : F73 a1 a2 = some r) : PR1 prg 73 [(i6 a1.left), (.ro (eGram a2))] (F73_v a1 a2 r) := by
 unfold F73 at h
 refine bi h (fun h1 h => ?_) fun h1 h => ?_
 ·
  rw [← sj h]
  exact fpr (n := 30) [(5, .d true), (10, .v (i6 (a2.sorts.length : Int)))] (apc (cv h1) (apc (lg a2.sorts eStr 1) apn)) rfl (by kernel_rfl)
 ·
  rw [← sj h]
  exact fpr (n := 30) [(5, .d false)] (apc (cv h1) apn) rfl (by kernel_rfl)
noncomputable def F73_2 (a1 : SymD) (a2 : GramD) : Option Bool :=
  (bif (decide (a1.sort ≥ 0)) then (some (decide (a1.sort < (a2.sorts.length : Int)))) else (some false))
def F73_2_v (a1 : SymD) (a2 : GramD) (x0 : Bool) : AV := (vb x0)
theorem F73_2_ok (a1 : SymD) (a2 : GramD) {r : Bool} (h : F73_2 a1 a2 = some r) : PR1 prg 73 [(i6 a1.sort), (.ro (eGram a2))] (F73_2_v a1 a2 r) := by
 unfold F73_2 at h
 refine bi h (fun h1 h => ?_) fun h1 h => ?_
 ·
  rw [← sj h]
  exact fpr (n := 30) [(5, .d true), (10, .v (i6 (a2.sorts.length : Int)))] (apc (cv h1) (apc (lg a2.sorts eStr 1) apn)) rfl (by kernel_rfl)
 ·
  rw [← sj h]
  exact fpr (n := 30) [(5, .d false)] (apc (cv h1) apn) rfl (by kernel_rfl)
inductive E_L58_0 where
  | k0
  | k1
noncomputable def L58_0 (a1 : GramD) (a4 : ProdD) (a5 : Int) (v1 : Int) : Option (E_L58_0 ⊕ (Int)) :=
  (bif (decide (v1 < a5)) then ((getI a4.right v1).bind fun x2 => (bif (x2.kind == 0) then (bif ((x2.a == 0) && ((x2.b == 0) && ((x2.c == 0) && ((x2.d == 0) && true)))) then (some (.inl (.k0))) else (bif (x2.sort != 0) then (some (.inl (.k0))) else (some (.inr ((IntKind.wrap .i64 (v1 + 1))))))) else (bif (x2.kind == 1) then (bif (!((x2.a == 0) && ((x2.b == 0) && ((x2.c == 0) && ((x2.d == 0) && true))))) then (some (.inl (.k0))) else ((F73_2 x2 a1).bind fun x6 => (bif x6 then (bif (a4.role == 11) then (some (.inl (.k0))) else (some (.inr ((IntKind.wrap .i64 (v1 + 1)))))) else (some (.inl (.k0)))))) else (some (.inl (.k0)))))) else (some (.inl (.k1))))
def L58_0_s (a1 : GramD) (a2 : Int) (a3 : Int) (a4 : ProdD) (a5 : Int) (v1 : Int) : St := ⟨fr 110 ug [(1, (.ptr 0 0)), (3, (.fn 73 [(.ptr 0 0)])), (5, (.ptr 2 0)), (10, (.p (.lst 7 (a1.prods.map eProd)))), (11, (i6 a2)), (12, (i6 a3)), (67, (.p (.lst 6 (a4.right.map eSym)))), (68, (i6 a5)), (69, (i6 v1))], [bG a1, .row 48 6 0 (ra eSym []), bP a4]⟩
def L58_0_x (a1 : GramD) (a2 : Int) (a3 : Int) (a4 : ProdD) (a5 : Int) (e : E_L58_0) (r : Option (Out × St)) : Prop := match e with | .k0 => ∃ g y, r = some (.ret, ⟨fr 110 g [(2, (vb false))], y⟩) | .k1 => ∃ g, r = some ((.brk 2), ⟨fr 110 g [(1, (.ptr 0 0)), (3, (.fn 73 [(.ptr 0 0)])), (5, (.ptr 2 0)), (10, (.p (.lst 7 (a1.prods.map eProd)))), (11, (i6 a2)), (12, (i6 a3)), (67, (.p (.lst 6 (a4.right.map eSym))))], [bG a1, .row 48 6 0 (ra eSym []), bP a4]⟩)
theorem L58_0_ok (a1 : GramD) (a2 : Int) (a3 : Int) (a4 : ProdD) (a5 : Int) (v1 : Int) {r : E_L58_0 ⊕ (Int)} (h : L58_0 a1 a4 a5 v1 = some r) : OkR (fun e => L58_0_x a1 a2 a3 a4 a5 e (evH prg 3 [1, 3, 5, 10, 11, 12, 67, 68, 69] ir58_l0 (L58_0_s a1 a2 a3 a4 a5 v1))) (fun s => evH prg 3 [1, 3, 5, 10, 11, 12, 67, 68, 69] ir58_l0 (L58_0_s a1 a2 a3 a4 a5 v1) = evH prg 3 [1, 3, 5, 10, 11, 12, 67, 68, 69] ir58_l0 (L58_0_s a1 a2 a3 a4 a5 s)) r := by
 unfold L58_0 at h
 refine bi h (fun h1 h => ?_) fun h1 h => ?_
 ·
  refine bn h fun x2 h2 h => ?_
  refine bi h (fun h3 h => ?_) fun h3 h => ?_
  ·
   refine bi h (fun h4 h => ?_) fun h4 h => ?_
   ·
    rw [← sj h]
    exact xretY (n := 30) [(70, .d true), (71, .v (.ro (eSym x2))), (76, .d true), (80, .d true), (6000, .d true)] (apc (cv h1) (apc (ig eSym 6 .i64 h2) (apc (cv h3) (apc (cv h4) apn)))) (by kernel_rfl)
   ·
    refine bi h (fun h5 h => ?_) fun h5 h => ?_
    ·
     rw [← sj h]
     exact xretY (n := 30) [(70, .d true), (71, .v (.ro (eSym x2))), (76, .d true), (80, .d false), (84, .d true), (6000, .d true)] (apc (cv h1) (apc (ig eSym 6 .i64 h2) (apc (cv h3) (apc (cv h4) (apc (cv h5) apn))))) (by kernel_rfl)
    ·
     rw [← sj h]
     exact rnd (n := 30) [(70, .d true), (71, .v (.ro (eSym x2))), (76, .d true), (80, .d false), (84, .d false), (6000, .d true)] (apc (cv h1) (apc (ig eSym 6 .i64 h2) (apc (cv h3) (apc (cv h4) (apc (cv h5) (apc ((okT_of rfl (abl_cons rfl (abl_cons abl_row (abl_cons rfl rfl)))) : okT 3 [bG a1, .row 48 6 0 (ra eSym []), bP a4, .cells 48 ((eSym x2).map .p)] = true) apn)))))) (by kernel_rfl)
  ·
   refine bi h (fun h4 h => ?_) fun h4 h => ?_
   ·
    refine bi h (fun h5 h => ?_) fun h5 h => ?_
    ·
     rw [← sj h]
     exact xretY (n := 30) [(70, .d true), (71, .v (.ro (eSym x2))), (76, .d false), (87, .d true), (91, .d true), (6000, .d true)] (apc (cv h1) (apc (ig eSym 6 .i64 h2) (apc (cv h3) (apc (cv h4) (apc (cv h5) apn))))) (by kernel_rfl)
    ·
     refine bn h fun x6 h6 h => ?_
     refine bi h (fun h7 h => ?_) fun h7 h => ?_
     ·
      refine bi h (fun h8 h => ?_) fun h8 h => ?_
      ·
       rw [← sj h]
       exact xretY (n := 30) [(70, .d true), (71, .v (.ro (eSym x2))), (76, .d false), (87, .d true), (91, .d false), (96, .v (vb true)), (102, .d true), (6000, .d true)] (apc (cv h1) (apc (ig eSym 6 .i64 h2) (apc (cv h3) (apc (cv h4) (apc (cv h5) (apc ((((F73_2_ok x2 a1 h6).own rfl (purAs_cons rfl (purAs_cons (purA_ptr rfl (mapO_con rfl (mapO_con rfl (mapO_con rfl (mapO_con rfl (mapO_con rfl rfl)))))) purAs_nil)) rfl).trans (congrArg (fun z => some (vb z)) h7)) : CP prg 73 [(i6 x2.sort), (.ptr 0 0)] [bG a1, .row 48 6 0 (ra eSym []), bP a4, .cells 48 ((eSym x2).map .p)] = some (vb true)) (apc (cv h8) apn))))))) (by kernel_rfl)
      ·
       rw [← sj h]
       exact rnd (n := 30) [(70, .d true), (71, .v (.ro (eSym x2))), (76, .d false), (87, .d true), (91, .d false), (96, .v (vb true)), (102, .d false), (6000, .d true)] (apc (cv h1) (apc (ig eSym 6 .i64 h2) (apc (cv h3) (apc (cv h4) (apc (cv h5) (apc ((((F73_2_ok x2 a1 h6).own rfl (purAs_cons rfl (purAs_cons (purA_ptr rfl (mapO_con rfl (mapO_con rfl (mapO_con rfl (mapO_con rfl (mapO_con rfl rfl)))))) purAs_nil)) rfl).trans (congrArg (fun z => some (vb z)) h7)) : CP prg 73 [(i6 x2.sort), (.ptr 0 0)] [bG a1, .row 48 6 0 (ra eSym []), bP a4, .cells 48 ((eSym x2).map .p)] = some (vb true)) (apc (cv h8) (apc ((okT_of rfl (abl_cons rfl (abl_cons abl_row (abl_cons rfl rfl)))) : okT 3 [bG a1, .row 48 6 0 (ra eSym []), bP a4, .cells 48 ((eSym x2).map .p)] = true) apn)))))))) (by kernel_rfl)
     ·
      rw [← sj h]
      exact xretY (n := 30) [(70, .d true), (71, .v (.ro (eSym x2))), (76, .d false), (87, .d true), (91, .d false), (96, .v (vb false)), (6000, .d true)] (apc (cv h1) (apc (ig eSym 6 .i64 h2) (apc (cv h3) (apc (cv h4) (apc (cv h5) (apc ((((F73_2_ok x2 a1 h6).own rfl (purAs_cons rfl (purAs_cons (purA_ptr rfl (mapO_con rfl (mapO_con rfl (mapO_con rfl (mapO_con rfl (mapO_con rfl rfl)))))) purAs_nil)) rfl).trans (congrArg (fun z => some (vb z)) h7)) : CP prg 73 [(i6 x2.sort), (.ptr 0 0)] [bG a1, .row 48 6 0 (ra eSym []), bP a4, .cells 48 ((eSym x2).map .p)] = some (vb false)) apn)))))) (by kernel_rfl)
   ·
    rw [← sj h]
    exact xretY (n := 30) [(70, .d true), (71, .v (.ro (eSym x2))), (76, .d false), (87, .d false), (6000, .d true)] (apc (cv h1) (apc (ig eSym 6 .i64 h2) (apc (cv h3) (apc (cv h4) apn)))) (by kernel_rfl)
 ·
  rw [← sj h]
  exact xbrk (n := 30) [(70, .d false), (6000, .d true)] (apc (cv h1) apn) (by kernel_rfl)
theorem L58_0_run (a1 : GramD) (a2 : Int) (a3 : Int) (a4 : ProdD) (a5 : Int) (s0 : Int) (e : E_L58_0) (h : runL (fun s => L58_0 a1 a4 a5 s) s0 = some e) : L58_0_x a1 a2 a3 a4 a5 e (evH prg 3 [1, 3, 5, 10, 11, 12, 67, 68, 69] ir58_l0 (L58_0_s a1 a2 a3 a4 a5 s0)) := by
  have q := @loop_sound' (Int) E_L58_0 (fun s => L58_0 a1 a4 a5 s) (fun s => evH prg 3 [1, 3, 5, 10, 11, 12, 67, 68, 69] ir58_l0 (L58_0_s a1 a2 a3 a4 a5 s)) (L58_0_x a1 a2 a3 a4 a5) (fun s r h => L58_0_ok a1 a2 a3 a4 a5 s h) s0 e h
  exact q
inductive E_L58_1 where
  | k0
  | k1
noncomputable def L58_1 (a1 : GramD) (a2 : Int) (v1 : Int) : Option (E_L58_1 ⊕ (Int)) :=
  (bif (decide (v1 < a2)) then ((getI a1.prods v1).bind fun x2 => ((F73 x2 a1).bind fun x3 => (bif x3 then (bif (decide ((x2.right.length : Int) > 30)) then (some (.inl (.k0))) else (bif (decide (x2.role < 0)) then (some (.inl (.k0))) else (bif (decide (x2.role > 11)) then (some (.inl (.k0))) else (bif (decide (x2.frm < (-1))) then (some (.inl (.k0))) else (bif (decide ((x2.cons.size : Int) > 64)) then (some (.inl (.k0))) else (bif (!(x2.cons.toList == (⟨([] : List UInt8).toArray⟩ : ByteArray).toList)) then (bif (x2.role != 0) then (some (.inl (.k0))) else (bif x2.prefer then (bif x2.avoid then (some (.inl (.k0))) else ((runL (fun s => L58_0 a1 x2 (x2.right.length : Int) s) 0).bind fun r14 => match r14 with | .k0 => (some (.inl (.k0))) | .k1 => (some (.inr ((IntKind.wrap .i64 (v1 + 1))))))) else ((runL (fun s => L58_0 a1 x2 (x2.right.length : Int) s) 0).bind fun r13 => match r13 with | .k0 => (some (.inl (.k0))) | .k1 => (some (.inr ((IntKind.wrap .i64 (v1 + 1)))))))) else (bif x2.prefer then (bif x2.avoid then (some (.inl (.k0))) else ((runL (fun s => L58_0 a1 x2 (x2.right.length : Int) s) 0).bind fun r13 => match r13 with | .k0 => (some (.inl (.k0))) | .k1 => (some (.inr ((IntKind.wrap .i64 (v1 + 1))))))) else ((runL (fun s => L58_0 a1 x2 (x2.right.length : Int) s) 0).bind fun r12 => match r12 with | .k0 => (some (.inl (.k0))) | .k1 => (some (.inr ((IntKind.wrap .i64 (v1 + 1))))))))))))) else (some (.inl (.k0)))))) else (some (.inl (.k1))))
def L58_1_s (a1 : GramD) (a2 : Int) (v1 : Int) : St := ⟨fr 110 ug [(1, (.ptr 0 0)), (3, (.fn 73 [(.ptr 0 0)])), (10, (.p (.lst 7 (a1.prods.map eProd)))), (11, (i6 a2)), (12, (i6 v1))], [bG a1]⟩
def L58_1_x (a1 : GramD) (a2 : Int) (e : E_L58_1) (r : Option (Out × St)) : Prop := match e with | .k0 => ∃ g y, r = some (.ret, ⟨fr 110 g [(2, (vb false))], y⟩) | .k1 => ∃ g, r = some ((.brk 0), ⟨fr 110 g [(1, (.ptr 0 0)), (10, (.p (.lst 7 (a1.prods.map eProd))))], [bG a1]⟩)
theorem L58_1_ok (a1 : GramD) (a2 : Int) (v1 : Int) {r : E_L58_1 ⊕ (Int)} (h : L58_1 a1 a2 v1 = some r) : OkR (fun e => L58_1_x a1 a2 e (evH prg 1 [1, 3, 10, 11, 12] ir58_l1 (L58_1_s a1 a2 v1))) (fun s => evH prg 1 [1, 3, 10, 11, 12] ir58_l1 (L58_1_s a1 a2 v1) = evH prg 1 [1, 3, 10, 11, 12] ir58_l1 (L58_1_s a1 a2 s)) r := by
 unfold L58_1 at h
 refine bi h (fun h1 h => ?_) fun h1 h => ?_
 ·
  refine bn h fun x2 h2 h => ?_
  refine bn h fun x3 h3 h => ?_
  refine bi h (fun h4 h => ?_) fun h4 h => ?_
  ·
   refine bi h (fun h5 h => ?_) fun h5 h => ?_
   ·
    rw [← sj h]
    exact xretY (n := 30) [(13, .d true), (14, .v (.ro (eProd x2))), (19, .v (vb true)), (24, .v (i6 (x2.right.length : Int))), (25, .d true), (6000, .d true)] (apc (cv h1) (apc (ig eProd 7 .i64 h2) (apc ((((F73_ok x2 a1 h3).own rfl (purAs_cons rfl (purAs_cons (purA_ptr rfl (mapO_con rfl (mapO_con rfl (mapO_con rfl (mapO_con rfl (mapO_con rfl rfl)))))) purAs_nil)) rfl).trans (congrArg (fun z => some (vb z)) h4)) : CP prg 73 [(i6 x2.left), (.ptr 0 0)] [bG a1, .row 48 6 0 (ra eSym []), bP x2] = some (vb true)) (apc (lg x2.right eSym 6) (apc (cv h5) apn))))) (by kernel_rfl)
   ·
    refine bi h (fun h6 h => ?_) fun h6 h => ?_
    ·
     rw [← sj h]
     exact xretY (n := 30) [(13, .d true), (14, .v (.ro (eProd x2))), (19, .v (vb true)), (24, .v (i6 (x2.right.length : Int))), (25, .d false), (30, .d true), (6000, .d true)] (apc (cv h1) (apc (ig eProd 7 .i64 h2) (apc ((((F73_ok x2 a1 h3).own rfl (purAs_cons rfl (purAs_cons (purA_ptr rfl (mapO_con rfl (mapO_con rfl (mapO_con rfl (mapO_con rfl (mapO_con rfl rfl)))))) purAs_nil)) rfl).trans (congrArg (fun z => some (vb z)) h4)) : CP prg 73 [(i6 x2.left), (.ptr 0 0)] [bG a1, .row 48 6 0 (ra eSym []), bP x2] = some (vb true)) (apc (lg x2.right eSym 6) (apc (cv h5) (apc (cv h6) apn)))))) (by kernel_rfl)
    ·
     refine bi h (fun h7 h => ?_) fun h7 h => ?_
     ·
      rw [← sj h]
      exact xretY (n := 30) [(13, .d true), (14, .v (.ro (eProd x2))), (19, .v (vb true)), (24, .v (i6 (x2.right.length : Int))), (25, .d false), (30, .d false), (35, .d true), (6000, .d true)] (apc (cv h1) (apc (ig eProd 7 .i64 h2) (apc ((((F73_ok x2 a1 h3).own rfl (purAs_cons rfl (purAs_cons (purA_ptr rfl (mapO_con rfl (mapO_con rfl (mapO_con rfl (mapO_con rfl (mapO_con rfl rfl)))))) purAs_nil)) rfl).trans (congrArg (fun z => some (vb z)) h4)) : CP prg 73 [(i6 x2.left), (.ptr 0 0)] [bG a1, .row 48 6 0 (ra eSym []), bP x2] = some (vb true)) (apc (lg x2.right eSym 6) (apc (cv h5) (apc (cv h6) (apc (cv h7) apn))))))) (by kernel_rfl)
     ·
      refine bi h (fun h8 h => ?_) fun h8 h => ?_
      ·
       rw [← sj h]
       exact xretY (n := 30) [(13, .d true), (14, .v (.ro (eProd x2))), (19, .v (vb true)), (24, .v (i6 (x2.right.length : Int))), (25, .d false), (30, .d false), (35, .d false), (40, .d true), (6000, .d true)] (apc (cv h1) (apc (ig eProd 7 .i64 h2) (apc ((((F73_ok x2 a1 h3).own rfl (purAs_cons rfl (purAs_cons (purA_ptr rfl (mapO_con rfl (mapO_con rfl (mapO_con rfl (mapO_con rfl (mapO_con rfl rfl)))))) purAs_nil)) rfl).trans (congrArg (fun z => some (vb z)) h4)) : CP prg 73 [(i6 x2.left), (.ptr 0 0)] [bG a1, .row 48 6 0 (ra eSym []), bP x2] = some (vb true)) (apc (lg x2.right eSym 6) (apc (cv h5) (apc (cv h6) (apc (cv h7) (apc (cv h8) apn)))))))) (by kernel_rfl)
      ·
       refine bi h (fun h9 h => ?_) fun h9 h => ?_
       ·
        rw [← sj h]
        exact xretY (n := 30) [(13, .d true), (14, .v (.ro (eProd x2))), (19, .v (vb true)), (24, .v (i6 (x2.right.length : Int))), (25, .d false), (30, .d false), (35, .d false), (40, .d false), (46, .d true), (6000, .d true)] (apc (cv h1) (apc (ig eProd 7 .i64 h2) (apc ((((F73_ok x2 a1 h3).own rfl (purAs_cons rfl (purAs_cons (purA_ptr rfl (mapO_con rfl (mapO_con rfl (mapO_con rfl (mapO_con rfl (mapO_con rfl rfl)))))) purAs_nil)) rfl).trans (congrArg (fun z => some (vb z)) h4)) : CP prg 73 [(i6 x2.left), (.ptr 0 0)] [bG a1, .row 48 6 0 (ra eSym []), bP x2] = some (vb true)) (apc (lg x2.right eSym 6) (apc (cv h5) (apc (cv h6) (apc (cv h7) (apc (cv h8) (apc (cv h9) apn))))))))) (by kernel_rfl)
       ·
        refine bi h (fun h10 h => ?_) fun h10 h => ?_
        ·
         refine bi h (fun h11 h => ?_) fun h11 h => ?_
         ·
          rw [← sj h]
          exact xretY (n := 30) [(13, .d true), (14, .v (.ro (eProd x2))), (19, .v (vb true)), (24, .v (i6 (x2.right.length : Int))), (25, .d false), (30, .d false), (35, .d false), (40, .d false), (46, .d false), (51, .d true), (55, .d true), (6000, .d true)] (apc (cv h1) (apc (ig eProd 7 .i64 h2) (apc ((((F73_ok x2 a1 h3).own rfl (purAs_cons rfl (purAs_cons (purA_ptr rfl (mapO_con rfl (mapO_con rfl (mapO_con rfl (mapO_con rfl (mapO_con rfl rfl)))))) purAs_nil)) rfl).trans (congrArg (fun z => some (vb z)) h4)) : CP prg 73 [(i6 x2.left), (.ptr 0 0)] [bG a1, .row 48 6 0 (ra eSym []), bP x2] = some (vb true)) (apc (lg x2.right eSym 6) (apc (cv h5) (apc (cv h6) (apc (cv h7) (apc (cv h8) (apc (cv h9) (apc (cv h10) (apc (cv h11) apn))))))))))) (by kernel_rfl)
         ·
          refine bi h (fun h12 h => ?_) fun h12 h => ?_
          ·
           refine bi h (fun h13 h => ?_) fun h13 h => ?_
           ·
            rw [← sj h]
            exact xretY (n := 30) [(13, .d true), (14, .v (.ro (eProd x2))), (19, .v (vb true)), (24, .v (i6 (x2.right.length : Int))), (25, .d false), (30, .d false), (35, .d false), (40, .d false), (46, .d false), (51, .d true), (55, .d false), (60, .d true), (63, .d true), (6000, .d true)] (apc (cv h1) (apc (ig eProd 7 .i64 h2) (apc ((((F73_ok x2 a1 h3).own rfl (purAs_cons rfl (purAs_cons (purA_ptr rfl (mapO_con rfl (mapO_con rfl (mapO_con rfl (mapO_con rfl (mapO_con rfl rfl)))))) purAs_nil)) rfl).trans (congrArg (fun z => some (vb z)) h4)) : CP prg 73 [(i6 x2.left), (.ptr 0 0)] [bG a1, .row 48 6 0 (ra eSym []), bP x2] = some (vb true)) (apc (lg x2.right eSym 6) (apc (cv h5) (apc (cv h6) (apc (cv h7) (apc (cv h8) (apc (cv h9) (apc (cv h10) (apc (cv h11) (apc (cv h12) (apc (cv h13) apn))))))))))))) (by kernel_rfl)
           ·
            refine bn h fun r14 h14 h => ?_
            cases r14 with
            | k0 =>
             obtain ⟨g14, y14, e14⟩ := L58_0_run a1 a2 v1 x2 (x2.right.length : Int) 0 _ h14
             rw [← sj h]
             exact xretY (n := 30) [(13, .d true), (14, .v (.ro (eProd x2))), (19, .v (vb true)), (24, .v (i6 (x2.right.length : Int))), (25, .d false), (30, .d false), (35, .d false), (40, .d false), (46, .d false), (51, .d true), (55, .d false), (60, .d true), (63, .d false), (68, .v (i6 (x2.right.length : Int))), (2002, .l .ret ⟨fr 110 g14 [(2, (vb false))], y14⟩), (6000, .d true)] (apc (cv h1) (apc (ig eProd 7 .i64 h2) (apc ((((F73_ok x2 a1 h3).own rfl (purAs_cons rfl (purAs_cons (purA_ptr rfl (mapO_con rfl (mapO_con rfl (mapO_con rfl (mapO_con rfl (mapO_con rfl rfl)))))) purAs_nil)) rfl).trans (congrArg (fun z => some (vb z)) h4)) : CP prg 73 [(i6 x2.left), (.ptr 0 0)] [bG a1, .row 48 6 0 (ra eSym []), bP x2] = some (vb true)) (apc (lg x2.right eSym 6) (apc (cv h5) (apc (cv h6) (apc (cv h7) (apc (cv h8) (apc (cv h9) (apc (cv h10) (apc (cv h11) (apc (cv h12) (apc (cv h13) (apc (lg x2.right eSym 6) (apc ((okT_of rfl (abl_cons rfl (abl_cons abl_row (abl_cons rfl rfl)))) : okT 3 [bG a1, .row 48 6 0 (ra eSym []), bP x2] = true) (apc (e14 : evH prg 3 [1, 3, 5, 10, 11, 12, 67, 68, 69] ir58_l0 (L58_0_s a1 a2 v1 x2 (x2.right.length : Int) 0) = some (.ret, ⟨fr 110 g14 [(2, (vb false))], y14⟩)) apn)))))))))))))))) (by kernel_rfl)
            | k1 =>
             obtain ⟨g14, e14⟩ := L58_0_run a1 a2 v1 x2 (x2.right.length : Int) 0 _ h14
             rw [← sj h]
             exact rnd (n := 30) [(13, .d true), (14, .v (.ro (eProd x2))), (19, .v (vb true)), (24, .v (i6 (x2.right.length : Int))), (25, .d false), (30, .d false), (35, .d false), (40, .d false), (46, .d false), (51, .d true), (55, .d false), (60, .d true), (63, .d false), (68, .v (i6 (x2.right.length : Int))), (2002, .l (.brk 2) ⟨fr 110 g14 [(1, (.ptr 0 0)), (3, (.fn 73 [(.ptr 0 0)])), (5, (.ptr 2 0)), (10, (.p (.lst 7 (a1.prods.map eProd)))), (11, (i6 a2)), (12, (i6 v1)), (67, (.p (.lst 6 (x2.right.map eSym))))], [bG a1, .row 48 6 0 (ra eSym []), bP x2]⟩), (6000, .d true)] (apc (cv h1) (apc (ig eProd 7 .i64 h2) (apc ((((F73_ok x2 a1 h3).own rfl (purAs_cons rfl (purAs_cons (purA_ptr rfl (mapO_con rfl (mapO_con rfl (mapO_con rfl (mapO_con rfl (mapO_con rfl rfl)))))) purAs_nil)) rfl).trans (congrArg (fun z => some (vb z)) h4)) : CP prg 73 [(i6 x2.left), (.ptr 0 0)] [bG a1, .row 48 6 0 (ra eSym []), bP x2] = some (vb true)) (apc (lg x2.right eSym 6) (apc (cv h5) (apc (cv h6) (apc (cv h7) (apc (cv h8) (apc (cv h9) (apc (cv h10) (apc (cv h11) (apc (cv h12) (apc (cv h13) (apc (lg x2.right eSym 6) (apc ((okT_of rfl (abl_cons rfl (abl_cons abl_row (abl_cons rfl rfl)))) : okT 3 [bG a1, .row 48 6 0 (ra eSym []), bP x2] = true) (apc (e14 : evH prg 3 [1, 3, 5, 10, 11, 12, 67, 68, 69] ir58_l0 (L58_0_s a1 a2 v1 x2 (x2.right.length : Int) 0) = some ((.brk 2), ⟨fr 110 g14 [(1, (.ptr 0 0)), (3, (.fn 73 [(.ptr 0 0)])), (5, (.ptr 2 0)), (10, (.p (.lst 7 (a1.prods.map eProd)))), (11, (i6 a2)), (12, (i6 v1)), (67, (.p (.lst 6 (x2.right.map eSym))))], [bG a1, .row 48 6 0 (ra eSym []), bP x2]⟩)) (apc ((okT_of rfl (abl_cons rfl rfl)) : okT 1 [bG a1, .row 48 6 0 (ra eSym []), bP x2] = true) apn))))))))))))))))) (by kernel_rfl)
          ·
           refine bn h fun r13 h13 h => ?_
           cases r13 with
           | k0 =>
            obtain ⟨g13, y13, e13⟩ := L58_0_run a1 a2 v1 x2 (x2.right.length : Int) 0 _ h13
            rw [← sj h]
            exact xretY (n := 30) [(13, .d true), (14, .v (.ro (eProd x2))), (19, .v (vb true)), (24, .v (i6 (x2.right.length : Int))), (25, .d false), (30, .d false), (35, .d false), (40, .d false), (46, .d false), (51, .d true), (55, .d false), (60, .d false), (68, .v (i6 (x2.right.length : Int))), (2002, .l .ret ⟨fr 110 g13 [(2, (vb false))], y13⟩), (6000, .d true)] (apc (cv h1) (apc (ig eProd 7 .i64 h2) (apc ((((F73_ok x2 a1 h3).own rfl (purAs_cons rfl (purAs_cons (purA_ptr rfl (mapO_con rfl (mapO_con rfl (mapO_con rfl (mapO_con rfl (mapO_con rfl rfl)))))) purAs_nil)) rfl).trans (congrArg (fun z => some (vb z)) h4)) : CP prg 73 [(i6 x2.left), (.ptr 0 0)] [bG a1, .row 48 6 0 (ra eSym []), bP x2] = some (vb true)) (apc (lg x2.right eSym 6) (apc (cv h5) (apc (cv h6) (apc (cv h7) (apc (cv h8) (apc (cv h9) (apc (cv h10) (apc (cv h11) (apc (cv h12) (apc (lg x2.right eSym 6) (apc ((okT_of rfl (abl_cons rfl (abl_cons abl_row (abl_cons rfl rfl)))) : okT 3 [bG a1, .row 48 6 0 (ra eSym []), bP x2] = true) (apc (e13 : evH prg 3 [1, 3, 5, 10, 11, 12, 67, 68, 69] ir58_l0 (L58_0_s a1 a2 v1 x2 (x2.right.length : Int) 0) = some (.ret, ⟨fr 110 g13 [(2, (vb false))], y13⟩)) apn))))))))))))))) (by kernel_rfl)
           | k1 =>
            obtain ⟨g13, e13⟩ := L58_0_run a1 a2 v1 x2 (x2.right.length : Int) 0 _ h13
            rw [← sj h]
            exact rnd (n := 30) [(13, .d true), (14, .v (.ro (eProd x2))), (19, .v (vb true)), (24, .v (i6 (x2.right.length : Int))), (25, .d false), (30, .d false), (35, .d false), (40, .d false), (46, .d false), (51, .d true), (55, .d false), (60, .d false), (68, .v (i6 (x2.right.length : Int))), (2002, .l (.brk 2) ⟨fr 110 g13 [(1, (.ptr 0 0)), (3, (.fn 73 [(.ptr 0 0)])), (5, (.ptr 2 0)), (10, (.p (.lst 7 (a1.prods.map eProd)))), (11, (i6 a2)), (12, (i6 v1)), (67, (.p (.lst 6 (x2.right.map eSym))))], [bG a1, .row 48 6 0 (ra eSym []), bP x2]⟩), (6000, .d true)] (apc (cv h1) (apc (ig eProd 7 .i64 h2) (apc ((((F73_ok x2 a1 h3).own rfl (purAs_cons rfl (purAs_cons (purA_ptr rfl (mapO_con rfl (mapO_con rfl (mapO_con rfl (mapO_con rfl (mapO_con rfl rfl)))))) purAs_nil)) rfl).trans (congrArg (fun z => some (vb z)) h4)) : CP prg 73 [(i6 x2.left), (.ptr 0 0)] [bG a1, .row 48 6 0 (ra eSym []), bP x2] = some (vb true)) (apc (lg x2.right eSym 6) (apc (cv h5) (apc (cv h6) (apc (cv h7) (apc (cv h8) (apc (cv h9) (apc (cv h10) (apc (cv h11) (apc (cv h12) (apc (lg x2.right eSym 6) (apc ((okT_of rfl (abl_cons rfl (abl_cons abl_row (abl_cons rfl rfl)))) : okT 3 [bG a1, .row 48 6 0 (ra eSym []), bP x2] = true) (apc (e13 : evH prg 3 [1, 3, 5, 10, 11, 12, 67, 68, 69] ir58_l0 (L58_0_s a1 a2 v1 x2 (x2.right.length : Int) 0) = some ((.brk 2), ⟨fr 110 g13 [(1, (.ptr 0 0)), (3, (.fn 73 [(.ptr 0 0)])), (5, (.ptr 2 0)), (10, (.p (.lst 7 (a1.prods.map eProd)))), (11, (i6 a2)), (12, (i6 v1)), (67, (.p (.lst 6 (x2.right.map eSym))))], [bG a1, .row 48 6 0 (ra eSym []), bP x2]⟩)) (apc ((okT_of rfl (abl_cons rfl rfl)) : okT 1 [bG a1, .row 48 6 0 (ra eSym []), bP x2] = true) apn)))))))))))))))) (by kernel_rfl)
        ·
         refine bi h (fun h11 h => ?_) fun h11 h => ?_
         ·
          refine bi h (fun h12 h => ?_) fun h12 h => ?_
          ·
           rw [← sj h]
           exact xretY (n := 30) [(13, .d true), (14, .v (.ro (eProd x2))), (19, .v (vb true)), (24, .v (i6 (x2.right.length : Int))), (25, .d false), (30, .d false), (35, .d false), (40, .d false), (46, .d false), (51, .d false), (60, .d true), (63, .d true), (6000, .d true)] (apc (cv h1) (apc (ig eProd 7 .i64 h2) (apc ((((F73_ok x2 a1 h3).own rfl (purAs_cons rfl (purAs_cons (purA_ptr rfl (mapO_con rfl (mapO_con rfl (mapO_con rfl (mapO_con rfl (mapO_con rfl rfl)))))) purAs_nil)) rfl).trans (congrArg (fun z => some (vb z)) h4)) : CP prg 73 [(i6 x2.left), (.ptr 0 0)] [bG a1, .row 48 6 0 (ra eSym []), bP x2] = some (vb true)) (apc (lg x2.right eSym 6) (apc (cv h5) (apc (cv h6) (apc (cv h7) (apc (cv h8) (apc (cv h9) (apc (cv h10) (apc (cv h11) (apc (cv h12) apn)))))))))))) (by kernel_rfl)
          ·
           refine bn h fun r13 h13 h => ?_
           cases r13 with
           | k0 =>
            obtain ⟨g13, y13, e13⟩ := L58_0_run a1 a2 v1 x2 (x2.right.length : Int) 0 _ h13
            rw [← sj h]
            exact xretY (n := 30) [(13, .d true), (14, .v (.ro (eProd x2))), (19, .v (vb true)), (24, .v (i6 (x2.right.length : Int))), (25, .d false), (30, .d false), (35, .d false), (40, .d false), (46, .d false), (51, .d false), (60, .d true), (63, .d false), (68, .v (i6 (x2.right.length : Int))), (2002, .l .ret ⟨fr 110 g13 [(2, (vb false))], y13⟩), (6000, .d true)] (apc (cv h1) (apc (ig eProd 7 .i64 h2) (apc ((((F73_ok x2 a1 h3).own rfl (purAs_cons rfl (purAs_cons (purA_ptr rfl (mapO_con rfl (mapO_con rfl (mapO_con rfl (mapO_con rfl (mapO_con rfl rfl)))))) purAs_nil)) rfl).trans (congrArg (fun z => some (vb z)) h4)) : CP prg 73 [(i6 x2.left), (.ptr 0 0)] [bG a1, .row 48 6 0 (ra eSym []), bP x2] = some (vb true)) (apc (lg x2.right eSym 6) (apc (cv h5) (apc (cv h6) (apc (cv h7) (apc (cv h8) (apc (cv h9) (apc (cv h10) (apc (cv h11) (apc (cv h12) (apc (lg x2.right eSym 6) (apc ((okT_of rfl (abl_cons rfl (abl_cons abl_row (abl_cons rfl rfl)))) : okT 3 [bG a1, .row 48 6 0 (ra eSym []), bP x2] = true) (apc (e13 : evH prg 3 [1, 3, 5, 10, 11, 12, 67, 68, 69] ir58_l0 (L58_0_s a1 a2 v1 x2 (x2.right.length : Int) 0) = some (.ret, ⟨fr 110 g13 [(2, (vb false))], y13⟩)) apn))))))))))))))) (by kernel_rfl)
           | k1 =>
            obtain ⟨g13, e13⟩ := L58_0_run a1 a2 v1 x2 (x2.right.length : Int) 0 _ h13
            rw [← sj h]
            exact rnd (n := 30) [(13, .d true), (14, .v (.ro (eProd x2))), (19, .v (vb true)), (24, .v (i6 (x2.right.length : Int))), (25, .d false), (30, .d false), (35, .d false), (40, .d false), (46, .d false), (51, .d false), (60, .d true), (63, .d false), (68, .v (i6 (x2.right.length : Int))), (2002, .l (.brk 2) ⟨fr 110 g13 [(1, (.ptr 0 0)), (3, (.fn 73 [(.ptr 0 0)])), (5, (.ptr 2 0)), (10, (.p (.lst 7 (a1.prods.map eProd)))), (11, (i6 a2)), (12, (i6 v1)), (67, (.p (.lst 6 (x2.right.map eSym))))], [bG a1, .row 48 6 0 (ra eSym []), bP x2]⟩), (6000, .d true)] (apc (cv h1) (apc (ig eProd 7 .i64 h2) (apc ((((F73_ok x2 a1 h3).own rfl (purAs_cons rfl (purAs_cons (purA_ptr rfl (mapO_con rfl (mapO_con rfl (mapO_con rfl (mapO_con rfl (mapO_con rfl rfl)))))) purAs_nil)) rfl).trans (congrArg (fun z => some (vb z)) h4)) : CP prg 73 [(i6 x2.left), (.ptr 0 0)] [bG a1, .row 48 6 0 (ra eSym []), bP x2] = some (vb true)) (apc (lg x2.right eSym 6) (apc (cv h5) (apc (cv h6) (apc (cv h7) (apc (cv h8) (apc (cv h9) (apc (cv h10) (apc (cv h11) (apc (cv h12) (apc (lg x2.right eSym 6) (apc ((okT_of rfl (abl_cons rfl (abl_cons abl_row (abl_cons rfl rfl)))) : okT 3 [bG a1, .row 48 6 0 (ra eSym []), bP x2] = true) (apc (e13 : evH prg 3 [1, 3, 5, 10, 11, 12, 67, 68, 69] ir58_l0 (L58_0_s a1 a2 v1 x2 (x2.right.length : Int) 0) = some ((.brk 2), ⟨fr 110 g13 [(1, (.ptr 0 0)), (3, (.fn 73 [(.ptr 0 0)])), (5, (.ptr 2 0)), (10, (.p (.lst 7 (a1.prods.map eProd)))), (11, (i6 a2)), (12, (i6 v1)), (67, (.p (.lst 6 (x2.right.map eSym))))], [bG a1, .row 48 6 0 (ra eSym []), bP x2]⟩)) (apc ((okT_of rfl (abl_cons rfl rfl)) : okT 1 [bG a1, .row 48 6 0 (ra eSym []), bP x2] = true) apn)))))))))))))))) (by kernel_rfl)
         ·
          refine bn h fun r12 h12 h => ?_
          cases r12 with
          | k0 =>
           obtain ⟨g12, y12, e12⟩ := L58_0_run a1 a2 v1 x2 (x2.right.length : Int) 0 _ h12
           rw [← sj h]
           exact xretY (n := 30) [(13, .d true), (14, .v (.ro (eProd x2))), (19, .v (vb true)), (24, .v (i6 (x2.right.length : Int))), (25, .d false), (30, .d false), (35, .d false), (40, .d false), (46, .d false), (51, .d false), (60, .d false), (68, .v (i6 (x2.right.length : Int))), (2002, .l .ret ⟨fr 110 g12 [(2, (vb false))], y12⟩), (6000, .d true)] (apc (cv h1) (apc (ig eProd 7 .i64 h2) (apc ((((F73_ok x2 a1 h3).own rfl (purAs_cons rfl (purAs_cons (purA_ptr rfl (mapO_con rfl (mapO_con rfl (mapO_con rfl (mapO_con rfl (mapO_con rfl rfl)))))) purAs_nil)) rfl).trans (congrArg (fun z => some (vb z)) h4)) : CP prg 73 [(i6 x2.left), (.ptr 0 0)] [bG a1, .row 48 6 0 (ra eSym []), bP x2] = some (vb true)) (apc (lg x2.right eSym 6) (apc (cv h5) (apc (cv h6) (apc (cv h7) (apc (cv h8) (apc (cv h9) (apc (cv h10) (apc (cv h11) (apc (lg x2.right eSym 6) (apc ((okT_of rfl (abl_cons rfl (abl_cons abl_row (abl_cons rfl rfl)))) : okT 3 [bG a1, .row 48 6 0 (ra eSym []), bP x2] = true) (apc (e12 : evH prg 3 [1, 3, 5, 10, 11, 12, 67, 68, 69] ir58_l0 (L58_0_s a1 a2 v1 x2 (x2.right.length : Int) 0) = some (.ret, ⟨fr 110 g12 [(2, (vb false))], y12⟩)) apn)))))))))))))) (by kernel_rfl)
          | k1 =>
           obtain ⟨g12, e12⟩ := L58_0_run a1 a2 v1 x2 (x2.right.length : Int) 0 _ h12
           rw [← sj h]
           exact rnd (n := 30) [(13, .d true), (14, .v (.ro (eProd x2))), (19, .v (vb true)), (24, .v (i6 (x2.right.length : Int))), (25, .d false), (30, .d false), (35, .d false), (40, .d false), (46, .d false), (51, .d false), (60, .d false), (68, .v (i6 (x2.right.length : Int))), (2002, .l (.brk 2) ⟨fr 110 g12 [(1, (.ptr 0 0)), (3, (.fn 73 [(.ptr 0 0)])), (5, (.ptr 2 0)), (10, (.p (.lst 7 (a1.prods.map eProd)))), (11, (i6 a2)), (12, (i6 v1)), (67, (.p (.lst 6 (x2.right.map eSym))))], [bG a1, .row 48 6 0 (ra eSym []), bP x2]⟩), (6000, .d true)] (apc (cv h1) (apc (ig eProd 7 .i64 h2) (apc ((((F73_ok x2 a1 h3).own rfl (purAs_cons rfl (purAs_cons (purA_ptr rfl (mapO_con rfl (mapO_con rfl (mapO_con rfl (mapO_con rfl (mapO_con rfl rfl)))))) purAs_nil)) rfl).trans (congrArg (fun z => some (vb z)) h4)) : CP prg 73 [(i6 x2.left), (.ptr 0 0)] [bG a1, .row 48 6 0 (ra eSym []), bP x2] = some (vb true)) (apc (lg x2.right eSym 6) (apc (cv h5) (apc (cv h6) (apc (cv h7) (apc (cv h8) (apc (cv h9) (apc (cv h10) (apc (cv h11) (apc (lg x2.right eSym 6) (apc ((okT_of rfl (abl_cons rfl (abl_cons abl_row (abl_cons rfl rfl)))) : okT 3 [bG a1, .row 48 6 0 (ra eSym []), bP x2] = true) (apc (e12 : evH prg 3 [1, 3, 5, 10, 11, 12, 67, 68, 69] ir58_l0 (L58_0_s a1 a2 v1 x2 (x2.right.length : Int) 0) = some ((.brk 2), ⟨fr 110 g12 [(1, (.ptr 0 0)), (3, (.fn 73 [(.ptr 0 0)])), (5, (.ptr 2 0)), (10, (.p (.lst 7 (a1.prods.map eProd)))), (11, (i6 a2)), (12, (i6 v1)), (67, (.p (.lst 6 (x2.right.map eSym))))], [bG a1, .row 48 6 0 (ra eSym []), bP x2]⟩)) (apc ((okT_of rfl (abl_cons rfl rfl)) : okT 1 [bG a1, .row 48 6 0 (ra eSym []), bP x2] = true) apn))))))))))))))) (by kernel_rfl)
  ·
   rw [← sj h]
   exact xretY (n := 30) [(13, .d true), (14, .v (.ro (eProd x2))), (19, .v (vb false)), (6000, .d true)] (apc (cv h1) (apc (ig eProd 7 .i64 h2) (apc ((((F73_ok x2 a1 h3).own rfl (purAs_cons rfl (purAs_cons (purA_ptr rfl (mapO_con rfl (mapO_con rfl (mapO_con rfl (mapO_con rfl (mapO_con rfl rfl)))))) purAs_nil)) rfl).trans (congrArg (fun z => some (vb z)) h4)) : CP prg 73 [(i6 x2.left), (.ptr 0 0)] [bG a1, .row 48 6 0 (ra eSym []), bP x2] = some (vb false)) apn))) (by kernel_rfl)
 ·
  rw [← sj h]
  exact xbrk (n := 30) [(13, .d false), (6000, .d true)] (apc (cv h1) apn) (by kernel_rfl)
theorem L58_1_run (a1 : GramD) (a2 : Int) (s0 : Int) (e : E_L58_1) (h : runL (fun s => L58_1 a1 a2 s) s0 = some e) : L58_1_x a1 a2 e (evH prg 1 [1, 3, 10, 11, 12] ir58_l1 (L58_1_s a1 a2 s0)) := by
  have q := @loop_sound' (Int) E_L58_1 (fun s => L58_1 a1 a2 s) (fun s => evH prg 1 [1, 3, 10, 11, 12] ir58_l1 (L58_1_s a1 a2 s)) (L58_1_x a1 a2) (fun s r h => L58_1_ok a1 a2 s h) s0 e h
  exact q
noncomputable def F58 (a1 : GramD) : Option Bool :=
  ((runL (fun s => L58_1 a1 (a1.prods.length : Int) s) 0).bind fun r1 => match r1 with | .k0 => (some false) | .k1 => (some (decide ((a1.prods.length : Int) ≤ 1000))))
def F58_v (a1 : GramD) (x0 : Bool) : AV := (vb x0)
theorem F58_ok (a1 : GramD) {r : Bool} (h : F58 a1 = some r) : PR1 prg 58 [(aG a1)] (F58_v a1 r) := by
 unfold F58 at h
 refine bn h fun r1 h1 h => ?_
 cases r1 with
 | k0 =>
  obtain ⟨g1, y1, e1⟩ := L58_1_run a1 (a1.prods.length : Int) 0 _ h1
  rw [← sj h]
  exact fpr (n := 30) [(11, .v (i6 (a1.prods.length : Int))), (2000, .l .ret ⟨fr 110 g1 [(2, (vb false))], y1⟩), (6000, .d true)] (apc (lg a1.prods eProd 7) (apc ((okT_of rfl (abl_cons rfl rfl)) : okT 1 [bG a1] = true) (apc (e1 : evH prg 1 [1, 3, 10, 11, 12] ir58_l1 (L58_1_s a1 (a1.prods.length : Int) 0) = some (.ret, ⟨fr 110 g1 [(2, (vb false))], y1⟩)) apn))) rfl (by kernel_rfl)
 | k1 =>
  obtain ⟨g1, e1⟩ := L58_1_run a1 (a1.prods.length : Int) 0 _ h1
  rw [← sj h]
  exact fpr (n := 30) [(11, .v (i6 (a1.prods.length : Int))), (2000, .l (.brk 0) ⟨fr 110 g1 [(1, (.ptr 0 0)), (10, (.p (.lst 7 (a1.prods.map eProd))))], [bG a1]⟩), (108, .v (i6 (a1.prods.length : Int))), (6000, .d true)] (apc (lg a1.prods eProd 7) (apc ((okT_of rfl (abl_cons rfl rfl)) : okT 1 [bG a1] = true) (apc (e1 : evH prg 1 [1, 3, 10, 11, 12] ir58_l1 (L58_1_s a1 (a1.prods.length : Int) 0) = some ((.brk 0), ⟨fr 110 g1 [(1, (.ptr 0 0)), (10, (.p (.lst 7 (a1.prods.map eProd))))], [bG a1]⟩)) (apc (lg a1.prods eProd 7) apn)))) rfl (by kernel_rfl)
noncomputable def F74 (a1 : ForbD) (a2 : GramD) : Option Bool :=
  (bif (decide (a1.parent ≥ 0)) then (bif (decide (a1.parent < (a2.prods.length : Int))) then ((getI a2.prods a1.parent).bind fun x3 => (some (x3.role != 11))) else (some false)) else (some false))
def F74_v (a1 : ForbD) (a2 : GramD) (x0 : Bool) : AV := (vb x0)
theorem F74_ok (a1 : ForbD) (a2 : GramD) {r : Bool} (h : F74 a1 a2 = some r) : PR1 prg 74 [(i6 a1.parent), (.ro (eGram a2))] (F74_v a1 a2 r) := by
 unfold F74 at h
 refine bi h (fun h1 h => ?_) fun h1 h => ?_
 ·
  refine bi h (fun h2 h => ?_) fun h2 h => ?_
  ·
   refine bn h fun x3 h3 h => ?_
   rw [← sj h]
   exact fpr (n := 30) [(5, .d true), (10, .v (i6 (a2.prods.length : Int))), (11, .d true), (17, .v (.ro (eProd x3)))] (apc (cv h1) (apc (lg a2.prods eProd 7) (apc (cv h2) (apc (ig eProd 7 .i64 h3) apn)))) rfl (by kernel_rfl)
  ·
   rw [← sj h]
   exact fpr (n := 30) [(5, .d true), (10, .v (i6 (a2.prods.length : Int))), (11, .d false)] (apc (cv h1) (apc (lg a2.prods eProd 7) (apc (cv h2) apn))) rfl (by kernel_rfl)
 ·
  rw [← sj h]
  exact fpr (n := 30) [(5, .d false)] (apc (cv h1) apn) rfl (by kernel_rfl)
noncomputable def F74_2 (a1 : ForbD) (a2 : GramD) : Option Bool :=
  (bif (decide (a1.child ≥ 0)) then (bif (decide (a1.child < (a2.prods.length : Int))) then ((getI a2.prods a1.child).bind fun x3 => (some (x3.role != 11))) else (some false)) else (some false))
def F74_2_v (a1 : ForbD) (a2 : GramD) (x0 : Bool) : AV := (vb x0)
theorem F74_2_ok (a1 : ForbD) (a2 : GramD) {r : Bool} (h : F74_2 a1 a2 = some r) : PR1 prg 74 [(i6 a1.child), (.ro (eGram a2))] (F74_2_v a1 a2 r) := by
 unfold F74_2 at h
 refine bi h (fun h1 h => ?_) fun h1 h => ?_
 ·
  refine bi h (fun h2 h => ?_) fun h2 h => ?_
  ·
   refine bn h fun x3 h3 h => ?_
   rw [← sj h]
   exact fpr (n := 30) [(5, .d true), (10, .v (i6 (a2.prods.length : Int))), (11, .d true), (17, .v (.ro (eProd x3)))] (apc (cv h1) (apc (lg a2.prods eProd 7) (apc (cv h2) (apc (ig eProd 7 .i64 h3) apn)))) rfl (by kernel_rfl)
  ·
   rw [← sj h]
   exact fpr (n := 30) [(5, .d true), (10, .v (i6 (a2.prods.length : Int))), (11, .d false)] (apc (cv h1) (apc (lg a2.prods eProd 7) (apc (cv h2) apn))) rfl (by kernel_rfl)
 ·
  rw [← sj h]
  exact fpr (n := 30) [(5, .d false)] (apc (cv h1) apn) rfl (by kernel_rfl)
inductive E_L59_0 where
  | k0
  | k1 (x0 : List ((Int × Int × Int) × Int))
noncomputable def L59_0 (a1 : GramD) (a2 : Int) (v1 : Int) (v2 : List ((Int × Int × Int) × Int)) : Option (E_L59_0 ⊕ (Int × (List ((Int × Int × Int) × Int)))) :=
  (bif (decide (v1 < a2)) then ((getI a1.forbid v1).bind fun x2 => (bif (decide ((mget 0 (mput (x2.parent, x2.at_, x2.child) (IntKind.wrap .i64 ((mget 0 v2 (x2.parent, x2.at_, x2.child)) + 1)) v2) (x2.parent, x2.at_, x2.child)) > 1)) then (some (.inl (.k0))) else ((F74 x2 a1).bind fun x4 => (bif x4 then ((F74_2 x2 a1).bind fun x6 => (bif x6 then (bif (decide (x2.at_ < 1)) then (some (.inl (.k0))) else ((getI a1.prods x2.parent).bind fun x9 => (bif (decide (x2.at_ > (x9.right.length : Int))) then (some (.inl (.k0))) else ((getI x9.right (IntKind.wrap .i64 (x2.at_ - 1))).bind fun x11 => (bif (x11.kind != 1) then (some (.inl (.k0))) else ((getI a1.prods x2.child).bind fun x13 => (bif (x11.sort != x13.left) then (some (.inl (.k0))) else (some (.inr ((IntKind.wrap .i64 (v1 + 1)), (mput (x2.parent, x2.at_, x2.child) (IntKind.wrap .i64 ((mget 0 v2 (x2.parent, x2.at_, x2.child)) + 1)) v2))))))))))) else (some (.inl (.k0))))) else (some (.inl (.k0))))))) else (some (.inl (.k1 v2))))
def L59_0_s (a1 : GramD) (a2 : Int) (v1 : Int) (v2 : List ((Int × Int × Int) × Int)) : St := ⟨fr 87 ug [(1, (.ptr 0 0)), (3, (.mp 1)), (4, (.fn 74 [(.ptr 0 0)])), (11, (.p (.lst 3 (a1.forbid.map eForb)))), (12, (i6 a2)), (13, (i6 v1))], [bG a1, mFI v2]⟩
def L59_0_x (a1 : GramD) (a2 : Int) (e : E_L59_0) (r : Option (Out × St)) : Prop := match e with | .k0 => ∃ g y, r = some (.ret, ⟨fr 87 g [(2, (vb false))], y⟩) | .k1 x0 => ∃ g, r = some ((.brk 0), ⟨fr 87 g [(1, (.ptr 0 0)), (11, (.p (.lst 3 (a1.forbid.map eForb))))], [bG a1, mFI x0]⟩)
theorem L59_0_ok (a1 : GramD) (a2 : Int) (v1 : Int) (v2 : List ((Int × Int × Int) × Int)) {r : E_L59_0 ⊕ (Int × (List ((Int × Int × Int) × Int)))} (h : L59_0 a1 a2 v1 v2 = some r) : OkR (fun e => L59_0_x a1 a2 e (evH prg 2 [1, 3, 4, 11, 12, 13] ir59_l0 (L59_0_s a1 a2 v1 v2))) (fun s => evH prg 2 [1, 3, 4, 11, 12, 13] ir59_l0 (L59_0_s a1 a2 v1 v2) = evH prg 2 [1, 3, 4, 11, 12, 13] ir59_l0 (L59_0_s a1 a2 s.1 s.2)) r := by
 unfold L59_0 at h
 refine bi h (fun h1 h => ?_) fun h1 h => ?_
 ·
  refine bn h fun x2 h2 h => ?_
  refine bi h (fun h3 h => ?_) fun h3 h => ?_
  ·
   rw [← sj h]
   exact xretY (n := 30) [(14, .d true), (15, .v (.ro (eForb x2))), (19, .v (i6 (mget 0 v2 (x2.parent, x2.at_, x2.child)))), (21, .r (.tup [(i6 (mget 0 v2 (x2.parent, x2.at_, x2.child))), (i6 (midx v2 (x2.parent, x2.at_, x2.child) : Int))]) [bG a1, .map (mrow (fun n => .agg [vi .i64 n.1, vi .i64 n.2.1, vi .i64 n.2.2]) (fun n => vi .i64 n) (ment 0 v2 (x2.parent, x2.at_, x2.child))), .cells 85 ((eForb x2).map .p)]), (8020, .r ud [bG a1, .map (mrow (fun n => .agg [vi .i64 n.1, vi .i64 n.2.1, vi .i64 n.2.2]) (fun n => vi .i64 n) (mput (x2.parent, x2.at_, x2.child) (w6 ((mget 0 v2 (x2.parent, x2.at_, x2.child)) + 1)) v2)), .cells 85 ((eForb x2).map .p)]), (25, .v (i6 (mget 0 (mput (x2.parent, x2.at_, x2.child) (w6 ((mget 0 v2 (x2.parent, x2.at_, x2.child)) + 1)) v2) (x2.parent, x2.at_, x2.child)))), (26, .d true), (6000, .d true)] (apc (cv h1) (apc (ig eForb 3 .i64 h2) (apc ((lk_row key_int3 (es := v2) (k := (x2.parent, x2.at_, x2.child)) (z := 0) rfl rfl) : lkA [bG a1, mFI v2, .cells 85 ((eForb x2).map .p)] [1, 1, 1] .true .false [(.val (.int .i64 0))] .false (.mp 1) (.agg ((eForb x2).map .p)) = some (i6 (mget 0 v2 (x2.parent, x2.at_, x2.child)))) (apc ((en_row key_int3 (es := v2) (k := (x2.parent, x2.at_, x2.child)) (z := 0) rfl rfl) : enA [bG a1, mFI v2, .cells 85 ((eForb x2).map .p)] [1, 1, 1] .true .false [(.val (.int .i64 0))] (.mp 1) (.agg ((eForb x2).map .p)) = some ((.tup [(i6 (mget 0 v2 (x2.parent, x2.at_, x2.child))), (i6 (midx v2 (x2.parent, x2.at_, x2.child) : Int))]), [bG a1, .map (mrow (fun n => .agg [vi .i64 n.1, vi .i64 n.2.1, vi .i64 n.2.2]) (fun n => vi .i64 n) (ment 0 v2 (x2.parent, x2.at_, x2.child))), .cells 85 ((eForb x2).map .p)])) (apc (⟨es_row key_int3 (es := v2) (k := (x2.parent, x2.at_, x2.child)) (v := (w6 ((mget 0 v2 (x2.parent, x2.at_, x2.child)) + 1))) (z := 0) rfl, rfl⟩ : esA [bG a1, .map (mrow (fun n => .agg [vi .i64 n.1, vi .i64 n.2.1, vi .i64 n.2.2]) (fun n => vi .i64 n) (ment 0 v2 (x2.parent, x2.at_, x2.child))), .cells 85 ((eForb x2).map .p)] (.mp 1) (i6 (midx v2 (x2.parent, x2.at_, x2.child) : Int)) (i6 (w6 ((mget 0 v2 (x2.parent, x2.at_, x2.child)) + 1))) = some [bG a1, .map (mrow (fun n => .agg [vi .i64 n.1, vi .i64 n.2.1, vi .i64 n.2.2]) (fun n => vi .i64 n) (mput (x2.parent, x2.at_, x2.child) (w6 ((mget 0 v2 (x2.parent, x2.at_, x2.child)) + 1)) v2)), .cells 85 ((eForb x2).map .p)] ∧ ud = ud) (apc ((lk_row key_int3 (es := (mput (x2.parent, x2.at_, x2.child) (w6 ((mget 0 v2 (x2.parent, x2.at_, x2.child)) + 1)) v2)) (k := (x2.parent, x2.at_, x2.child)) (z := 0) rfl rfl) : lkA [bG a1, .map (mrow (fun n => .agg [vi .i64 n.1, vi .i64 n.2.1, vi .i64 n.2.2]) (fun n => vi .i64 n) (mput (x2.parent, x2.at_, x2.child) (w6 ((mget 0 v2 (x2.parent, x2.at_, x2.child)) + 1)) v2)), .cells 85 ((eForb x2).map .p)] [1, 1, 1] .true .false [(.val (.int .i64 0))] .false (.mp 1) (.agg ((eForb x2).map .p)) = some (i6 (mget 0 (mput (x2.parent, x2.at_, x2.child) (w6 ((mget 0 v2 (x2.parent, x2.at_, x2.child)) + 1)) v2) (x2.parent, x2.at_, x2.child)))) (apc (cv h3) apn))))))) (by kernel_rfl)
  ·
   refine bn h fun x4 h4 h => ?_
   refine bi h (fun h5 h => ?_) fun h5 h => ?_
   ·
    refine bn h fun x6 h6 h => ?_
    refine bi h (fun h7 h => ?_) fun h7 h => ?_
    ·
     refine bi h (fun h8 h => ?_) fun h8 h => ?_
     ·
      rw [← sj h]
      exact xretY (n := 30) [(14, .d true), (15, .v (.ro (eForb x2))), (19, .v (i6 (mget 0 v2 (x2.parent, x2.at_, x2.child)))), (21, .r (.tup [(i6 (mget 0 v2 (x2.parent, x2.at_, x2.child))), (i6 (midx v2 (x2.parent, x2.at_, x2.child) : Int))]) [bG a1, .map (mrow (fun n => .agg [vi .i64 n.1, vi .i64 n.2.1, vi .i64 n.2.2]) (fun n => vi .i64 n) (ment 0 v2 (x2.parent, x2.at_, x2.child))), .cells 85 ((eForb x2).map .p)]), (8020, .r ud [bG a1, .map (mrow (fun n => .agg [vi .i64 n.1, vi .i64 n.2.1, vi .i64 n.2.2]) (fun n => vi .i64 n) (mput (x2.parent, x2.at_, x2.child) (w6 ((mget 0 v2 (x2.parent, x2.at_, x2.child)) + 1)) v2)), .cells 85 ((eForb x2).map .p)]), (25, .v (i6 (mget 0 (mput (x2.parent, x2.at_, x2.child) (w6 ((mget 0 v2 (x2.parent, x2.at_, x2.child)) + 1)) v2) (x2.parent, x2.at_, x2.child)))), (26, .d false), (31, .v (vb true)), (38, .v (vb true)), (44, .d true), (6000, .d true)] (apc (cv h1) (apc (ig eForb 3 .i64 h2) (apc ((lk_row key_int3 (es := v2) (k := (x2.parent, x2.at_, x2.child)) (z := 0) rfl rfl) : lkA [bG a1, mFI v2, .cells 85 ((eForb x2).map .p)] [1, 1, 1] .true .false [(.val (.int .i64 0))] .false (.mp 1) (.agg ((eForb x2).map .p)) = some (i6 (mget 0 v2 (x2.parent, x2.at_, x2.child)))) (apc ((en_row key_int3 (es := v2) (k := (x2.parent, x2.at_, x2.child)) (z := 0) rfl rfl) : enA [bG a1, mFI v2, .cells 85 ((eForb x2).map .p)] [1, 1, 1] .true .false [(.val (.int .i64 0))] (.mp 1) (.agg ((eForb x2).map .p)) = some ((.tup [(i6 (mget 0 v2 (x2.parent, x2.at_, x2.child))), (i6 (midx v2 (x2.parent, x2.at_, x2.child) : Int))]), [bG a1, .map (mrow (fun n => .agg [vi .i64 n.1, vi .i64 n.2.1, vi .i64 n.2.2]) (fun n => vi .i64 n) (ment 0 v2 (x2.parent, x2.at_, x2.child))), .cells 85 ((eForb x2).map .p)])) (apc (⟨es_row key_int3 (es := v2) (k := (x2.parent, x2.at_, x2.child)) (v := (w6 ((mget 0 v2 (x2.parent, x2.at_, x2.child)) + 1))) (z := 0) rfl, rfl⟩ : esA [bG a1, .map (mrow (fun n => .agg [vi .i64 n.1, vi .i64 n.2.1, vi .i64 n.2.2]) (fun n => vi .i64 n) (ment 0 v2 (x2.parent, x2.at_, x2.child))), .cells 85 ((eForb x2).map .p)] (.mp 1) (i6 (midx v2 (x2.parent, x2.at_, x2.child) : Int)) (i6 (w6 ((mget 0 v2 (x2.parent, x2.at_, x2.child)) + 1))) = some [bG a1, .map (mrow (fun n => .agg [vi .i64 n.1, vi .i64 n.2.1, vi .i64 n.2.2]) (fun n => vi .i64 n) (mput (x2.parent, x2.at_, x2.child) (w6 ((mget 0 v2 (x2.parent, x2.at_, x2.child)) + 1)) v2)), .cells 85 ((eForb x2).map .p)] ∧ ud = ud) (apc ((lk_row key_int3 (es := (mput (x2.parent, x2.at_, x2.child) (w6 ((mget 0 v2 (x2.parent, x2.at_, x2.child)) + 1)) v2)) (k := (x2.parent, x2.at_, x2.child)) (z := 0) rfl rfl) : lkA [bG a1, .map (mrow (fun n => .agg [vi .i64 n.1, vi .i64 n.2.1, vi .i64 n.2.2]) (fun n => vi .i64 n) (mput (x2.parent, x2.at_, x2.child) (w6 ((mget 0 v2 (x2.parent, x2.at_, x2.child)) + 1)) v2)), .cells 85 ((eForb x2).map .p)] [1, 1, 1] .true .false [(.val (.int .i64 0))] .false (.mp 1) (.agg ((eForb x2).map .p)) = some (i6 (mget 0 (mput (x2.parent, x2.at_, x2.child) (w6 ((mget 0 v2 (x2.parent, x2.at_, x2.child)) + 1)) v2) (x2.parent, x2.at_, x2.child)))) (apc (cv h3) (apc ((((F74_ok x2 a1 h4).own rfl (purAs_cons rfl (purAs_cons (purA_ptr rfl (mapO_con rfl (mapO_con rfl (mapO_con rfl (mapO_con rfl (mapO_con rfl rfl)))))) purAs_nil)) rfl).trans (congrArg (fun z => some (vb z)) h5)) : CP prg 74 [(i6 x2.parent), (.ptr 0 0)] [bG a1, .map (mrow (fun n => .agg [vi .i64 n.1, vi .i64 n.2.1, vi .i64 n.2.2]) (fun n => vi .i64 n) (mput (x2.parent, x2.at_, x2.child) (w6 ((mget 0 v2 (x2.parent, x2.at_, x2.child)) + 1)) v2)), .cells 85 ((eForb x2).map .p)] = some (vb true)) (apc ((((F74_2_ok x2 a1 h6).own rfl (purAs_cons rfl (purAs_cons (purA_ptr rfl (mapO_con rfl (mapO_con rfl (mapO_con rfl (mapO_con rfl (mapO_con rfl rfl)))))) purAs_nil)) rfl).trans (congrArg (fun z => some (vb z)) h7)) : CP prg 74 [(i6 x2.child), (.ptr 0 0)] [bG a1, .map (mrow (fun n => .agg [vi .i64 n.1, vi .i64 n.2.1, vi .i64 n.2.2]) (fun n => vi .i64 n) (mput (x2.parent, x2.at_, x2.child) (w6 ((mget 0 v2 (x2.parent, x2.at_, x2.child)) + 1)) v2)), .cells 85 ((eForb x2).map .p)] = some (vb true)) (apc (cv h8) apn)))))))))) (by kernel_rfl)
     ·
      refine bn h fun x9 h9 h => ?_
      refine bi h (fun h10 h => ?_) fun h10 h => ?_
      ·
       rw [← sj h]
       exact xretY (n := 30) [(14, .d true), (15, .v (.ro (eForb x2))), (19, .v (i6 (mget 0 v2 (x2.parent, x2.at_, x2.child)))), (21, .r (.tup [(i6 (mget 0 v2 (x2.parent, x2.at_, x2.child))), (i6 (midx v2 (x2.parent, x2.at_, x2.child) : Int))]) [bG a1, .map (mrow (fun n => .agg [vi .i64 n.1, vi .i64 n.2.1, vi .i64 n.2.2]) (fun n => vi .i64 n) (ment 0 v2 (x2.parent, x2.at_, x2.child))), .cells 85 ((eForb x2).map .p)]), (8020, .r ud [bG a1, .map (mrow (fun n => .agg [vi .i64 n.1, vi .i64 n.2.1, vi .i64 n.2.2]) (fun n => vi .i64 n) (mput (x2.parent, x2.at_, x2.child) (w6 ((mget 0 v2 (x2.parent, x2.at_, x2.child)) + 1)) v2)), .cells 85 ((eForb x2).map .p)]), (25, .v (i6 (mget 0 (mput (x2.parent, x2.at_, x2.child) (w6 ((mget 0 v2 (x2.parent, x2.at_, x2.child)) + 1)) v2) (x2.parent, x2.at_, x2.child)))), (26, .d false), (31, .v (vb true)), (38, .v (vb true)), (44, .d false), (53, .v (.ro (eProd x9))), (56, .v (i6 (x9.right.length : Int))), (57, .d true), (6000, .d true)] (apc (cv h1) (apc (ig eForb 3 .i64 h2) (apc ((lk_row key_int3 (es := v2) (k := (x2.parent, x2.at_, x2.child)) (z := 0) rfl rfl) : lkA [bG a1, mFI v2, .cells 85 ((eForb x2).map .p)] [1, 1, 1] .true .false [(.val (.int .i64 0))] .false (.mp 1) (.agg ((eForb x2).map .p)) = some (i6 (mget 0 v2 (x2.parent, x2.at_, x2.child)))) (apc ((en_row key_int3 (es := v2) (k := (x2.parent, x2.at_, x2.child)) (z := 0) rfl rfl) : enA [bG a1, mFI v2, .cells 85 ((eForb x2).map .p)] [1, 1, 1] .true .false [(.val (.int .i64 0))] (.mp 1) (.agg ((eForb x2).map .p)) = some ((.tup [(i6 (mget 0 v2 (x2.parent, x2.at_, x2.child))), (i6 (midx v2 (x2.parent, x2.at_, x2.child) : Int))]), [bG a1, .map (mrow (fun n => .agg [vi .i64 n.1, vi .i64 n.2.1, vi .i64 n.2.2]) (fun n => vi .i64 n) (ment 0 v2 (x2.parent, x2.at_, x2.child))), .cells 85 ((eForb x2).map .p)])) (apc (⟨es_row key_int3 (es := v2) (k := (x2.parent, x2.at_, x2.child)) (v := (w6 ((mget 0 v2 (x2.parent, x2.at_, x2.child)) + 1))) (z := 0) rfl, rfl⟩ : esA [bG a1, .map (mrow (fun n => .agg [vi .i64 n.1, vi .i64 n.2.1, vi .i64 n.2.2]) (fun n => vi .i64 n) (ment 0 v2 (x2.parent, x2.at_, x2.child))), .cells 85 ((eForb x2).map .p)] (.mp 1) (i6 (midx v2 (x2.parent, x2.at_, x2.child) : Int)) (i6 (w6 ((mget 0 v2 (x2.parent, x2.at_, x2.child)) + 1))) = some [bG a1, .map (mrow (fun n => .agg [vi .i64 n.1, vi .i64 n.2.1, vi .i64 n.2.2]) (fun n => vi .i64 n) (mput (x2.parent, x2.at_, x2.child) (w6 ((mget 0 v2 (x2.parent, x2.at_, x2.child)) + 1)) v2)), .cells 85 ((eForb x2).map .p)] ∧ ud = ud) (apc ((lk_row key_int3 (es := (mput (x2.parent, x2.at_, x2.child) (w6 ((mget 0 v2 (x2.parent, x2.at_, x2.child)) + 1)) v2)) (k := (x2.parent, x2.at_, x2.child)) (z := 0) rfl rfl) : lkA [bG a1, .map (mrow (fun n => .agg [vi .i64 n.1, vi .i64 n.2.1, vi .i64 n.2.2]) (fun n => vi .i64 n) (mput (x2.parent, x2.at_, x2.child) (w6 ((mget 0 v2 (x2.parent, x2.at_, x2.child)) + 1)) v2)), .cells 85 ((eForb x2).map .p)] [1, 1, 1] .true .false [(.val (.int .i64 0))] .false (.mp 1) (.agg ((eForb x2).map .p)) = some (i6 (mget 0 (mput (x2.parent, x2.at_, x2.child) (w6 ((mget 0 v2 (x2.parent, x2.at_, x2.child)) + 1)) v2) (x2.parent, x2.at_, x2.child)))) (apc (cv h3) (apc ((((F74_ok x2 a1 h4).own rfl (purAs_cons rfl (purAs_cons (purA_ptr rfl (mapO_con rfl (mapO_con rfl (mapO_con rfl (mapO_con rfl (mapO_con rfl rfl)))))) purAs_nil)) rfl).trans (congrArg (fun z => some (vb z)) h5)) : CP prg 74 [(i6 x2.parent), (.ptr 0 0)] [bG a1, .map (mrow (fun n => .agg [vi .i64 n.1, vi .i64 n.2.1, vi .i64 n.2.2]) (fun n => vi .i64 n) (mput (x2.parent, x2.at_, x2.child) (w6 ((mget 0 v2 (x2.parent, x2.at_, x2.child)) + 1)) v2)), .cells 85 ((eForb x2).map .p)] = some (vb true)) (apc ((((F74_2_ok x2 a1 h6).own rfl (purAs_cons rfl (purAs_cons (purA_ptr rfl (mapO_con rfl (mapO_con rfl (mapO_con rfl (mapO_con rfl (mapO_con rfl rfl)))))) purAs_nil)) rfl).trans (congrArg (fun z => some (vb z)) h7)) : CP prg 74 [(i6 x2.child), (.ptr 0 0)] [bG a1, .map (mrow (fun n => .agg [vi .i64 n.1, vi .i64 n.2.1, vi .i64 n.2.2]) (fun n => vi .i64 n) (mput (x2.parent, x2.at_, x2.child) (w6 ((mget 0 v2 (x2.parent, x2.at_, x2.child)) + 1)) v2)), .cells 85 ((eForb x2).map .p)] = some (vb true)) (apc (cv h8) (apc (ig eProd 7 .i64 h9) (apc (lg x9.right eSym 6) (apc (cv h10) apn))))))))))))) (by kernel_rfl)
      ·
       refine bn h fun x11 h11 h => ?_
       refine bi h (fun h12 h => ?_) fun h12 h => ?_
       ·
        rw [← sj h]
        exact xretY (n := 30) [(14, .d true), (15, .v (.ro (eForb x2))), (19, .v (i6 (mget 0 v2 (x2.parent, x2.at_, x2.child)))), (21, .r (.tup [(i6 (mget 0 v2 (x2.parent, x2.at_, x2.child))), (i6 (midx v2 (x2.parent, x2.at_, x2.child) : Int))]) [bG a1, .map (mrow (fun n => .agg [vi .i64 n.1, vi .i64 n.2.1, vi .i64 n.2.2]) (fun n => vi .i64 n) (ment 0 v2 (x2.parent, x2.at_, x2.child))), .cells 85 ((eForb x2).map .p)]), (8020, .r ud [bG a1, .map (mrow (fun n => .agg [vi .i64 n.1, vi .i64 n.2.1, vi .i64 n.2.2]) (fun n => vi .i64 n) (mput (x2.parent, x2.at_, x2.child) (w6 ((mget 0 v2 (x2.parent, x2.at_, x2.child)) + 1)) v2)), .cells 85 ((eForb x2).map .p)]), (25, .v (i6 (mget 0 (mput (x2.parent, x2.at_, x2.child) (w6 ((mget 0 v2 (x2.parent, x2.at_, x2.child)) + 1)) v2) (x2.parent, x2.at_, x2.child)))), (26, .d false), (31, .v (vb true)), (38, .v (vb true)), (44, .d false), (53, .v (.ro (eProd x9))), (56, .v (i6 (x9.right.length : Int))), (57, .d false), (63, .v (.ro (eProd x9))), (69, .v (.ro (eSym x11))), (73, .d true), (6000, .d true)] (apc (cv h1) (apc (ig eForb 3 .i64 h2) (apc ((lk_row key_int3 (es := v2) (k := (x2.parent, x2.at_, x2.child)) (z := 0) rfl rfl) : lkA [bG a1, mFI v2, .cells 85 ((eForb x2).map .p)] [1, 1, 1] .true .false [(.val (.int .i64 0))] .false (.mp 1) (.agg ((eForb x2).map .p)) = some (i6 (mget 0 v2 (x2.parent, x2.at_, x2.child)))) (apc ((en_row key_int3 (es := v2) (k := (x2.parent, x2.at_, x2.child)) (z := 0) rfl rfl) : enA [bG a1, mFI v2, .cells 85 ((eForb x2).map .p)] [1, 1, 1] .true .false [(.val (.int .i64 0))] (.mp 1) (.agg ((eForb x2).map .p)) = some ((.tup [(i6 (mget 0 v2 (x2.parent, x2.at_, x2.child))), (i6 (midx v2 (x2.parent, x2.at_, x2.child) : Int))]), [bG a1, .map (mrow (fun n => .agg [vi .i64 n.1, vi .i64 n.2.1, vi .i64 n.2.2]) (fun n => vi .i64 n) (ment 0 v2 (x2.parent, x2.at_, x2.child))), .cells 85 ((eForb x2).map .p)])) (apc (⟨es_row key_int3 (es := v2) (k := (x2.parent, x2.at_, x2.child)) (v := (w6 ((mget 0 v2 (x2.parent, x2.at_, x2.child)) + 1))) (z := 0) rfl, rfl⟩ : esA [bG a1, .map (mrow (fun n => .agg [vi .i64 n.1, vi .i64 n.2.1, vi .i64 n.2.2]) (fun n => vi .i64 n) (ment 0 v2 (x2.parent, x2.at_, x2.child))), .cells 85 ((eForb x2).map .p)] (.mp 1) (i6 (midx v2 (x2.parent, x2.at_, x2.child) : Int)) (i6 (w6 ((mget 0 v2 (x2.parent, x2.at_, x2.child)) + 1))) = some [bG a1, .map (mrow (fun n => .agg [vi .i64 n.1, vi .i64 n.2.1, vi .i64 n.2.2]) (fun n => vi .i64 n) (mput (x2.parent, x2.at_, x2.child) (w6 ((mget 0 v2 (x2.parent, x2.at_, x2.child)) + 1)) v2)), .cells 85 ((eForb x2).map .p)] ∧ ud = ud) (apc ((lk_row key_int3 (es := (mput (x2.parent, x2.at_, x2.child) (w6 ((mget 0 v2 (x2.parent, x2.at_, x2.child)) + 1)) v2)) (k := (x2.parent, x2.at_, x2.child)) (z := 0) rfl rfl) : lkA [bG a1, .map (mrow (fun n => .agg [vi .i64 n.1, vi .i64 n.2.1, vi .i64 n.2.2]) (fun n => vi .i64 n) (mput (x2.parent, x2.at_, x2.child) (w6 ((mget 0 v2 (x2.parent, x2.at_, x2.child)) + 1)) v2)), .cells 85 ((eForb x2).map .p)] [1, 1, 1] .true .false [(.val (.int .i64 0))] .false (.mp 1) (.agg ((eForb x2).map .p)) = some (i6 (mget 0 (mput (x2.parent, x2.at_, x2.child) (w6 ((mget 0 v2 (x2.parent, x2.at_, x2.child)) + 1)) v2) (x2.parent, x2.at_, x2.child)))) (apc (cv h3) (apc ((((F74_ok x2 a1 h4).own rfl (purAs_cons rfl (purAs_cons (purA_ptr rfl (mapO_con rfl (mapO_con rfl (mapO_con rfl (mapO_con rfl (mapO_con rfl rfl)))))) purAs_nil)) rfl).trans (congrArg (fun z => some (vb z)) h5)) : CP prg 74 [(i6 x2.parent), (.ptr 0 0)] [bG a1, .map (mrow (fun n => .agg [vi .i64 n.1, vi .i64 n.2.1, vi .i64 n.2.2]) (fun n => vi .i64 n) (mput (x2.parent, x2.at_, x2.child) (w6 ((mget 0 v2 (x2.parent, x2.at_, x2.child)) + 1)) v2)), .cells 85 ((eForb x2).map .p)] = some (vb true)) (apc ((((F74_2_ok x2 a1 h6).own rfl (purAs_cons rfl (purAs_cons (purA_ptr rfl (mapO_con rfl (mapO_con rfl (mapO_con rfl (mapO_con rfl (mapO_con rfl rfl)))))) purAs_nil)) rfl).trans (congrArg (fun z => some (vb z)) h7)) : CP prg 74 [(i6 x2.child), (.ptr 0 0)] [bG a1, .map (mrow (fun n => .agg [vi .i64 n.1, vi .i64 n.2.1, vi .i64 n.2.2]) (fun n => vi .i64 n) (mput (x2.parent, x2.at_, x2.child) (w6 ((mget 0 v2 (x2.parent, x2.at_, x2.child)) + 1)) v2)), .cells 85 ((eForb x2).map .p)] = some (vb true)) (apc (cv h8) (apc (ig eProd 7 .i64 h9) (apc (lg x9.right eSym 6) (apc (cv h10) (apc (ig eProd 7 .i64 h9) (apc (ig eSym 6 .i64 h11) (apc (cv h12) apn)))))))))))))))) (by kernel_rfl)
       ·
        refine bn h fun x13 h13 h => ?_
        refine bi h (fun h14 h => ?_) fun h14 h => ?_
        ·
         rw [← sj h]
         exact xretY (n := 30) [(14, .d true), (15, .v (.ro (eForb x2))), (19, .v (i6 (mget 0 v2 (x2.parent, x2.at_, x2.child)))), (21, .r (.tup [(i6 (mget 0 v2 (x2.parent, x2.at_, x2.child))), (i6 (midx v2 (x2.parent, x2.at_, x2.child) : Int))]) [bG a1, .map (mrow (fun n => .agg [vi .i64 n.1, vi .i64 n.2.1, vi .i64 n.2.2]) (fun n => vi .i64 n) (ment 0 v2 (x2.parent, x2.at_, x2.child))), .cells 85 ((eForb x2).map .p)]), (8020, .r ud [bG a1, .map (mrow (fun n => .agg [vi .i64 n.1, vi .i64 n.2.1, vi .i64 n.2.2]) (fun n => vi .i64 n) (mput (x2.parent, x2.at_, x2.child) (w6 ((mget 0 v2 (x2.parent, x2.at_, x2.child)) + 1)) v2)), .cells 85 ((eForb x2).map .p)]), (25, .v (i6 (mget 0 (mput (x2.parent, x2.at_, x2.child) (w6 ((mget 0 v2 (x2.parent, x2.at_, x2.child)) + 1)) v2) (x2.parent, x2.at_, x2.child)))), (26, .d false), (31, .v (vb true)), (38, .v (vb true)), (44, .d false), (53, .v (.ro (eProd x9))), (56, .v (i6 (x9.right.length : Int))), (57, .d false), (63, .v (.ro (eProd x9))), (69, .v (.ro (eSym x11))), (73, .d false), (81, .v (.ro (eProd x13))), (84, .d true), (6000, .d true)] (apc (cv h1) (apc (ig eForb 3 .i64 h2) (apc ((lk_row key_int3 (es := v2) (k := (x2.parent, x2.at_, x2.child)) (z := 0) rfl rfl) : lkA [bG a1, mFI v2, .cells 85 ((eForb x2).map .p)] [1, 1, 1] .true .false [(.val (.int .i64 0))] .false (.mp 1) (.agg ((eForb x2).map .p)) = some (i6 (mget 0 v2 (x2.parent, x2.at_, x2.child)))) (apc ((en_row key_int3 (es := v2) (k := (x2.parent, x2.at_, x2.child)) (z := 0) rfl rfl) : enA [bG a1, mFI v2, .cells 85 ((eForb x2).map .p)] [1, 1, 1] .true .false [(.val (.int .i64 0))] (.mp 1) (.agg ((eForb x2).map .p)) = some ((.tup [(i6 (mget 0 v2 (x2.parent, x2.at_, x2.child))), (i6 (midx v2 (x2.parent, x2.at_, x2.child) : Int))]), [bG a1, .map (mrow (fun n => .agg [vi .i64 n.1, vi .i64 n.2.1, vi .i64 n.2.2]) (fun n => vi .i64 n) (ment 0 v2 (x2.parent, x2.at_, x2.child))), .cells 85 ((eForb x2).map .p)])) (apc (⟨es_row key_int3 (es := v2) (k := (x2.parent, x2.at_, x2.child)) (v := (w6 ((mget 0 v2 (x2.parent, x2.at_, x2.child)) + 1))) (z := 0) rfl, rfl⟩ : esA [bG a1, .map (mrow (fun n => .agg [vi .i64 n.1, vi .i64 n.2.1, vi .i64 n.2.2]) (fun n => vi .i64 n) (ment 0 v2 (x2.parent, x2.at_, x2.child))), .cells 85 ((eForb x2).map .p)] (.mp 1) (i6 (midx v2 (x2.parent, x2.at_, x2.child) : Int)) (i6 (w6 ((mget 0 v2 (x2.parent, x2.at_, x2.child)) + 1))) = some [bG a1, .map (mrow (fun n => .agg [vi .i64 n.1, vi .i64 n.2.1, vi .i64 n.2.2]) (fun n => vi .i64 n) (mput (x2.parent, x2.at_, x2.child) (w6 ((mget 0 v2 (x2.parent, x2.at_, x2.child)) + 1)) v2)), .cells 85 ((eForb x2).map .p)] ∧ ud = ud) (apc ((lk_row key_int3 (es := (mput (x2.parent, x2.at_, x2.child) (w6 ((mget 0 v2 (x2.parent, x2.at_, x2.child)) + 1)) v2)) (k := (x2.parent, x2.at_, x2.child)) (z := 0) rfl rfl) : lkA [bG a1, .map (mrow (fun n => .agg [vi .i64 n.1, vi .i64 n.2.1, vi .i64 n.2.2]) (fun n => vi .i64 n) (mput (x2.parent, x2.at_, x2.child) (w6 ((mget 0 v2 (x2.parent, x2.at_, x2.child)) + 1)) v2)), .cells 85 ((eForb x2).map .p)] [1, 1, 1] .true .false [(.val (.int .i64 0))] .false (.mp 1) (.agg ((eForb x2).map .p)) = some (i6 (mget 0 (mput (x2.parent, x2.at_, x2.child) (w6 ((mget 0 v2 (x2.parent, x2.at_, x2.child)) + 1)) v2) (x2.parent, x2.at_, x2.child)))) (apc (cv h3) (apc ((((F74_ok x2 a1 h4).own rfl (purAs_cons rfl (purAs_cons (purA_ptr rfl (mapO_con rfl (mapO_con rfl (mapO_con rfl (mapO_con rfl (mapO_con rfl rfl)))))) purAs_nil)) rfl).trans (congrArg (fun z => some (vb z)) h5)) : CP prg 74 [(i6 x2.parent), (.ptr 0 0)] [bG a1, .map (mrow (fun n => .agg [vi .i64 n.1, vi .i64 n.2.1, vi .i64 n.2.2]) (fun n => vi .i64 n) (mput (x2.parent, x2.at_, x2.child) (w6 ((mget 0 v2 (x2.parent, x2.at_, x2.child)) + 1)) v2)), .cells 85 ((eForb x2).map .p)] = some (vb true)) (apc ((((F74_2_ok x2 a1 h6).own rfl (purAs_cons rfl (purAs_cons (purA_ptr rfl (mapO_con rfl (mapO_con rfl (mapO_con rfl (mapO_con rfl (mapO_con rfl rfl)))))) purAs_nil)) rfl).trans (congrArg (fun z => some (vb z)) h7)) : CP prg 74 [(i6 x2.child), (.ptr 0 0)] [bG a1, .map (mrow (fun n => .agg [vi .i64 n.1, vi .i64 n.2.1, vi .i64 n.2.2]) (fun n => vi .i64 n) (mput (x2.parent, x2.at_, x2.child) (w6 ((mget 0 v2 (x2.parent, x2.at_, x2.child)) + 1)) v2)), .cells 85 ((eForb x2).map .p)] = some (vb true)) (apc (cv h8) (apc (ig eProd 7 .i64 h9) (apc (lg x9.right eSym 6) (apc (cv h10) (apc (ig eProd 7 .i64 h9) (apc (ig eSym 6 .i64 h11) (apc (cv h12) (apc (ig eProd 7 .i64 h13) (apc (cv h14) apn)))))))))))))))))) (by kernel_rfl)
        ·
         rw [← sj h]
         exact rnd (n := 30) [(14, .d true), (15, .v (.ro (eForb x2))), (19, .v (i6 (mget 0 v2 (x2.parent, x2.at_, x2.child)))), (21, .r (.tup [(i6 (mget 0 v2 (x2.parent, x2.at_, x2.child))), (i6 (midx v2 (x2.parent, x2.at_, x2.child) : Int))]) [bG a1, .map (mrow (fun n => .agg [vi .i64 n.1, vi .i64 n.2.1, vi .i64 n.2.2]) (fun n => vi .i64 n) (ment 0 v2 (x2.parent, x2.at_, x2.child))), .cells 85 ((eForb x2).map .p)]), (8020, .r ud [bG a1, .map (mrow (fun n => .agg [vi .i64 n.1, vi .i64 n.2.1, vi .i64 n.2.2]) (fun n => vi .i64 n) (mput (x2.parent, x2.at_, x2.child) (w6 ((mget 0 v2 (x2.parent, x2.at_, x2.child)) + 1)) v2)), .cells 85 ((eForb x2).map .p)]), (25, .v (i6 (mget 0 (mput (x2.parent, x2.at_, x2.child) (w6 ((mget 0 v2 (x2.parent, x2.at_, x2.child)) + 1)) v2) (x2.parent, x2.at_, x2.child)))), (26, .d false), (31, .v (vb true)), (38, .v (vb true)), (44, .d false), (53, .v (.ro (eProd x9))), (56, .v (i6 (x9.right.length : Int))), (57, .d false), (63, .v (.ro (eProd x9))), (69, .v (.ro (eSym x11))), (73, .d false), (81, .v (.ro (eProd x13))), (84, .d false), (6000, .d true)] (apc (cv h1) (apc (ig eForb 3 .i64 h2) (apc ((lk_row key_int3 (es := v2) (k := (x2.parent, x2.at_, x2.child)) (z := 0) rfl rfl) : lkA [bG a1, mFI v2, .cells 85 ((eForb x2).map .p)] [1, 1, 1] .true .false [(.val (.int .i64 0))] .false (.mp 1) (.agg ((eForb x2).map .p)) = some (i6 (mget 0 v2 (x2.parent, x2.at_, x2.child)))) (apc ((en_row key_int3 (es := v2) (k := (x2.parent, x2.at_, x2.child)) (z := 0) rfl rfl) : enA [bG a1, mFI v2, .cells 85 ((eForb x2).map .p)] [1, 1, 1] .true .false [(.val (.int .i64 0))] (.mp 1) (.agg ((eForb x2).map .p)) = some ((.tup [(i6 (mget 0 v2 (x2.parent, x2.at_, x2.child))), (i6 (midx v2 (x2.parent, x2.at_, x2.child) : Int))]), [bG a1, .map (mrow (fun n => .agg [vi .i64 n.1, vi .i64 n.2.1, vi .i64 n.2.2]) (fun n => vi .i64 n) (ment 0 v2 (x2.parent, x2.at_, x2.child))), .cells 85 ((eForb x2).map .p)])) (apc (⟨es_row key_int3 (es := v2) (k := (x2.parent, x2.at_, x2.child)) (v := (w6 ((mget 0 v2 (x2.parent, x2.at_, x2.child)) + 1))) (z := 0) rfl, rfl⟩ : esA [bG a1, .map (mrow (fun n => .agg [vi .i64 n.1, vi .i64 n.2.1, vi .i64 n.2.2]) (fun n => vi .i64 n) (ment 0 v2 (x2.parent, x2.at_, x2.child))), .cells 85 ((eForb x2).map .p)] (.mp 1) (i6 (midx v2 (x2.parent, x2.at_, x2.child) : Int)) (i6 (w6 ((mget 0 v2 (x2.parent, x2.at_, x2.child)) + 1))) = some [bG a1, .map (mrow (fun n => .agg [vi .i64 n.1, vi .i64 n.2.1, vi .i64 n.2.2]) (fun n => vi .i64 n) (mput (x2.parent, x2.at_, x2.child) (w6 ((mget 0 v2 (x2.parent, x2.at_, x2.child)) + 1)) v2)), .cells 85 ((eForb x2).map .p)] ∧ ud = ud) (apc ((lk_row key_int3 (es := (mput (x2.parent, x2.at_, x2.child) (w6 ((mget 0 v2 (x2.parent, x2.at_, x2.child)) + 1)) v2)) (k := (x2.parent, x2.at_, x2.child)) (z := 0) rfl rfl) : lkA [bG a1, .map (mrow (fun n => .agg [vi .i64 n.1, vi .i64 n.2.1, vi .i64 n.2.2]) (fun n => vi .i64 n) (mput (x2.parent, x2.at_, x2.child) (w6 ((mget 0 v2 (x2.parent, x2.at_, x2.child)) + 1)) v2)), .cells 85 ((eForb x2).map .p)] [1, 1, 1] .true .false [(.val (.int .i64 0))] .false (.mp 1) (.agg ((eForb x2).map .p)) = some (i6 (mget 0 (mput (x2.parent, x2.at_, x2.child) (w6 ((mget 0 v2 (x2.parent, x2.at_, x2.child)) + 1)) v2) (x2.parent, x2.at_, x2.child)))) (apc (cv h3) (apc ((((F74_ok x2 a1 h4).own rfl (purAs_cons rfl (purAs_cons (purA_ptr rfl (mapO_con rfl (mapO_con rfl (mapO_con rfl (mapO_con rfl (mapO_con rfl rfl)))))) purAs_nil)) rfl).trans (congrArg (fun z => some (vb z)) h5)) : CP prg 74 [(i6 x2.parent), (.ptr 0 0)] [bG a1, .map (mrow (fun n => .agg [vi .i64 n.1, vi .i64 n.2.1, vi .i64 n.2.2]) (fun n => vi .i64 n) (mput (x2.parent, x2.at_, x2.child) (w6 ((mget 0 v2 (x2.parent, x2.at_, x2.child)) + 1)) v2)), .cells 85 ((eForb x2).map .p)] = some (vb true)) (apc ((((F74_2_ok x2 a1 h6).own rfl (purAs_cons rfl (purAs_cons (purA_ptr rfl (mapO_con rfl (mapO_con rfl (mapO_con rfl (mapO_con rfl (mapO_con rfl rfl)))))) purAs_nil)) rfl).trans (congrArg (fun z => some (vb z)) h7)) : CP prg 74 [(i6 x2.child), (.ptr 0 0)] [bG a1, .map (mrow (fun n => .agg [vi .i64 n.1, vi .i64 n.2.1, vi .i64 n.2.2]) (fun n => vi .i64 n) (mput (x2.parent, x2.at_, x2.child) (w6 ((mget 0 v2 (x2.parent, x2.at_, x2.child)) + 1)) v2)), .cells 85 ((eForb x2).map .p)] = some (vb true)) (apc (cv h8) (apc (ig eProd 7 .i64 h9) (apc (lg x9.right eSym 6) (apc (cv h10) (apc (ig eProd 7 .i64 h9) (apc (ig eSym 6 .i64 h11) (apc (cv h12) (apc (ig eProd 7 .i64 h13) (apc (cv h14) (apc ((okT_of rfl (abl_cons rfl (abl_cons (abl_map (fun _ => rfl) (fun _ => rfl)) rfl))) : okT 2 [bG a1, .map (mrow (fun n => .agg [vi .i64 n.1, vi .i64 n.2.1, vi .i64 n.2.2]) (fun n => vi .i64 n) (mput (x2.parent, x2.at_, x2.child) (w6 ((mget 0 v2 (x2.parent, x2.at_, x2.child)) + 1)) v2)), .cells 85 ((eForb x2).map .p), .cells 48 ((eSym x11).map .p)] = true) apn))))))))))))))))))) (by kernel_rfl)
    ·
     rw [← sj h]
     exact xretY (n := 30) [(14, .d true), (15, .v (.ro (eForb x2))), (19, .v (i6 (mget 0 v2 (x2.parent, x2.at_, x2.child)))), (21, .r (.tup [(i6 (mget 0 v2 (x2.parent, x2.at_, x2.child))), (i6 (midx v2 (x2.parent, x2.at_, x2.child) : Int))]) [bG a1, .map (mrow (fun n => .agg [vi .i64 n.1, vi .i64 n.2.1, vi .i64 n.2.2]) (fun n => vi .i64 n) (ment 0 v2 (x2.parent, x2.at_, x2.child))), .cells 85 ((eForb x2).map .p)]), (8020, .r ud [bG a1, .map (mrow (fun n => .agg [vi .i64 n.1, vi .i64 n.2.1, vi .i64 n.2.2]) (fun n => vi .i64 n) (mput (x2.parent, x2.at_, x2.child) (w6 ((mget 0 v2 (x2.parent, x2.at_, x2.child)) + 1)) v2)), .cells 85 ((eForb x2).map .p)]), (25, .v (i6 (mget 0 (mput (x2.parent, x2.at_, x2.child) (w6 ((mget 0 v2 (x2.parent, x2.at_, x2.child)) + 1)) v2) (x2.parent, x2.at_, x2.child)))), (26, .d false), (31, .v (vb true)), (38, .v (vb false)), (6000, .d true)] (apc (cv h1) (apc (ig eForb 3 .i64 h2) (apc ((lk_row key_int3 (es := v2) (k := (x2.parent, x2.at_, x2.child)) (z := 0) rfl rfl) : lkA [bG a1, mFI v2, .cells 85 ((eForb x2).map .p)] [1, 1, 1] .true .false [(.val (.int .i64 0))] .false (.mp 1) (.agg ((eForb x2).map .p)) = some (i6 (mget 0 v2 (x2.parent, x2.at_, x2.child)))) (apc ((en_row key_int3 (es := v2) (k := (x2.parent, x2.at_, x2.child)) (z := 0) rfl rfl) : enA [bG a1, mFI v2, .cells 85 ((eForb x2).map .p)] [1, 1, 1] .true .false [(.val (.int .i64 0))] (.mp 1) (.agg ((eForb x2).map .p)) = some ((.tup [(i6 (mget 0 v2 (x2.parent, x2.at_, x2.child))), (i6 (midx v2 (x2.parent, x2.at_, x2.child) : Int))]), [bG a1, .map (mrow (fun n => .agg [vi .i64 n.1, vi .i64 n.2.1, vi .i64 n.2.2]) (fun n => vi .i64 n) (ment 0 v2 (x2.parent, x2.at_, x2.child))), .cells 85 ((eForb x2).map .p)])) (apc (⟨es_row key_int3 (es := v2) (k := (x2.parent, x2.at_, x2.child)) (v := (w6 ((mget 0 v2 (x2.parent, x2.at_, x2.child)) + 1))) (z := 0) rfl, rfl⟩ : esA [bG a1, .map (mrow (fun n => .agg [vi .i64 n.1, vi .i64 n.2.1, vi .i64 n.2.2]) (fun n => vi .i64 n) (ment 0 v2 (x2.parent, x2.at_, x2.child))), .cells 85 ((eForb x2).map .p)] (.mp 1) (i6 (midx v2 (x2.parent, x2.at_, x2.child) : Int)) (i6 (w6 ((mget 0 v2 (x2.parent, x2.at_, x2.child)) + 1))) = some [bG a1, .map (mrow (fun n => .agg [vi .i64 n.1, vi .i64 n.2.1, vi .i64 n.2.2]) (fun n => vi .i64 n) (mput (x2.parent, x2.at_, x2.child) (w6 ((mget 0 v2 (x2.parent, x2.at_, x2.child)) + 1)) v2)), .cells 85 ((eForb x2).map .p)] ∧ ud = ud) (apc ((lk_row key_int3 (es := (mput (x2.parent, x2.at_, x2.child) (w6 ((mget 0 v2 (x2.parent, x2.at_, x2.child)) + 1)) v2)) (k := (x2.parent, x2.at_, x2.child)) (z := 0) rfl rfl) : lkA [bG a1, .map (mrow (fun n => .agg [vi .i64 n.1, vi .i64 n.2.1, vi .i64 n.2.2]) (fun n => vi .i64 n) (mput (x2.parent, x2.at_, x2.child) (w6 ((mget 0 v2 (x2.parent, x2.at_, x2.child)) + 1)) v2)), .cells 85 ((eForb x2).map .p)] [1, 1, 1] .true .false [(.val (.int .i64 0))] .false (.mp 1) (.agg ((eForb x2).map .p)) = some (i6 (mget 0 (mput (x2.parent, x2.at_, x2.child) (w6 ((mget 0 v2 (x2.parent, x2.at_, x2.child)) + 1)) v2) (x2.parent, x2.at_, x2.child)))) (apc (cv h3) (apc ((((F74_ok x2 a1 h4).own rfl (purAs_cons rfl (purAs_cons (purA_ptr rfl (mapO_con rfl (mapO_con rfl (mapO_con rfl (mapO_con rfl (mapO_con rfl rfl)))))) purAs_nil)) rfl).trans (congrArg (fun z => some (vb z)) h5)) : CP prg 74 [(i6 x2.parent), (.ptr 0 0)] [bG a1, .map (mrow (fun n => .agg [vi .i64 n.1, vi .i64 n.2.1, vi .i64 n.2.2]) (fun n => vi .i64 n) (mput (x2.parent, x2.at_, x2.child) (w6 ((mget 0 v2 (x2.parent, x2.at_, x2.child)) + 1)) v2)), .cells 85 ((eForb x2).map .p)] = some (vb true)) (apc ((((F74_2_ok x2 a1 h6).own rfl (purAs_cons rfl (purAs_cons (purA_ptr rfl (mapO_con rfl (mapO_con rfl (mapO_con rfl (mapO_con rfl (mapO_con rfl rfl)))))) purAs_nil)) rfl).trans (congrArg (fun z => some (vb z)) h7)) : CP prg 74 [(i6 x2.child), (.ptr 0 0)] [bG a1, .map (mrow (fun n => .agg [vi .i64 n.1, vi .i64 n.2.1, vi .i64 n.2.2]) (fun n => vi .i64 n) (mput (x2.parent, x2.at_, x2.child) (w6 ((mget 0 v2 (x2.parent, x2.at_, x2.child)) + 1)) v2)), .cells 85 ((eForb x2).map .p)] = some (vb false)) apn))))))))) (by kernel_rfl)
   ·
    rw [← sj h]
    exact xretY (n := 30) [(14, .d true), (15, .v (.ro (eForb x2))), (19, .v (i6 (mget 0 v2 (x2.parent, x2.at_, x2.child)))), (21, .r (.tup [(i6 (mget 0 v2 (x2.parent, x2.at_, x2.child))), (i6 (midx v2 (x2.parent, x2.at_, x2.child) : Int))]) [bG a1, .map (mrow (fun n => .agg [vi .i64 n.1, vi .i64 n.2.1, vi .i64 n.2.2]) (fun n => vi .i64 n) (ment 0 v2 (x2.parent, x2.at_, x2.child))), .cells 85 ((eForb x2).map .p)]), (8020, .r ud [bG a1, .map (mrow (fun n => .agg [vi .i64 n.1, vi .i64 n.2.1, vi .i64 n.2.2]) (fun n => vi .i64 n) (mput (x2.parent, x2.at_, x2.child) (w6 ((mget 0 v2 (x2.parent, x2.at_, x2.child)) + 1)) v2)), .cells 85 ((eForb x2).map .p)]), (25, .v (i6 (mget 0 (mput (x2.parent, x2.at_, x2.child) (w6 ((mget 0 v2 (x2.parent, x2.at_, x2.child)) + 1)) v2) (x2.parent, x2.at_, x2.child)))), (26, .d false), (31, .v (vb false)), (6000, .d true)] (apc (cv h1) (apc (ig eForb 3 .i64 h2) (apc ((lk_row key_int3 (es := v2) (k := (x2.parent, x2.at_, x2.child)) (z := 0) rfl rfl) : lkA [bG a1, mFI v2, .cells 85 ((eForb x2).map .p)] [1, 1, 1] .true .false [(.val (.int .i64 0))] .false (.mp 1) (.agg ((eForb x2).map .p)) = some (i6 (mget 0 v2 (x2.parent, x2.at_, x2.child)))) (apc ((en_row key_int3 (es := v2) (k := (x2.parent, x2.at_, x2.child)) (z := 0) rfl rfl) : enA [bG a1, mFI v2, .cells 85 ((eForb x2).map .p)] [1, 1, 1] .true .false [(.val (.int .i64 0))] (.mp 1) (.agg ((eForb x2).map .p)) = some ((.tup [(i6 (mget 0 v2 (x2.parent, x2.at_, x2.child))), (i6 (midx v2 (x2.parent, x2.at_, x2.child) : Int))]), [bG a1, .map (mrow (fun n => .agg [vi .i64 n.1, vi .i64 n.2.1, vi .i64 n.2.2]) (fun n => vi .i64 n) (ment 0 v2 (x2.parent, x2.at_, x2.child))), .cells 85 ((eForb x2).map .p)])) (apc (⟨es_row key_int3 (es := v2) (k := (x2.parent, x2.at_, x2.child)) (v := (w6 ((mget 0 v2 (x2.parent, x2.at_, x2.child)) + 1))) (z := 0) rfl, rfl⟩ : esA [bG a1, .map (mrow (fun n => .agg [vi .i64 n.1, vi .i64 n.2.1, vi .i64 n.2.2]) (fun n => vi .i64 n) (ment 0 v2 (x2.parent, x2.at_, x2.child))), .cells 85 ((eForb x2).map .p)] (.mp 1) (i6 (midx v2 (x2.parent, x2.at_, x2.child) : Int)) (i6 (w6 ((mget 0 v2 (x2.parent, x2.at_, x2.child)) + 1))) = some [bG a1, .map (mrow (fun n => .agg [vi .i64 n.1, vi .i64 n.2.1, vi .i64 n.2.2]) (fun n => vi .i64 n) (mput (x2.parent, x2.at_, x2.child) (w6 ((mget 0 v2 (x2.parent, x2.at_, x2.child)) + 1)) v2)), .cells 85 ((eForb x2).map .p)] ∧ ud = ud) (apc ((lk_row key_int3 (es := (mput (x2.parent, x2.at_, x2.child) (w6 ((mget 0 v2 (x2.parent, x2.at_, x2.child)) + 1)) v2)) (k := (x2.parent, x2.at_, x2.child)) (z := 0) rfl rfl) : lkA [bG a1, .map (mrow (fun n => .agg [vi .i64 n.1, vi .i64 n.2.1, vi .i64 n.2.2]) (fun n => vi .i64 n) (mput (x2.parent, x2.at_, x2.child) (w6 ((mget 0 v2 (x2.parent, x2.at_, x2.child)) + 1)) v2)), .cells 85 ((eForb x2).map .p)] [1, 1, 1] .true .false [(.val (.int .i64 0))] .false (.mp 1) (.agg ((eForb x2).map .p)) = some (i6 (mget 0 (mput (x2.parent, x2.at_, x2.child) (w6 ((mget 0 v2 (x2.parent, x2.at_, x2.child)) + 1)) v2) (x2.parent, x2.at_, x2.child)))) (apc (cv h3) (apc ((((F74_ok x2 a1 h4).own rfl (purAs_cons rfl (purAs_cons (purA_ptr rfl (mapO_con rfl (mapO_con rfl (mapO_con rfl (mapO_con rfl (mapO_con rfl rfl)))))) purAs_nil)) rfl).trans (congrArg (fun z => some (vb z)) h5)) : CP prg 74 [(i6 x2.parent), (.ptr 0 0)] [bG a1, .map (mrow (fun n => .agg [vi .i64 n.1, vi .i64 n.2.1, vi .i64 n.2.2]) (fun n => vi .i64 n) (mput (x2.parent, x2.at_, x2.child) (w6 ((mget 0 v2 (x2.parent, x2.at_, x2.child)) + 1)) v2)), .cells 85 ((eForb x2).map .p)] = some (vb false)) apn)))))))) (by kernel_rfl)
 ·
  rw [← sj h]
  exact xbrk (n := 30) [(14, .d false), (6000, .d true)] (apc (cv h1) apn) (by kernel_rfl)
theorem L59_0_run (a1 : GramD) (a2 : Int) (s0 : Int × (List ((Int × Int × Int) × Int))) (e : E_L59_0) (h : runL (fun s => L59_0 a1 a2 s.1 s.2) s0 = some e) : L59_0_x a1 a2 e (evH prg 2 [1, 3, 4, 11, 12, 13] ir59_l0 (L59_0_s a1 a2 s0.1 s0.2)) := by
  have q := @loop_sound' (Int × (List ((Int × Int × Int) × Int))) E_L59_0 (fun s => L59_0 a1 a2 s.1 s.2) (fun s => evH prg 2 [1, 3, 4, 11, 12, 13] ir59_l0 (L59_0_s a1 a2 s.1 s.2)) (L59_0_x a1 a2) (fun s r h => L59_0_ok a1 a2 s.1 s.2 h) s0 e h
  exact q
noncomputable def F59 (a1 : GramD) : Option Bool :=
  ((runL (fun s => L59_0 a1 (a1.forbid.length : Int) s.1 s.2) (0, [])).bind fun r1 => match r1 with | .k0 => (some false) | .k1 x1_0 => (some true))
def F59_v (a1 : GramD) (x0 : Bool) : AV := (vb x0)
theorem F59_ok (a1 : GramD) {r : Bool} (h : F59 a1 = some r) : PR1 prg 59 [(aG a1)] (F59_v a1 r) := by
 unfold F59 at h
 refine bn h fun r1 h1 h => ?_
 cases r1 with
 | k0 =>
  obtain ⟨g1, y1, e1⟩ := L59_0_run a1 (a1.forbid.length : Int) (0, []) _ h1
  rw [← sj h]
  exact fpr (n := 30) [(12, .v (i6 (a1.forbid.length : Int))), (2000, .l .ret ⟨fr 87 g1 [(2, (vb false))], y1⟩), (6000, .d true)] (apc (lg a1.forbid eForb 3) (apc ((okT_of rfl (abl_cons rfl (abl_cons rfl rfl))) : okT 2 [bG a1, .map []] = true) (apc (e1 : evH prg 2 [1, 3, 4, 11, 12, 13] ir59_l0 (L59_0_s a1 (a1.forbid.length : Int) 0 ([])) = some (.ret, ⟨fr 87 g1 [(2, (vb false))], y1⟩)) apn))) rfl (by kernel_rfl)
 | k1 x1_0 =>
  obtain ⟨g1, e1⟩ := L59_0_run a1 (a1.forbid.length : Int) (0, []) _ h1
  rw [← sj h]
  exact fpr (n := 30) [(12, .v (i6 (a1.forbid.length : Int))), (2000, .l (.brk 0) ⟨fr 87 g1 [(1, (.ptr 0 0)), (11, (.p (.lst 3 (a1.forbid.map eForb))))], [bG a1, mFI x1_0]⟩), (6000, .d true)] (apc (lg a1.forbid eForb 3) (apc ((okT_of rfl (abl_cons rfl (abl_cons rfl rfl))) : okT 2 [bG a1, .map []] = true) (apc (e1 : evH prg 2 [1, 3, 4, 11, 12, 13] ir59_l0 (L59_0_s a1 (a1.forbid.length : Int) 0 ([])) = some ((.brk 0), ⟨fr 87 g1 [(1, (.ptr 0 0)), (11, (.p (.lst 3 (a1.forbid.map eForb))))], [bG a1, mFI x1_0]⟩)) apn))) rfl (by kernel_rfl)
inductive E_L60_0 where
  | k0
  | k1 (x0 : List (Int × Int))
noncomputable def L60_0 (a1 : GramD) (a2 : Int) (v1 : Int) (v2 : List (Int × Int)) : Option (E_L60_0 ⊕ (Int × (List (Int × Int)))) :=
  (bif (decide (v1 < a2)) then ((getI a1.follow v1).bind fun x2 => (bif (decide ((mget 0 (mput x2.sort (IntKind.wrap .i64 ((mget 0 v2 x2.sort) + 1)) v2) x2.sort) > 1)) then (some (.inl (.k0))) else (bif (decide (x2.sort < 0)) then (some (.inl (.k0))) else (bif (decide (x2.sort ≥ (a1.sorts.length : Int))) then (some (.inl (.k0))) else (bif ((x2.a == 0) && ((x2.b == 0) && ((x2.c == 0) && ((x2.d == 0) && true)))) then (some (.inl (.k0))) else (some (.inr ((IntKind.wrap .i64 (v1 + 1)), (mput x2.sort (IntKind.wrap .i64 ((mget 0 v2 x2.sort) + 1)) v2))))))))) else (some (.inl (.k1 v2))))
def L60_0_s (a1 : GramD) (a2 : Int) (v1 : Int) (v2 : List (Int × Int)) : St := ⟨fr 44 ug [(1, (.ptr 0 0)), (3, (.mp 1)), (8, (.p (.lst 5 (a1.follow.map eFoll)))), (9, (i6 a2)), (10, (i6 v1))], [bG a1, mII v2]⟩
def L60_0_x (a1 : GramD) (a2 : Int) (e : E_L60_0) (r : Option (Out × St)) : Prop := match e with | .k0 => ∃ g y, r = some (.ret, ⟨fr 44 g [(2, (vb false))], y⟩) | .k1 x0 => ∃ g, r = some ((.brk 0), ⟨fr 44 g [(1, (.ptr 0 0)), (8, (.p (.lst 5 (a1.follow.map eFoll))))], [bG a1, mII x0]⟩)
theorem L60_0_ok (a1 : GramD) (a2 : Int) (v1 : Int) (v2 : List (Int × Int)) {r : E_L60_0 ⊕ (Int × (List (Int × Int)))} (h : L60_0 a1 a2 v1 v2 = some r) : OkR (fun e => L60_0_x a1 a2 e (evH prg 2 [1, 3, 8, 9, 10] ir60_l0 (L60_0_s a1 a2 v1 v2))) (fun s => evH prg 2 [1, 3, 8, 9, 10] ir60_l0 (L60_0_s a1 a2 v1 v2) = evH prg 2 [1, 3, 8, 9, 10] ir60_l0 (L60_0_s a1 a2 s.1 s.2)) r := by
 unfold L60_0 at h
 refine bi h (fun h1 h => ?_) fun h1 h => ?_
 ·
  refine bn h fun x2 h2 h => ?_
  refine bi h (fun h3 h => ?_) fun h3 h => ?_
  ·
   rw [← sj h]
   exact xretY (n := 30) [(11, .d true), (12, .v (.ro (eFoll x2))), (17, .v (i6 (mget 0 v2 x2.sort))), (7018, .r ud [bG a1, .map (mrow (fun n => vi .i64 n) (fun n => vi .i64 n) (mput x2.sort (w6 ((mget 0 v2 x2.sort) + 1)) v2)), .cells 87 ((eFoll x2).map .p)]), (22, .v (i6 (mget 0 (mput x2.sort (w6 ((mget 0 v2 x2.sort) + 1)) v2) x2.sort))), (23, .d true), (6000, .d true)] (apc (cv h1) (apc (ig eFoll 5 .i64 h2) (apc ((lk_row key_int (es := v2) (k := x2.sort) (z := 0) rfl rfl) : lkA [bG a1, mII v2, .cells 87 ((eFoll x2).map .p)] [1] .false .false [(.val (.int .i64 0))] .false (.mp 1) (i6 x2.sort) = some (i6 (mget 0 v2 x2.sort))) (apc (⟨up_row key_int (es := v2) (k := x2.sort) (v := (w6 ((mget 0 v2 x2.sort) + 1))) rfl, rfl⟩ : upA [bG a1, mII v2, .cells 87 ((eFoll x2).map .p)] [1] .false (.mp 1) (i6 x2.sort) (i6 (w6 ((mget 0 v2 x2.sort) + 1))) = some [bG a1, .map (mrow (fun n => vi .i64 n) (fun n => vi .i64 n) (mput x2.sort (w6 ((mget 0 v2 x2.sort) + 1)) v2)), .cells 87 ((eFoll x2).map .p)] ∧ ud = ud) (apc ((lk_row key_int (es := (mput x2.sort (w6 ((mget 0 v2 x2.sort) + 1)) v2)) (k := x2.sort) (z := 0) rfl rfl) : lkA [bG a1, .map (mrow (fun n => vi .i64 n) (fun n => vi .i64 n) (mput x2.sort (w6 ((mget 0 v2 x2.sort) + 1)) v2)), .cells 87 ((eFoll x2).map .p)] [1] .false .false [(.val (.int .i64 0))] .false (.mp 1) (i6 x2.sort) = some (i6 (mget 0 (mput x2.sort (w6 ((mget 0 v2 x2.sort) + 1)) v2) x2.sort))) (apc (cv h3) apn)))))) (by kernel_rfl)
  ·
   refine bi h (fun h4 h => ?_) fun h4 h => ?_
   ·
    rw [← sj h]
    exact xretY (n := 30) [(11, .d true), (12, .v (.ro (eFoll x2))), (17, .v (i6 (mget 0 v2 x2.sort))), (7018, .r ud [bG a1, .map (mrow (fun n => vi .i64 n) (fun n => vi .i64 n) (mput x2.sort (w6 ((mget 0 v2 x2.sort) + 1)) v2)), .cells 87 ((eFoll x2).map .p)]), (22, .v (i6 (mget 0 (mput x2.sort (w6 ((mget 0 v2 x2.sort) + 1)) v2) x2.sort))), (23, .d false), (27, .d true), (6000, .d true)] (apc (cv h1) (apc (ig eFoll 5 .i64 h2) (apc ((lk_row key_int (es := v2) (k := x2.sort) (z := 0) rfl rfl) : lkA [bG a1, mII v2, .cells 87 ((eFoll x2).map .p)] [1] .false .false [(.val (.int .i64 0))] .false (.mp 1) (i6 x2.sort) = some (i6 (mget 0 v2 x2.sort))) (apc (⟨up_row key_int (es := v2) (k := x2.sort) (v := (w6 ((mget 0 v2 x2.sort) + 1))) rfl, rfl⟩ : upA [bG a1, mII v2, .cells 87 ((eFoll x2).map .p)] [1] .false (.mp 1) (i6 x2.sort) (i6 (w6 ((mget 0 v2 x2.sort) + 1))) = some [bG a1, .map (mrow (fun n => vi .i64 n) (fun n => vi .i64 n) (mput x2.sort (w6 ((mget 0 v2 x2.sort) + 1)) v2)), .cells 87 ((eFoll x2).map .p)] ∧ ud = ud) (apc ((lk_row key_int (es := (mput x2.sort (w6 ((mget 0 v2 x2.sort) + 1)) v2)) (k := x2.sort) (z := 0) rfl rfl) : lkA [bG a1, .map (mrow (fun n => vi .i64 n) (fun n => vi .i64 n) (mput x2.sort (w6 ((mget 0 v2 x2.sort) + 1)) v2)), .cells 87 ((eFoll x2).map .p)] [1] .false .false [(.val (.int .i64 0))] .false (.mp 1) (i6 x2.sort) = some (i6 (mget 0 (mput x2.sort (w6 ((mget 0 v2 x2.sort) + 1)) v2) x2.sort))) (apc (cv h3) (apc (cv h4) apn))))))) (by kernel_rfl)
   ·
    refine bi h (fun h5 h => ?_) fun h5 h => ?_
    ·
     rw [← sj h]
     exact xretY (n := 30) [(11, .d true), (12, .v (.ro (eFoll x2))), (17, .v (i6 (mget 0 v2 x2.sort))), (7018, .r ud [bG a1, .map (mrow (fun n => vi .i64 n) (fun n => vi .i64 n) (mput x2.sort (w6 ((mget 0 v2 x2.sort) + 1)) v2)), .cells 87 ((eFoll x2).map .p)]), (22, .v (i6 (mget 0 (mput x2.sort (w6 ((mget 0 v2 x2.sort) + 1)) v2) x2.sort))), (23, .d false), (27, .d false), (34, .v (i6 (a1.sorts.length : Int))), (35, .d true), (6000, .d true)] (apc (cv h1) (apc (ig eFoll 5 .i64 h2) (apc ((lk_row key_int (es := v2) (k := x2.sort) (z := 0) rfl rfl) : lkA [bG a1, mII v2, .cells 87 ((eFoll x2).map .p)] [1] .false .false [(.val (.int .i64 0))] .false (.mp 1) (i6 x2.sort) = some (i6 (mget 0 v2 x2.sort))) (apc (⟨up_row key_int (es := v2) (k := x2.sort) (v := (w6 ((mget 0 v2 x2.sort) + 1))) rfl, rfl⟩ : upA [bG a1, mII v2, .cells 87 ((eFoll x2).map .p)] [1] .false (.mp 1) (i6 x2.sort) (i6 (w6 ((mget 0 v2 x2.sort) + 1))) = some [bG a1, .map (mrow (fun n => vi .i64 n) (fun n => vi .i64 n) (mput x2.sort (w6 ((mget 0 v2 x2.sort) + 1)) v2)), .cells 87 ((eFoll x2).map .p)] ∧ ud = ud) (apc ((lk_row key_int (es := (mput x2.sort (w6 ((mget 0 v2 x2.sort) + 1)) v2)) (k := x2.sort) (z := 0) rfl rfl) : lkA [bG a1, .map (mrow (fun n => vi .i64 n) (fun n => vi .i64 n) (mput x2.sort (w6 ((mget 0 v2 x2.sort) + 1)) v2)), .cells 87 ((eFoll x2).map .p)] [1] .false .false [(.val (.int .i64 0))] .false (.mp 1) (i6 x2.sort) = some (i6 (mget 0 (mput x2.sort (w6 ((mget 0 v2 x2.sort) + 1)) v2) x2.sort))) (apc (cv h3) (apc (cv h4) (apc (lg a1.sorts eStr 1) (apc (cv h5) apn))))))))) (by kernel_rfl)
    ·
     refine bi h (fun h6 h => ?_) fun h6 h => ?_
     ·
      rw [← sj h]
      exact xretY (n := 30) [(11, .d true), (12, .v (.ro (eFoll x2))), (17, .v (i6 (mget 0 v2 x2.sort))), (7018, .r ud [bG a1, .map (mrow (fun n => vi .i64 n) (fun n => vi .i64 n) (mput x2.sort (w6 ((mget 0 v2 x2.sort) + 1)) v2)), .cells 87 ((eFoll x2).map .p)]), (22, .v (i6 (mget 0 (mput x2.sort (w6 ((mget 0 v2 x2.sort) + 1)) v2) x2.sort))), (23, .d false), (27, .d false), (34, .v (i6 (a1.sorts.length : Int))), (35, .d false), (41, .d true), (6000, .d true)] (apc (cv h1) (apc (ig eFoll 5 .i64 h2) (apc ((lk_row key_int (es := v2) (k := x2.sort) (z := 0) rfl rfl) : lkA [bG a1, mII v2, .cells 87 ((eFoll x2).map .p)] [1] .false .false [(.val (.int .i64 0))] .false (.mp 1) (i6 x2.sort) = some (i6 (mget 0 v2 x2.sort))) (apc (⟨up_row key_int (es := v2) (k := x2.sort) (v := (w6 ((mget 0 v2 x2.sort) + 1))) rfl, rfl⟩ : upA [bG a1, mII v2, .cells 87 ((eFoll x2).map .p)] [1] .false (.mp 1) (i6 x2.sort) (i6 (w6 ((mget 0 v2 x2.sort) + 1))) = some [bG a1, .map (mrow (fun n => vi .i64 n) (fun n => vi .i64 n) (mput x2.sort (w6 ((mget 0 v2 x2.sort) + 1)) v2)), .cells 87 ((eFoll x2).map .p)] ∧ ud = ud) (apc ((lk_row key_int (es := (mput x2.sort (w6 ((mget 0 v2 x2.sort) + 1)) v2)) (k := x2.sort) (z := 0) rfl rfl) : lkA [bG a1, .map (mrow (fun n => vi .i64 n) (fun n => vi .i64 n) (mput x2.sort (w6 ((mget 0 v2 x2.sort) + 1)) v2)), .cells 87 ((eFoll x2).map .p)] [1] .false .false [(.val (.int .i64 0))] .false (.mp 1) (i6 x2.sort) = some (i6 (mget 0 (mput x2.sort (w6 ((mget 0 v2 x2.sort) + 1)) v2) x2.sort))) (apc (cv h3) (apc (cv h4) (apc (lg a1.sorts eStr 1) (apc (cv h5) (apc (cv h6) apn)))))))))) (by kernel_rfl)
     ·
      rw [← sj h]
      exact rnd (n := 30) [(11, .d true), (12, .v (.ro (eFoll x2))), (17, .v (i6 (mget 0 v2 x2.sort))), (7018, .r ud [bG a1, .map (mrow (fun n => vi .i64 n) (fun n => vi .i64 n) (mput x2.sort (w6 ((mget 0 v2 x2.sort) + 1)) v2)), .cells 87 ((eFoll x2).map .p)]), (22, .v (i6 (mget 0 (mput x2.sort (w6 ((mget 0 v2 x2.sort) + 1)) v2) x2.sort))), (23, .d false), (27, .d false), (34, .v (i6 (a1.sorts.length : Int))), (35, .d false), (41, .d false), (6000, .d true)] (apc (cv h1) (apc (ig eFoll 5 .i64 h2) (apc ((lk_row key_int (es := v2) (k := x2.sort) (z := 0) rfl rfl) : lkA [bG a1, mII v2, .cells 87 ((eFoll x2).map .p)] [1] .false .false [(.val (.int .i64 0))] .false (.mp 1) (i6 x2.sort) = some (i6 (mget 0 v2 x2.sort))) (apc (⟨up_row key_int (es := v2) (k := x2.sort) (v := (w6 ((mget 0 v2 x2.sort) + 1))) rfl, rfl⟩ : upA [bG a1, mII v2, .cells 87 ((eFoll x2).map .p)] [1] .false (.mp 1) (i6 x2.sort) (i6 (w6 ((mget 0 v2 x2.sort) + 1))) = some [bG a1, .map (mrow (fun n => vi .i64 n) (fun n => vi .i64 n) (mput x2.sort (w6 ((mget 0 v2 x2.sort) + 1)) v2)), .cells 87 ((eFoll x2).map .p)] ∧ ud = ud) (apc ((lk_row key_int (es := (mput x2.sort (w6 ((mget 0 v2 x2.sort) + 1)) v2)) (k := x2.sort) (z := 0) rfl rfl) : lkA [bG a1, .map (mrow (fun n => vi .i64 n) (fun n => vi .i64 n) (mput x2.sort (w6 ((mget 0 v2 x2.sort) + 1)) v2)), .cells 87 ((eFoll x2).map .p)] [1] .false .false [(.val (.int .i64 0))] .false (.mp 1) (i6 x2.sort) = some (i6 (mget 0 (mput x2.sort (w6 ((mget 0 v2 x2.sort) + 1)) v2) x2.sort))) (apc (cv h3) (apc (cv h4) (apc (lg a1.sorts eStr 1) (apc (cv h5) (apc (cv h6) (apc ((okT_of rfl (abl_cons rfl (abl_cons (abl_map (fun _ => rfl) (fun _ => rfl)) rfl))) : okT 2 [bG a1, .map (mrow (fun n => vi .i64 n) (fun n => vi .i64 n) (mput x2.sort (w6 ((mget 0 v2 x2.sort) + 1)) v2)), .cells 87 ((eFoll x2).map .p)] = true) apn))))))))))) (by kernel_rfl)
 ·
  rw [← sj h]
  exact xbrk (n := 30) [(11, .d false), (6000, .d true)] (apc (cv h1) apn) (by kernel_rfl)
theorem L60_0_run (a1 : GramD) (a2 : Int) (s0 : Int × (List (Int × Int))) (e : E_L60_0) (h : runL (fun s => L60_0 a1 a2 s.1 s.2) s0 = some e) : L60_0_x a1 a2 e (evH prg 2 [1, 3, 8, 9, 10] ir60_l0 (L60_0_s a1 a2 s0.1 s0.2)) := by
  have q := @loop_sound' (Int × (List (Int × Int))) E_L60_0 (fun s => L60_0 a1 a2 s.1 s.2) (fun s => evH prg 2 [1, 3, 8, 9, 10] ir60_l0 (L60_0_s a1 a2 s.1 s.2)) (L60_0_x a1 a2) (fun s r h => L60_0_ok a1 a2 s.1 s.2 h) s0 e h
  exact q
noncomputable def F60 (a1 : GramD) : Option Bool :=
  ((runL (fun s => L60_0 a1 (a1.follow.length : Int) s.1 s.2) (0, [])).bind fun r1 => match r1 with | .k0 => (some false) | .k1 x1_0 => (some true))
def F60_v (a1 : GramD) (x0 : Bool) : AV := (vb x0)
theorem F60_ok (a1 : GramD) {r : Bool} (h : F60 a1 = some r) : PR1 prg 60 [(aG a1)] (F60_v a1 r) := by
 unfold F60 at h
 refine bn h fun r1 h1 h => ?_
 cases r1 with
 | k0 =>
  obtain ⟨g1, y1, e1⟩ := L60_0_run a1 (a1.follow.length : Int) (0, []) _ h1
  rw [← sj h]
  exact fpr (n := 30) [(9, .v (i6 (a1.follow.length : Int))), (2000, .l .ret ⟨fr 44 g1 [(2, (vb false))], y1⟩), (6000, .d true)] (apc (lg a1.follow eFoll 5) (apc ((okT_of rfl (abl_cons rfl (abl_cons rfl rfl))) : okT 2 [bG a1, .map []] = true) (apc (e1 : evH prg 2 [1, 3, 8, 9, 10] ir60_l0 (L60_0_s a1 (a1.follow.length : Int) 0 ([])) = some (.ret, ⟨fr 44 g1 [(2, (vb false))], y1⟩)) apn))) rfl (by kernel_rfl)
 | k1 x1_0 =>
  obtain ⟨g1, e1⟩ := L60_0_run a1 (a1.follow.length : Int) (0, []) _ h1
  rw [← sj h]
  exact fpr (n := 30) [(9, .v (i6 (a1.follow.length : Int))), (2000, .l (.brk 0) ⟨fr 44 g1 [(1, (.ptr 0 0)), (8, (.p (.lst 5 (a1.follow.map eFoll))))], [bG a1, mII x1_0]⟩), (6000, .d true)] (apc (lg a1.follow eFoll 5) (apc ((okT_of rfl (abl_cons rfl (abl_cons rfl rfl))) : okT 2 [bG a1, .map []] = true) (apc (e1 : evH prg 2 [1, 3, 8, 9, 10] ir60_l0 (L60_0_s a1 (a1.follow.length : Int) 0 ([])) = some ((.brk 0), ⟨fr 44 g1 [(1, (.ptr 0 0)), (8, (.p (.lst 5 (a1.follow.map eFoll))))], [bG a1, mII x1_0]⟩)) apn))) rfl (by kernel_rfl)
inductive E_L29_0 where
  | k0
  | k1
noncomputable def L29_0 (a1 : GramD) (v1 : Int) : Option (E_L29_0 ⊕ (Int)) :=
  (bif (decide (v1 < 4)) then (bif (v1 == 0) then ((F57 a1).bind fun x3 => (bif x3 then (some (.inr ((IntKind.wrap .i64 (v1 + 1))))) else (some (.inl (.k0))))) else (bif (v1 == 1) then ((F58 a1).bind fun x4 => (bif x4 then (some (.inr ((IntKind.wrap .i64 (v1 + 1))))) else (some (.inl (.k0))))) else (bif (v1 == 2) then ((F59 a1).bind fun x5 => (bif x5 then (some (.inr ((IntKind.wrap .i64 (v1 + 1))))) else (some (.inl (.k0))))) else (bif (v1 == 3) then ((F60 a1).bind fun x6 => (bif x6 then (some (.inr ((IntKind.wrap .i64 (v1 + 1))))) else (some (.inl (.k0))))) else none)))) else (some (.inl (.k1))))
def L29_0_s (a1 : GramD) (v1 : Int) : St := ⟨fr 14 ug [(1, (.ptr 0 0)), (5, (.agg [(.fn 57 []), (.fn 58 []), (.fn 59 []), (.fn 60 [])])), (6, (i6 v1))], [bG a1]⟩
def L29_0_x (a1 : GramD) (e : E_L29_0) (r : Option (Out × St)) : Prop := match e with | .k0 => ∃ g y, r = some (.ret, ⟨fr 14 g [(2, (i6 160))], y⟩) | .k1 => ∃ g, r = some ((.brk 0), ⟨fr 14 g [], [bG a1]⟩)
theorem L29_0_ok (a1 : GramD) (v1 : Int) {r : E_L29_0 ⊕ (Int)} (h : L29_0 a1 v1 = some r) : OkR (fun e => L29_0_x a1 e (evH prg 1 [1, 5, 6] ir29_l0 (L29_0_s a1 v1))) (fun s => evH prg 1 [1, 5, 6] ir29_l0 (L29_0_s a1 v1) = evH prg 1 [1, 5, 6] ir29_l0 (L29_0_s a1 s)) r := by
 unfold L29_0 at h
 refine bi h (fun h1 h => ?_) fun h1 h => ?_
 ·
  refine bi h (fun h2 h => ?_) fun h2 h => ?_
  ·
   refine bn h fun x3 h3 h => ?_
   refine bi h (fun h4 h => ?_) fun h4 h => ?_
   ·
    rw [← sj h]
    exact rnd (n := 30) [(7, .d true), (8, .v (.fn 57 [])), (11, .v (vb true)), (6000, .d true)] (apc (cv h1) (apc ((ix_lit h2 (fun z => ixG false 4 1 (.agg [(.fn 57 []), (.fn 58 []), (.fn 59 []), (.fn 60 [])]) (i6 z)) rfl) : ixG false 4 1 (.agg [(.fn 57 []), (.fn 58 []), (.fn 59 []), (.fn 60 [])]) (i6 v1) = some (.fn 57 [])) (apc ((((F57_ok a1 h3).cp rfl _).trans (congrArg (fun z => some (vb z)) h4)) : CP prg 57 [(aG a1)] [bG a1] = some (vb true)) (apc ((okT_of rfl (abl_cons rfl rfl)) : okT 1 [bG a1] = true) apn)))) (by kernel_rfl)
   ·
    rw [← sj h]
    exact xretY (n := 30) [(7, .d true), (8, .v (.fn 57 [])), (11, .v (vb false)), (6000, .d true)] (apc (cv h1) (apc ((ix_lit h2 (fun z => ixG false 4 1 (.agg [(.fn 57 []), (.fn 58 []), (.fn 59 []), (.fn 60 [])]) (i6 z)) rfl) : ixG false 4 1 (.agg [(.fn 57 []), (.fn 58 []), (.fn 59 []), (.fn 60 [])]) (i6 v1) = some (.fn 57 [])) (apc ((((F57_ok a1 h3).cp rfl _).trans (congrArg (fun z => some (vb z)) h4)) : CP prg 57 [(aG a1)] [bG a1] = some (vb false)) apn))) (by kernel_rfl)
  ·
   refine bi h (fun h3 h => ?_) fun h3 h => ?_
   ·
    refine bn h fun x4 h4 h => ?_
    refine bi h (fun h5 h => ?_) fun h5 h => ?_
    ·
     rw [← sj h]
     exact rnd (n := 30) [(7, .d true), (8, .v (.fn 58 [])), (11, .v (vb true)), (6000, .d true)] (apc (cv h1) (apc ((ix_lit h3 (fun z => ixG false 4 1 (.agg [(.fn 57 []), (.fn 58 []), (.fn 59 []), (.fn 60 [])]) (i6 z)) rfl) : ixG false 4 1 (.agg [(.fn 57 []), (.fn 58 []), (.fn 59 []), (.fn 60 [])]) (i6 v1) = some (.fn 58 [])) (apc ((((F58_ok a1 h4).cp rfl _).trans (congrArg (fun z => some (vb z)) h5)) : CP prg 58 [(aG a1)] [bG a1] = some (vb true)) (apc ((okT_of rfl (abl_cons rfl rfl)) : okT 1 [bG a1] = true) apn)))) (by kernel_rfl)
    ·
     rw [← sj h]
     exact xretY (n := 30) [(7, .d true), (8, .v (.fn 58 [])), (11, .v (vb false)), (6000, .d true)] (apc (cv h1) (apc ((ix_lit h3 (fun z => ixG false 4 1 (.agg [(.fn 57 []), (.fn 58 []), (.fn 59 []), (.fn 60 [])]) (i6 z)) rfl) : ixG false 4 1 (.agg [(.fn 57 []), (.fn 58 []), (.fn 59 []), (.fn 60 [])]) (i6 v1) = some (.fn 58 [])) (apc ((((F58_ok a1 h4).cp rfl _).trans (congrArg (fun z => some (vb z)) h5)) : CP prg 58 [(aG a1)] [bG a1] = some (vb false)) apn))) (by kernel_rfl)
   ·
    refine bi h (fun h4 h => ?_) fun h4 h => ?_
    ·
     refine bn h fun x5 h5 h => ?_
     refine bi h (fun h6 h => ?_) fun h6 h => ?_
     ·
      rw [← sj h]
      exact rnd (n := 30) [(7, .d true), (8, .v (.fn 59 [])), (11, .v (vb true)), (6000, .d true)] (apc (cv h1) (apc ((ix_lit h4 (fun z => ixG false 4 1 (.agg [(.fn 57 []), (.fn 58 []), (.fn 59 []), (.fn 60 [])]) (i6 z)) rfl) : ixG false 4 1 (.agg [(.fn 57 []), (.fn 58 []), (.fn 59 []), (.fn 60 [])]) (i6 v1) = some (.fn 59 [])) (apc ((((F59_ok a1 h5).cp rfl _).trans (congrArg (fun z => some (vb z)) h6)) : CP prg 59 [(aG a1)] [bG a1] = some (vb true)) (apc ((okT_of rfl (abl_cons rfl rfl)) : okT 1 [bG a1] = true) apn)))) (by kernel_rfl)
     ·
      rw [← sj h]
      exact xretY (n := 30) [(7, .d true), (8, .v (.fn 59 [])), (11, .v (vb false)), (6000, .d true)] (apc (cv h1) (apc ((ix_lit h4 (fun z => ixG false 4 1 (.agg [(.fn 57 []), (.fn 58 []), (.fn 59 []), (.fn 60 [])]) (i6 z)) rfl) : ixG false 4 1 (.agg [(.fn 57 []), (.fn 58 []), (.fn 59 []), (.fn 60 [])]) (i6 v1) = some (.fn 59 [])) (apc ((((F59_ok a1 h5).cp rfl _).trans (congrArg (fun z => some (vb z)) h6)) : CP prg 59 [(aG a1)] [bG a1] = some (vb false)) apn))) (by kernel_rfl)
    ·
     refine bi h (fun h5 h => ?_) fun h5 h => ?_
     ·
      refine bn h fun x6 h6 h => ?_
      refine bi h (fun h7 h => ?_) fun h7 h => ?_
      ·
       rw [← sj h]
       exact rnd (n := 30) [(7, .d true), (8, .v (.fn 60 [])), (11, .v (vb true)), (6000, .d true)] (apc (cv h1) (apc ((ix_lit h5 (fun z => ixG false 4 1 (.agg [(.fn 57 []), (.fn 58 []), (.fn 59 []), (.fn 60 [])]) (i6 z)) rfl) : ixG false 4 1 (.agg [(.fn 57 []), (.fn 58 []), (.fn 59 []), (.fn 60 [])]) (i6 v1) = some (.fn 60 [])) (apc ((((F60_ok a1 h6).cp rfl _).trans (congrArg (fun z => some (vb z)) h7)) : CP prg 60 [(aG a1)] [bG a1] = some (vb true)) (apc ((okT_of rfl (abl_cons rfl rfl)) : okT 1 [bG a1] = true) apn)))) (by kernel_rfl)
      ·
       rw [← sj h]
       exact xretY (n := 30) [(7, .d true), (8, .v (.fn 60 [])), (11, .v (vb false)), (6000, .d true)] (apc (cv h1) (apc ((ix_lit h5 (fun z => ixG false 4 1 (.agg [(.fn 57 []), (.fn 58 []), (.fn 59 []), (.fn 60 [])]) (i6 z)) rfl) : ixG false 4 1 (.agg [(.fn 57 []), (.fn 58 []), (.fn 59 []), (.fn 60 [])]) (i6 v1) = some (.fn 60 [])) (apc ((((F60_ok a1 h6).cp rfl _).trans (congrArg (fun z => some (vb z)) h7)) : CP prg 60 [(aG a1)] [bG a1] = some (vb false)) apn))) (by kernel_rfl)
     ·
      cases h
 ·
  rw [← sj h]
  exact xbrk (n := 30) [(7, .d false), (6000, .d true)] (apc (cv h1) apn) (by kernel_rfl)
theorem L29_0_run (a1 : GramD) (s0 : Int) (e : E_L29_0) (h : runL (fun s => L29_0 a1 s) s0 = some e) : L29_0_x a1 e (evH prg 1 [1, 5, 6] ir29_l0 (L29_0_s a1 s0)) := by
  have q := @loop_sound' (Int) E_L29_0 (fun s => L29_0 a1 s) (fun s => evH prg 1 [1, 5, 6] ir29_l0 (L29_0_s a1 s)) (L29_0_x a1) (fun s r h => L29_0_ok a1 s h) s0 e h
  exact q
noncomputable def F29 (a1 : GramD) : Option Int :=
  ((runL (fun s => L29_0 a1 s) 0).bind fun r1 => match r1 with | .k0 => (some 160) | .k1 => (some 0))
def F29_v (a1 : GramD) (x0 : Int) : AV := (i6 x0)
theorem F29_ok (a1 : GramD) {r : Int} (h : F29 a1 = some r) : PR1 prg 29 [(aG a1)] (F29_v a1 r) := by
 unfold F29 at h
 refine bn h fun r1 h1 h => ?_
 cases r1 with
 | k0 =>
  obtain ⟨g1, y1, e1⟩ := L29_0_run a1 0 _ h1
  rw [← sj h]
  exact fpr (n := 30) [(2000, .l .ret ⟨fr 14 g1 [(2, (i6 160))], y1⟩), (6000, .d true)] (apc ((okT_of rfl (abl_cons rfl rfl)) : okT 1 [bG a1] = true) (apc (e1 : evH prg 1 [1, 5, 6] ir29_l0 (L29_0_s a1 0) = some (.ret, ⟨fr 14 g1 [(2, (i6 160))], y1⟩)) apn)) rfl (by kernel_rfl)
 | k1 =>
  obtain ⟨g1, e1⟩ := L29_0_run a1 0 _ h1
  rw [← sj h]
  exact fpr (n := 30) [(2000, .l (.brk 0) ⟨fr 14 g1 [], [bG a1]⟩), (6000, .d true)] (apc ((okT_of rfl (abl_cons rfl rfl)) : okT 1 [bG a1] = true) (apc (e1 : evH prg 1 [1, 5, 6] ir29_l0 (L29_0_s a1 0) = some ((.brk 0), ⟨fr 14 g1 [], [bG a1]⟩)) apn)) rfl (by kernel_rfl)
noncomputable def F15 (a1 : Int) : Option Int :=
  (some a1)
def F15_v (a1 : Int) (x0 : Int) : AV := (i6 x0)
theorem F15_ok (a1 : Int) {r : Int} (h : F15 a1 = some r) : PR1 prg 15 [(i6 a1)] (F15_v a1 r) := by
 unfold F15 at h
 rw [← sj h]
 exact fpr (n := 30) [] apn rfl (by kernel_rfl)
inductive E_L45_0 where
  | k0 (x0 : List Int)
noncomputable def L45_0 (a1 : Int) (a5 : Nat) (v1 : Int) (v2 : List Int) : Option (E_L45_0 ⊕ (Int × (List Int))) :=
  (bif (decide (v1 < a1)) then ((ixN a5 v1).bind fun x2 => ((v2[x2]?).bind fun x3 => (some (.inr ((IntKind.wrap .i64 (v1 + 1)), (v2.set x2 (-1))))))) else (some (.inl (.k0 v2))))
def L45_0_s (a1 : Int) (a2 : GramD) (a4 : List Bool) (a5 : Nat) (v1 : Int) (v2 : List Int) : St := ⟨fr 42 ug [(5, (.ptr 4 0)), (27, (i6 a1)), (28, (i6 v1))], [bG a2, bI v2, bB a4, .cells 93 (ap (eGram a2) [(.sl 1 0 1 0 a5), (.sl 2 0 1 0 a5)]), .cells 89 [(.ptr 3 0)]]⟩
def L45_0_x (a1 : Int) (a2 : GramD) (a4 : List Bool) (a5 : Nat) (e : E_L45_0) (r : Option (Out × St)) : Prop := match e with | .k0 x0 => ∃ g, r = some ((.brk 0), ⟨fr 42 g [(5, (.ptr 4 0))], [bG a2, bI x0, bB a4, .cells 93 (ap (eGram a2) [(.sl 1 0 1 0 a5), (.sl 2 0 1 0 a5)]), .cells 89 [(.ptr 3 0)]]⟩)
theorem L45_0_ok (a1 : Int) (a2 : GramD) (a4 : List Bool) (a5 : Nat) (v1 : Int) (v2 : List Int) {r : E_L45_0 ⊕ (Int × (List Int))} (h : L45_0 a1 a5 v1 v2 = some r) : OkR (fun e => L45_0_x a1 a2 a4 a5 e (evH prg 5 [5, 27, 28] ir45_l0 (L45_0_s a1 a2 a4 a5 v1 v2))) (fun s => evH prg 5 [5, 27, 28] ir45_l0 (L45_0_s a1 a2 a4 a5 v1 v2) = evH prg 5 [5, 27, 28] ir45_l0 (L45_0_s a1 a2 a4 a5 s.1 s.2)) r := by
 unfold L45_0 at h
 refine bi h (fun h1 h => ?_) fun h1 h => ?_
 ·
  refine bn h fun x2 h2 h => ?_
  refine bn h fun x3 h3 h => ?_
  rw [← sj h]
  exact rnd (n := 30) [(29, .d true), (36, .v (.rp 1 0 1 x2 0)), (1036, .r ud [bG a2, .row 3 1 0 (ra eI64 (v2.set x2 (-1))), bB a4, .cells 93 (ap (eGram a2) [(.sl 1 0 1 0 a5), (.sl 2 0 1 0 a5)]), .cells 89 [(.ptr 3 0)]]), (6000, .d true)] (apc (cv h1) (apc ((idx_sl h2) : idxA 1 (.sl 1 0 1 0 a5) (i6 v1) = some (.rp 1 0 1 x2 0)) (apc (⟨st_row (v' := (-1)) rfl h3 rfl rfl (Nat.le_of_ble_eq_true rfl) rfl, rfl⟩ : stA [bG a2, bI v2, bB a4, .cells 93 (ap (eGram a2) [(.sl 1 0 1 0 a5), (.sl 2 0 1 0 a5)]), .cells 89 [(.ptr 3 0)]] 1 (.rp 1 0 1 x2 0) (i6 (-1)) = some [bG a2, .row 3 1 0 (ra eI64 (v2.set x2 (-1))), bB a4, .cells 93 (ap (eGram a2) [(.sl 1 0 1 0 a5), (.sl 2 0 1 0 a5)]), .cells 89 [(.ptr 3 0)]] ∧ ud = ud) (apc ((okT_of rfl (abl_cons rfl (abl_cons abl_row (abl_cons abl_row (abl_cons rfl (abl_cons rfl rfl)))))) : okT 5 [bG a2, .row 3 1 0 (ra eI64 (v2.set x2 (-1))), bB a4, .cells 93 (ap (eGram a2) [(.sl 1 0 1 0 a5), (.sl 2 0 1 0 a5)]), .cells 89 [(.ptr 3 0)]] = true) apn)))) (by kernel_rfl)
 ·
  rw [← sj h]
  exact xbrk (n := 30) [(29, .d false), (6000, .d true)] (apc (cv h1) apn) (by kernel_rfl)
theorem L45_0_run (a1 : Int) (a2 : GramD) (a4 : List Bool) (a5 : Nat) (s0 : Int × (List Int)) (e : E_L45_0) (h : runL (fun s => L45_0 a1 a5 s.1 s.2) s0 = some e) : L45_0_x a1 a2 a4 a5 e (evH prg 5 [5, 27, 28] ir45_l0 (L45_0_s a1 a2 a4 a5 s0.1 s0.2)) := by
  have q := @loop_sound' (Int × (List Int)) E_L45_0 (fun s => L45_0 a1 a5 s.1 s.2) (fun s => evH prg 5 [5, 27, 28] ir45_l0 (L45_0_s a1 a2 a4 a5 s.1 s.2)) (L45_0_x a1 a2 a4 a5) (fun s r h => L45_0_ok a1 a2 a4 a5 s.1 s.2 h) s0 e h
  exact q
noncomputable def F54 (a1 : ProdD) : Option Bool :=
  (some (a1.role != 11))
def F54_v (a1 : ProdD) (x0 : Bool) : AV := (vb x0)
theorem F54_ok (a1 : ProdD) {r : Bool} (h : F54 a1 = some r) : PR1 prg 54 [(aP a1)] (F54_v a1 r) := by
 unfold F54 at h
 rw [← sj h]
 exact fpr (n := 30) [] apn rfl (by kernel_rfl)
inductive E_L48_0 where
  | k0
  | k1 (x0 : Int)
noncomputable def L48_0 (a2 : List Int) (a4 : ProdD) (a5 : Int) (v1 : Int) (v2 : Int) : Option (E_L48_0 ⊕ (Int × Int)) :=
  (bif (decide (v2 < a5)) then ((getI a4.right v2).bind fun x2 => (bif (x2.kind == 1) then ((getI a2 x2.sort).bind fun x4 => (bif (decide (x4 < 0)) then (some (.inl (.k0))) else (some (.inr ((if 1048577 < (IntKind.wrap .i64 (v1 + x4)) then 1048577 else (IntKind.wrap .i64 (v1 + x4))), (IntKind.wrap .i64 (v2 + 1))))))) else (some (.inr ((if 1048577 < (IntKind.wrap .i64 (v1 + 1)) then 1048577 else (IntKind.wrap .i64 (v1 + 1))), (IntKind.wrap .i64 (v2 + 1))))))) else (some (.inl (.k1 v1))))
def L48_0_s (a1 : GramD) (a2 : List Int) (a3 : List Bool) (a4 : ProdD) (a5 : Int) (v1 : Int) (v2 : Int) : St := ⟨fr 35 ug [(0, (.ro (eOp a1 a2 a3))), (5, (i6 v1)), (10, (.p (.lst 6 (a4.right.map eSym)))), (11, (i6 a5)), (12, (i6 v2))], [bP a4]⟩
def L48_0_x (a1 : GramD) (a2 : List Int) (a3 : List Bool) (a4 : ProdD) (a5 : Int) (e : E_L48_0) (r : Option (Out × St)) : Prop := match e with | .k0 => ∃ g y, r = some (.ret, ⟨fr 35 g [(4, (i6 (-1)))], y⟩) | .k1 x0 => ∃ g, r = some ((.brk 0), ⟨fr 35 g [(5, (i6 x0)), (10, (.p (.lst 6 (a4.right.map eSym))))], [bP a4]⟩)
theorem L48_0_ok (a1 : GramD) (a2 : List Int) (a3 : List Bool) (a4 : ProdD) (a5 : Int) (v1 : Int) (v2 : Int) {r : E_L48_0 ⊕ (Int × Int)} (h : L48_0 a2 a4 a5 v1 v2 = some r) : OkR (fun e => L48_0_x a1 a2 a3 a4 a5 e (evH prg 1 [0, 5, 10, 11, 12] ir48_l0 (L48_0_s a1 a2 a3 a4 a5 v1 v2))) (fun s => evH prg 1 [0, 5, 10, 11, 12] ir48_l0 (L48_0_s a1 a2 a3 a4 a5 v1 v2) = evH prg 1 [0, 5, 10, 11, 12] ir48_l0 (L48_0_s a1 a2 a3 a4 a5 s.1 s.2)) r := by
 unfold L48_0 at h
 refine bi h (fun h1 h => ?_) fun h1 h => ?_
 ·
  refine bn h fun x2 h2 h => ?_
  refine bi h (fun h3 h => ?_) fun h3 h => ?_
  ·
   refine bn h fun x4 h4 h => ?_
   refine bi h (fun h5 h => ?_) fun h5 h => ?_
   ·
    rw [← sj h]
    exact xretY (n := 30) [(13, .d true), (14, .v (.ro (eSym x2))), (18, .d true), (25, .v (.ro [.val (.int .i64 x4)])), (28, .d true), (6000, .d true)] (apc (cv h1) (apc (ig eSym 6 .i64 h2) (apc (cv h3) (apc (ig eI64 1 .i64 h4) (apc (cv h5) apn))))) (by kernel_rfl)
   ·
    rw [← sj h]
    exact rnd (n := 30) [(13, .d true), (14, .v (.ro (eSym x2))), (18, .d true), (25, .v (.ro [.val (.int .i64 x4)])), (28, .d false), (6000, .d true)] (apc (cv h1) (apc (ig eSym 6 .i64 h2) (apc (cv h3) (apc (ig eI64 1 .i64 h4) (apc (cv h5) (apc ((okT_of rfl (abl_cons rfl rfl)) : okT 1 [bP a4, .cells 48 ((eSym x2).map .p)] = true) apn)))))) (by kernel_rfl)
  ·
   rw [← sj h]
   exact rnd (n := 30) [(13, .d true), (14, .v (.ro (eSym x2))), (18, .d false), (6000, .d true)] (apc (cv h1) (apc (ig eSym 6 .i64 h2) (apc (cv h3) (apc ((okT_of rfl (abl_cons rfl rfl)) : okT 1 [bP a4, .cells 48 ((eSym x2).map .p)] = true) apn)))) (by kernel_rfl)
 ·
  rw [← sj h]
  exact xbrk (n := 30) [(13, .d false), (6000, .d true)] (apc (cv h1) apn) (by kernel_rfl)
theorem L48_0_run (a1 : GramD) (a2 : List Int) (a3 : List Bool) (a4 : ProdD) (a5 : Int) (s0 : Int × Int) (e : E_L48_0) (h : runL (fun s => L48_0 a2 a4 a5 s.1 s.2) s0 = some e) : L48_0_x a1 a2 a3 a4 a5 e (evH prg 1 [0, 5, 10, 11, 12] ir48_l0 (L48_0_s a1 a2 a3 a4 a5 s0.1 s0.2)) := by
  have q := @loop_sound' (Int × Int) E_L48_0 (fun s => L48_0 a2 a4 a5 s.1 s.2) (fun s => evH prg 1 [0, 5, 10, 11, 12] ir48_l0 (L48_0_s a1 a2 a3 a4 a5 s.1 s.2)) (L48_0_x a1 a2 a3 a4 a5) (fun s r h => L48_0_ok a1 a2 a3 a4 a5 s.1 s.2 h) s0 e h
  exact q
noncomputable def F48 (a2 : List Int) (a4 : ProdD) : Option Int :=
  ((runL (fun s => L48_0 a2 a4 (a4.right.length : Int) s.1 s.2) (0, 0)).bind fun r1 => match r1 with | .k0 => (some (-1)) | .k1 x1_0 => (some x1_0))
def F48_v (a1 : GramD) (a2 : List Int) (a3 : List Bool) (a4 : ProdD) (x0 : Int) : AV := (i6 x0)
theorem F48_ok (a1 : GramD) (a2 : List Int) (a3 : List Bool) (a4 : ProdD) {r : Int} (h : F48 a2 a4 = some r) : PR1 prg 48 [(.ro (eOp a1 a2 a3)), (aP a4)] (F48_v a1 a2 a3 a4 r) := by
 unfold F48 at h
 refine bn h fun r1 h1 h => ?_
 cases r1 with
 | k0 =>
  obtain ⟨g1, y1, e1⟩ := L48_0_run a1 a2 a3 a4 (a4.right.length : Int) (0, 0) _ h1
  rw [← sj h]
  exact fpr (n := 30) [(11, .v (i6 (a4.right.length : Int))), (2000, .l .ret ⟨fr 35 g1 [(4, (i6 (-1)))], y1⟩), (6000, .d true)] (apc (lg a4.right eSym 6) (apc ((okT_of rfl (abl_cons rfl rfl)) : okT 1 [bP a4] = true) (apc (e1 : evH prg 1 [0, 5, 10, 11, 12] ir48_l0 (L48_0_s a1 a2 a3 a4 (a4.right.length : Int) 0 0) = some (.ret, ⟨fr 35 g1 [(4, (i6 (-1)))], y1⟩)) apn))) rfl (by kernel_rfl)
 | k1 x1_0 =>
  obtain ⟨g1, e1⟩ := L48_0_run a1 a2 a3 a4 (a4.right.length : Int) (0, 0) _ h1
  rw [← sj h]
  exact fpr (n := 30) [(11, .v (i6 (a4.right.length : Int))), (2000, .l (.brk 0) ⟨fr 35 g1 [(5, (i6 x1_0)), (10, (.p (.lst 6 (a4.right.map eSym))))], [bP a4]⟩), (6000, .d true)] (apc (lg a4.right eSym 6) (apc ((okT_of rfl (abl_cons rfl rfl)) : okT 1 [bP a4] = true) (apc (e1 : evH prg 1 [0, 5, 10, 11, 12] ir48_l0 (L48_0_s a1 a2 a3 a4 (a4.right.length : Int) 0 0) = some ((.brk 0), ⟨fr 35 g1 [(5, (i6 x1_0)), (10, (.p (.lst 6 (a4.right.map eSym))))], [bP a4]⟩)) apn))) rfl (by kernel_rfl)
inductive R_F69 where
  | k0 (x0 : Bool) (x1 : List Int) (x2 : List Bool)
noncomputable def F69 (a1 : ProdD) (a3 : List Int) (a4 : List Bool) (a5 : Nat) : Option R_F69 :=
  (bif (decide (a5 ≤ a3.length)) then (bif (decide (a5 ≤ a4.length)) then ((F48 (a3.take a5) a1).bind fun x3 => ((ixN a5 a1.left).bind fun x4 => ((a3[x4]?).bind fun x5 => (bif (decide (x3 < 0)) then (some (.k0 false a3 a4)) else (bif (decide (x5 ≥ 0)) then (bif (decide (x5 ≤ x3)) then (some (.k0 false a3 a4)) else ((a4[x4]?).bind fun x9 => (some (.k0 true (a3.set x4 x3) (a4.set x4 (x3 == 0)))))) else ((a4[x4]?).bind fun x8 => (some (.k0 true (a3.set x4 x3) (a4.set x4 (x3 == 0)))))))))) else none) else none)
def F69_v (a1 : ProdD) (a2 : GramD) (a3 : List Int) (a4 : List Bool) (a5 : Nat) (r : R_F69) : AV := match r with | .k0 x0 x1 x2 => (vb x0)
def F69_h (a1 : ProdD) (a2 : GramD) (a3 : List Int) (a4 : List Bool) (a5 : Nat) (r : R_F69) : List AB := match r with | .k0 x0 x1 x2 => [bG a2, bI x1, bB x2, .cells 93 (ap (eGram a2) [(.sl 1 0 1 0 a5), (.sl 2 0 1 0 a5)]), .cells 89 [(.ptr 3 0)], .row 48 6 0 (ra eSym []), bP a1, bP a1]
theorem F69_ok (a1 : ProdD) (a2 : GramD) (a3 : List Int) (a4 : List Bool) (a5 : Nat) {r : R_F69} (h : F69 a1 a3 a4 a5 = some r) : CS prg 69 [(aP a1), (.ptr 4 0)] [bG a2, bI a3, bB a4, .cells 93 (ap (eGram a2) [(.sl 1 0 1 0 a5), (.sl 2 0 1 0 a5)]), .cells 89 [(.ptr 3 0)], .row 48 6 0 (ra eSym []), bP a1] = some (F69_v a1 a2 a3 a4 a5 r, F69_h a1 a2 a3 a4 a5 r) := by
 unfold F69 at h
 refine bi h (fun h1 h => ?_) fun h1 h => ?_
 ·
  refine bi h (fun h2 h => ?_) fun h2 h => ?_
  ·
   refine bn h fun x3 h3 h => ?_
   refine bn h fun x4 h4 h => ?_
   refine bn h fun x5 h5 h => ?_
   refine bi h (fun h6 h => ?_) fun h6 h => ?_
   ·
    rw [← sj h]
    exact fcs (n := 30) [(8, .v (i6 x3)), (15, .v (.rp 1 0 1 x4 0)), (16, .v (i6 x5)), (18, .d true)] (apc (((F48_ok a2 (a3.take a5) (a4.take a5) a1 h3).own rfl (purAs_cons (purA_ptr rfl (mapO_con rfl (mapO_con rfl (mapO_con rfl (mapO_con rfl (mapO_con rfl (mapO_con (purP_sl rfl h1) (mapO_con (purP_sl rfl h2) rfl)))))))) (purAs_cons rfl purAs_nil)) rfl) : CP prg 48 [(.ptr 3 0), (aP a1)] [bG a2, bI a3, bB a4, .cells 93 (ap (eGram a2) [(.sl 1 0 1 0 a5), (.sl 2 0 1 0 a5)]), .cells 89 [(.ptr 3 0)], .row 48 6 0 (ra eSym []), bP a1, bP a1] = some (i6 x3)) (apc ((idx_sl h4) : idxA 1 (.sl 1 0 1 0 a5) (i6 a1.left) = some (.rp 1 0 1 x4 0)) (apc ((ld_row rfl h5 rfl) : ldA [bG a2, bI a3, bB a4, .cells 93 (ap (eGram a2) [(.sl 1 0 1 0 a5), (.sl 2 0 1 0 a5)]), .cells 89 [(.ptr 3 0)], .row 48 6 0 (ra eSym []), bP a1, bP a1] .false 1 (.rp 1 0 1 x4 0) = some (i6 x5)) (apc (cv h6) apn)))) (by kernel_rfl)
   ·
    refine bi h (fun h7 h => ?_) fun h7 h => ?_
    ·
     refine bi h (fun h8 h => ?_) fun h8 h => ?_
     ·
      rw [← sj h]
      exact fcs (n := 30) [(8, .v (i6 x3)), (15, .v (.rp 1 0 1 x4 0)), (16, .v (i6 x5)), (18, .d false), (21, .d true), (25, .d true)] (apc (((F48_ok a2 (a3.take a5) (a4.take a5) a1 h3).own rfl (purAs_cons (purA_ptr rfl (mapO_con rfl (mapO_con rfl (mapO_con rfl (mapO_con rfl (mapO_con rfl (mapO_con (purP_sl rfl h1) (mapO_con (purP_sl rfl h2) rfl)))))))) (purAs_cons rfl purAs_nil)) rfl) : CP prg 48 [(.ptr 3 0), (aP a1)] [bG a2, bI a3, bB a4, .cells 93 (ap (eGram a2) [(.sl 1 0 1 0 a5), (.sl 2 0 1 0 a5)]), .cells 89 [(.ptr 3 0)], .row 48 6 0 (ra eSym []), bP a1, bP a1] = some (i6 x3)) (apc ((idx_sl h4) : idxA 1 (.sl 1 0 1 0 a5) (i6 a1.left) = some (.rp 1 0 1 x4 0)) (apc ((ld_row rfl h5 rfl) : ldA [bG a2, bI a3, bB a4, .cells 93 (ap (eGram a2) [(.sl 1 0 1 0 a5), (.sl 2 0 1 0 a5)]), .cells 89 [(.ptr 3 0)], .row 48 6 0 (ra eSym []), bP a1, bP a1] .false 1 (.rp 1 0 1 x4 0) = some (i6 x5)) (apc (cv h6) (apc (cv h7) (apc (cv h8) apn)))))) (by kernel_rfl)
     ·
      refine bn h fun x9 h9 h => ?_
      rw [← sj h]
      exact fcs (n := 30) [(8, .v (i6 x3)), (15, .v (.rp 1 0 1 x4 0)), (16, .v (i6 x5)), (18, .d false), (21, .d true), (25, .d false), (35, .v (.rp 1 0 1 x4 0)), (1035, .r ud [bG a2, .row 3 1 0 (ra eI64 (a3.set x4 x3)), bB a4, .cells 93 (ap (eGram a2) [(.sl 1 0 1 0 a5), (.sl 2 0 1 0 a5)]), .cells 89 [(.ptr 3 0)], .row 48 6 0 (ra eSym []), bP a1, bP a1]), (44, .v (.rp 2 0 1 x4 0)), (1044, .r ud [bG a2, .row 3 1 0 (ra eI64 (a3.set x4 x3)), .row 4 1 0 (ra eBool (a4.set x4 (x3 == 0))), .cells 93 (ap (eGram a2) [(.sl 1 0 1 0 a5), (.sl 2 0 1 0 a5)]), .cells 89 [(.ptr 3 0)], .row 48 6 0 (ra eSym []), bP a1, bP a1])] (apc (((F48_ok a2 (a3.take a5) (a4.take a5) a1 h3).own rfl (purAs_cons (purA_ptr rfl (mapO_con rfl (mapO_con rfl (mapO_con rfl (mapO_con rfl (mapO_con rfl (mapO_con (purP_sl rfl h1) (mapO_con (purP_sl rfl h2) rfl)))))))) (purAs_cons rfl purAs_nil)) rfl) : CP prg 48 [(.ptr 3 0), (aP a1)] [bG a2, bI a3, bB a4, .cells 93 (ap (eGram a2) [(.sl 1 0 1 0 a5), (.sl 2 0 1 0 a5)]), .cells 89 [(.ptr 3 0)], .row 48 6 0 (ra eSym []), bP a1, bP a1] = some (i6 x3)) (apc ((idx_sl h4) : idxA 1 (.sl 1 0 1 0 a5) (i6 a1.left) = some (.rp 1 0 1 x4 0)) (apc ((ld_row rfl h5 rfl) : ldA [bG a2, bI a3, bB a4, .cells 93 (ap (eGram a2) [(.sl 1 0 1 0 a5), (.sl 2 0 1 0 a5)]), .cells 89 [(.ptr 3 0)], .row 48 6 0 (ra eSym []), bP a1, bP a1] .false 1 (.rp 1 0 1 x4 0) = some (i6 x5)) (apc (cv h6) (apc (cv h7) (apc (cv h8) (apc ((idx_sl h4) : idxA 1 (.sl 1 0 1 0 a5) (i6 a1.left) = some (.rp 1 0 1 x4 0)) (apc (⟨st_row (v' := x3) rfl h5 rfl rfl (Nat.le_of_ble_eq_true rfl) rfl, rfl⟩ : stA [bG a2, bI a3, bB a4, .cells 93 (ap (eGram a2) [(.sl 1 0 1 0 a5), (.sl 2 0 1 0 a5)]), .cells 89 [(.ptr 3 0)], .row 48 6 0 (ra eSym []), bP a1, bP a1] 1 (.rp 1 0 1 x4 0) (i6 x3) = some [bG a2, .row 3 1 0 (ra eI64 (a3.set x4 x3)), bB a4, .cells 93 (ap (eGram a2) [(.sl 1 0 1 0 a5), (.sl 2 0 1 0 a5)]), .cells 89 [(.ptr 3 0)], .row 48 6 0 (ra eSym []), bP a1, bP a1] ∧ ud = ud) (apc ((idx_sl h4) : idxA 1 (.sl 2 0 1 0 a5) (i6 a1.left) = some (.rp 2 0 1 x4 0)) (apc (⟨st_row (v' := (x3 == 0)) rfl h9 rfl rfl (Nat.le_of_ble_eq_true rfl) rfl, rfl⟩ : stA [bG a2, .row 3 1 0 (ra eI64 (a3.set x4 x3)), bB a4, .cells 93 (ap (eGram a2) [(.sl 1 0 1 0 a5), (.sl 2 0 1 0 a5)]), .cells 89 [(.ptr 3 0)], .row 48 6 0 (ra eSym []), bP a1, bP a1] 1 (.rp 2 0 1 x4 0) (vb (x3 == 0)) = some [bG a2, .row 3 1 0 (ra eI64 (a3.set x4 x3)), .row 4 1 0 (ra eBool (a4.set x4 (x3 == 0))), .cells 93 (ap (eGram a2) [(.sl 1 0 1 0 a5), (.sl 2 0 1 0 a5)]), .cells 89 [(.ptr 3 0)], .row 48 6 0 (ra eSym []), bP a1, bP a1] ∧ ud = ud) apn)))))))))) (by kernel_rfl)
    ·
     refine bn h fun x8 h8 h => ?_
     rw [← sj h]
     exact fcs (n := 30) [(8, .v (i6 x3)), (15, .v (.rp 1 0 1 x4 0)), (16, .v (i6 x5)), (18, .d false), (21, .d false), (35, .v (.rp 1 0 1 x4 0)), (1035, .r ud [bG a2, .row 3 1 0 (ra eI64 (a3.set x4 x3)), bB a4, .cells 93 (ap (eGram a2) [(.sl 1 0 1 0 a5), (.sl 2 0 1 0 a5)]), .cells 89 [(.ptr 3 0)], .row 48 6 0 (ra eSym []), bP a1, bP a1]), (44, .v (.rp 2 0 1 x4 0)), (1044, .r ud [bG a2, .row 3 1 0 (ra eI64 (a3.set x4 x3)), .row 4 1 0 (ra eBool (a4.set x4 (x3 == 0))), .cells 93 (ap (eGram a2) [(.sl 1 0 1 0 a5), (.sl 2 0 1 0 a5)]), .cells 89 [(.ptr 3 0)], .row 48 6 0 (ra eSym []), bP a1, bP a1])] (apc (((F48_ok a2 (a3.take a5) (a4.take a5) a1 h3).own rfl (purAs_cons (purA_ptr rfl (mapO_con rfl (mapO_con rfl (mapO_con rfl (mapO_con rfl (mapO_con rfl (mapO_con (purP_sl rfl h1) (mapO_con (purP_sl rfl h2) rfl)))))))) (purAs_cons rfl purAs_nil)) rfl) : CP prg 48 [(.ptr 3 0), (aP a1)] [bG a2, bI a3, bB a4, .cells 93 (ap (eGram a2) [(.sl 1 0 1 0 a5), (.sl 2 0 1 0 a5)]), .cells 89 [(.ptr 3 0)], .row 48 6 0 (ra eSym []), bP a1, bP a1] = some (i6 x3)) (apc ((idx_sl h4) : idxA 1 (.sl 1 0 1 0 a5) (i6 a1.left) = some (.rp 1 0 1 x4 0)) (apc ((ld_row rfl h5 rfl) : ldA [bG a2, bI a3, bB a4, .cells 93 (ap (eGram a2) [(.sl 1 0 1 0 a5), (.sl 2 0 1 0 a5)]), .cells 89 [(.ptr 3 0)], .row 48 6 0 (ra eSym []), bP a1, bP a1] .false 1 (.rp 1 0 1 x4 0) = some (i6 x5)) (apc (cv h6) (apc (cv h7) (apc ((idx_sl h4) : idxA 1 (.sl 1 0 1 0 a5) (i6 a1.left) = some (.rp 1 0 1 x4 0)) (apc (⟨st_row (v' := x3) rfl h5 rfl rfl (Nat.le_of_ble_eq_true rfl) rfl, rfl⟩ : stA [bG a2, bI a3, bB a4, .cells 93 (ap (eGram a2) [(.sl 1 0 1 0 a5), (.sl 2 0 1 0 a5)]), .cells 89 [(.ptr 3 0)], .row 48 6 0 (ra eSym []), bP a1, bP a1] 1 (.rp 1 0 1 x4 0) (i6 x3) = some [bG a2, .row 3 1 0 (ra eI64 (a3.set x4 x3)), bB a4, .cells 93 (ap (eGram a2) [(.sl 1 0 1 0 a5), (.sl 2 0 1 0 a5)]), .cells 89 [(.ptr 3 0)], .row 48 6 0 (ra eSym []), bP a1, bP a1] ∧ ud = ud) (apc ((idx_sl h4) : idxA 1 (.sl 2 0 1 0 a5) (i6 a1.left) = some (.rp 2 0 1 x4 0)) (apc (⟨st_row (v' := (x3 == 0)) rfl h8 rfl rfl (Nat.le_of_ble_eq_true rfl) rfl, rfl⟩ : stA [bG a2, .row 3 1 0 (ra eI64 (a3.set x4 x3)), bB a4, .cells 93 (ap (eGram a2) [(.sl 1 0 1 0 a5), (.sl 2 0 1 0 a5)]), .cells 89 [(.ptr 3 0)], .row 48 6 0 (ra eSym []), bP a1, bP a1] 1 (.rp 2 0 1 x4 0) (vb (x3 == 0)) = some [bG a2, .row 3 1 0 (ra eI64 (a3.set x4 x3)), .row 4 1 0 (ra eBool (a4.set x4 (x3 == 0))), .cells 93 (ap (eGram a2) [(.sl 1 0 1 0 a5), (.sl 2 0 1 0 a5)]), .cells 89 [(.ptr 3 0)], .row 48 6 0 (ra eSym []), bP a1, bP a1] ∧ ud = ud) apn))))))))) (by kernel_rfl)
  ·
   cases h
 ·
  cases h
inductive E_L46_0 where
  | k0 (x0 : Bool) (x1 : List Int) (x2 : List Bool)
noncomputable def L46_0 (a1 : GramD) (a2 : Int) (a5 : Nat) (v1 : Bool) (v2 : Int) (v3 : List Int) (v4 : List Bool) : Option (E_L46_0 ⊕ (Bool × Int × (List Int) × (List Bool))) :=
  (bif (decide (v2 < a2)) then ((getI a1.prods v2).bind fun x2 => ((F54 x2).bind fun x3 => (bif x3 then ((F69 x2 v3 v4 a5).bind fun r5 => match r5 with | .k0 x5_0 x5_1 x5_2 => (bif x5_0 then (some (.inr (true, (IntKind.wrap .i64 (v2 + 1)), x5_1, x5_2))) else (some (.inr (v1, (IntKind.wrap .i64 (v2 + 1)), x5_1, x5_2))))) else (some (.inr (v1, (IntKind.wrap .i64 (v2 + 1)), v3, v4)))))) else (some (.inl (.k0 v1 v3 v4))))
def L46_0_s (a1 : GramD) (a2 : Int) (a5 : Nat) (v1 : Bool) (v2 : Int) (v3 : List Int) (v4 : List Bool) : St := ⟨fr 27 ug [(0, (.ptr 3 0)), (1, (.fn 69 [(.ptr 4 0)])), (4, (vb v1)), (11, (.p (.lst 7 (a1.prods.map eProd)))), (12, (i6 a2)), (13, (i6 v2))], [bG a1, bI v3, bB v4, .cells 93 (ap (eGram a1) [(.sl 1 0 1 0 a5), (.sl 2 0 1 0 a5)]), .cells 89 [(.ptr 3 0)]]⟩
def L46_0_x (a1 : GramD) (a2 : Int) (a5 : Nat) (e : E_L46_0) (r : Option (Out × St)) : Prop := match e with | .k0 x0 x1 x2 => ∃ g, r = some ((.brk 2), ⟨fr 27 g [(0, (.ptr 3 0)), (1, (.fn 69 [(.ptr 4 0)])), (4, (vb x0)), (11, (.p (.lst 7 (a1.prods.map eProd))))], [bG a1, bI x1, bB x2, .cells 93 (ap (eGram a1) [(.sl 1 0 1 0 a5), (.sl 2 0 1 0 a5)]), .cells 89 [(.ptr 3 0)]]⟩)
theorem L46_0_ok (a1 : GramD) (a2 : Int) (a5 : Nat) (v1 : Bool) (v2 : Int) (v3 : List Int) (v4 : List Bool) {r : E_L46_0 ⊕ (Bool × Int × (List Int) × (List Bool))} (h : L46_0 a1 a2 a5 v1 v2 v3 v4 = some r) : OkR (fun e => L46_0_x a1 a2 a5 e (evH prg 5 [0, 1, 4, 11, 12, 13] ir46_l0 (L46_0_s a1 a2 a5 v1 v2 v3 v4))) (fun s => evH prg 5 [0, 1, 4, 11, 12, 13] ir46_l0 (L46_0_s a1 a2 a5 v1 v2 v3 v4) = evH prg 5 [0, 1, 4, 11, 12, 13] ir46_l0 (L46_0_s a1 a2 a5 s.1 s.2.1 s.2.2.1 s.2.2.2)) r := by
 unfold L46_0 at h
 refine bi h (fun h1 h => ?_) fun h1 h => ?_
 ·
  refine bn h fun x2 h2 h => ?_
  refine bn h fun x3 h3 h => ?_
  refine bi h (fun h4 h => ?_) fun h4 h => ?_
  ·
   refine bn h fun r5 h5 h => ?_
   cases r5 with
   | k0 x5_0 x5_1 x5_2 =>
    refine bi h (fun h6 h => ?_) fun h6 h => ?_
    ·
     rw [← sj h]
     exact rnd (n := 30) [(14, .d true), (15, .v (.ro (eProd x2))), (18, .v (vb true)), (22, .r (vb true) [bG a1, bI x5_1, bB x5_2, .cells 93 (ap (eGram a1) [(.sl 1 0 1 0 a5), (.sl 2 0 1 0 a5)]), .cells 89 [(.ptr 3 0)], .row 48 6 0 (ra eSym []), bP x2, bP x2]), (6000, .d true)] (apc (cv h1) (apc (ig eProd 7 .i64 h2) (apc ((((F54_ok x2 h3).cp rfl _).trans (congrArg (fun z => some (vb z)) h4)) : CP prg 54 [(aP x2)] [bG a1, bI v3, bB v4, .cells 93 (ap (eGram a1) [(.sl 1 0 1 0 a5), (.sl 2 0 1 0 a5)]), .cells 89 [(.ptr 3 0)], .row 48 6 0 (ra eSym []), bP x2] = some (vb true)) (apc (((F69_ok x2 a1 v3 v4 a5 h5).trans (congrArg (fun z => some (vb z, ([bG a1, bI x5_1, bB x5_2, .cells 93 (ap (eGram a1) [(.sl 1 0 1 0 a5), (.sl 2 0 1 0 a5)]), .cells 89 [(.ptr 3 0)], .row 48 6 0 (ra eSym []), bP x2, bP x2] : List AB))) h6)) : CS prg 69 [(aP x2), (.ptr 4 0)] [bG a1, bI v3, bB v4, .cells 93 (ap (eGram a1) [(.sl 1 0 1 0 a5), (.sl 2 0 1 0 a5)]), .cells 89 [(.ptr 3 0)], .row 48 6 0 (ra eSym []), bP x2] = some (vb true, [bG a1, bI x5_1, bB x5_2, .cells 93 (ap (eGram a1) [(.sl 1 0 1 0 a5), (.sl 2 0 1 0 a5)]), .cells 89 [(.ptr 3 0)], .row 48 6 0 (ra eSym []), bP x2, bP x2])) (apc ((okT_of rfl (abl_cons rfl (abl_cons abl_row (abl_cons abl_row (abl_cons rfl (abl_cons rfl rfl)))))) : okT 5 [bG a1, bI x5_1, bB x5_2, .cells 93 (ap (eGram a1) [(.sl 1 0 1 0 a5), (.sl 2 0 1 0 a5)]), .cells 89 [(.ptr 3 0)], .row 48 6 0 (ra eSym []), bP x2, bP x2] = true) apn))))) (by kernel_rfl)
    ·
     rw [← sj h]
     exact rnd (n := 30) [(14, .d true), (15, .v (.ro (eProd x2))), (18, .v (vb true)), (22, .r (vb false) [bG a1, bI x5_1, bB x5_2, .cells 93 (ap (eGram a1) [(.sl 1 0 1 0 a5), (.sl 2 0 1 0 a5)]), .cells 89 [(.ptr 3 0)], .row 48 6 0 (ra eSym []), bP x2, bP x2]), (6000, .d true)] (apc (cv h1) (apc (ig eProd 7 .i64 h2) (apc ((((F54_ok x2 h3).cp rfl _).trans (congrArg (fun z => some (vb z)) h4)) : CP prg 54 [(aP x2)] [bG a1, bI v3, bB v4, .cells 93 (ap (eGram a1) [(.sl 1 0 1 0 a5), (.sl 2 0 1 0 a5)]), .cells 89 [(.ptr 3 0)], .row 48 6 0 (ra eSym []), bP x2] = some (vb true)) (apc (((F69_ok x2 a1 v3 v4 a5 h5).trans (congrArg (fun z => some (vb z, ([bG a1, bI x5_1, bB x5_2, .cells 93 (ap (eGram a1) [(.sl 1 0 1 0 a5), (.sl 2 0 1 0 a5)]), .cells 89 [(.ptr 3 0)], .row 48 6 0 (ra eSym []), bP x2, bP x2] : List AB))) h6)) : CS prg 69 [(aP x2), (.ptr 4 0)] [bG a1, bI v3, bB v4, .cells 93 (ap (eGram a1) [(.sl 1 0 1 0 a5), (.sl 2 0 1 0 a5)]), .cells 89 [(.ptr 3 0)], .row 48 6 0 (ra eSym []), bP x2] = some (vb false, [bG a1, bI x5_1, bB x5_2, .cells 93 (ap (eGram a1) [(.sl 1 0 1 0 a5), (.sl 2 0 1 0 a5)]), .cells 89 [(.ptr 3 0)], .row 48 6 0 (ra eSym []), bP x2, bP x2])) (apc ((okT_of rfl (abl_cons rfl (abl_cons abl_row (abl_cons abl_row (abl_cons rfl (abl_cons rfl rfl)))))) : okT 5 [bG a1, bI x5_1, bB x5_2, .cells 93 (ap (eGram a1) [(.sl 1 0 1 0 a5), (.sl 2 0 1 0 a5)]), .cells 89 [(.ptr 3 0)], .row 48 6 0 (ra eSym []), bP x2, bP x2] = true) apn))))) (by kernel_rfl)
  ·
   rw [← sj h]
   exact rnd (n := 30) [(14, .d true), (15, .v (.ro (eProd x2))), (18, .v (vb false)), (6000, .d true)] (apc (cv h1) (apc (ig eProd 7 .i64 h2) (apc ((((F54_ok x2 h3).cp rfl _).trans (congrArg (fun z => some (vb z)) h4)) : CP prg 54 [(aP x2)] [bG a1, bI v3, bB v4, .cells 93 (ap (eGram a1) [(.sl 1 0 1 0 a5), (.sl 2 0 1 0 a5)]), .cells 89 [(.ptr 3 0)], .row 48 6 0 (ra eSym []), bP x2] = some (vb false)) (apc ((okT_of rfl (abl_cons rfl (abl_cons abl_row (abl_cons abl_row (abl_cons rfl (abl_cons rfl rfl)))))) : okT 5 [bG a1, bI v3, bB v4, .cells 93 (ap (eGram a1) [(.sl 1 0 1 0 a5), (.sl 2 0 1 0 a5)]), .cells 89 [(.ptr 3 0)], .row 48 6 0 (ra eSym []), bP x2] = true) apn)))) (by kernel_rfl)
 ·
  rw [← sj h]
  exact xbrk (n := 30) [(14, .d false), (6000, .d true)] (apc (cv h1) apn) (by kernel_rfl)
theorem L46_0_run (a1 : GramD) (a2 : Int) (a5 : Nat) (s0 : Bool × Int × (List Int) × (List Bool)) (e : E_L46_0) (h : runL (fun s => L46_0 a1 a2 a5 s.1 s.2.1 s.2.2.1 s.2.2.2) s0 = some e) : L46_0_x a1 a2 a5 e (evH prg 5 [0, 1, 4, 11, 12, 13] ir46_l0 (L46_0_s a1 a2 a5 s0.1 s0.2.1 s0.2.2.1 s0.2.2.2)) := by
  have q := @loop_sound' (Bool × Int × (List Int) × (List Bool)) E_L46_0 (fun s => L46_0 a1 a2 a5 s.1 s.2.1 s.2.2.1 s.2.2.2) (fun s => evH prg 5 [0, 1, 4, 11, 12, 13] ir46_l0 (L46_0_s a1 a2 a5 s.1 s.2.1 s.2.2.1 s.2.2.2)) (L46_0_x a1 a2 a5) (fun s r h => L46_0_ok a1 a2 a5 s.1 s.2.1 s.2.2.1 s.2.2.2 h) s0 e h
  exact q
inductive E_L46_1 where
  | k0 (x0 : List Int) (x1 : List Bool)
noncomputable def L46_1 (a1 : GramD) (a4 : Nat) (v1 : List Int) (v2 : List Bool) : Option (E_L46_1 ⊕ ((List Int) × (List Bool))) :=
  ((runL (fun s => L46_0 a1 (a1.prods.length : Int) a4 s.1 s.2.1 s.2.2.1 s.2.2.2) (false, 0, v1, v2)).bind fun r1 => match r1 with | .k0 x1_0 x1_1 x1_2 => (bif x1_0 then (some (.inr (x1_1, x1_2))) else (some (.inl (.k0 x1_1 x1_2)))))
def L46_1_s (a1 : GramD) (a4 : Nat) (v1 : List Int) (v2 : List Bool) : St := ⟨fr 27 ug [(0, (.ptr 3 0)), (1, (.fn 69 [(.ptr 4 0)]))], [bG a1, bI v1, bB v2, .cells 93 (ap (eGram a1) [(.sl 1 0 1 0 a4), (.sl 2 0 1 0 a4)]), .cells 89 [(.ptr 3 0)]]⟩
def L46_1_x (a1 : GramD) (a4 : Nat) (e : E_L46_1) (r : Option (Out × St)) : Prop := match e with | .k0 x0 x1 => ∃ g, r = some ((.brk 0), ⟨fr 27 g [], [bG a1, bI x0, bB x1, .cells 93 (ap (eGram a1) [(.sl 1 0 1 0 a4), (.sl 2 0 1 0 a4)]), .cells 89 [(.ptr 3 0)]]⟩)
theorem L46_1_ok (a1 : GramD) (a4 : Nat) (v1 : List Int) (v2 : List Bool) {r : E_L46_1 ⊕ ((List Int) × (List Bool))} (h : L46_1 a1 a4 v1 v2 = some r) : OkR (fun e => L46_1_x a1 a4 e (evH prg 5 [0, 1] ir46_l1 (L46_1_s a1 a4 v1 v2))) (fun s => evH prg 5 [0, 1] ir46_l1 (L46_1_s a1 a4 v1 v2) = evH prg 5 [0, 1] ir46_l1 (L46_1_s a1 a4 s.1 s.2)) r := by
 unfold L46_1 at h
 refine bn h fun r1 h1 h => ?_
 cases r1 with
 | k0 x1_0 x1_1 x1_2 =>
  obtain ⟨g1, e1⟩ := L46_0_run a1 (a1.prods.length : Int) a4 (false, 0, v1, v2) _ h1
  refine bi h (fun h2 h => ?_) fun h2 h => ?_
  ·
   rw [← sj h]
   exact rnd (n := 30) [(12, .v (i6 (a1.prods.length : Int))), (2002, .l (.brk 2) ⟨fr 27 g1 [(0, (.ptr 3 0)), (1, (.fn 69 [(.ptr 4 0)])), (4, (vb x1_0)), (11, (.p (.lst 7 (a1.prods.map eProd))))], [bG a1, bI x1_1, bB x1_2, .cells 93 (ap (eGram a1) [(.sl 1 0 1 0 a4), (.sl 2 0 1 0 a4)]), .cells 89 [(.ptr 3 0)]]⟩), (25, .d true), (6000, .d true)] (apc (lg a1.prods eProd 7) (apc ((okT_of rfl (abl_cons rfl (abl_cons abl_row (abl_cons abl_row (abl_cons rfl (abl_cons rfl rfl)))))) : okT 5 [bG a1, bI v1, bB v2, .cells 93 (ap (eGram a1) [(.sl 1 0 1 0 a4), (.sl 2 0 1 0 a4)]), .cells 89 [(.ptr 3 0)]] = true) (apc (e1 : evH prg 5 [0, 1, 4, 11, 12, 13] ir46_l0 (L46_0_s a1 (a1.prods.length : Int) a4 false 0 v1 v2) = some ((.brk 2), ⟨fr 27 g1 [(0, (.ptr 3 0)), (1, (.fn 69 [(.ptr 4 0)])), (4, (vb x1_0)), (11, (.p (.lst 7 (a1.prods.map eProd))))], [bG a1, bI x1_1, bB x1_2, .cells 93 (ap (eGram a1) [(.sl 1 0 1 0 a4), (.sl 2 0 1 0 a4)]), .cells 89 [(.ptr 3 0)]]⟩)) (apc (cv h2) (apc ((okT_of rfl (abl_cons rfl (abl_cons abl_row (abl_cons abl_row (abl_cons rfl (abl_cons rfl rfl)))))) : okT 5 [bG a1, bI x1_1, bB x1_2, .cells 93 (ap (eGram a1) [(.sl 1 0 1 0 a4), (.sl 2 0 1 0 a4)]), .cells 89 [(.ptr 3 0)]] = true) apn))))) (by kernel_rfl)
  ·
   rw [← sj h]
   exact xbrk (n := 30) [(12, .v (i6 (a1.prods.length : Int))), (2002, .l (.brk 2) ⟨fr 27 g1 [(0, (.ptr 3 0)), (1, (.fn 69 [(.ptr 4 0)])), (4, (vb x1_0)), (11, (.p (.lst 7 (a1.prods.map eProd))))], [bG a1, bI x1_1, bB x1_2, .cells 93 (ap (eGram a1) [(.sl 1 0 1 0 a4), (.sl 2 0 1 0 a4)]), .cells 89 [(.ptr 3 0)]]⟩), (25, .d false), (6000, .d true)] (apc (lg a1.prods eProd 7) (apc ((okT_of rfl (abl_cons rfl (abl_cons abl_row (abl_cons abl_row (abl_cons rfl (abl_cons rfl rfl)))))) : okT 5 [bG a1, bI v1, bB v2, .cells 93 (ap (eGram a1) [(.sl 1 0 1 0 a4), (.sl 2 0 1 0 a4)]), .cells 89 [(.ptr 3 0)]] = true) (apc (e1 : evH prg 5 [0, 1, 4, 11, 12, 13] ir46_l0 (L46_0_s a1 (a1.prods.length : Int) a4 false 0 v1 v2) = some ((.brk 2), ⟨fr 27 g1 [(0, (.ptr 3 0)), (1, (.fn 69 [(.ptr 4 0)])), (4, (vb x1_0)), (11, (.p (.lst 7 (a1.prods.map eProd))))], [bG a1, bI x1_1, bB x1_2, .cells 93 (ap (eGram a1) [(.sl 1 0 1 0 a4), (.sl 2 0 1 0 a4)]), .cells 89 [(.ptr 3 0)]]⟩)) (apc (cv h2) apn)))) (by kernel_rfl)
theorem L46_1_run (a1 : GramD) (a4 : Nat) (s0 : (List Int) × (List Bool)) (e : E_L46_1) (h : runL (fun s => L46_1 a1 a4 s.1 s.2) s0 = some e) : L46_1_x a1 a4 e (evH prg 5 [0, 1] ir46_l1 (L46_1_s a1 a4 s0.1 s0.2)) := by
  have q := @loop_sound' ((List Int) × (List Bool)) E_L46_1 (fun s => L46_1 a1 a4 s.1 s.2) (fun s => evH prg 5 [0, 1] ir46_l1 (L46_1_s a1 a4 s.1 s.2)) (L46_1_x a1 a4) (fun s r h => L46_1_ok a1 a4 s.1 s.2 h) s0 e h
  exact q
inductive R_F46 where
  | k0 (x0 : List Int) (x1 : List Bool)
noncomputable def F46 (a1 : GramD) (a2 : List Int) (a3 : List Bool) (a4 : Nat) : Option R_F46 :=
  ((runL (fun s => L46_1 a1 a4 s.1 s.2) (a2, a3)).bind fun r1 => match r1 with | .k0 x1_0 x1_1 => (some (.k0 x1_0 x1_1)))
def F46_v (a1 : GramD) (a2 : List Int) (a3 : List Bool) (a4 : Nat) (r : R_F46) : AV := match r with | .k0 x0 x1 => (.tup [])
def F46_h (a1 : GramD) (a2 : List Int) (a3 : List Bool) (a4 : Nat) (r : R_F46) : List AB := match r with | .k0 x0 x1 => [bG a1, bI x0, bB x1, .cells 93 (ap (eGram a1) [(.sl 1 0 1 0 a4), (.sl 2 0 1 0 a4)]), .cells 89 [(.ptr 3 0)]]
theorem F46_ok (a1 : GramD) (a2 : List Int) (a3 : List Bool) (a4 : Nat) {r : R_F46} (h : F46 a1 a2 a3 a4 = some r) : CS prg 46 [(.ptr 3 0), (.fn 69 [(.ptr 4 0)])] [bG a1, bI a2, bB a3, .cells 93 (ap (eGram a1) [(.sl 1 0 1 0 a4), (.sl 2 0 1 0 a4)]), .cells 89 [(.ptr 3 0)]] = some (F46_v a1 a2 a3 a4 r, F46_h a1 a2 a3 a4 r) := by
 unfold F46 at h
 refine bn h fun r1 h1 h => ?_
 cases r1 with
 | k0 x1_0 x1_1 =>
  obtain ⟨g1, e1⟩ := L46_1_run a1 a4 (a2, a3) _ h1
  rw [← sj h]
  exact fcs (n := 30) [(2000, .l (.brk 0) ⟨fr 27 g1 [], [bG a1, bI x1_0, bB x1_1, .cells 93 (ap (eGram a1) [(.sl 1 0 1 0 a4), (.sl 2 0 1 0 a4)]), .cells 89 [(.ptr 3 0)]]⟩), (6000, .d true)] (apc ((okT_of rfl (abl_cons rfl (abl_cons abl_row (abl_cons abl_row (abl_cons rfl (abl_cons rfl rfl)))))) : okT 5 [bG a1, bI a2, bB a3, .cells 93 (ap (eGram a1) [(.sl 1 0 1 0 a4), (.sl 2 0 1 0 a4)]), .cells 89 [(.ptr 3 0)]] = true) (apc (e1 : evH prg 5 [0, 1] ir46_l1 (L46_1_s a1 a4 a2 a3) = some ((.brk 0), ⟨fr 27 g1 [], [bG a1, bI x1_0, bB x1_1, .cells 93 (ap (eGram a1) [(.sl 1 0 1 0 a4), (.sl 2 0 1 0 a4)]), .cells 89 [(.ptr 3 0)]]⟩)) apn)) (by kernel_rfl)
inductive R_F45 where
  | k0 (x0 : Int)
  | k1 (x0 : List ByteArray) (x1 : List ProdD) (x2 : Int) (x3 : List ForbD) (x4 : List FollD) (x5 : List Int) (x6 : List Bool)
noncomputable def F45 (a1 : GramD) : Option R_F45 :=
  ((F29 a1).bind fun x1 => (bif (x1 != 0) then (some (.k0 x1)) else (bif (mkOk (a1.sorts.length : Int) 8) then (bif (mkOk (a1.sorts.length : Int) 1) then ((runL (fun s => L45_0 (((Int.toNat (a1.sorts.length : Int)) : Nat) : Int) (Int.toNat (a1.sorts.length : Int)) s.1 s.2) (0, (List.replicate (Int.toNat (a1.sorts.length : Int)) 0))).bind fun r5 => match r5 with | .k0 x5_0 => ((F46 a1 x5_0 (List.replicate (Int.toNat (a1.sorts.length : Int)) false) (Int.toNat (a1.sorts.length : Int))).bind fun r6 => match r6 with | .k0 x6_0 x6_1 => (bif (decide ((Int.toNat (a1.sorts.length : Int)) ≤ x6_0.length)) then (bif (decide ((Int.toNat (a1.sorts.length : Int)) ≤ x6_1.length)) then (some (.k1 a1.sorts a1.prods a1.start a1.forbid a1.follow (x6_0.take (Int.toNat (a1.sorts.length : Int))) (x6_1.take (Int.toNat (a1.sorts.length : Int))))) else none) else none))) else none) else none)))
def F45_v (a1 : GramD) (r : R_F45) : AV := match r with | .k0 x0 => (.tup [(.p (.val (.pointer .none))), (i6 x0)]) | .k1 x0 x1 x2 x3 x4 x5 x6 => (.tup [(.ro [.lst 1 (x0.map eStr), .lst 7 (x1.map eProd), .val (.int .i64 x2), .lst 3 (x3.map eForb), .lst 5 (x4.map eFoll), .lst 1 (x5.map eI64), .lst 1 (x6.map eBool)]), (i6 0)])
theorem F45_ok (a1 : GramD) {r : R_F45} (h : F45 a1 = some r) : PR1 prg 45 [(aG a1)] (F45_v a1 r) := by
 unfold F45 at h
 refine bn h fun x1 h1 h => ?_
 refine bi h (fun h2 h => ?_) fun h2 h => ?_
 ·
  rw [← sj h]
  exact fpr (n := 30) [(8, .v (i6 x1)), (10, .d true)] (apc (((F29_ok a1 h1).cp rfl _) : CP prg 29 [(aG a1)] [bG a1] = some (i6 x1)) (apc (cv h2) apn)) rfl (by kernel_rfl)
 ·
  refine bi h (fun h3 h => ?_) fun h3 h => ?_
  ·
   refine bi h (fun h4 h => ?_) fun h4 h => ?_
   ·
    refine bn h fun r5 h5 h => ?_
    cases r5 with
    | k0 x5_0 =>
     obtain ⟨g5, e5⟩ := L45_0_run (((Int.toNat (a1.sorts.length : Int)) : Nat) : Int) a1 (List.replicate (Int.toNat (a1.sorts.length : Int)) false) (Int.toNat (a1.sorts.length : Int)) (0, (List.replicate (Int.toNat (a1.sorts.length : Int)) 0)) _ h5
     refine bn h fun r6 h6 h => ?_
     cases r6 with
     | k0 x6_0 x6_1 =>
      refine bi h (fun h7 h => ?_) fun h7 h => ?_
      ·
       refine bi h (fun h8 h => ?_) fun h8 h => ?_
       ·
        rw [← sj h]
        exact fpo (n := 30) (v := (.tup [(.ptr 3 0), (i6 0)])) (h' := [bG a1, bI x6_0, bB x6_1, .cells 93 (ap (eGram a1) [(.sl 1 0 1 0 (Int.toNat (a1.sorts.length : Int))), (.sl 2 0 1 0 (Int.toNat (a1.sorts.length : Int)))]), .cells 89 [(.ptr 3 0)]]) [(8, .v (i6 x1)), (10, .d false), (15, .v (i6 (a1.sorts.length : Int))), (16, .r (.sl 1 0 1 0 (Int.toNat (a1.sorts.length : Int))) [.row 3 1 0 (ra eI64 (List.replicate (Int.toNat (a1.sorts.length : Int)) 0))]), (19, .v (i6 (a1.sorts.length : Int))), (20, .r (.sl 2 0 1 0 (Int.toNat (a1.sorts.length : Int))) [.row 4 1 0 (ra eBool (List.replicate (Int.toNat (a1.sorts.length : Int)) false))]), (2000, .l (.brk 0) ⟨fr 42 g5 [(5, (.ptr 4 0))], [bG a1, bI x5_0, .row 4 1 0 (ra eBool (List.replicate (Int.toNat (a1.sorts.length : Int)) false)), .cells 93 (ap (eGram a1) [(.sl 1 0 1 0 (Int.toNat (a1.sorts.length : Int))), (.sl 2 0 1 0 (Int.toNat (a1.sorts.length : Int)))]), .cells 89 [(.ptr 3 0)]]⟩), (40, .r (.tup []) [bG a1, bI x6_0, bB x6_1, .cells 93 (ap (eGram a1) [(.sl 1 0 1 0 (Int.toNat (a1.sorts.length : Int))), (.sl 2 0 1 0 (Int.toNat (a1.sorts.length : Int)))]), .cells 89 [(.ptr 3 0)]]), (6000, .d true)] (apc (((F29_ok a1 h1).cp rfl _) : CP prg 29 [(aG a1)] [bG a1] = some (i6 x1)) (apc (cv h2) (apc (lg a1.sorts eStr 1) (apc ((mk_row (e := eI64) (z := 0) h3 rfl) : mkA 3 1 8 [.val (.int .i64 0)] (i6 (a1.sorts.length : Int)) (i6 (a1.sorts.length : Int)) 1 = some ((.sl 1 0 1 0 (Int.toNat (a1.sorts.length : Int))), .row 3 1 0 (ra eI64 (List.replicate (Int.toNat (a1.sorts.length : Int)) 0)))) (apc (lg a1.sorts eStr 1) (apc ((mk_row (e := eBool) (z := false) h4 rfl) : mkA 4 1 1 [.val (.bool false)] (i6 (a1.sorts.length : Int)) (i6 (a1.sorts.length : Int)) 2 = some ((.sl 2 0 1 0 (Int.toNat (a1.sorts.length : Int))), .row 4 1 0 (ra eBool (List.replicate (Int.toNat (a1.sorts.length : Int)) false)))) (apc ((okT_of rfl (abl_cons rfl (abl_cons abl_row (abl_cons abl_row (abl_cons rfl (abl_cons rfl rfl)))))) : okT 5 [bG a1, .row 3 1 0 (ra eI64 (List.replicate (Int.toNat (a1.sorts.length : Int)) 0)), .row 4 1 0 (ra eBool (List.replicate (Int.toNat (a1.sorts.length : Int)) false)), .cells 93 (ap (eGram a1) [(.sl 1 0 1 0 (Int.toNat (a1.sorts.length : Int))), (.sl 2 0 1 0 (Int.toNat (a1.sorts.length : Int)))]), .cells 89 [(.ptr 3 0)]] = true) (apc (e5 : evH prg 5 [5, 27, 28] ir45_l0 (L45_0_s (((Int.toNat (a1.sorts.length : Int)) : Nat) : Int) a1 (List.replicate (Int.toNat (a1.sorts.length : Int)) false) (Int.toNat (a1.sorts.length : Int)) 0 (List.replicate (Int.toNat (a1.sorts.length : Int)) 0)) = some ((.brk 0), ⟨fr 42 g5 [(5, (.ptr 4 0))], [bG a1, bI x5_0, .row 4 1 0 (ra eBool (List.replicate (Int.toNat (a1.sorts.length : Int)) false)), .cells 93 (ap (eGram a1) [(.sl 1 0 1 0 (Int.toNat (a1.sorts.length : Int))), (.sl 2 0 1 0 (Int.toNat (a1.sorts.length : Int)))]), .cells 89 [(.ptr 3 0)]]⟩)) (apc ((F46_ok a1 x5_0 (List.replicate (Int.toNat (a1.sorts.length : Int)) false) (Int.toNat (a1.sorts.length : Int)) h6) : CS prg 46 [(.ptr 3 0), (.fn 69 [(.ptr 4 0)])] [bG a1, bI x5_0, .row 4 1 0 (ra eBool (List.replicate (Int.toNat (a1.sorts.length : Int)) false)), .cells 93 (ap (eGram a1) [(.sl 1 0 1 0 (Int.toNat (a1.sorts.length : Int))), (.sl 2 0 1 0 (Int.toNat (a1.sorts.length : Int)))]), .cells 89 [(.ptr 3 0)]] = some ((.tup []), [bG a1, bI x6_0, bB x6_1, .cells 93 (ap (eGram a1) [(.sl 1 0 1 0 (Int.toNat (a1.sorts.length : Int))), (.sl 2 0 1 0 (Int.toNat (a1.sorts.length : Int)))]), .cells 89 [(.ptr 3 0)]])) apn))))))))) (purA_tup (purAs_cons (purA_ptr rfl (mapO_con rfl (mapO_con rfl (mapO_con rfl (mapO_con rfl (mapO_con rfl (mapO_con (purP_sl rfl h7) (mapO_con (purP_sl rfl h8) rfl)))))))) (purAs_cons rfl purAs_nil))) (by kernel_rfl)
       ·
        cases h
      ·
       cases h
   ·
    cases h
  ·
   cases h
inductive E_L20_0 where
  | k0 (x0 : List Bool)
noncomputable def L20_0 (a1 : Nat) (a2 : List Int) (a3 : Int) (v1 : Int) (v2 : List Bool) : Option (E_L20_0 ⊕ (Int × (List Bool))) :=
  (bif (decide (v1 < a3)) then ((getI a2 v1).bind fun x2 => ((ixN a1 v1).bind fun x3 => ((v2[x3]?).bind fun x4 => (some (.inr ((IntKind.wrap .i64 (v1 + 1)), (v2.set x3 (decide (x2 ≥ 0))))))))) else (some (.inl (.k0 v2))))
def L20_0_s (a1 : Nat) (a2 : List Int) (a3 : Int) (a4 : GramD) (v1 : Int) (v2 : List Bool) : St := ⟨fr 38 ug [(6, (.sl 2 0 1 0 a1)), (24, (.p (.lst 1 (a2.map eI64)))), (25, (i6 a3)), (26, (i6 v1))], [bG a4, bB [], bB v2]⟩
def L20_0_x (a1 : Nat) (a2 : List Int) (a3 : Int) (a4 : GramD) (e : E_L20_0) (r : Option (Out × St)) : Prop := match e with | .k0 x0 => ∃ g, r = some ((.brk 0), ⟨fr 38 g [(6, (.sl 2 0 1 0 a1)), (24, (.p (.lst 1 (a2.map eI64))))], [bG a4, bB [], bB x0]⟩)
theorem L20_0_ok (a1 : Nat) (a2 : List Int) (a3 : Int) (a4 : GramD) (v1 : Int) (v2 : List Bool) {r : E_L20_0 ⊕ (Int × (List Bool))} (h : L20_0 a1 a2 a3 v1 v2 = some r) : OkR (fun e => L20_0_x a1 a2 a3 a4 e (evH prg 3 [6, 24, 25, 26] ir20_l0 (L20_0_s a1 a2 a3 a4 v1 v2))) (fun s => evH prg 3 [6, 24, 25, 26] ir20_l0 (L20_0_s a1 a2 a3 a4 v1 v2) = evH prg 3 [6, 24, 25, 26] ir20_l0 (L20_0_s a1 a2 a3 a4 s.1 s.2)) r := by
 unfold L20_0 at h
 refine bi h (fun h1 h => ?_) fun h1 h => ?_
 ·
  refine bn h fun x2 h2 h => ?_
  refine bn h fun x3 h3 h => ?_
  refine bn h fun x4 h4 h => ?_
  rw [← sj h]
  exact rnd (n := 30) [(27, .d true), (29, .v (.ro [.val (.int .i64 x2)])), (35, .v (.rp 2 0 1 x3 0)), (1035, .r ud [bG a4, bB [], .row 4 1 0 (ra eBool (v2.set x3 (decide (x2 ≥ 0))))]), (6000, .d true)] (apc (cv h1) (apc (ig eI64 1 .i64 h2) (apc ((idx_sl h3) : idxA 1 (.sl 2 0 1 0 a1) (i6 v1) = some (.rp 2 0 1 x3 0)) (apc (⟨st_row (v' := (decide (x2 ≥ 0))) rfl h4 rfl rfl (Nat.le_of_ble_eq_true rfl) rfl, rfl⟩ : stA [bG a4, bB [], bB v2] 1 (.rp 2 0 1 x3 0) (vb (decide (x2 ≥ 0))) = some [bG a4, bB [], .row 4 1 0 (ra eBool (v2.set x3 (decide (x2 ≥ 0))))] ∧ ud = ud) (apc ((okT_of rfl (abl_cons rfl (abl_cons abl_row (abl_cons abl_row rfl)))) : okT 3 [bG a4, bB [], .row 4 1 0 (ra eBool (v2.set x3 (decide (x2 ≥ 0))))] = true) apn))))) (by kernel_rfl)
 ·
  rw [← sj h]
  exact xbrk (n := 30) [(27, .d false), (6000, .d true)] (apc (cv h1) apn) (by kernel_rfl)
theorem L20_0_run (a1 : Nat) (a2 : List Int) (a3 : Int) (a4 : GramD) (s0 : Int × (List Bool)) (e : E_L20_0) (h : runL (fun s => L20_0 a1 a2 a3 s.1 s.2) s0 = some e) : L20_0_x a1 a2 a3 a4 e (evH prg 3 [6, 24, 25, 26] ir20_l0 (L20_0_s a1 a2 a3 a4 s0.1 s0.2)) := by
  have q := @loop_sound' (Int × (List Bool)) E_L20_0 (fun s => L20_0 a1 a2 a3 s.1 s.2) (fun s => evH prg 3 [6, 24, 25, 26] ir20_l0 (L20_0_s a1 a2 a3 a4 s.1 s.2)) (L20_0_x a1 a2 a3 a4) (fun s r h => L20_0_ok a1 a2 a3 a4 s.1 s.2 h) s0 e h
  exact q
inductive R_F20 where
  | k0 (x0 : List Bool) (x1 : Int)
noncomputable def F20 (a1 : GramD) : Option R_F20 :=
  ((F45 a1).bind fun r1 => match r1 with | .k0 x1_0 => (bif (x1_0 != 0) then (some (.k0 ([]) x1_0)) else (bif (mkOk (a1.sorts.length : Int) 1) then none else none)) | .k1 x1_0 x1_1 x1_2 x1_3 x1_4 x1_5 x1_6 => (bif (mkOk (a1.sorts.length : Int) 1) then ((runL (fun s => L20_0 (Int.toNat (a1.sorts.length : Int)) x1_5 (x1_5.length : Int) s.1 s.2) (0, (List.replicate (Int.toNat (a1.sorts.length : Int)) false))).bind fun r3 => match r3 with | .k0 x3_0 => (bif (decide ((Int.toNat (a1.sorts.length : Int)) ≤ x3_0.length)) then (some (.k0 (x3_0.take (Int.toNat (a1.sorts.length : Int))) 0)) else none)) else none))
def F20_v (a1 : GramD) (r : R_F20) : AV := match r with | .k0 x0 x1 => (.tup [(.p (.lst 1 (x0.map eBool))), (i6 x1)])
theorem F20_ok (a1 : GramD) {r : R_F20} (h : F20 a1 = some r) : PR1 prg 20 [(aG a1)] (F20_v a1 r) := by
 unfold F20 at h
 refine bn h fun r1 h1 h => ?_
 cases r1 with
 | k0 x1_0 =>
  refine bi h (fun h2 h => ?_) fun h2 h => ?_
  ·
   rw [← sj h]
   exact fpo (n := 30) (v := (.tup [(.sl 2 0 1 0 0), (i6 x1_0)])) (h' := [bG a1, bB [], bB []]) [(11, .v (.tup [(.p (.val (.pointer .none))), (i6 x1_0)])), (15, .d true)] (apc (((F45_ok a1 h1).cp rfl _) : CP prg 45 [(aG a1)] [bG a1, bB []] = some (.tup [(.p (.val (.pointer .none))), (i6 x1_0)])) (apc (cv h2) apn)) (purA_tup (purAs_cons (purA_sl (xs := []) rfl rfl) (purAs_cons rfl purAs_nil))) (by kernel_rfl)
  ·
   refine bi h (fun h3 h => ?_) fun h3 h => ?_
   ·
    cases h
   ·
    cases h
 | k1 x1_0 x1_1 x1_2 x1_3 x1_4 x1_5 x1_6 =>
  refine bi h (fun h2 h => ?_) fun h2 h => ?_
  ·
   refine bn h fun r3 h3 h => ?_
   cases r3 with
   | k0 x3_0 =>
    obtain ⟨g3, e3⟩ := L20_0_run (Int.toNat (a1.sorts.length : Int)) x1_5 (x1_5.length : Int) a1 (0, (List.replicate (Int.toNat (a1.sorts.length : Int)) false)) _ h3
    refine bi h (fun h4 h => ?_) fun h4 h => ?_
    ·
     rw [← sj h]
     exact fpo (n := 30) (v := (.tup [(.sl 2 0 1 0 (Int.toNat (a1.sorts.length : Int))), (i6 0)])) (h' := [bG a1, bB [], bB x3_0]) [(11, .v (.tup [(.ro [.lst 1 (x1_0.map eStr), .lst 7 (x1_1.map eProd), .val (.int .i64 x1_2), .lst 3 (x1_3.map eForb), .lst 5 (x1_4.map eFoll), .lst 1 (x1_5.map eI64), .lst 1 (x1_6.map eBool)]), (i6 0)])), (19, .v (i6 (a1.sorts.length : Int))), (20, .r (.sl 2 0 1 0 (Int.toNat (a1.sorts.length : Int))) [bG a1, bB [], .row 4 1 0 (ra eBool (List.replicate (Int.toNat (a1.sorts.length : Int)) false))]), (25, .v (i6 (x1_5.length : Int))), (2000, .l (.brk 0) ⟨fr 38 g3 [(6, (.sl 2 0 1 0 (Int.toNat (a1.sorts.length : Int)))), (24, (.p (.lst 1 (x1_5.map eI64))))], [bG a1, bB [], bB x3_0]⟩), (6000, .d true)] (apc (((F45_ok a1 h1).cp rfl _) : CP prg 45 [(aG a1)] [bG a1, bB []] = some (.tup [(.ro [.lst 1 (x1_0.map eStr), .lst 7 (x1_1.map eProd), .val (.int .i64 x1_2), .lst 3 (x1_3.map eForb), .lst 5 (x1_4.map eFoll), .lst 1 (x1_5.map eI64), .lst 1 (x1_6.map eBool)]), (i6 0)])) (apc (lg a1.sorts eStr 1) (apc ((mk_row' (h := [bG a1, bB []]) (e := eBool) (z := false) h2 rfl) : (mkA 4 1 1 [.val (.bool false)] (i6 (a1.sorts.length : Int)) (i6 (a1.sorts.length : Int)) 2).map (fun x => (x.1, [bG a1, bB []] ++ [x.2])) = some ((.sl 2 0 1 0 (Int.toNat (a1.sorts.length : Int))), [bG a1, bB [], .row 4 1 0 (ra eBool (List.replicate (Int.toNat (a1.sorts.length : Int)) false))])) (apc (lg x1_5 eI64 1) (apc ((okT_of rfl (abl_cons rfl (abl_cons abl_row (abl_cons abl_row rfl)))) : okT 3 [bG a1, bB [], .row 4 1 0 (ra eBool (List.replicate (Int.toNat (a1.sorts.length : Int)) false))] = true) (apc (e3 : evH prg 3 [6, 24, 25, 26] ir20_l0 (L20_0_s (Int.toNat (a1.sorts.length : Int)) x1_5 (x1_5.length : Int) a1 0 (List.replicate (Int.toNat (a1.sorts.length : Int)) false)) = some ((.brk 0), ⟨fr 38 g3 [(6, (.sl 2 0 1 0 (Int.toNat (a1.sorts.length : Int)))), (24, (.p (.lst 1 (x1_5.map eI64))))], [bG a1, bB [], bB x3_0]⟩)) apn)))))) (purA_tup (purAs_cons (purA_sl rfl h4) (purAs_cons rfl purAs_nil))) (by kernel_rfl)
    ·
     cases h
  ·
   cases h
inductive R_F22 where
  | k0 (x0 : List Bool) (x1 : Int)
noncomputable def F22 (a1 : GramD) : Option R_F22 :=
  ((F45 a1).bind fun r1 => match r1 with | .k0 x1_0 => (bif (x1_0 != 0) then (some (.k0 ([]) x1_0)) else none) | .k1 x1_0 x1_1 x1_2 x1_3 x1_4 x1_5 x1_6 => (some (.k0 x1_6 0)))
def F22_v (a1 : GramD) (r : R_F22) : AV := match r with | .k0 x0 x1 => (.tup [(.p (.lst 1 (x0.map eBool))), (i6 x1)])
theorem F22_ok (a1 : GramD) {r : R_F22} (h : F22 a1 = some r) : PR1 prg 22 [(aG a1)] (F22_v a1 r) := by
 unfold F22 at h
 refine bn h fun r1 h1 h => ?_
 cases r1 with
 | k0 x1_0 =>
  refine bi h (fun h2 h => ?_) fun h2 h => ?_
  ·
   rw [← sj h]
   exact fpo (n := 30) (v := (.tup [(.sl 2 0 1 0 0), (i6 x1_0)])) (h' := [bG a1, bB [], bB []]) [(8, .v (.tup [(.p (.val (.pointer .none))), (i6 x1_0)])), (12, .d true)] (apc (((F45_ok a1 h1).cp rfl _) : CP prg 45 [(aG a1)] [bG a1, bB []] = some (.tup [(.p (.val (.pointer .none))), (i6 x1_0)])) (apc (cv h2) apn)) (purA_tup (purAs_cons (purA_sl (xs := []) rfl rfl) (purAs_cons rfl purAs_nil))) (by kernel_rfl)
  ·
   cases h
 | k1 x1_0 x1_1 x1_2 x1_3 x1_4 x1_5 x1_6 =>
  rw [← sj h]
  exact fpr (n := 30) [(8, .v (.tup [(.ro [.lst 1 (x1_0.map eStr), .lst 7 (x1_1.map eProd), .val (.int .i64 x1_2), .lst 3 (x1_3.map eForb), .lst 5 (x1_4.map eFoll), .lst 1 (x1_5.map eI64), .lst 1 (x1_6.map eBool)]), (i6 0)]))] (apc (((F45_ok a1 h1).cp rfl _) : CP prg 45 [(aG a1)] [bG a1, bB []] = some (.tup [(.ro [.lst 1 (x1_0.map eStr), .lst 7 (x1_1.map eProd), .val (.int .i64 x1_2), .lst 3 (x1_3.map eForb), .lst 5 (x1_4.map eFoll), .lst 1 (x1_5.map eI64), .lst 1 (x1_6.map eBool)]), (i6 0)])) apn) rfl (by kernel_rfl)
inductive R_F13 where
  | k0 (x0 : List Int) (x1 : Int)
noncomputable def F13 (a1 : GramD) : Option R_F13 :=
  ((F45 a1).bind fun r1 => match r1 with | .k0 x1_0 => (bif (x1_0 != 0) then (some (.k0 ([]) x1_0)) else none) | .k1 x1_0 x1_1 x1_2 x1_3 x1_4 x1_5 x1_6 => (some (.k0 x1_5 0)))
def F13_v (a1 : GramD) (r : R_F13) : AV := match r with | .k0 x0 x1 => (.tup [(.p (.lst 1 (x0.map eI64))), (i6 x1)])
theorem F13_ok (a1 : GramD) {r : R_F13} (h : F13 a1 = some r) : PR1 prg 13 [(aG a1)] (F13_v a1 r) := by
 unfold F13 at h
 refine bn h fun r1 h1 h => ?_
 cases r1 with
 | k0 x1_0 =>
  refine bi h (fun h2 h => ?_) fun h2 h => ?_
  ·
   rw [← sj h]
   exact fpo (n := 30) (v := (.tup [(.sl 2 0 1 0 0), (i6 x1_0)])) (h' := [bG a1, bI [], bI []]) [(8, .v (.tup [(.p (.val (.pointer .none))), (i6 x1_0)])), (12, .d true)] (apc (((F45_ok a1 h1).cp rfl _) : CP prg 45 [(aG a1)] [bG a1, bI []] = some (.tup [(.p (.val (.pointer .none))), (i6 x1_0)])) (apc (cv h2) apn)) (purA_tup (purAs_cons (purA_sl (xs := []) rfl rfl) (purAs_cons rfl purAs_nil))) (by kernel_rfl)
  ·
   cases h
 | k1 x1_0 x1_1 x1_2 x1_3 x1_4 x1_5 x1_6 =>
  rw [← sj h]
  exact fpr (n := 30) [(8, .v (.tup [(.ro [.lst 1 (x1_0.map eStr), .lst 7 (x1_1.map eProd), .val (.int .i64 x1_2), .lst 3 (x1_3.map eForb), .lst 5 (x1_4.map eFoll), .lst 1 (x1_5.map eI64), .lst 1 (x1_6.map eBool)]), (i6 0)]))] (apc (((F45_ok a1 h1).cp rfl _) : CP prg 45 [(aG a1)] [bG a1, bI []] = some (.tup [(.ro [.lst 1 (x1_0.map eStr), .lst 7 (x1_1.map eProd), .val (.int .i64 x1_2), .lst 3 (x1_3.map eForb), .lst 5 (x1_4.map eFoll), .lst 1 (x1_5.map eI64), .lst 1 (x1_6.map eBool)]), (i6 0)])) apn) rfl (by kernel_rfl)
inductive R_F61 where
  | nil
noncomputable def F61 : Option R_F61 :=
  none
def F61_v (r : R_F61) : AV := match r with | .nil => .und
theorem F61_ok {r : R_F61} (h : F61 = some r) : PR1 prg 61 [(.p (.val (.pointer .none)))] (F61_v r) := by
 unfold F61 at h
 cases h
inductive E_L76_0 where
  | k0 (x0 : Int) (x1 : Int) (x2 : Int) (x3 : Int)
noncomputable def L76_0 (a8 : SetD) (v1 : Int) (v2 : Int) (v3 : Int) (v4 : Int) (v5 : Int) : Option (E_L76_0 ⊕ (Int × Int × Int × Int × Int)) :=
  (bif (decide (v1 < 4)) then (bif (v1 == 0) then (some (.inr ((IntKind.wrap .i64 (v1 + 1)), (IntKind.wrap .u64 ((BitVec.ofInt (IntKind.bits .u64) v2 ||| BitVec.ofInt (IntKind.bits .u64) a8.a).toNat : Int)), v3, v4, v5))) else (bif (v1 == 1) then (some (.inr ((IntKind.wrap .i64 (v1 + 1)), v2, (IntKind.wrap .u64 ((BitVec.ofInt (IntKind.bits .u64) v3 ||| BitVec.ofInt (IntKind.bits .u64) a8.b).toNat : Int)), v4, v5))) else (bif (v1 == 2) then (some (.inr ((IntKind.wrap .i64 (v1 + 1)), v2, v3, (IntKind.wrap .u64 ((BitVec.ofInt (IntKind.bits .u64) v4 ||| BitVec.ofInt (IntKind.bits .u64) a8.c).toNat : Int)), v5))) else (bif (v1 == 3) then (some (.inr ((IntKind.wrap .i64 (v1 + 1)), v2, v3, v4, (IntKind.wrap .u64 ((BitVec.ofInt (IntKind.bits .u64) v5 ||| BitVec.ofInt (IntKind.bits .u64) a8.d).toNat : Int))))) else none)))) else (some (.inl (.k0 v2 v3 v4 v5))))
def L76_0_s (a1 : List SetD) (a2 : Int) (a3 : Int) (a8 : SetD) (v1 : Int) (v2 : Int) (v3 : Int) (v4 : Int) (v5 : Int) : St := ⟨fr 27 ug [(2, (.ptr 0 0)), (3, (.ptr 1 0)), (5, (.ptr 2 0)), (7, (.p (.lst 4 (a1.map eSet)))), (8, (i6 a2)), (9, (i6 a3)), (13, (i6 v1))], [.cells 46 [(vi .u64 0), (vi .u64 0), (vi .u64 0), (vi .u64 0)], .cells 46 [(vi .u64 v2), (vi .u64 v3), (vi .u64 v4), (vi .u64 v5)], .cells 46 ((eSet a8).map .p)]⟩
def L76_0_x (a1 : List SetD) (a2 : Int) (a3 : Int) (a8 : SetD) (e : E_L76_0) (r : Option (Out × St)) : Prop := match e with | .k0 x0 x1 x2 x3 => ∃ g, r = some ((.brk 2), ⟨fr 27 g [(2, (.ptr 0 0)), (3, (.ptr 1 0)), (5, (.ptr 2 0)), (7, (.p (.lst 4 (a1.map eSet)))), (8, (i6 a2)), (9, (i6 a3))], [.cells 46 [(vi .u64 0), (vi .u64 0), (vi .u64 0), (vi .u64 0)], .cells 46 [(vi .u64 x0), (vi .u64 x1), (vi .u64 x2), (vi .u64 x3)], .cells 46 ((eSet a8).map .p)]⟩)
theorem L76_0_ok (a1 : List SetD) (a2 : Int) (a3 : Int) (a8 : SetD) (v1 : Int) (v2 : Int) (v3 : Int) (v4 : Int) (v5 : Int) {r : E_L76_0 ⊕ (Int × Int × Int × Int × Int)} (h : L76_0 a8 v1 v2 v3 v4 v5 = some r) : OkR (fun e => L76_0_x a1 a2 a3 a8 e (evH prg 3 [2, 3, 5, 7, 8, 9, 13] ir76_l0 (L76_0_s a1 a2 a3 a8 v1 v2 v3 v4 v5))) (fun s => evH prg 3 [2, 3, 5, 7, 8, 9, 13] ir76_l0 (L76_0_s a1 a2 a3 a8 v1 v2 v3 v4 v5) = evH prg 3 [2, 3, 5, 7, 8, 9, 13] ir76_l0 (L76_0_s a1 a2 a3 a8 s.1 s.2.1 s.2.2.1 s.2.2.2.1 s.2.2.2.2)) r := by
 unfold L76_0 at h
 refine bi h (fun h1 h => ?_) fun h1 h => ?_
 ·
  refine bi h (fun h2 h => ?_) fun h2 h => ?_
  ·
   rw [← sj h]
   exact rnd (n := 30) [(14, .d true), (17, .v (.ptr 1 0)), (20, .v (.ptr 2 0)), (23, .v (.ptr 1 0)), (6000, .d true)] (apc (cv h1) (apc ((ix_lit h2 (fun z => ixP 4 1 (.ptr 1 0) (i6 z)) rfl) : ixP 4 1 (.ptr 1 0) (i6 v1) = some (.ptr 1 0)) (apc ((ix_lit h2 (fun z => ixP 4 1 (.ptr 2 0) (i6 z)) rfl) : ixP 4 1 (.ptr 2 0) (i6 v1) = some (.ptr 2 0)) (apc ((ix_lit h2 (fun z => ixP 4 1 (.ptr 1 0) (i6 z)) rfl) : ixP 4 1 (.ptr 1 0) (i6 v1) = some (.ptr 1 0)) (apc ((okT_of rfl (abl_cons rfl (abl_cons rfl (abl_cons rfl rfl)))) : okT 3 [.cells 46 [(vi .u64 0), (vi .u64 0), (vi .u64 0), (vi .u64 0)], .cells 46 [(vi .u64 (IntKind.wrap .u64 ((BitVec.ofInt (IntKind.bits .u64) v2 ||| BitVec.ofInt (IntKind.bits .u64) a8.a).toNat : Int))), (vi .u64 v3), (vi .u64 v4), (vi .u64 v5)], .cells 46 ((eSet a8).map .p)] = true) apn))))) (by kernel_rfl)
  ·
   refine bi h (fun h3 h => ?_) fun h3 h => ?_
   ·
    rw [← sj h]
    exact rnd (n := 30) [(14, .d true), (17, .v (.ptr 1 1)), (20, .v (.ptr 2 1)), (23, .v (.ptr 1 1)), (6000, .d true)] (apc (cv h1) (apc ((ix_lit h3 (fun z => ixP 4 1 (.ptr 1 0) (i6 z)) rfl) : ixP 4 1 (.ptr 1 0) (i6 v1) = some (.ptr 1 1)) (apc ((ix_lit h3 (fun z => ixP 4 1 (.ptr 2 0) (i6 z)) rfl) : ixP 4 1 (.ptr 2 0) (i6 v1) = some (.ptr 2 1)) (apc ((ix_lit h3 (fun z => ixP 4 1 (.ptr 1 0) (i6 z)) rfl) : ixP 4 1 (.ptr 1 0) (i6 v1) = some (.ptr 1 1)) (apc ((okT_of rfl (abl_cons rfl (abl_cons rfl (abl_cons rfl rfl)))) : okT 3 [.cells 46 [(vi .u64 0), (vi .u64 0), (vi .u64 0), (vi .u64 0)], .cells 46 [(vi .u64 v2), (vi .u64 (IntKind.wrap .u64 ((BitVec.ofInt (IntKind.bits .u64) v3 ||| BitVec.ofInt (IntKind.bits .u64) a8.b).toNat : Int))), (vi .u64 v4), (vi .u64 v5)], .cells 46 ((eSet a8).map .p)] = true) apn))))) (by kernel_rfl)
   ·
    refine bi h (fun h4 h => ?_) fun h4 h => ?_
    ·
     rw [← sj h]
     exact rnd (n := 30) [(14, .d true), (17, .v (.ptr 1 2)), (20, .v (.ptr 2 2)), (23, .v (.ptr 1 2)), (6000, .d true)] (apc (cv h1) (apc ((ix_lit h4 (fun z => ixP 4 1 (.ptr 1 0) (i6 z)) rfl) : ixP 4 1 (.ptr 1 0) (i6 v1) = some (.ptr 1 2)) (apc ((ix_lit h4 (fun z => ixP 4 1 (.ptr 2 0) (i6 z)) rfl) : ixP 4 1 (.ptr 2 0) (i6 v1) = some (.ptr 2 2)) (apc ((ix_lit h4 (fun z => ixP 4 1 (.ptr 1 0) (i6 z)) rfl) : ixP 4 1 (.ptr 1 0) (i6 v1) = some (.ptr 1 2)) (apc ((okT_of rfl (abl_cons rfl (abl_cons rfl (abl_cons rfl rfl)))) : okT 3 [.cells 46 [(vi .u64 0), (vi .u64 0), (vi .u64 0), (vi .u64 0)], .cells 46 [(vi .u64 v2), (vi .u64 v3), (vi .u64 (IntKind.wrap .u64 ((BitVec.ofInt (IntKind.bits .u64) v4 ||| BitVec.ofInt (IntKind.bits .u64) a8.c).toNat : Int))), (vi .u64 v5)], .cells 46 ((eSet a8).map .p)] = true) apn))))) (by kernel_rfl)
    ·
     refine bi h (fun h5 h => ?_) fun h5 h => ?_
     ·
      rw [← sj h]
      exact rnd (n := 30) [(14, .d true), (17, .v (.ptr 1 3)), (20, .v (.ptr 2 3)), (23, .v (.ptr 1 3)), (6000, .d true)] (apc (cv h1) (apc ((ix_lit h5 (fun z => ixP 4 1 (.ptr 1 0) (i6 z)) rfl) : ixP 4 1 (.ptr 1 0) (i6 v1) = some (.ptr 1 3)) (apc ((ix_lit h5 (fun z => ixP 4 1 (.ptr 2 0) (i6 z)) rfl) : ixP 4 1 (.ptr 2 0) (i6 v1) = some (.ptr 2 3)) (apc ((ix_lit h5 (fun z => ixP 4 1 (.ptr 1 0) (i6 z)) rfl) : ixP 4 1 (.ptr 1 0) (i6 v1) = some (.ptr 1 3)) (apc ((okT_of rfl (abl_cons rfl (abl_cons rfl (abl_cons rfl rfl)))) : okT 3 [.cells 46 [(vi .u64 0), (vi .u64 0), (vi .u64 0), (vi .u64 0)], .cells 46 [(vi .u64 v2), (vi .u64 v3), (vi .u64 v4), (vi .u64 (IntKind.wrap .u64 ((BitVec.ofInt (IntKind.bits .u64) v5 ||| BitVec.ofInt (IntKind.bits .u64) a8.d).toNat : Int)))], .cells 46 ((eSet a8).map .p)] = true) apn))))) (by kernel_rfl)
     ·
      cases h
 ·
  rw [← sj h]
  exact xbrk (n := 30) [(14, .d false), (6000, .d true)] (apc (cv h1) apn) (by kernel_rfl)
theorem L76_0_run (a1 : List SetD) (a2 : Int) (a3 : Int) (a8 : SetD) (s0 : Int × Int × Int × Int × Int) (e : E_L76_0) (h : runL (fun s => L76_0 a8 s.1 s.2.1 s.2.2.1 s.2.2.2.1 s.2.2.2.2) s0 = some e) : L76_0_x a1 a2 a3 a8 e (evH prg 3 [2, 3, 5, 7, 8, 9, 13] ir76_l0 (L76_0_s a1 a2 a3 a8 s0.1 s0.2.1 s0.2.2.1 s0.2.2.2.1 s0.2.2.2.2)) := by
  have q := @loop_sound' (Int × Int × Int × Int × Int) E_L76_0 (fun s => L76_0 a8 s.1 s.2.1 s.2.2.1 s.2.2.2.1 s.2.2.2.2) (fun s => evH prg 3 [2, 3, 5, 7, 8, 9, 13] ir76_l0 (L76_0_s a1 a2 a3 a8 s.1 s.2.1 s.2.2.1 s.2.2.2.1 s.2.2.2.2)) (L76_0_x a1 a2 a3 a8) (fun s r h => L76_0_ok a1 a2 a3 a8 s.1 s.2.1 s.2.2.1 s.2.2.2.1 s.2.2.2.2 h) s0 e h
  exact q
inductive E_L76_1 where
  | k0 (x0 : Int) (x1 : Int) (x2 : Int) (x3 : Int)
noncomputable def L76_1 (a1 : List SetD) (a2 : Int) (v1 : Int) (v2 : Int) (v3 : Int) (v4 : Int) (v5 : Int) : Option (E_L76_1 ⊕ (Int × Int × Int × Int × Int)) :=
  (bif (decide (v1 < a2)) then ((getI a1 v1).bind fun x2 => ((runL (fun s => L76_0 x2 s.1 s.2.1 s.2.2.1 s.2.2.2.1 s.2.2.2.2) (0, v2, v3, v4, v5)).bind fun r3 => match r3 with | .k0 x3_0 x3_1 x3_2 x3_3 => (some (.inr ((IntKind.wrap .i64 (v1 + 1)), x3_0, x3_1, x3_2, x3_3))))) else (some (.inl (.k0 v2 v3 v4 v5))))
def L76_1_s (a1 : List SetD) (a2 : Int) (v1 : Int) (v2 : Int) (v3 : Int) (v4 : Int) (v5 : Int) : St := ⟨fr 27 ug [(2, (.ptr 0 0)), (3, (.ptr 1 0)), (7, (.p (.lst 4 (a1.map eSet)))), (8, (i6 a2)), (9, (i6 v1))], [.cells 46 [(vi .u64 0), (vi .u64 0), (vi .u64 0), (vi .u64 0)], .cells 46 [(vi .u64 v2), (vi .u64 v3), (vi .u64 v4), (vi .u64 v5)]]⟩
def L76_1_x (a1 : List SetD) (a2 : Int) (e : E_L76_1) (r : Option (Out × St)) : Prop := match e with | .k0 x0 x1 x2 x3 => ∃ g, r = some ((.brk 0), ⟨fr 27 g [(2, (.ptr 0 0)), (3, (.ptr 1 0)), (7, (.p (.lst 4 (a1.map eSet))))], [.cells 46 [(vi .u64 0), (vi .u64 0), (vi .u64 0), (vi .u64 0)], .cells 46 [(vi .u64 x0), (vi .u64 x1), (vi .u64 x2), (vi .u64 x3)]]⟩)
theorem L76_1_ok (a1 : List SetD) (a2 : Int) (v1 : Int) (v2 : Int) (v3 : Int) (v4 : Int) (v5 : Int) {r : E_L76_1 ⊕ (Int × Int × Int × Int × Int)} (h : L76_1 a1 a2 v1 v2 v3 v4 v5 = some r) : OkR (fun e => L76_1_x a1 a2 e (evH prg 2 [2, 3, 7, 8, 9] ir76_l1 (L76_1_s a1 a2 v1 v2 v3 v4 v5))) (fun s => evH prg 2 [2, 3, 7, 8, 9] ir76_l1 (L76_1_s a1 a2 v1 v2 v3 v4 v5) = evH prg 2 [2, 3, 7, 8, 9] ir76_l1 (L76_1_s a1 a2 s.1 s.2.1 s.2.2.1 s.2.2.2.1 s.2.2.2.2)) r := by
 unfold L76_1 at h
 refine bi h (fun h1 h => ?_) fun h1 h => ?_
 ·
  refine bn h fun x2 h2 h => ?_
  refine bn h fun r3 h3 h => ?_
  cases r3 with
  | k0 x3_0 x3_1 x3_2 x3_3 =>
   obtain ⟨g3, e3⟩ := L76_0_run a1 a2 v1 x2 (0, v2, v3, v4, v5) _ h3
   rw [← sj h]
   exact rnd (n := 30) [(10, .d true), (11, .v (.ro (eSet x2))), (2002, .l (.brk 2) ⟨fr 27 g3 [(2, (.ptr 0 0)), (3, (.ptr 1 0)), (5, (.ptr 2 0)), (7, (.p (.lst 4 (a1.map eSet)))), (8, (i6 a2)), (9, (i6 v1))], [.cells 46 [(vi .u64 0), (vi .u64 0), (vi .u64 0), (vi .u64 0)], .cells 46 [(vi .u64 x3_0), (vi .u64 x3_1), (vi .u64 x3_2), (vi .u64 x3_3)], .cells 46 ((eSet x2).map .p)]⟩), (6000, .d true)] (apc (cv h1) (apc (ig eSet 4 .i64 h2) (apc ((okT_of rfl (abl_cons rfl (abl_cons rfl (abl_cons rfl rfl)))) : okT 3 [.cells 46 [(vi .u64 0), (vi .u64 0), (vi .u64 0), (vi .u64 0)], .cells 46 [(vi .u64 v2), (vi .u64 v3), (vi .u64 v4), (vi .u64 v5)], .cells 46 ((eSet x2).map .p)] = true) (apc (e3 : evH prg 3 [2, 3, 5, 7, 8, 9, 13] ir76_l0 (L76_0_s a1 a2 v1 x2 0 v2 v3 v4 v5) = some ((.brk 2), ⟨fr 27 g3 [(2, (.ptr 0 0)), (3, (.ptr 1 0)), (5, (.ptr 2 0)), (7, (.p (.lst 4 (a1.map eSet)))), (8, (i6 a2)), (9, (i6 v1))], [.cells 46 [(vi .u64 0), (vi .u64 0), (vi .u64 0), (vi .u64 0)], .cells 46 [(vi .u64 x3_0), (vi .u64 x3_1), (vi .u64 x3_2), (vi .u64 x3_3)], .cells 46 ((eSet x2).map .p)]⟩)) (apc ((okT_of rfl (abl_cons rfl (abl_cons rfl rfl))) : okT 2 [.cells 46 [(vi .u64 0), (vi .u64 0), (vi .u64 0), (vi .u64 0)], .cells 46 [(vi .u64 x3_0), (vi .u64 x3_1), (vi .u64 x3_2), (vi .u64 x3_3)], .cells 46 ((eSet x2).map .p)] = true) apn))))) (by kernel_rfl)
 ·
  rw [← sj h]
  exact xbrk (n := 30) [(10, .d false), (6000, .d true)] (apc (cv h1) apn) (by kernel_rfl)
theorem L76_1_run (a1 : List SetD) (a2 : Int) (s0 : Int × Int × Int × Int × Int) (e : E_L76_1) (h : runL (fun s => L76_1 a1 a2 s.1 s.2.1 s.2.2.1 s.2.2.2.1 s.2.2.2.2) s0 = some e) : L76_1_x a1 a2 e (evH prg 2 [2, 3, 7, 8, 9] ir76_l1 (L76_1_s a1 a2 s0.1 s0.2.1 s0.2.2.1 s0.2.2.2.1 s0.2.2.2.2)) := by
  have q := @loop_sound' (Int × Int × Int × Int × Int) E_L76_1 (fun s => L76_1 a1 a2 s.1 s.2.1 s.2.2.1 s.2.2.2.1 s.2.2.2.2) (fun s => evH prg 2 [2, 3, 7, 8, 9] ir76_l1 (L76_1_s a1 a2 s.1 s.2.1 s.2.2.1 s.2.2.2.1 s.2.2.2.2)) (L76_1_x a1 a2) (fun s r h => L76_1_ok a1 a2 s.1 s.2.1 s.2.2.1 s.2.2.2.1 s.2.2.2.2 h) s0 e h
  exact q
inductive R_F76 where
  | k0 (x0 : Int) (x1 : Int) (x2 : Int) (x3 : Int)
noncomputable def F76 (a1 : List SetD) : Option R_F76 :=
  ((runL (fun s => L76_1 a1 (a1.length : Int) s.1 s.2.1 s.2.2.1 s.2.2.2.1 s.2.2.2.2) (0, 0, 0, 0, 0)).bind fun r1 => match r1 with | .k0 x1_0 x1_1 x1_2 x1_3 => (some (.k0 x1_0 x1_1 x1_2 x1_3)))
def F76_v (a1 : List SetD) (r : R_F76) : AV := match r with | .k0 x0 x1 x2 x3 => (.agg [(vi .u64 x0), (vi .u64 x1), (vi .u64 x2), (vi .u64 x3)])
theorem F76_ok (a1 : List SetD) {r : R_F76} (h : F76 a1 = some r) : PR1 prg 76 [(.p (.lst 4 (a1.map eSet)))] (F76_v a1 r) := by
 unfold F76 at h
 refine bn h fun r1 h1 h => ?_
 cases r1 with
 | k0 x1_0 x1_1 x1_2 x1_3 =>
  obtain ⟨g1, e1⟩ := L76_1_run a1 (a1.length : Int) (0, 0, 0, 0, 0) _ h1
  rw [← sj h]
  exact fpr (n := 30) [(8, .v (i6 (a1.length : Int))), (2000, .l (.brk 0) ⟨fr 27 g1 [(2, (.ptr 0 0)), (3, (.ptr 1 0)), (7, (.p (.lst 4 (a1.map eSet))))], [.cells 46 [(vi .u64 0), (vi .u64 0), (vi .u64 0), (vi .u64 0)], .cells 46 [(vi .u64 x1_0), (vi .u64 x1_1), (vi .u64 x1_2), (vi .u64 x1_3)]]⟩), (6000, .d true)] (apc (lg a1 eSet 4) (apc ((okT_of rfl (abl_cons rfl (abl_cons rfl rfl))) : okT 2 [.cells 46 [(vi .u64 0), (vi .u64 0), (vi .u64 0), (vi .u64 0)], .cells 46 [(vi .u64 0), (vi .u64 0), (vi .u64 0), (vi .u64 0)]] = true) (apc (e1 : evH prg 2 [2, 3, 7, 8, 9] ir76_l1 (L76_1_s a1 (a1.length : Int) 0 0 0 0 0) = some ((.brk 0), ⟨fr 27 g1 [(2, (.ptr 0 0)), (3, (.ptr 1 0)), (7, (.p (.lst 4 (a1.map eSet))))], [.cells 46 [(vi .u64 0), (vi .u64 0), (vi .u64 0), (vi .u64 0)], .cells 46 [(vi .u64 x1_0), (vi .u64 x1_1), (vi .u64 x1_2), (vi .u64 x1_3)]]⟩)) apn))) rfl (by kernel_rfl)
noncomputable def F55 (a3 : List Bool) (a4 : SymD) : Option Bool :=
  (bif (a4.kind == 1) then ((getI a3 a4.sort).bind fun x2 => (some x2)) else (some false))
def F55_v (a1 : GramD) (a2 : List Int) (a3 : List Bool) (a4 : SymD) (x0 : Bool) : AV := (vb x0)
theorem F55_ok (a1 : GramD) (a2 : List Int) (a3 : List Bool) (a4 : SymD) {r : Bool} (h : F55 a3 a4 = some r) : PR1 prg 55 [(.ro (eOp a1 a2 a3)), (.agg ((eSym a4).map .p))] (F55_v a1 a2 a3 a4 r) := by
 unfold F55 at h
 refine bi h (fun h1 h => ?_) fun h1 h => ?_
 ·
  refine bn h fun x2 h2 h => ?_
  rw [← sj h]
  exact fpr (n := 30) [(7, .d true), (15, .v (.ro [.val (.bool x2)]))] (apc (cv h1) (apc (ig eBool 1 .i64 h2) apn)) rfl (by kernel_rfl)
 ·
  rw [← sj h]
  exact fpr (n := 30) [(7, .d false)] (apc (cv h1) apn) rfl (by kernel_rfl)
inductive E_L75_0 where
  | k0 (x0 : List SetD) (x1 : Int) (x2 : Int) (x3 : Int) (x4 : Int) (x5 : Int) (x6 : Int) (x7 : Int) (x8 : Int) (x9 : Int) (x10 : Int) (x11 : Int) (x12 : Int) (x13 : Int) (x14 : Int)
  | k1 (x0 : List SetD)
noncomputable def L75_0 (a1 : ProdD) (a2 : Int) (a5 : List Bool) (a7 : Nat) (v1 : Int) (v2 : List SetD) : Option (E_L75_0 ⊕ (Int × (List SetD))) :=
  (bif (decide (v1 < a2)) then ((getI a1.right v1).bind fun x2 => (bif (x2.kind == 0) then ((ixN a7 a1.left).bind fun x4 => ((v2[x4]?).bind fun x5 => ((F76 ([(⟨x5.a, x5.b, x5.c, x5.d⟩ : SetD), (⟨x2.a, x2.b, x2.c, x2.d⟩ : SetD)])).bind fun r6 => match r6 with | .k0 x6_0 x6_1 x6_2 x6_3 => (some (.inl (.k0 (v2.set x4 (⟨x6_0, x6_1, x6_2, x6_3⟩ : SetD)) x2.kind x2.a x2.b x2.c x2.d x2.sort x5.a x5.b x5.c x5.d x2.a x2.b x2.c x2.d)))))) else ((ixN a7 a1.left).bind fun x4 => ((v2[x4]?).bind fun x5 => ((ixN a7 x2.sort).bind fun x6 => ((v2[x6]?).bind fun x7 => ((F76 ([(⟨x5.a, x5.b, x5.c, x5.d⟩ : SetD), (⟨x7.a, x7.b, x7.c, x7.d⟩ : SetD)])).bind fun r8 => match r8 with | .k0 x8_0 x8_1 x8_2 x8_3 => ((F55 a5 x2).bind fun x9 => (bif x9 then (some (.inr ((IntKind.wrap .i64 (v1 + 1)), (v2.set x4 (⟨x8_0, x8_1, x8_2, x8_3⟩ : SetD))))) else (some (.inl (.k0 (v2.set x4 (⟨x8_0, x8_1, x8_2, x8_3⟩ : SetD)) x2.kind x2.a x2.b x2.c x2.d x2.sort x5.a x5.b x5.c x5.d x7.a x7.b x7.c x7.d)))))))))))) else (some (.inl (.k1 v2))))
def L75_0_s (a1 : ProdD) (a2 : Int) (a3 : GramD) (a4 : List Int) (a5 : List Bool) (a7 : Nat) (a8 : SetD) (v1 : Int) (v2 : List SetD) : St := ⟨fr 68 ug [(1, (.ptr 0 0)), (2, (.ptr 4 0)), (3, (.ptr 7 0)), (5, (.ptr 8 0)), (18, (.p (.lst 6 (a1.right.map eSym)))), (19, (i6 a2)), (20, (i6 v1))], [.cells 89 [(.ro (eOp a3 a4 a5))], bS [], bS v2, bS [], .cells 63 [(.sl 2 0 4 0 a7)], .row 48 6 0 (ra eSym []), bP a1, bP a1, .cells 46 ((eSet a8).map .p)]⟩
def L75_0_x (a1 : ProdD) (a2 : Int) (a3 : GramD) (a4 : List Int) (a5 : List Bool) (a7 : Nat) (a8 : SetD) (e : E_L75_0) (r : Option (Out × St)) : Prop := match e with | .k0 x0 x1 x2 x3 x4 x5 x6 x7 x8 x9 x10 x11 x12 x13 x14 => ∃ g, r = some ((.brk 0), ⟨fr 68 g [(1, (.ptr 0 0)), (2, (.ptr 4 0)), (3, (.ptr 7 0)), (5, (.ptr 8 0)), (18, (.p (.lst 6 (a1.right.map eSym))))], [.cells 89 [(.ro (eOp a3 a4 a5))], bS [], bS x0, bS [], .cells 63 [(.sl 2 0 4 0 a7)], .row 48 6 0 (ra eSym []), bP a1, bP a1, .cells 46 ((eSet a8).map .p), .cells 48 [(i6 x1), (vi .u64 x2), (vi .u64 x3), (vi .u64 x4), (vi .u64 x5), (i6 x6)], .row 46 4 0 [[(vi .u64 x7), (vi .u64 x8), (vi .u64 x9), (vi .u64 x10)], [(vi .u64 x11), (vi .u64 x12), (vi .u64 x13), (vi .u64 x14)]]]⟩) | .k1 x0 => ∃ g, r = some ((.brk 0), ⟨fr 68 g [(1, (.ptr 0 0)), (2, (.ptr 4 0)), (3, (.ptr 7 0)), (5, (.ptr 8 0)), (18, (.p (.lst 6 (a1.right.map eSym))))], [.cells 89 [(.ro (eOp a3 a4 a5))], bS [], bS x0, bS [], .cells 63 [(.sl 2 0 4 0 a7)], .row 48 6 0 (ra eSym []), bP a1, bP a1, .cells 46 ((eSet a8).map .p)]⟩)
theorem L75_0_ok (a1 : ProdD) (a2 : Int) (a3 : GramD) (a4 : List Int) (a5 : List Bool) (a7 : Nat) (a8 : SetD) (v1 : Int) (v2 : List SetD) {r : E_L75_0 ⊕ (Int × (List SetD))} (h : L75_0 a1 a2 a5 a7 v1 v2 = some r) : OkR (fun e => L75_0_x a1 a2 a3 a4 a5 a7 a8 e (evH prg 9 [1, 2, 3, 5, 18, 19, 20] ir75_l0 (L75_0_s a1 a2 a3 a4 a5 a7 a8 v1 v2))) (fun s => evH prg 9 [1, 2, 3, 5, 18, 19, 20] ir75_l0 (L75_0_s a1 a2 a3 a4 a5 a7 a8 v1 v2) = evH prg 9 [1, 2, 3, 5, 18, 19, 20] ir75_l0 (L75_0_s a1 a2 a3 a4 a5 a7 a8 s.1 s.2)) r := by
 unfold L75_0 at h
 refine bi h (fun h1 h => ?_) fun h1 h => ?_
 ·
  refine bn h fun x2 h2 h => ?_
  refine bi h (fun h3 h => ?_) fun h3 h => ?_
  ·
   refine bn h fun x4 h4 h => ?_
   refine bn h fun x5 h5 h => ?_
   refine bn h fun r6 h6 h => ?_
   cases r6 with
   | k0 x6_0 x6_1 x6_2 x6_3 =>
    rw [← sj h]
    exact xbrk (n := 30) [(21, .d true), (22, .v (.ro (eSym x2))), (26, .d true), (33, .v (.rp 2 0 4 x4 0)), (34, .v (.agg ((eSet x5).map .p))), (38, .v (.agg [(vi .u64 x6_0), (vi .u64 x6_1), (vi .u64 x6_2), (vi .u64 x6_3)])), (39, .v (.rp 2 0 4 x4 0)), (1039, .r ud [.cells 89 [(.ro (eOp a3 a4 a5))], bS [], .row 46 4 0 (ra eSet (v2.set x4 (⟨x6_0, x6_1, x6_2, x6_3⟩ : SetD))), bS [], .cells 63 [(.sl 2 0 4 0 a7)], .row 48 6 0 (ra eSym []), bP a1, bP a1, .cells 46 ((eSet a8).map .p), .cells 48 ((eSym x2).map .p), .row 46 4 0 [[(vi .u64 x5.a), (vi .u64 x5.b), (vi .u64 x5.c), (vi .u64 x5.d)], [(vi .u64 x2.a), (vi .u64 x2.b), (vi .u64 x2.c), (vi .u64 x2.d)]]]), (6000, .d true)] (apc (cv h1) (apc (ig eSym 6 .i64 h2) (apc (cv h3) (apc ((idx_sl h4) : idxA 4 (.sl 2 0 4 0 a7) (i6 a1.left) = some (.rp 2 0 4 x4 0)) (apc ((ld_row rfl h5 rfl) : ldA [.cells 89 [(.ro (eOp a3 a4 a5))], bS [], bS v2, bS [], .cells 63 [(.sl 2 0 4 0 a7)], .row 48 6 0 (ra eSym []), bP a1, bP a1, .cells 46 ((eSet a8).map .p), .cells 48 ((eSym x2).map .p)] .true 4 (.rp 2 0 4 x4 0) = some (.agg ((eSet x5).map .p))) (apc (((F76_ok ([(⟨x5.a, x5.b, x5.c, x5.d⟩ : SetD), (⟨x2.a, x2.b, x2.c, x2.d⟩ : SetD)]) h6).own rfl (purAs_cons (purA_sl (e := eSet) (xs := [(⟨x5.a, x5.b, x5.c, x5.d⟩ : SetD), (⟨x2.a, x2.b, x2.c, x2.d⟩ : SetD)]) rfl rfl) purAs_nil) rfl) : CP prg 76 [(.sl 10 0 4 0 2)] [.cells 89 [(.ro (eOp a3 a4 a5))], bS [], bS v2, bS [], .cells 63 [(.sl 2 0 4 0 a7)], .row 48 6 0 (ra eSym []), bP a1, bP a1, .cells 46 ((eSet a8).map .p), .cells 48 ((eSym x2).map .p), .row 46 4 0 [[(vi .u64 x5.a), (vi .u64 x5.b), (vi .u64 x5.c), (vi .u64 x5.d)], [(vi .u64 x2.a), (vi .u64 x2.b), (vi .u64 x2.c), (vi .u64 x2.d)]]] = some (.agg [(vi .u64 x6_0), (vi .u64 x6_1), (vi .u64 x6_2), (vi .u64 x6_3)])) (apc ((idx_sl h4) : idxA 4 (.sl 2 0 4 0 a7) (i6 a1.left) = some (.rp 2 0 4 x4 0)) (apc (⟨st_row (v' := (⟨x6_0, x6_1, x6_2, x6_3⟩ : SetD)) rfl h5 rfl rfl (Nat.le_of_ble_eq_true rfl) rfl, rfl⟩ : stA [.cells 89 [(.ro (eOp a3 a4 a5))], bS [], bS v2, bS [], .cells 63 [(.sl 2 0 4 0 a7)], .row 48 6 0 (ra eSym []), bP a1, bP a1, .cells 46 ((eSet a8).map .p), .cells 48 ((eSym x2).map .p), .row 46 4 0 [[(vi .u64 x5.a), (vi .u64 x5.b), (vi .u64 x5.c), (vi .u64 x5.d)], [(vi .u64 x2.a), (vi .u64 x2.b), (vi .u64 x2.c), (vi .u64 x2.d)]]] 4 (.rp 2 0 4 x4 0) (.agg [(vi .u64 x6_0), (vi .u64 x6_1), (vi .u64 x6_2), (vi .u64 x6_3)]) = some [.cells 89 [(.ro (eOp a3 a4 a5))], bS [], .row 46 4 0 (ra eSet (v2.set x4 (⟨x6_0, x6_1, x6_2, x6_3⟩ : SetD))), bS [], .cells 63 [(.sl 2 0 4 0 a7)], .row 48 6 0 (ra eSym []), bP a1, bP a1, .cells 46 ((eSet a8).map .p), .cells 48 ((eSym x2).map .p), .row 46 4 0 [[(vi .u64 x5.a), (vi .u64 x5.b), (vi .u64 x5.c), (vi .u64 x5.d)], [(vi .u64 x2.a), (vi .u64 x2.b), (vi .u64 x2.c), (vi .u64 x2.d)]]] ∧ ud = ud) apn)))))))) (by kernel_rfl)
  ·
   refine bn h fun x4 h4 h => ?_
   refine bn h fun x5 h5 h => ?_
   refine bn h fun x6 h6 h => ?_
   refine bn h fun x7 h7 h => ?_
   refine bn h fun r8 h8 h => ?_
   cases r8 with
   | k0 x8_0 x8_1 x8_2 x8_3 =>
    refine bn h fun x9 h9 h => ?_
    refine bi h (fun h10 h => ?_) fun h10 h => ?_
    ·
     rw [← sj h]
     exact rnd (n := 30) [(21, .d true), (22, .v (.ro (eSym x2))), (26, .d false), (46, .v (.rp 2 0 4 x4 0)), (47, .v (.agg ((eSet x5).map .p))), (51, .v (.rp 2 0 4 x6 0)), (52, .v (.agg ((eSet x7).map .p))), (54, .v (.agg [(vi .u64 x8_0), (vi .u64 x8_1), (vi .u64 x8_2), (vi .u64 x8_3)])), (55, .v (.rp 2 0 4 x4 0)), (1055, .r ud [.cells 89 [(.ro (eOp a3 a4 a5))], bS [], .row 46 4 0 (ra eSet (v2.set x4 (⟨x8_0, x8_1, x8_2, x8_3⟩ : SetD))), bS [], .cells 63 [(.sl 2 0 4 0 a7)], .row 48 6 0 (ra eSym []), bP a1, bP a1, .cells 46 ((eSet a8).map .p), .cells 48 ((eSym x2).map .p), .row 46 4 0 [[(vi .u64 x5.a), (vi .u64 x5.b), (vi .u64 x5.c), (vi .u64 x5.d)], [(vi .u64 x7.a), (vi .u64 x7.b), (vi .u64 x7.c), (vi .u64 x7.d)]]]), (58, .v (vb true)), (6000, .d true)] (apc (cv h1) (apc (ig eSym 6 .i64 h2) (apc (cv h3) (apc ((idx_sl h4) : idxA 4 (.sl 2 0 4 0 a7) (i6 a1.left) = some (.rp 2 0 4 x4 0)) (apc ((ld_row rfl h5 rfl) : ldA [.cells 89 [(.ro (eOp a3 a4 a5))], bS [], bS v2, bS [], .cells 63 [(.sl 2 0 4 0 a7)], .row 48 6 0 (ra eSym []), bP a1, bP a1, .cells 46 ((eSet a8).map .p), .cells 48 ((eSym x2).map .p)] .true 4 (.rp 2 0 4 x4 0) = some (.agg ((eSet x5).map .p))) (apc ((idx_sl h6) : idxA 4 (.sl 2 0 4 0 a7) (i6 x2.sort) = some (.rp 2 0 4 x6 0)) (apc ((ld_row rfl h7 rfl) : ldA [.cells 89 [(.ro (eOp a3 a4 a5))], bS [], bS v2, bS [], .cells 63 [(.sl 2 0 4 0 a7)], .row 48 6 0 (ra eSym []), bP a1, bP a1, .cells 46 ((eSet a8).map .p), .cells 48 ((eSym x2).map .p)] .true 4 (.rp 2 0 4 x6 0) = some (.agg ((eSet x7).map .p))) (apc (((F76_ok ([(⟨x5.a, x5.b, x5.c, x5.d⟩ : SetD), (⟨x7.a, x7.b, x7.c, x7.d⟩ : SetD)]) h8).own rfl (purAs_cons (purA_sl (e := eSet) (xs := [(⟨x5.a, x5.b, x5.c, x5.d⟩ : SetD), (⟨x7.a, x7.b, x7.c, x7.d⟩ : SetD)]) rfl rfl) purAs_nil) rfl) : CP prg 76 [(.sl 10 0 4 0 2)] [.cells 89 [(.ro (eOp a3 a4 a5))], bS [], bS v2, bS [], .cells 63 [(.sl 2 0 4 0 a7)], .row 48 6 0 (ra eSym []), bP a1, bP a1, .cells 46 ((eSet a8).map .p), .cells 48 ((eSym x2).map .p), .row 46 4 0 [[(vi .u64 x5.a), (vi .u64 x5.b), (vi .u64 x5.c), (vi .u64 x5.d)], [(vi .u64 x7.a), (vi .u64 x7.b), (vi .u64 x7.c), (vi .u64 x7.d)]]] = some (.agg [(vi .u64 x8_0), (vi .u64 x8_1), (vi .u64 x8_2), (vi .u64 x8_3)])) (apc ((idx_sl h4) : idxA 4 (.sl 2 0 4 0 a7) (i6 a1.left) = some (.rp 2 0 4 x4 0)) (apc (⟨st_row (v' := (⟨x8_0, x8_1, x8_2, x8_3⟩ : SetD)) rfl h5 rfl rfl (Nat.le_of_ble_eq_true rfl) rfl, rfl⟩ : stA [.cells 89 [(.ro (eOp a3 a4 a5))], bS [], bS v2, bS [], .cells 63 [(.sl 2 0 4 0 a7)], .row 48 6 0 (ra eSym []), bP a1, bP a1, .cells 46 ((eSet a8).map .p), .cells 48 ((eSym x2).map .p), .row 46 4 0 [[(vi .u64 x5.a), (vi .u64 x5.b), (vi .u64 x5.c), (vi .u64 x5.d)], [(vi .u64 x7.a), (vi .u64 x7.b), (vi .u64 x7.c), (vi .u64 x7.d)]]] 4 (.rp 2 0 4 x4 0) (.agg [(vi .u64 x8_0), (vi .u64 x8_1), (vi .u64 x8_2), (vi .u64 x8_3)]) = some [.cells 89 [(.ro (eOp a3 a4 a5))], bS [], .row 46 4 0 (ra eSet (v2.set x4 (⟨x8_0, x8_1, x8_2, x8_3⟩ : SetD))), bS [], .cells 63 [(.sl 2 0 4 0 a7)], .row 48 6 0 (ra eSym []), bP a1, bP a1, .cells 46 ((eSet a8).map .p), .cells 48 ((eSym x2).map .p), .row 46 4 0 [[(vi .u64 x5.a), (vi .u64 x5.b), (vi .u64 x5.c), (vi .u64 x5.d)], [(vi .u64 x7.a), (vi .u64 x7.b), (vi .u64 x7.c), (vi .u64 x7.d)]]] ∧ ud = ud) (apc ((((F55_ok a3 a4 a5 x2 h9).cp rfl _).trans (congrArg (fun z => some (vb z)) h10)) : CP prg 55 [(.ro (eOp a3 a4 a5)), (.agg ((eSym x2).map .p))] [.cells 89 [(.ro (eOp a3 a4 a5))], bS [], .row 46 4 0 (ra eSet (v2.set x4 (⟨x8_0, x8_1, x8_2, x8_3⟩ : SetD))), bS [], .cells 63 [(.sl 2 0 4 0 a7)], .row 48 6 0 (ra eSym []), bP a1, bP a1, .cells 46 ((eSet a8).map .p), .cells 48 ((eSym x2).map .p), .row 46 4 0 [[(vi .u64 x5.a), (vi .u64 x5.b), (vi .u64 x5.c), (vi .u64 x5.d)], [(vi .u64 x7.a), (vi .u64 x7.b), (vi .u64 x7.c), (vi .u64 x7.d)]]] = some (vb true)) (apc ((okT_of rfl (abl_cons rfl (abl_cons abl_row (abl_cons abl_row (abl_cons abl_row (abl_cons rfl (abl_cons abl_row (abl_cons rfl (abl_cons rfl (abl_cons rfl rfl)))))))))) : okT 9 [.cells 89 [(.ro (eOp a3 a4 a5))], bS [], .row 46 4 0 (ra eSet (v2.set x4 (⟨x8_0, x8_1, x8_2, x8_3⟩ : SetD))), bS [], .cells 63 [(.sl 2 0 4 0 a7)], .row 48 6 0 (ra eSym []), bP a1, bP a1, .cells 46 ((eSet a8).map .p), .cells 48 ((eSym x2).map .p), .row 46 4 0 [[(vi .u64 x5.a), (vi .u64 x5.b), (vi .u64 x5.c), (vi .u64 x5.d)], [(vi .u64 x7.a), (vi .u64 x7.b), (vi .u64 x7.c), (vi .u64 x7.d)]]] = true) apn)))))))))))) (by kernel_rfl)
    ·
     rw [← sj h]
     exact xbrk (n := 30) [(21, .d true), (22, .v (.ro (eSym x2))), (26, .d false), (46, .v (.rp 2 0 4 x4 0)), (47, .v (.agg ((eSet x5).map .p))), (51, .v (.rp 2 0 4 x6 0)), (52, .v (.agg ((eSet x7).map .p))), (54, .v (.agg [(vi .u64 x8_0), (vi .u64 x8_1), (vi .u64 x8_2), (vi .u64 x8_3)])), (55, .v (.rp 2 0 4 x4 0)), (1055, .r ud [.cells 89 [(.ro (eOp a3 a4 a5))], bS [], .row 46 4 0 (ra eSet (v2.set x4 (⟨x8_0, x8_1, x8_2, x8_3⟩ : SetD))), bS [], .cells 63 [(.sl 2 0 4 0 a7)], .row 48 6 0 (ra eSym []), bP a1, bP a1, .cells 46 ((eSet a8).map .p), .cells 48 ((eSym x2).map .p), .row 46 4 0 [[(vi .u64 x5.a), (vi .u64 x5.b), (vi .u64 x5.c), (vi .u64 x5.d)], [(vi .u64 x7.a), (vi .u64 x7.b), (vi .u64 x7.c), (vi .u64 x7.d)]]]), (58, .v (vb false)), (6000, .d true)] (apc (cv h1) (apc (ig eSym 6 .i64 h2) (apc (cv h3) (apc ((idx_sl h4) : idxA 4 (.sl 2 0 4 0 a7) (i6 a1.left) = some (.rp 2 0 4 x4 0)) (apc ((ld_row rfl h5 rfl) : ldA [.cells 89 [(.ro (eOp a3 a4 a5))], bS [], bS v2, bS [], .cells 63 [(.sl 2 0 4 0 a7)], .row 48 6 0 (ra eSym []), bP a1, bP a1, .cells 46 ((eSet a8).map .p), .cells 48 ((eSym x2).map .p)] .true 4 (.rp 2 0 4 x4 0) = some (.agg ((eSet x5).map .p))) (apc ((idx_sl h6) : idxA 4 (.sl 2 0 4 0 a7) (i6 x2.sort) = some (.rp 2 0 4 x6 0)) (apc ((ld_row rfl h7 rfl) : ldA [.cells 89 [(.ro (eOp a3 a4 a5))], bS [], bS v2, bS [], .cells 63 [(.sl 2 0 4 0 a7)], .row 48 6 0 (ra eSym []), bP a1, bP a1, .cells 46 ((eSet a8).map .p), .cells 48 ((eSym x2).map .p)] .true 4 (.rp 2 0 4 x6 0) = some (.agg ((eSet x7).map .p))) (apc (((F76_ok ([(⟨x5.a, x5.b, x5.c, x5.d⟩ : SetD), (⟨x7.a, x7.b, x7.c, x7.d⟩ : SetD)]) h8).own rfl (purAs_cons (purA_sl (e := eSet) (xs := [(⟨x5.a, x5.b, x5.c, x5.d⟩ : SetD), (⟨x7.a, x7.b, x7.c, x7.d⟩ : SetD)]) rfl rfl) purAs_nil) rfl) : CP prg 76 [(.sl 10 0 4 0 2)] [.cells 89 [(.ro (eOp a3 a4 a5))], bS [], bS v2, bS [], .cells 63 [(.sl 2 0 4 0 a7)], .row 48 6 0 (ra eSym []), bP a1, bP a1, .cells 46 ((eSet a8).map .p), .cells 48 ((eSym x2).map .p), .row 46 4 0 [[(vi .u64 x5.a), (vi .u64 x5.b), (vi .u64 x5.c), (vi .u64 x5.d)], [(vi .u64 x7.a), (vi .u64 x7.b), (vi .u64 x7.c), (vi .u64 x7.d)]]] = some (.agg [(vi .u64 x8_0), (vi .u64 x8_1), (vi .u64 x8_2), (vi .u64 x8_3)])) (apc ((idx_sl h4) : idxA 4 (.sl 2 0 4 0 a7) (i6 a1.left) = some (.rp 2 0 4 x4 0)) (apc (⟨st_row (v' := (⟨x8_0, x8_1, x8_2, x8_3⟩ : SetD)) rfl h5 rfl rfl (Nat.le_of_ble_eq_true rfl) rfl, rfl⟩ : stA [.cells 89 [(.ro (eOp a3 a4 a5))], bS [], bS v2, bS [], .cells 63 [(.sl 2 0 4 0 a7)], .row 48 6 0 (ra eSym []), bP a1, bP a1, .cells 46 ((eSet a8).map .p), .cells 48 ((eSym x2).map .p), .row 46 4 0 [[(vi .u64 x5.a), (vi .u64 x5.b), (vi .u64 x5.c), (vi .u64 x5.d)], [(vi .u64 x7.a), (vi .u64 x7.b), (vi .u64 x7.c), (vi .u64 x7.d)]]] 4 (.rp 2 0 4 x4 0) (.agg [(vi .u64 x8_0), (vi .u64 x8_1), (vi .u64 x8_2), (vi .u64 x8_3)]) = some [.cells 89 [(.ro (eOp a3 a4 a5))], bS [], .row 46 4 0 (ra eSet (v2.set x4 (⟨x8_0, x8_1, x8_2, x8_3⟩ : SetD))), bS [], .cells 63 [(.sl 2 0 4 0 a7)], .row 48 6 0 (ra eSym []), bP a1, bP a1, .cells 46 ((eSet a8).map .p), .cells 48 ((eSym x2).map .p), .row 46 4 0 [[(vi .u64 x5.a), (vi .u64 x5.b), (vi .u64 x5.c), (vi .u64 x5.d)], [(vi .u64 x7.a), (vi .u64 x7.b), (vi .u64 x7.c), (vi .u64 x7.d)]]] ∧ ud = ud) (apc ((((F55_ok a3 a4 a5 x2 h9).cp rfl _).trans (congrArg (fun z => some (vb z)) h10)) : CP prg 55 [(.ro (eOp a3 a4 a5)), (.agg ((eSym x2).map .p))] [.cells 89 [(.ro (eOp a3 a4 a5))], bS [], .row 46 4 0 (ra eSet (v2.set x4 (⟨x8_0, x8_1, x8_2, x8_3⟩ : SetD))), bS [], .cells 63 [(.sl 2 0 4 0 a7)], .row 48 6 0 (ra eSym []), bP a1, bP a1, .cells 46 ((eSet a8).map .p), .cells 48 ((eSym x2).map .p), .row 46 4 0 [[(vi .u64 x5.a), (vi .u64 x5.b), (vi .u64 x5.c), (vi .u64 x5.d)], [(vi .u64 x7.a), (vi .u64 x7.b), (vi .u64 x7.c), (vi .u64 x7.d)]]] = some (vb false)) apn))))))))))) (by kernel_rfl)
 ·
  rw [← sj h]
  exact xbrk (n := 30) [(21, .d false), (6000, .d true)] (apc (cv h1) apn) (by kernel_rfl)
theorem L75_0_run (a1 : ProdD) (a2 : Int) (a3 : GramD) (a4 : List Int) (a5 : List Bool) (a7 : Nat) (a8 : SetD) (s0 : Int × (List SetD)) (e : E_L75_0) (h : runL (fun s => L75_0 a1 a2 a5 a7 s.1 s.2) s0 = some e) : L75_0_x a1 a2 a3 a4 a5 a7 a8 e (evH prg 9 [1, 2, 3, 5, 18, 19, 20] ir75_l0 (L75_0_s a1 a2 a3 a4 a5 a7 a8 s0.1 s0.2)) := by
  have q := @loop_sound' (Int × (List SetD)) E_L75_0 (fun s => L75_0 a1 a2 a5 a7 s.1 s.2) (fun s => evH prg 9 [1, 2, 3, 5, 18, 19, 20] ir75_l0 (L75_0_s a1 a2 a3 a4 a5 a7 a8 s.1 s.2)) (L75_0_x a1 a2 a3 a4 a5 a7 a8) (fun s r h => L75_0_ok a1 a2 a3 a4 a5 a7 a8 s.1 s.2 h) s0 e h
  exact q
inductive R_F75 where
  | k0
  | k1 (x0 : Bool) (x1 : List SetD) (x2 : Int) (x3 : Int) (x4 : Int) (x5 : Int) (x6 : Int) (x7 : Int) (x8 : Int) (x9 : Int) (x10 : Int) (x11 : Int) (x12 : Int) (x13 : Int) (x14 : Int) (x15 : Int) (x16 : Int) (x17 : Int) (x18 : Int) (x19 : Int)
  | k2 (x0 : Bool) (x1 : List SetD) (x2 : Int) (x3 : Int) (x4 : Int) (x5 : Int)
noncomputable def F75 (a1 : ProdD) (a3 : List Int) (a4 : List Bool) (a5 : List SetD) (a6 : Nat) : Option R_F75 :=
  ((F48 a3 a1).bind fun x1 => (bif (decide (x1 < 0)) then (some (.k0)) else ((ixN a6 a1.left).bind fun x3 => ((a5[x3]?).bind fun x4 => ((runL (fun s => L75_0 a1 (a1.right.length : Int) a4 a6 s.1 s.2) (0, a5)).bind fun r5 => match r5 with | .k0 x5_0 x5_1 x5_2 x5_3 x5_4 x5_5 x5_6 x5_7 x5_8 x5_9 x5_10 x5_11 x5_12 x5_13 x5_14 => ((x5_0[x3]?).bind fun x6 => (some (.k1 (!((x6.a == x4.a) && ((x6.b == x4.b) && ((x6.c == x4.c) && ((x6.d == x4.d) && true))))) x5_0 x4.a x4.b x4.c x4.d x5_1 x5_2 x5_3 x5_4 x5_5 x5_6 x5_7 x5_8 x5_9 x5_10 x5_11 x5_12 x5_13 x5_14))) | .k1 x5_0 => ((x5_0[x3]?).bind fun x6 => (some (.k2 (!((x6.a == x4.a) && ((x6.b == x4.b) && ((x6.c == x4.c) && ((x6.d == x4.d) && true))))) x5_0 x4.a x4.b x4.c x4.d))))))))
def F75_v (a1 : ProdD) (a2 : GramD) (a3 : List Int) (a4 : List Bool) (a5 : List SetD) (a6 : Nat) (r : R_F75) : AV := match r with | .k0 => (vb false) | .k1 x0 x1 x2 x3 x4 x5 x6 x7 x8 x9 x10 x11 x12 x13 x14 x15 x16 x17 x18 x19 => (vb x0) | .k2 x0 x1 x2 x3 x4 x5 => (vb x0)
def F75_h (a1 : ProdD) (a2 : GramD) (a3 : List Int) (a4 : List Bool) (a5 : List SetD) (a6 : Nat) (r : R_F75) : List AB := match r with | .k0 => [.cells 89 [(.ro (eOp a2 a3 a4))], bS [], bS a5, bS [], .cells 63 [(.sl 2 0 4 0 a6)], .row 48 6 0 (ra eSym []), bP a1, bP a1] | .k1 x0 x1 x2 x3 x4 x5 x6 x7 x8 x9 x10 x11 x12 x13 x14 x15 x16 x17 x18 x19 => [.cells 89 [(.ro (eOp a2 a3 a4))], bS [], bS x1, bS [], .cells 63 [(.sl 2 0 4 0 a6)], .row 48 6 0 (ra eSym []), bP a1, bP a1, .cells 46 [(vi .u64 x2), (vi .u64 x3), (vi .u64 x4), (vi .u64 x5)], .cells 48 [(i6 x6), (vi .u64 x7), (vi .u64 x8), (vi .u64 x9), (vi .u64 x10), (i6 x11)], .row 46 4 0 [[(vi .u64 x12), (vi .u64 x13), (vi .u64 x14), (vi .u64 x15)], [(vi .u64 x16), (vi .u64 x17), (vi .u64 x18), (vi .u64 x19)]]] | .k2 x0 x1 x2 x3 x4 x5 => [.cells 89 [(.ro (eOp a2 a3 a4))], bS [], bS x1, bS [], .cells 63 [(.sl 2 0 4 0 a6)], .row 48 6 0 (ra eSym []), bP a1, bP a1, .cells 46 [(vi .u64 x2), (vi .u64 x3), (vi .u64 x4), (vi .u64 x5)]]
theorem F75_ok (a1 : ProdD) (a2 : GramD) (a3 : List Int) (a4 : List Bool) (a5 : List SetD) (a6 : Nat) {r : R_F75} (h : F75 a1 a3 a4 a5 a6 = some r) : CS prg 75 [(aP a1), (.ptr 0 0), (.ptr 4 0)] [.cells 89 [(.ro (eOp a2 a3 a4))], bS [], bS a5, bS [], .cells 63 [(.sl 2 0 4 0 a6)], .row 48 6 0 (ra eSym []), bP a1] = some (F75_v a1 a2 a3 a4 a5 a6 r, F75_h a1 a2 a3 a4 a5 a6 r) := by
 unfold F75 at h
 refine bn h fun x1 h1 h => ?_
 refine bi h (fun h2 h => ?_) fun h2 h => ?_
 ·
  rw [← sj h]
  exact fcs (n := 30) [(10, .v (i6 x1)), (11, .d true)] (apc (((F48_ok a2 a3 a4 a1 h1).cp rfl _) : CP prg 48 [(.ro (eOp a2 a3 a4)), (aP a1)] [.cells 89 [(.ro (eOp a2 a3 a4))], bS [], bS a5, bS [], .cells 63 [(.sl 2 0 4 0 a6)], .row 48 6 0 (ra eSym []), bP a1, bP a1] = some (i6 x1)) (apc (cv h2) apn)) (by kernel_rfl)
 ·
  refine bn h fun x3 h3 h => ?_
  refine bn h fun x4 h4 h => ?_
  refine bn h fun r5 h5 h => ?_
  cases r5 with
  | k0 x5_0 x5_1 x5_2 x5_3 x5_4 x5_5 x5_6 x5_7 x5_8 x5_9 x5_10 x5_11 x5_12 x5_13 x5_14 =>
   obtain ⟨g5, e5⟩ := L75_0_run a1 (a1.right.length : Int) a2 a3 a4 a6 x4 (0, a5) _ h5
   refine bn h fun x6 h6 h => ?_
   rw [← sj h]
   exact fcs (n := 30) [(10, .v (i6 x1)), (11, .d false), (15, .v (.rp 2 0 4 x3 0)), (16, .v (.agg ((eSet x4).map .p))), (19, .v (i6 (a1.right.length : Int))), (2000, .l (.brk 0) ⟨fr 68 g5 [(1, (.ptr 0 0)), (2, (.ptr 4 0)), (3, (.ptr 7 0)), (5, (.ptr 8 0)), (18, (.p (.lst 6 (a1.right.map eSym))))], [.cells 89 [(.ro (eOp a2 a3 a4))], bS [], bS x5_0, bS [], .cells 63 [(.sl 2 0 4 0 a6)], .row 48 6 0 (ra eSym []), bP a1, bP a1, .cells 46 ((eSet x4).map .p), .cells 48 [(i6 x5_1), (vi .u64 x5_2), (vi .u64 x5_3), (vi .u64 x5_4), (vi .u64 x5_5), (i6 x5_6)], .row 46 4 0 [[(vi .u64 x5_7), (vi .u64 x5_8), (vi .u64 x5_9), (vi .u64 x5_10)], [(vi .u64 x5_11), (vi .u64 x5_12), (vi .u64 x5_13), (vi .u64 x5_14)]]]⟩), (64, .v (.rp 2 0 4 x3 0)), (65, .v (.agg ((eSet x6).map .p))), (6000, .d true)] (apc (((F48_ok a2 a3 a4 a1 h1).cp rfl _) : CP prg 48 [(.ro (eOp a2 a3 a4)), (aP a1)] [.cells 89 [(.ro (eOp a2 a3 a4))], bS [], bS a5, bS [], .cells 63 [(.sl 2 0 4 0 a6)], .row 48 6 0 (ra eSym []), bP a1, bP a1] = some (i6 x1)) (apc (cv h2) (apc ((idx_sl h3) : idxA 4 (.sl 2 0 4 0 a6) (i6 a1.left) = some (.rp 2 0 4 x3 0)) (apc ((ld_row rfl h4 rfl) : ldA [.cells 89 [(.ro (eOp a2 a3 a4))], bS [], bS a5, bS [], .cells 63 [(.sl 2 0 4 0 a6)], .row 48 6 0 (ra eSym []), bP a1, bP a1] .true 4 (.rp 2 0 4 x3 0) = some (.agg ((eSet x4).map .p))) (apc (lg a1.right eSym 6) (apc ((okT_of rfl (abl_cons rfl (abl_cons abl_row (abl_cons abl_row (abl_cons abl_row (abl_cons rfl (abl_cons abl_row (abl_cons rfl (abl_cons rfl (abl_cons rfl rfl)))))))))) : okT 9 [.cells 89 [(.ro (eOp a2 a3 a4))], bS [], bS a5, bS [], .cells 63 [(.sl 2 0 4 0 a6)], .row 48 6 0 (ra eSym []), bP a1, bP a1, .cells 46 ((eSet x4).map .p)] = true) (apc (e5 : evH prg 9 [1, 2, 3, 5, 18, 19, 20] ir75_l0 (L75_0_s a1 (a1.right.length : Int) a2 a3 a4 a6 x4 0 a5) = some ((.brk 0), ⟨fr 68 g5 [(1, (.ptr 0 0)), (2, (.ptr 4 0)), (3, (.ptr 7 0)), (5, (.ptr 8 0)), (18, (.p (.lst 6 (a1.right.map eSym))))], [.cells 89 [(.ro (eOp a2 a3 a4))], bS [], bS x5_0, bS [], .cells 63 [(.sl 2 0 4 0 a6)], .row 48 6 0 (ra eSym []), bP a1, bP a1, .cells 46 ((eSet x4).map .p), .cells 48 [(i6 x5_1), (vi .u64 x5_2), (vi .u64 x5_3), (vi .u64 x5_4), (vi .u64 x5_5), (i6 x5_6)], .row 46 4 0 [[(vi .u64 x5_7), (vi .u64 x5_8), (vi .u64 x5_9), (vi .u64 x5_10)], [(vi .u64 x5_11), (vi .u64 x5_12), (vi .u64 x5_13), (vi .u64 x5_14)]]]⟩)) (apc ((idx_sl h3) : idxA 4 (.sl 2 0 4 0 a6) (i6 a1.left) = some (.rp 2 0 4 x3 0)) (apc ((ld_row rfl h6 rfl) : ldA [.cells 89 [(.ro (eOp a2 a3 a4))], bS [], bS x5_0, bS [], .cells 63 [(.sl 2 0 4 0 a6)], .row 48 6 0 (ra eSym []), bP a1, bP a1, .cells 46 ((eSet x4).map .p), .cells 48 [(i6 x5_1), (vi .u64 x5_2), (vi .u64 x5_3), (vi .u64 x5_4), (vi .u64 x5_5), (i6 x5_6)], .row 46 4 0 [[(vi .u64 x5_7), (vi .u64 x5_8), (vi .u64 x5_9), (vi .u64 x5_10)], [(vi .u64 x5_11), (vi .u64 x5_12), (vi .u64 x5_13), (vi .u64 x5_14)]]] .true 4 (.rp 2 0 4 x3 0) = some (.agg ((eSet x6).map .p))) apn))))))))) (by kernel_rfl)
  | k1 x5_0 =>
   obtain ⟨g5, e5⟩ := L75_0_run a1 (a1.right.length : Int) a2 a3 a4 a6 x4 (0, a5) _ h5
   refine bn h fun x6 h6 h => ?_
   rw [← sj h]
   exact fcs (n := 30) [(10, .v (i6 x1)), (11, .d false), (15, .v (.rp 2 0 4 x3 0)), (16, .v (.agg ((eSet x4).map .p))), (19, .v (i6 (a1.right.length : Int))), (2000, .l (.brk 0) ⟨fr 68 g5 [(1, (.ptr 0 0)), (2, (.ptr 4 0)), (3, (.ptr 7 0)), (5, (.ptr 8 0)), (18, (.p (.lst 6 (a1.right.map eSym))))], [.cells 89 [(.ro (eOp a2 a3 a4))], bS [], bS x5_0, bS [], .cells 63 [(.sl 2 0 4 0 a6)], .row 48 6 0 (ra eSym []), bP a1, bP a1, .cells 46 ((eSet x4).map .p)]⟩), (64, .v (.rp 2 0 4 x3 0)), (65, .v (.agg ((eSet x6).map .p))), (6000, .d true)] (apc (((F48_ok a2 a3 a4 a1 h1).cp rfl _) : CP prg 48 [(.ro (eOp a2 a3 a4)), (aP a1)] [.cells 89 [(.ro (eOp a2 a3 a4))], bS [], bS a5, bS [], .cells 63 [(.sl 2 0 4 0 a6)], .row 48 6 0 (ra eSym []), bP a1, bP a1] = some (i6 x1)) (apc (cv h2) (apc ((idx_sl h3) : idxA 4 (.sl 2 0 4 0 a6) (i6 a1.left) = some (.rp 2 0 4 x3 0)) (apc ((ld_row rfl h4 rfl) : ldA [.cells 89 [(.ro (eOp a2 a3 a4))], bS [], bS a5, bS [], .cells 63 [(.sl 2 0 4 0 a6)], .row 48 6 0 (ra eSym []), bP a1, bP a1] .true 4 (.rp 2 0 4 x3 0) = some (.agg ((eSet x4).map .p))) (apc (lg a1.right eSym 6) (apc ((okT_of rfl (abl_cons rfl (abl_cons abl_row (abl_cons abl_row (abl_cons abl_row (abl_cons rfl (abl_cons abl_row (abl_cons rfl (abl_cons rfl (abl_cons rfl rfl)))))))))) : okT 9 [.cells 89 [(.ro (eOp a2 a3 a4))], bS [], bS a5, bS [], .cells 63 [(.sl 2 0 4 0 a6)], .row 48 6 0 (ra eSym []), bP a1, bP a1, .cells 46 ((eSet x4).map .p)] = true) (apc (e5 : evH prg 9 [1, 2, 3, 5, 18, 19, 20] ir75_l0 (L75_0_s a1 (a1.right.length : Int) a2 a3 a4 a6 x4 0 a5) = some ((.brk 0), ⟨fr 68 g5 [(1, (.ptr 0 0)), (2, (.ptr 4 0)), (3, (.ptr 7 0)), (5, (.ptr 8 0)), (18, (.p (.lst 6 (a1.right.map eSym))))], [.cells 89 [(.ro (eOp a2 a3 a4))], bS [], bS x5_0, bS [], .cells 63 [(.sl 2 0 4 0 a6)], .row 48 6 0 (ra eSym []), bP a1, bP a1, .cells 46 ((eSet x4).map .p)]⟩)) (apc ((idx_sl h3) : idxA 4 (.sl 2 0 4 0 a6) (i6 a1.left) = some (.rp 2 0 4 x3 0)) (apc ((ld_row rfl h6 rfl) : ldA [.cells 89 [(.ro (eOp a2 a3 a4))], bS [], bS x5_0, bS [], .cells 63 [(.sl 2 0 4 0 a6)], .row 48 6 0 (ra eSym []), bP a1, bP a1, .cells 46 ((eSet x4).map .p)] .true 4 (.rp 2 0 4 x3 0) = some (.agg ((eSet x6).map .p))) apn))))))))) (by kernel_rfl)
end Go.Proofs.Tryd
