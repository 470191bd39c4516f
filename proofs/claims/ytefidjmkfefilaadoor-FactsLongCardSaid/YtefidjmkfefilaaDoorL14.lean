/- Decompiled by a program: functions as plain data see them, part 1. -/
import Derived.Test.YtefidjmkfefilaaDoorFG4
namespace Go.Proofs.Tryd
set_option linter.unusedSimpArgs false
set_option linter.unusedVariables false
open Go Go.Vs
noncomputable def F41 (a1 : GramD) : Option Bool :=
  (bif (decide (a1.start ≥ 0)) then (some (decide (a1.start < (a1.sorts.length : Int)))) else (some false))
def F41_v (a1 : GramD) (x0 : Bool) : AV := (vb x0)
theorem F41_ok (a1 : GramD) {r : Bool} (h : F41 a1 = some r) : PR1 prg 41 [(aG a1), (i6 a1.start)] (F41_v a1 r) := by
 unfold F41 at h
 refine bi h (fun h1 h => ?_) fun h1 h => ?_
 ·
  rw [← sj h]
  exact fpr (n := 30) [(6, .d true), (11, .v (i6 (a1.sorts.length : Int)))] (apc (cv h1) (apc (lg a1.sorts eStr 1) apn)) rfl (by kernel_rfl)
 ·
  rw [← sj h]
  exact fpr (n := 30) [(6, .d false)] (apc (cv h1) apn) rfl (by kernel_rfl)
inductive E_L12_5 where
  | k0
  | k1
noncomputable def L12_5 (a1 : Int) (a2 : GramD) (v1 : Int) : Option (E_L12_5 ⊕ (Int)) :=
  (bif (decide (v1 < a1)) then ((getI a2.sorts v1).bind fun x2 => ((getI a2.sorts a1).bind fun x3 => (bif (x2.toList == x3.toList) then (some (.inl (.k0))) else (some (.inr ((IntKind.wrap .i64 (v1 + 1)))))))) else (some (.inl (.k1))))
def L12_5_s (a1 : Int) (a2 : GramD) (v1 : Int) : St := ⟨fr 160 ug [(1, (.ptr 0 0)), (3, (i6 a1)), (4, (i6 v1))], [bG a2]⟩
def L12_5_x (a1 : Int) (a2 : GramD) (e : E_L12_5) (r : Option (Out × St)) : Prop := match e with | .k0 => ∃ g y, r = some (.ret, ⟨fr 160 g [(2, (i6 160))], y⟩) | .k1 => ∃ g, r = some ((.brk 2), ⟨fr 160 g [(1, (.ptr 0 0)), (3, (i6 a1))], [bG a2]⟩)
theorem L12_5_ok (a1 : Int) (a2 : GramD) (v1 : Int) {r : E_L12_5 ⊕ (Int)} (h : L12_5 a1 a2 v1 = some r) : OkR (fun e => L12_5_x a1 a2 e (evH prg 1 [1, 3, 4] ir12_l5 (L12_5_s a1 a2 v1))) (fun s => evH prg 1 [1, 3, 4] ir12_l5 (L12_5_s a1 a2 v1) = evH prg 1 [1, 3, 4] ir12_l5 (L12_5_s a1 a2 s)) r := by
 unfold L12_5 at h
 refine bi h (fun h1 h => ?_) fun h1 h => ?_
 ·
  refine bn h fun x2 h2 h => ?_
  refine bn h fun x3 h3 h => ?_
  refine bi h (fun h4 h => ?_) fun h4 h => ?_
  ·
   rw [← sj h]
   exact xretY (n := 30) [(57, .d true), (63, .v (.ro [.val (.string x2)])), (68, .v (.ro [.val (.string x3)])), (70, .d true), (6000, .d true)] (apc (cv h1) (apc (ig eStr 1 .i64 h2) (apc (ig eStr 1 .i64 h3) (apc (cv h4) apn)))) (by kernel_rfl)
  ·
   rw [← sj h]
   exact rnd (n := 30) [(57, .d true), (63, .v (.ro [.val (.string x2)])), (68, .v (.ro [.val (.string x3)])), (70, .d false), (6000, .d true)] (apc (cv h1) (apc (ig eStr 1 .i64 h2) (apc (ig eStr 1 .i64 h3) (apc (cv h4) (apc ((okT_of rfl (abl_cons rfl rfl)) : okT 1 [bG a2] = true) apn))))) (by kernel_rfl)
 ·
  rw [← sj h]
  exact xbrk (n := 30) [(57, .d false), (6000, .d true)] (apc (cv h1) apn) (by kernel_rfl)
theorem L12_5_run (a1 : Int) (a2 : GramD) (s0 : Int) (e : E_L12_5) (h : runL (fun s => L12_5 a1 a2 s) s0 = some e) : L12_5_x a1 a2 e (evH prg 1 [1, 3, 4] ir12_l5 (L12_5_s a1 a2 s0)) := by
  have q := @loop_sound' (Int) E_L12_5 (fun s => L12_5 a1 a2 s) (fun s => evH prg 1 [1, 3, 4] ir12_l5 (L12_5_s a1 a2 s)) (L12_5_x a1 a2) (fun s r h => L12_5_ok a1 a2 s h) s0 e h
  exact q
inductive E_L12_6 where
  | k0
  | k1
noncomputable def L12_6 (a1 : GramD) (v1 : Int) : Option (E_L12_6 ⊕ (Int)) :=
  (bif (decide (v1 < (a1.sorts.length : Int))) then ((getI a1.sorts v1).bind fun x2 => (bif (x2.toList == (⟨([] : List UInt8).toArray⟩ : ByteArray).toList) then (some (.inl (.k0))) else (bif (decide ((x2.size : Int) > 1000)) then (some (.inl (.k0))) else ((runL (fun s => L12_5 v1 a1 s) 0).bind fun r5 => match r5 with | .k0 => (some (.inl (.k0))) | .k1 => (some (.inr ((IntKind.wrap .i64 (v1 + 1))))))))) else (some (.inl (.k1))))
def L12_6_s (a1 : GramD) (v1 : Int) : St := ⟨fr 160 ug [(1, (.ptr 0 0)), (3, (i6 v1))], [bG a1]⟩
def L12_6_x (a1 : GramD) (e : E_L12_6) (r : Option (Out × St)) : Prop := match e with | .k0 => ∃ g y, r = some (.ret, ⟨fr 160 g [(2, (i6 160))], y⟩) | .k1 => ∃ g, r = some ((.brk 0), ⟨fr 160 g [(1, (.ptr 0 0))], [bG a1]⟩)
abbrev L12_6_d0 (g5 : Nat → AV) (v1 : Int) (a1 : GramD) : St := ⟨fr 160 g5 [(1, (.ptr 0 0)), (3, (i6 v1))], [bG a1]⟩
theorem L12_6_ok (a1 : GramD) (v1 : Int) {r : E_L12_6 ⊕ (Int)} (h : L12_6 a1 v1 = some r) : OkR (fun e => L12_6_x a1 e (evH prg 1 [1, 3] ir12_l6 (L12_6_s a1 v1))) (fun s => evH prg 1 [1, 3] ir12_l6 (L12_6_s a1 v1) = evH prg 1 [1, 3] ir12_l6 (L12_6_s a1 s)) r := by
 unfold L12_6 at h
 refine bi h (fun h1 h => ?_) fun h1 h => ?_
 ·
  refine bn h fun x2 h2 h => ?_
  refine bi h (fun h3 h => ?_) fun h3 h => ?_
  ·
   rw [← sj h]
   exact xretY (n := 30) [(36, .v (i6 (a1.sorts.length : Int))), (37, .d true), (43, .v (.ro [.val (.string x2)])), (45, .d true), (6000, .d true)] (apc (lg a1.sorts eStr 1) (apc (cv h1) (apc (ig eStr 1 .i64 h2) (apc (cv h3) apn)))) (by kernel_rfl)
  ·
   refine bi h (fun h4 h => ?_) fun h4 h => ?_
   ·
    rw [← sj h]
    exact xretY (n := 30) [(36, .v (i6 (a1.sorts.length : Int))), (37, .d true), (43, .v (.ro [.val (.string x2)])), (45, .d false), (50, .v (.ro [.val (.string x2)])), (53, .d true), (6000, .d true)] (apc (lg a1.sorts eStr 1) (apc (cv h1) (apc (ig eStr 1 .i64 h2) (apc (cv h3) (apc (ig eStr 1 .i64 h2) (apc (cv h4) apn)))))) (by kernel_rfl)
   ·
    refine bn h fun r5 h5 h => ?_
    cases r5 with
    | k0 =>
     obtain ⟨g5, y5, e5⟩ := L12_5_run v1 a1 0 _ h5
     rw [← sj h]
     exact xretY (n := 30) [(36, .v (i6 (a1.sorts.length : Int))), (37, .d true), (43, .v (.ro [.val (.string x2)])), (45, .d false), (50, .v (.ro [.val (.string x2)])), (53, .d false), (2002, .l .ret ⟨fr 160 g5 [(2, (i6 160))], y5⟩), (6000, .d true)] (apc (lg a1.sorts eStr 1) (apc (cv h1) (apc (ig eStr 1 .i64 h2) (apc (cv h3) (apc (ig eStr 1 .i64 h2) (apc (cv h4) (apc ((okT_of rfl (abl_cons rfl rfl)) : okT 1 [bG a1] = true) (apc (e5 : evH prg 1 [1, 3, 4] ir12_l5 (L12_5_s v1 a1 0) = some (.ret, ⟨fr 160 g5 [(2, (i6 160))], y5⟩)) apn)))))))) (by kernel_rfl)
    | k1 =>
     obtain ⟨g5, e5⟩ := L12_5_run v1 a1 0 _ h5
     rw [← sj h]
     exact rnd (n := 30) [(36, .v (i6 (a1.sorts.length : Int))), (37, .d true), (43, .v (.ro [.val (.string x2)])), (45, .d false), (50, .v (.ro [.val (.string x2)])), (53, .d false), (2002, .l (.brk 2) (L12_6_d0 g5 v1 a1)), (6000, .d true)] (apc (lg a1.sorts eStr 1) (apc (cv h1) (apc (ig eStr 1 .i64 h2) (apc (cv h3) (apc (ig eStr 1 .i64 h2) (apc (cv h4) (apc ((okT_of rfl (abl_cons rfl rfl)) : okT 1 [bG a1] = true) (apc (e5 : evH prg 1 [1, 3, 4] ir12_l5 (L12_5_s v1 a1 0) = some ((.brk 2), (L12_6_d0 g5 v1 a1))) (apc ((okT_of rfl (abl_cons rfl rfl)) : okT 1 [bG a1] = true) apn))))))))) (by kernel_rfl)
 ·
  rw [← sj h]
  exact xbrk (n := 30) [(36, .v (i6 (a1.sorts.length : Int))), (37, .d false), (6000, .d true)] (apc (lg a1.sorts eStr 1) (apc (cv h1) apn)) (by kernel_rfl)
theorem L12_6_run (a1 : GramD) (s0 : Int) (e : E_L12_6) (h : runL (fun s => L12_6 a1 s) s0 = some e) : L12_6_x a1 e (evH prg 1 [1, 3] ir12_l6 (L12_6_s a1 s0)) := by
  have q := @loop_sound' (Int) E_L12_6 (fun s => L12_6 a1 s) (fun s => evH prg 1 [1, 3] ir12_l6 (L12_6_s a1 s)) (L12_6_x a1) (fun s r h => L12_6_ok a1 s h) s0 e h
  exact q
noncomputable def F41_2 (a1 : GramD) (a2 : ProdD) : Option Bool :=
  (bif (decide (a2.left ≥ 0)) then (some (decide (a2.left < (a1.sorts.length : Int)))) else (some false))
def F41_2_v (a1 : GramD) (a2 : ProdD) (x0 : Bool) : AV := (vb x0)
theorem F41_2_ok (a1 : GramD) (a2 : ProdD) {r : Bool} (h : F41_2 a1 a2 = some r) : PR1 prg 41 [(aG a1), (i6 a2.left)] (F41_2_v a1 a2 r) := by
 unfold F41_2 at h
 refine bi h (fun h1 h => ?_) fun h1 h => ?_
 ·
  rw [← sj h]
  exact fpr (n := 30) [(6, .d true), (11, .v (i6 (a1.sorts.length : Int)))] (apc (cv h1) (apc (lg a1.sorts eStr 1) apn)) rfl (by kernel_rfl)
 ·
  rw [← sj h]
  exact fpr (n := 30) [(6, .d false)] (apc (cv h1) apn) rfl (by kernel_rfl)
noncomputable def F44 (a1 : SymD) : Option Bool :=
  (some ((IntKind.wrap .u64 ((BitVec.ofInt (IntKind.bits .u64) (IntKind.wrap .u64 ((BitVec.ofInt (IntKind.bits .u64) (IntKind.wrap .u64 ((BitVec.ofInt (IntKind.bits .u64) a1.a ||| BitVec.ofInt (IntKind.bits .u64) a1.b).toNat : Int)) ||| BitVec.ofInt (IntKind.bits .u64) a1.c).toNat : Int)) ||| BitVec.ofInt (IntKind.bits .u64) a1.d).toNat : Int)) == 0))
def F44_v (a1 : SymD) (x0 : Bool) : AV := (vb x0)
theorem F44_ok (a1 : SymD) {r : Bool} (h : F44 a1 = some r) : PR1 prg 44 [(.agg ((List.take 4 (List.drop 1 (eSym a1))).map .p))] (F44_v a1 r) := by
 unfold F44 at h
 rw [← sj h]
 exact fpr (n := 30) [] apn rfl (by kernel_rfl)
noncomputable def F41_3 (a1 : GramD) (a2 : SymD) : Option Bool :=
  (bif (decide (a2.sort ≥ 0)) then (some (decide (a2.sort < (a1.sorts.length : Int)))) else (some false))
def F41_3_v (a1 : GramD) (a2 : SymD) (x0 : Bool) : AV := (vb x0)
theorem F41_3_ok (a1 : GramD) (a2 : SymD) {r : Bool} (h : F41_3 a1 a2 = some r) : PR1 prg 41 [(aG a1), (i6 a2.sort)] (F41_3_v a1 a2 r) := by
 unfold F41_3 at h
 refine bi h (fun h1 h => ?_) fun h1 h => ?_
 ·
  rw [← sj h]
  exact fpr (n := 30) [(6, .d true), (11, .v (i6 (a1.sorts.length : Int)))] (apc (cv h1) (apc (lg a1.sorts eStr 1) apn)) rfl (by kernel_rfl)
 ·
  rw [← sj h]
  exact fpr (n := 30) [(6, .d false)] (apc (cv h1) apn) rfl (by kernel_rfl)
inductive E_L42_0 where
  | k0
  | k1
noncomputable def L42_0 (a1 : GramD) (a2 : ProdD) (v1 : Int) : Option (E_L42_0 ⊕ (Int)) :=
  (bif (decide (v1 < (a2.right.length : Int))) then ((getI a2.right v1).bind fun x2 => (bif (x2.kind == 0) then ((F44 x2).bind fun x4 => (bif x4 then (some (.inl (.k0))) else (bif (x2.sort != 0) then (some (.inl (.k0))) else (bif (x2.kind == 1) then ((F44 x2).bind fun x8 => (bif x8 then ((F41_3 a1 x2).bind fun x10 => (bif x10 then (bif (a2.role == 11) then (some (.inl (.k0))) else (bif (x2.kind != 0) then (bif (x2.kind != 1) then (some (.inl (.k0))) else (some (.inr ((IntKind.wrap .i64 (v1 + 1)))))) else (some (.inr ((IntKind.wrap .i64 (v1 + 1))))))) else (some (.inl (.k0))))) else (some (.inl (.k0))))) else (bif (x2.kind != 0) then (bif (x2.kind != 1) then (some (.inl (.k0))) else (some (.inr ((IntKind.wrap .i64 (v1 + 1)))))) else (some (.inr ((IntKind.wrap .i64 (v1 + 1)))))))))) else (bif (x2.kind == 1) then ((F44 x2).bind fun x5 => (bif x5 then ((F41_3 a1 x2).bind fun x7 => (bif x7 then (bif (a2.role == 11) then (some (.inl (.k0))) else (bif (x2.kind != 0) then (bif (x2.kind != 1) then (some (.inl (.k0))) else (some (.inr ((IntKind.wrap .i64 (v1 + 1)))))) else (some (.inr ((IntKind.wrap .i64 (v1 + 1))))))) else (some (.inl (.k0))))) else (some (.inl (.k0))))) else (bif (x2.kind != 0) then (bif (x2.kind != 1) then (some (.inl (.k0))) else (some (.inr ((IntKind.wrap .i64 (v1 + 1)))))) else (some (.inr ((IntKind.wrap .i64 (v1 + 1))))))))) else (some (.inl (.k1))))
def L42_0_s (a1 : GramD) (a2 : ProdD) (v1 : Int) : St := ⟨fr 111 ug [(2, (.ptr 0 0)), (3, (.ptr 1 0)), (5, (i6 v1))], [bG a1, bP a2]⟩
def L42_0_x (a1 : GramD) (a2 : ProdD) (e : E_L42_0) (r : Option (Out × St)) : Prop := match e with | .k0 => ∃ g y, r = some (.ret, ⟨fr 111 g [(4, (vb false))], y⟩) | .k1 => ∃ g, r = some ((.brk 0), ⟨fr 111 g [(2, (.ptr 0 0)), (3, (.ptr 1 0))], [bG a1, bP a2]⟩)
abbrev L42_0_d0 (a1 : GramD) (a2 : ProdD) (x2 : SymD) : List AB := [bG a1, bP a2, .cells 48 ((eSym x2).map .p)]
theorem L42_0_ok (a1 : GramD) (a2 : ProdD) (v1 : Int) {r : E_L42_0 ⊕ (Int)} (h : L42_0 a1 a2 v1 = some r) : OkR (fun e => L42_0_x a1 a2 e (evH prg 2 [2, 3, 5] ir42_l0 (L42_0_s a1 a2 v1))) (fun s => evH prg 2 [2, 3, 5] ir42_l0 (L42_0_s a1 a2 v1) = evH prg 2 [2, 3, 5] ir42_l0 (L42_0_s a1 a2 s)) r := by
 unfold L42_0 at h
 refine bi h (fun h1 h => ?_) fun h1 h => ?_
 ·
  refine bn h fun x2 h2 h => ?_
  refine bi h (fun h3 h => ?_) fun h3 h => ?_
  ·
   refine bn h fun x4 h4 h => ?_
   refine bi h (fun h5 h => ?_) fun h5 h => ?_
   ·
    rw [← sj h]
    exact xretY (n := 30) [(60, .v (i6 (a2.right.length : Int))), (61, .d true), (67, .v (.ro (eSym x2))), (71, .d true), (75, .v (vb true)), (6000, .d true)] (apc (lg a2.right eSym 6) (apc (cv h1) (apc (ig eSym 6 .i64 h2) (apc (cv h3) (apc ((((F44_ok x2 h4).cp rfl _).trans (congrArg (fun z => some (vb z)) h5)) : CP prg 44 [(.agg ((List.take 4 (List.drop 1 (eSym x2))).map .p))] (L42_0_d0 a1 a2 x2) = some (vb true)) apn))))) (by kernel_rfl)
   ·
    have q4 := ((((F44_ok x2 h4).cp rfl _).trans (congrArg (fun z => some (vb z)) h5)) : CP prg 44 [(.agg ((List.take 4 (List.drop 1 (eSym x2))).map .p))] (L42_0_d0 a1 a2 x2) = some (vb false))
    refine bi h (fun h6 h => ?_) fun h6 h => ?_
    ·
     rw [← sj h]
     exact xretY (n := 30) [(60, .v (i6 (a2.right.length : Int))), (61, .d true), (67, .v (.ro (eSym x2))), (71, .d true), (75, .v (vb false)), (79, .d true), (6000, .d true)] (apc (lg a2.right eSym 6) (apc (cv h1) (apc (ig eSym 6 .i64 h2) (apc (cv h3) (apc q4 (apc (cv h6) apn)))))) (by kernel_rfl)
    ·
     refine bi h (fun h7 h => ?_) fun h7 h => ?_
     ·
      refine bn h fun x8 h8 h => ?_
      refine bi h (fun h9 h => ?_) fun h9 h => ?_
      ·
       have q7 := ((((F44_ok x2 h8).cp rfl _).trans (congrArg (fun z => some (vb z)) h9)) : CP prg 44 [(.agg ((List.take 4 (List.drop 1 (eSym x2))).map .p))] (L42_0_d0 a1 a2 x2) = some (vb true))
       refine bn h fun x10 h10 h => ?_
       refine bi h (fun h11 h => ?_) fun h11 h => ?_
       ·
        have q8 := ((((F41_3_ok a1 x2 h10).cp rfl _).trans (congrArg (fun z => some (vb z)) h11)) : CP prg 41 [(aG a1), (i6 x2.sort)] (L42_0_d0 a1 a2 x2) = some (vb true))
        refine bi h (fun h12 h => ?_) fun h12 h => ?_
        ·
         rw [← sj h]
         exact xretY (n := 30) [(60, .v (i6 (a2.right.length : Int))), (61, .d true), (67, .v (.ro (eSym x2))), (71, .d true), (75, .v (vb false)), (79, .d false), (84, .d true), (88, .v (vb true)), (94, .v (vb true)), (100, .d true), (6000, .d true)] (apc (lg a2.right eSym 6) (apc (cv h1) (apc (ig eSym 6 .i64 h2) (apc (cv h3) (apc q4 (apc (cv h6) (apc (cv h7) (apc q7 (apc q8 (apc (cv h12) apn)))))))))) (by kernel_rfl)
        ·
         refine bi h (fun h13 h => ?_) fun h13 h => ?_
         ·
          refine bi h (fun h14 h => ?_) fun h14 h => ?_
          ·
           rw [← sj h]
           exact xretY (n := 30) [(60, .v (i6 (a2.right.length : Int))), (61, .d true), (67, .v (.ro (eSym x2))), (71, .d true), (75, .v (vb false)), (79, .d false), (84, .d true), (88, .v (vb true)), (94, .v (vb true)), (100, .d false), (105, .d true), (109, .d true), (6000, .d true)] (apc (lg a2.right eSym 6) (apc (cv h1) (apc (ig eSym 6 .i64 h2) (apc (cv h3) (apc q4 (apc (cv h6) (apc (cv h7) (apc q7 (apc q8 (apc (cv h12) (apc (cv h13) (apc (cv h14) apn)))))))))))) (by kernel_rfl)
          ·
           rw [← sj h]
           exact rnd (n := 30) [(60, .v (i6 (a2.right.length : Int))), (61, .d true), (67, .v (.ro (eSym x2))), (71, .d true), (75, .v (vb false)), (79, .d false), (84, .d true), (88, .v (vb true)), (94, .v (vb true)), (100, .d false), (105, .d true), (109, .d false), (6000, .d true)] (apc (lg a2.right eSym 6) (apc (cv h1) (apc (ig eSym 6 .i64 h2) (apc (cv h3) (apc q4 (apc (cv h6) (apc (cv h7) (apc q7 (apc q8 (apc (cv h12) (apc (cv h13) (apc (cv h14) (apc ((okT_of rfl (abl_cons rfl (abl_cons rfl rfl))) : okT 2 (L42_0_d0 a1 a2 x2) = true) apn))))))))))))) (by kernel_rfl)
         ·
          rw [← sj h]
          exact rnd (n := 30) [(60, .v (i6 (a2.right.length : Int))), (61, .d true), (67, .v (.ro (eSym x2))), (71, .d true), (75, .v (vb false)), (79, .d false), (84, .d true), (88, .v (vb true)), (94, .v (vb true)), (100, .d false), (105, .d false), (6000, .d true)] (apc (lg a2.right eSym 6) (apc (cv h1) (apc (ig eSym 6 .i64 h2) (apc (cv h3) (apc q4 (apc (cv h6) (apc (cv h7) (apc q7 (apc q8 (apc (cv h12) (apc (cv h13) (apc ((okT_of rfl (abl_cons rfl (abl_cons rfl rfl))) : okT 2 (L42_0_d0 a1 a2 x2) = true) apn)))))))))))) (by kernel_rfl)
       ·
        rw [← sj h]
        exact xretY (n := 30) [(60, .v (i6 (a2.right.length : Int))), (61, .d true), (67, .v (.ro (eSym x2))), (71, .d true), (75, .v (vb false)), (79, .d false), (84, .d true), (88, .v (vb true)), (94, .v (vb false)), (6000, .d true)] (apc (lg a2.right eSym 6) (apc (cv h1) (apc (ig eSym 6 .i64 h2) (apc (cv h3) (apc q4 (apc (cv h6) (apc (cv h7) (apc q7 (apc ((((F41_3_ok a1 x2 h10).cp rfl _).trans (congrArg (fun z => some (vb z)) h11)) : CP prg 41 [(aG a1), (i6 x2.sort)] (L42_0_d0 a1 a2 x2) = some (vb false)) apn))))))))) (by kernel_rfl)
      ·
       rw [← sj h]
       exact xretY (n := 30) [(60, .v (i6 (a2.right.length : Int))), (61, .d true), (67, .v (.ro (eSym x2))), (71, .d true), (75, .v (vb false)), (79, .d false), (84, .d true), (88, .v (vb false)), (6000, .d true)] (apc (lg a2.right eSym 6) (apc (cv h1) (apc (ig eSym 6 .i64 h2) (apc (cv h3) (apc q4 (apc (cv h6) (apc (cv h7) (apc ((((F44_ok x2 h8).cp rfl _).trans (congrArg (fun z => some (vb z)) h9)) : CP prg 44 [(.agg ((List.take 4 (List.drop 1 (eSym x2))).map .p))] (L42_0_d0 a1 a2 x2) = some (vb false)) apn)))))))) (by kernel_rfl)
     ·
      refine bi h (fun h8 h => ?_) fun h8 h => ?_
      ·
       refine bi h (fun h9 h => ?_) fun h9 h => ?_
       ·
        rw [← sj h]
        exact xretY (n := 30) [(60, .v (i6 (a2.right.length : Int))), (61, .d true), (67, .v (.ro (eSym x2))), (71, .d true), (75, .v (vb false)), (79, .d false), (84, .d false), (105, .d true), (109, .d true), (6000, .d true)] (apc (lg a2.right eSym 6) (apc (cv h1) (apc (ig eSym 6 .i64 h2) (apc (cv h3) (apc q4 (apc (cv h6) (apc (cv h7) (apc (cv h8) (apc (cv h9) apn))))))))) (by kernel_rfl)
       ·
        rw [← sj h]
        exact rnd (n := 30) [(60, .v (i6 (a2.right.length : Int))), (61, .d true), (67, .v (.ro (eSym x2))), (71, .d true), (75, .v (vb false)), (79, .d false), (84, .d false), (105, .d true), (109, .d false), (6000, .d true)] (apc (lg a2.right eSym 6) (apc (cv h1) (apc (ig eSym 6 .i64 h2) (apc (cv h3) (apc q4 (apc (cv h6) (apc (cv h7) (apc (cv h8) (apc (cv h9) (apc ((okT_of rfl (abl_cons rfl (abl_cons rfl rfl))) : okT 2 (L42_0_d0 a1 a2 x2) = true) apn)))))))))) (by kernel_rfl)
      ·
       rw [← sj h]
       exact rnd (n := 30) [(60, .v (i6 (a2.right.length : Int))), (61, .d true), (67, .v (.ro (eSym x2))), (71, .d true), (75, .v (vb false)), (79, .d false), (84, .d false), (105, .d false), (6000, .d true)] (apc (lg a2.right eSym 6) (apc (cv h1) (apc (ig eSym 6 .i64 h2) (apc (cv h3) (apc q4 (apc (cv h6) (apc (cv h7) (apc (cv h8) (apc ((okT_of rfl (abl_cons rfl (abl_cons rfl rfl))) : okT 2 (L42_0_d0 a1 a2 x2) = true) apn))))))))) (by kernel_rfl)
  ·
   refine bi h (fun h4 h => ?_) fun h4 h => ?_
   ·
    refine bn h fun x5 h5 h => ?_
    refine bi h (fun h6 h => ?_) fun h6 h => ?_
    ·
     have q5 := ((((F44_ok x2 h5).cp rfl _).trans (congrArg (fun z => some (vb z)) h6)) : CP prg 44 [(.agg ((List.take 4 (List.drop 1 (eSym x2))).map .p))] (L42_0_d0 a1 a2 x2) = some (vb true))
     refine bn h fun x7 h7 h => ?_
     refine bi h (fun h8 h => ?_) fun h8 h => ?_
     ·
      have q6 := ((((F41_3_ok a1 x2 h7).cp rfl _).trans (congrArg (fun z => some (vb z)) h8)) : CP prg 41 [(aG a1), (i6 x2.sort)] (L42_0_d0 a1 a2 x2) = some (vb true))
      refine bi h (fun h9 h => ?_) fun h9 h => ?_
      ·
       rw [← sj h]
       exact xretY (n := 30) [(60, .v (i6 (a2.right.length : Int))), (61, .d true), (67, .v (.ro (eSym x2))), (71, .d false), (84, .d true), (88, .v (vb true)), (94, .v (vb true)), (100, .d true), (6000, .d true)] (apc (lg a2.right eSym 6) (apc (cv h1) (apc (ig eSym 6 .i64 h2) (apc (cv h3) (apc (cv h4) (apc q5 (apc q6 (apc (cv h9) apn)))))))) (by kernel_rfl)
      ·
       refine bi h (fun h10 h => ?_) fun h10 h => ?_
       ·
        refine bi h (fun h11 h => ?_) fun h11 h => ?_
        ·
         rw [← sj h]
         exact xretY (n := 30) [(60, .v (i6 (a2.right.length : Int))), (61, .d true), (67, .v (.ro (eSym x2))), (71, .d false), (84, .d true), (88, .v (vb true)), (94, .v (vb true)), (100, .d false), (105, .d true), (109, .d true), (6000, .d true)] (apc (lg a2.right eSym 6) (apc (cv h1) (apc (ig eSym 6 .i64 h2) (apc (cv h3) (apc (cv h4) (apc q5 (apc q6 (apc (cv h9) (apc (cv h10) (apc (cv h11) apn)))))))))) (by kernel_rfl)
        ·
         rw [← sj h]
         exact rnd (n := 30) [(60, .v (i6 (a2.right.length : Int))), (61, .d true), (67, .v (.ro (eSym x2))), (71, .d false), (84, .d true), (88, .v (vb true)), (94, .v (vb true)), (100, .d false), (105, .d true), (109, .d false), (6000, .d true)] (apc (lg a2.right eSym 6) (apc (cv h1) (apc (ig eSym 6 .i64 h2) (apc (cv h3) (apc (cv h4) (apc q5 (apc q6 (apc (cv h9) (apc (cv h10) (apc (cv h11) (apc ((okT_of rfl (abl_cons rfl (abl_cons rfl rfl))) : okT 2 (L42_0_d0 a1 a2 x2) = true) apn))))))))))) (by kernel_rfl)
       ·
        rw [← sj h]
        exact rnd (n := 30) [(60, .v (i6 (a2.right.length : Int))), (61, .d true), (67, .v (.ro (eSym x2))), (71, .d false), (84, .d true), (88, .v (vb true)), (94, .v (vb true)), (100, .d false), (105, .d false), (6000, .d true)] (apc (lg a2.right eSym 6) (apc (cv h1) (apc (ig eSym 6 .i64 h2) (apc (cv h3) (apc (cv h4) (apc q5 (apc q6 (apc (cv h9) (apc (cv h10) (apc ((okT_of rfl (abl_cons rfl (abl_cons rfl rfl))) : okT 2 (L42_0_d0 a1 a2 x2) = true) apn)))))))))) (by kernel_rfl)
     ·
      rw [← sj h]
      exact xretY (n := 30) [(60, .v (i6 (a2.right.length : Int))), (61, .d true), (67, .v (.ro (eSym x2))), (71, .d false), (84, .d true), (88, .v (vb true)), (94, .v (vb false)), (6000, .d true)] (apc (lg a2.right eSym 6) (apc (cv h1) (apc (ig eSym 6 .i64 h2) (apc (cv h3) (apc (cv h4) (apc q5 (apc ((((F41_3_ok a1 x2 h7).cp rfl _).trans (congrArg (fun z => some (vb z)) h8)) : CP prg 41 [(aG a1), (i6 x2.sort)] (L42_0_d0 a1 a2 x2) = some (vb false)) apn))))))) (by kernel_rfl)
    ·
     rw [← sj h]
     exact xretY (n := 30) [(60, .v (i6 (a2.right.length : Int))), (61, .d true), (67, .v (.ro (eSym x2))), (71, .d false), (84, .d true), (88, .v (vb false)), (6000, .d true)] (apc (lg a2.right eSym 6) (apc (cv h1) (apc (ig eSym 6 .i64 h2) (apc (cv h3) (apc (cv h4) (apc ((((F44_ok x2 h5).cp rfl _).trans (congrArg (fun z => some (vb z)) h6)) : CP prg 44 [(.agg ((List.take 4 (List.drop 1 (eSym x2))).map .p))] (L42_0_d0 a1 a2 x2) = some (vb false)) apn)))))) (by kernel_rfl)
   ·
    refine bi h (fun h5 h => ?_) fun h5 h => ?_
    ·
     refine bi h (fun h6 h => ?_) fun h6 h => ?_
     ·
      rw [← sj h]
      exact xretY (n := 30) [(60, .v (i6 (a2.right.length : Int))), (61, .d true), (67, .v (.ro (eSym x2))), (71, .d false), (84, .d false), (105, .d true), (109, .d true), (6000, .d true)] (apc (lg a2.right eSym 6) (apc (cv h1) (apc (ig eSym 6 .i64 h2) (apc (cv h3) (apc (cv h4) (apc (cv h5) (apc (cv h6) apn))))))) (by kernel_rfl)
     ·
      rw [← sj h]
      exact rnd (n := 30) [(60, .v (i6 (a2.right.length : Int))), (61, .d true), (67, .v (.ro (eSym x2))), (71, .d false), (84, .d false), (105, .d true), (109, .d false), (6000, .d true)] (apc (lg a2.right eSym 6) (apc (cv h1) (apc (ig eSym 6 .i64 h2) (apc (cv h3) (apc (cv h4) (apc (cv h5) (apc (cv h6) (apc ((okT_of rfl (abl_cons rfl (abl_cons rfl rfl))) : okT 2 (L42_0_d0 a1 a2 x2) = true) apn)))))))) (by kernel_rfl)
    ·
     rw [← sj h]
     exact rnd (n := 30) [(60, .v (i6 (a2.right.length : Int))), (61, .d true), (67, .v (.ro (eSym x2))), (71, .d false), (84, .d false), (105, .d false), (6000, .d true)] (apc (lg a2.right eSym 6) (apc (cv h1) (apc (ig eSym 6 .i64 h2) (apc (cv h3) (apc (cv h4) (apc (cv h5) (apc ((okT_of rfl (abl_cons rfl (abl_cons rfl rfl))) : okT 2 (L42_0_d0 a1 a2 x2) = true) apn))))))) (by kernel_rfl)
 ·
  rw [← sj h]
  exact xbrk (n := 30) [(60, .v (i6 (a2.right.length : Int))), (61, .d false), (6000, .d true)] (apc (lg a2.right eSym 6) (apc (cv h1) apn)) (by kernel_rfl)
theorem L42_0_run (a1 : GramD) (a2 : ProdD) (s0 : Int) (e : E_L42_0) (h : runL (fun s => L42_0 a1 a2 s) s0 = some e) : L42_0_x a1 a2 e (evH prg 2 [2, 3, 5] ir42_l0 (L42_0_s a1 a2 s0)) := by
  have q := @loop_sound' (Int) E_L42_0 (fun s => L42_0 a1 a2 s) (fun s => evH prg 2 [2, 3, 5] ir42_l0 (L42_0_s a1 a2 s)) (L42_0_x a1 a2) (fun s r h => L42_0_ok a1 a2 s h) s0 e h
  exact q
noncomputable def F42 (a1 : GramD) (a2 : ProdD) : Option Bool :=
  ((F41_2 a1 a2).bind fun x1 => (bif x1 then (bif (decide ((a2.right.length : Int) > 30)) then (some false) else (bif (decide (a2.role < 0)) then (some false) else (bif (decide (a2.role > 11)) then (some false) else (bif (decide (a2.frm < (-1))) then (some false) else (bif (decide ((a2.cons.size : Int) > 64)) then (some false) else (bif (!(a2.cons.toList == (⟨([] : List UInt8).toArray⟩ : ByteArray).toList)) then (bif (a2.role != 0) then (some false) else (bif a2.prefer then (bif a2.avoid then (some false) else ((runL (fun s => L42_0 a1 a2 s) 0).bind fun r12 => match r12 with | .k0 => (some false) | .k1 => (some true))) else ((runL (fun s => L42_0 a1 a2 s) 0).bind fun r11 => match r11 with | .k0 => (some false) | .k1 => (some true)))) else (bif a2.prefer then (bif a2.avoid then (some false) else ((runL (fun s => L42_0 a1 a2 s) 0).bind fun r11 => match r11 with | .k0 => (some false) | .k1 => (some true))) else ((runL (fun s => L42_0 a1 a2 s) 0).bind fun r10 => match r10 with | .k0 => (some false) | .k1 => (some true))))))))) else (some false)))
def F42_v (a1 : GramD) (a2 : ProdD) (x0 : Bool) : AV := (vb x0)
abbrev F42_d0 (g12 : Nat → AV) (a1 : GramD) (a2 : ProdD) : St := ⟨fr 111 g12 [(2, (.ptr 0 0)), (3, (.ptr 1 0))], [bG a1, bP a2]⟩
abbrev F42_d1 (g11 : Nat → AV) (a1 : GramD) (a2 : ProdD) : St := ⟨fr 111 g11 [(2, (.ptr 0 0)), (3, (.ptr 1 0))], [bG a1, bP a2]⟩
abbrev F42_d2 (g10 : Nat → AV) (a1 : GramD) (a2 : ProdD) : St := ⟨fr 111 g10 [(2, (.ptr 0 0)), (3, (.ptr 1 0))], [bG a1, bP a2]⟩
theorem F42_ok (a1 : GramD) (a2 : ProdD) {r : Bool} (h : F42 a1 a2 = some r) : PR1 prg 42 [(aG a1), (aP a2)] (F42_v a1 a2 r) := by
 unfold F42 at h
 refine bn h fun x1 h1 h => ?_
 refine bi h (fun h2 h => ?_) fun h2 h => ?_
 ·
  have q0 := ((((F41_2_ok a1 a2 h1).cp rfl _).trans (congrArg (fun z => some (vb z)) h2)) : CP prg 41 [(aG a1), (i6 a2.left)] [bG a1, bP a2] = some (vb true))
  refine bi h (fun h3 h => ?_) fun h3 h => ?_
  ·
   rw [← sj h]
   exact fpr (n := 30) [(10, .v (vb true)), (15, .v (i6 (a2.right.length : Int))), (16, .d true)] (apc q0 (apc (lg a2.right eSym 6) (apc (cv h3) apn))) rfl (by kernel_rfl)
  ·
   refine bi h (fun h4 h => ?_) fun h4 h => ?_
   ·
    rw [← sj h]
    exact fpr (n := 30) [(10, .v (vb true)), (15, .v (i6 (a2.right.length : Int))), (16, .d false), (21, .d true)] (apc q0 (apc (lg a2.right eSym 6) (apc (cv h3) (apc (cv h4) apn)))) rfl (by kernel_rfl)
   ·
    refine bi h (fun h5 h => ?_) fun h5 h => ?_
    ·
     rw [← sj h]
     exact fpr (n := 30) [(10, .v (vb true)), (15, .v (i6 (a2.right.length : Int))), (16, .d false), (21, .d false), (26, .d true)] (apc q0 (apc (lg a2.right eSym 6) (apc (cv h3) (apc (cv h4) (apc (cv h5) apn))))) rfl (by kernel_rfl)
    ·
     refine bi h (fun h6 h => ?_) fun h6 h => ?_
     ·
      rw [← sj h]
      exact fpr (n := 30) [(10, .v (vb true)), (15, .v (i6 (a2.right.length : Int))), (16, .d false), (21, .d false), (26, .d false), (31, .d true)] (apc q0 (apc (lg a2.right eSym 6) (apc (cv h3) (apc (cv h4) (apc (cv h5) (apc (cv h6) apn)))))) rfl (by kernel_rfl)
     ·
      refine bi h (fun h7 h => ?_) fun h7 h => ?_
      ·
       rw [← sj h]
       exact fpr (n := 30) [(10, .v (vb true)), (15, .v (i6 (a2.right.length : Int))), (16, .d false), (21, .d false), (26, .d false), (31, .d false), (37, .d true)] (apc q0 (apc (lg a2.right eSym 6) (apc (cv h3) (apc (cv h4) (apc (cv h5) (apc (cv h6) (apc (cv h7) apn))))))) rfl (by kernel_rfl)
      ·
       refine bi h (fun h8 h => ?_) fun h8 h => ?_
       ·
        refine bi h (fun h9 h => ?_) fun h9 h => ?_
        ·
         rw [← sj h]
         exact fpr (n := 30) [(10, .v (vb true)), (15, .v (i6 (a2.right.length : Int))), (16, .d false), (21, .d false), (26, .d false), (31, .d false), (37, .d false), (42, .d true), (46, .d true)] (apc q0 (apc (lg a2.right eSym 6) (apc (cv h3) (apc (cv h4) (apc (cv h5) (apc (cv h6) (apc (cv h7) (apc (cv h8) (apc (cv h9) apn))))))))) rfl (by kernel_rfl)
        ·
         refine bi h (fun h10 h => ?_) fun h10 h => ?_
         ·
          refine bi h (fun h11 h => ?_) fun h11 h => ?_
          ·
           rw [← sj h]
           exact fpr (n := 30) [(10, .v (vb true)), (15, .v (i6 (a2.right.length : Int))), (16, .d false), (21, .d false), (26, .d false), (31, .d false), (37, .d false), (42, .d true), (46, .d false), (51, .d true), (54, .d true)] (apc q0 (apc (lg a2.right eSym 6) (apc (cv h3) (apc (cv h4) (apc (cv h5) (apc (cv h6) (apc (cv h7) (apc (cv h8) (apc (cv h9) (apc (cv h10) (apc (cv h11) apn))))))))))) rfl (by kernel_rfl)
          ·
           refine bn h fun r12 h12 h => ?_
           cases r12 with
           | k0 =>
            obtain ⟨g12, y12, e12⟩ := L42_0_run a1 a2 0 _ h12
            rw [← sj h]
            exact fpr (n := 30) [(10, .v (vb true)), (15, .v (i6 (a2.right.length : Int))), (16, .d false), (21, .d false), (26, .d false), (31, .d false), (37, .d false), (42, .d true), (46, .d false), (51, .d true), (54, .d false), (2000, .l .ret ⟨fr 111 g12 [(4, (vb false))], y12⟩), (6000, .d true)] (apc q0 (apc (lg a2.right eSym 6) (apc (cv h3) (apc (cv h4) (apc (cv h5) (apc (cv h6) (apc (cv h7) (apc (cv h8) (apc (cv h9) (apc (cv h10) (apc (cv h11) (apc ((okT_of rfl (abl_cons rfl (abl_cons rfl rfl))) : okT 2 [bG a1, bP a2] = true) (apc (e12 : evH prg 2 [2, 3, 5] ir42_l0 (L42_0_s a1 a2 0) = some (.ret, ⟨fr 111 g12 [(4, (vb false))], y12⟩)) apn))))))))))))) rfl (by kernel_rfl)
           | k1 =>
            obtain ⟨g12, e12⟩ := L42_0_run a1 a2 0 _ h12
            rw [← sj h]
            exact fpr (n := 30) [(10, .v (vb true)), (15, .v (i6 (a2.right.length : Int))), (16, .d false), (21, .d false), (26, .d false), (31, .d false), (37, .d false), (42, .d true), (46, .d false), (51, .d true), (54, .d false), (2000, .l (.brk 0) (F42_d0 g12 a1 a2)), (6000, .d true)] (apc q0 (apc (lg a2.right eSym 6) (apc (cv h3) (apc (cv h4) (apc (cv h5) (apc (cv h6) (apc (cv h7) (apc (cv h8) (apc (cv h9) (apc (cv h10) (apc (cv h11) (apc ((okT_of rfl (abl_cons rfl (abl_cons rfl rfl))) : okT 2 [bG a1, bP a2] = true) (apc (e12 : evH prg 2 [2, 3, 5] ir42_l0 (L42_0_s a1 a2 0) = some ((.brk 0), (F42_d0 g12 a1 a2))) apn))))))))))))) rfl (by kernel_rfl)
         ·
          refine bn h fun r11 h11 h => ?_
          cases r11 with
          | k0 =>
           obtain ⟨g11, y11, e11⟩ := L42_0_run a1 a2 0 _ h11
           rw [← sj h]
           exact fpr (n := 30) [(10, .v (vb true)), (15, .v (i6 (a2.right.length : Int))), (16, .d false), (21, .d false), (26, .d false), (31, .d false), (37, .d false), (42, .d true), (46, .d false), (51, .d false), (2000, .l .ret ⟨fr 111 g11 [(4, (vb false))], y11⟩), (6000, .d true)] (apc q0 (apc (lg a2.right eSym 6) (apc (cv h3) (apc (cv h4) (apc (cv h5) (apc (cv h6) (apc (cv h7) (apc (cv h8) (apc (cv h9) (apc (cv h10) (apc ((okT_of rfl (abl_cons rfl (abl_cons rfl rfl))) : okT 2 [bG a1, bP a2] = true) (apc (e11 : evH prg 2 [2, 3, 5] ir42_l0 (L42_0_s a1 a2 0) = some (.ret, ⟨fr 111 g11 [(4, (vb false))], y11⟩)) apn)))))))))))) rfl (by kernel_rfl)
          | k1 =>
           obtain ⟨g11, e11⟩ := L42_0_run a1 a2 0 _ h11
           rw [← sj h]
           exact fpr (n := 30) [(10, .v (vb true)), (15, .v (i6 (a2.right.length : Int))), (16, .d false), (21, .d false), (26, .d false), (31, .d false), (37, .d false), (42, .d true), (46, .d false), (51, .d false), (2000, .l (.brk 0) (F42_d1 g11 a1 a2)), (6000, .d true)] (apc q0 (apc (lg a2.right eSym 6) (apc (cv h3) (apc (cv h4) (apc (cv h5) (apc (cv h6) (apc (cv h7) (apc (cv h8) (apc (cv h9) (apc (cv h10) (apc ((okT_of rfl (abl_cons rfl (abl_cons rfl rfl))) : okT 2 [bG a1, bP a2] = true) (apc (e11 : evH prg 2 [2, 3, 5] ir42_l0 (L42_0_s a1 a2 0) = some ((.brk 0), (F42_d1 g11 a1 a2))) apn)))))))))))) rfl (by kernel_rfl)
       ·
        refine bi h (fun h9 h => ?_) fun h9 h => ?_
        ·
         refine bi h (fun h10 h => ?_) fun h10 h => ?_
         ·
          rw [← sj h]
          exact fpr (n := 30) [(10, .v (vb true)), (15, .v (i6 (a2.right.length : Int))), (16, .d false), (21, .d false), (26, .d false), (31, .d false), (37, .d false), (42, .d false), (51, .d true), (54, .d true)] (apc q0 (apc (lg a2.right eSym 6) (apc (cv h3) (apc (cv h4) (apc (cv h5) (apc (cv h6) (apc (cv h7) (apc (cv h8) (apc (cv h9) (apc (cv h10) apn)))))))))) rfl (by kernel_rfl)
         ·
          refine bn h fun r11 h11 h => ?_
          cases r11 with
          | k0 =>
           obtain ⟨g11, y11, e11⟩ := L42_0_run a1 a2 0 _ h11
           rw [← sj h]
           exact fpr (n := 30) [(10, .v (vb true)), (15, .v (i6 (a2.right.length : Int))), (16, .d false), (21, .d false), (26, .d false), (31, .d false), (37, .d false), (42, .d false), (51, .d true), (54, .d false), (2000, .l .ret ⟨fr 111 g11 [(4, (vb false))], y11⟩), (6000, .d true)] (apc q0 (apc (lg a2.right eSym 6) (apc (cv h3) (apc (cv h4) (apc (cv h5) (apc (cv h6) (apc (cv h7) (apc (cv h8) (apc (cv h9) (apc (cv h10) (apc ((okT_of rfl (abl_cons rfl (abl_cons rfl rfl))) : okT 2 [bG a1, bP a2] = true) (apc (e11 : evH prg 2 [2, 3, 5] ir42_l0 (L42_0_s a1 a2 0) = some (.ret, ⟨fr 111 g11 [(4, (vb false))], y11⟩)) apn)))))))))))) rfl (by kernel_rfl)
          | k1 =>
           obtain ⟨g11, e11⟩ := L42_0_run a1 a2 0 _ h11
           rw [← sj h]
           exact fpr (n := 30) [(10, .v (vb true)), (15, .v (i6 (a2.right.length : Int))), (16, .d false), (21, .d false), (26, .d false), (31, .d false), (37, .d false), (42, .d false), (51, .d true), (54, .d false), (2000, .l (.brk 0) (F42_d1 g11 a1 a2)), (6000, .d true)] (apc q0 (apc (lg a2.right eSym 6) (apc (cv h3) (apc (cv h4) (apc (cv h5) (apc (cv h6) (apc (cv h7) (apc (cv h8) (apc (cv h9) (apc (cv h10) (apc ((okT_of rfl (abl_cons rfl (abl_cons rfl rfl))) : okT 2 [bG a1, bP a2] = true) (apc (e11 : evH prg 2 [2, 3, 5] ir42_l0 (L42_0_s a1 a2 0) = some ((.brk 0), (F42_d1 g11 a1 a2))) apn)))))))))))) rfl (by kernel_rfl)
        ·
         refine bn h fun r10 h10 h => ?_
         cases r10 with
         | k0 =>
          obtain ⟨g10, y10, e10⟩ := L42_0_run a1 a2 0 _ h10
          rw [← sj h]
          exact fpr (n := 30) [(10, .v (vb true)), (15, .v (i6 (a2.right.length : Int))), (16, .d false), (21, .d false), (26, .d false), (31, .d false), (37, .d false), (42, .d false), (51, .d false), (2000, .l .ret ⟨fr 111 g10 [(4, (vb false))], y10⟩), (6000, .d true)] (apc q0 (apc (lg a2.right eSym 6) (apc (cv h3) (apc (cv h4) (apc (cv h5) (apc (cv h6) (apc (cv h7) (apc (cv h8) (apc (cv h9) (apc ((okT_of rfl (abl_cons rfl (abl_cons rfl rfl))) : okT 2 [bG a1, bP a2] = true) (apc (e10 : evH prg 2 [2, 3, 5] ir42_l0 (L42_0_s a1 a2 0) = some (.ret, ⟨fr 111 g10 [(4, (vb false))], y10⟩)) apn))))))))))) rfl (by kernel_rfl)
         | k1 =>
          obtain ⟨g10, e10⟩ := L42_0_run a1 a2 0 _ h10
          rw [← sj h]
          exact fpr (n := 30) [(10, .v (vb true)), (15, .v (i6 (a2.right.length : Int))), (16, .d false), (21, .d false), (26, .d false), (31, .d false), (37, .d false), (42, .d false), (51, .d false), (2000, .l (.brk 0) (F42_d2 g10 a1 a2)), (6000, .d true)] (apc q0 (apc (lg a2.right eSym 6) (apc (cv h3) (apc (cv h4) (apc (cv h5) (apc (cv h6) (apc (cv h7) (apc (cv h8) (apc (cv h9) (apc ((okT_of rfl (abl_cons rfl (abl_cons rfl rfl))) : okT 2 [bG a1, bP a2] = true) (apc (e10 : evH prg 2 [2, 3, 5] ir42_l0 (L42_0_s a1 a2 0) = some ((.brk 0), (F42_d2 g10 a1 a2))) apn))))))))))) rfl (by kernel_rfl)
 ·
  rw [← sj h]
  exact fpr (n := 30) [(10, .v (vb false))] (apc ((((F41_2_ok a1 a2 h1).cp rfl _).trans (congrArg (fun z => some (vb z)) h2)) : CP prg 41 [(aG a1), (i6 a2.left)] [bG a1, bP a2] = some (vb false)) apn) rfl (by kernel_rfl)
inductive E_L12_4 where
  | k0
  | k1
noncomputable def L12_4 (a1 : GramD) (v1 : Int) : Option (E_L12_4 ⊕ (Int)) :=
  (bif (decide (v1 < (a1.prods.length : Int))) then ((getI a1.prods v1).bind fun x2 => ((F42 a1 x2).bind fun x3 => (bif x3 then (some (.inr ((IntKind.wrap .i64 (v1 + 1))))) else (some (.inl (.k0)))))) else (some (.inl (.k1))))
def L12_4_s (a1 : GramD) (v1 : Int) : St := ⟨fr 160 ug [(1, (.ptr 0 0)), (5, (i6 v1))], [bG a1]⟩
def L12_4_x (a1 : GramD) (e : E_L12_4) (r : Option (Out × St)) : Prop := match e with | .k0 => ∃ g y, r = some (.ret, ⟨fr 160 g [(2, (i6 160))], y⟩) | .k1 => ∃ g, r = some ((.brk 4), ⟨fr 160 g [(1, (.ptr 0 0))], [bG a1]⟩)
theorem L12_4_ok (a1 : GramD) (v1 : Int) {r : E_L12_4 ⊕ (Int)} (h : L12_4 a1 v1 = some r) : OkR (fun e => L12_4_x a1 e (evH prg 1 [1, 5] ir12_l4 (L12_4_s a1 v1))) (fun s => evH prg 1 [1, 5] ir12_l4 (L12_4_s a1 v1) = evH prg 1 [1, 5] ir12_l4 (L12_4_s a1 s)) r := by
 unfold L12_4 at h
 refine bi h (fun h1 h => ?_) fun h1 h => ?_
 ·
  refine bn h fun x2 h2 h => ?_
  refine bn h fun x3 h3 h => ?_
  refine bi h (fun h4 h => ?_) fun h4 h => ?_
  ·
   rw [← sj h]
   exact rnd (n := 30) [(74, .v (i6 (a1.prods.length : Int))), (75, .d true), (82, .v (.ro (eProd x2))), (84, .v (vb true)), (6000, .d true)] (apc (lg a1.prods eProd 7) (apc (cv h1) (apc (ig eProd 7 .i64 h2) (apc ((((F42_ok a1 x2 h3).cp rfl _).trans (congrArg (fun z => some (vb z)) h4)) : CP prg 42 [(aG a1), (aP x2)] [bG a1] = some (vb true)) (apc ((okT_of rfl (abl_cons rfl rfl)) : okT 1 [bG a1] = true) apn))))) (by kernel_rfl)
  ·
   rw [← sj h]
   exact xretY (n := 30) [(74, .v (i6 (a1.prods.length : Int))), (75, .d true), (82, .v (.ro (eProd x2))), (84, .v (vb false)), (6000, .d true)] (apc (lg a1.prods eProd 7) (apc (cv h1) (apc (ig eProd 7 .i64 h2) (apc ((((F42_ok a1 x2 h3).cp rfl _).trans (congrArg (fun z => some (vb z)) h4)) : CP prg 42 [(aG a1), (aP x2)] [bG a1] = some (vb false)) apn)))) (by kernel_rfl)
 ·
  rw [← sj h]
  exact xbrk (n := 30) [(74, .v (i6 (a1.prods.length : Int))), (75, .d false), (6000, .d true)] (apc (lg a1.prods eProd 7) (apc (cv h1) apn)) (by kernel_rfl)
theorem L12_4_run (a1 : GramD) (s0 : Int) (e : E_L12_4) (h : runL (fun s => L12_4 a1 s) s0 = some e) : L12_4_x a1 e (evH prg 1 [1, 5] ir12_l4 (L12_4_s a1 s0)) := by
  have q := @loop_sound' (Int) E_L12_4 (fun s => L12_4 a1 s) (fun s => evH prg 1 [1, 5] ir12_l4 (L12_4_s a1 s)) (L12_4_x a1) (fun s r h => L12_4_ok a1 s h) s0 e h
  exact q
noncomputable def F43 (a1 : GramD) (a2 : ForbD) : Option Bool :=
  (bif (decide (a2.parent < 0)) then (some false) else (bif (decide (a2.parent ≥ (a1.prods.length : Int))) then (some false) else (bif (decide (a2.child < 0)) then (some false) else (bif (decide (a2.child ≥ (a1.prods.length : Int))) then (some false) else ((getI a1.prods a2.parent).bind fun x5 => (bif (x5.role == 11) then (some false) else ((getI a1.prods a2.child).bind fun x7 => (bif (x7.role == 11) then (some false) else (bif (decide (a2.at_ < 1)) then (some false) else (bif (decide (a2.at_ > (x5.right.length : Int))) then (some false) else ((getI x5.right (IntKind.wrap .i64 (a2.at_ - 1))).bind fun x11 => (bif (x11.kind == 1) then (some (x11.sort == x7.left)) else (some false)))))))))))))
def F43_v (a1 : GramD) (a2 : ForbD) (x0 : Bool) : AV := (vb x0)
theorem F43_ok (a1 : GramD) (a2 : ForbD) {r : Bool} (h : F43 a1 a2 = some r) : PR1 prg 43 [(aG a1), (.agg ((eForb a2).map .p))] (F43_v a1 a2 r) := by
 unfold F43 at h
 refine bi h (fun h1 h => ?_) fun h1 h => ?_
 ·
  rw [← sj h]
  exact fpr (n := 30) [(8, .d true)] (apc (cv h1) apn) rfl (by kernel_rfl)
 ·
  refine bi h (fun h2 h => ?_) fun h2 h => ?_
  ·
   rw [← sj h]
   exact fpr (n := 30) [(8, .d false), (14, .v (i6 (a1.prods.length : Int))), (15, .d true)] (apc (cv h1) (apc (lg a1.prods eProd 7) (apc (cv h2) apn))) rfl (by kernel_rfl)
  ·
   refine bi h (fun h3 h => ?_) fun h3 h => ?_
   ·
    rw [← sj h]
    exact fpr (n := 30) [(8, .d false), (14, .v (i6 (a1.prods.length : Int))), (15, .d false), (20, .d true)] (apc (cv h1) (apc (lg a1.prods eProd 7) (apc (cv h2) (apc (cv h3) apn)))) rfl (by kernel_rfl)
   ·
    refine bi h (fun h4 h => ?_) fun h4 h => ?_
    ·
     rw [← sj h]
     exact fpr (n := 30) [(8, .d false), (14, .v (i6 (a1.prods.length : Int))), (15, .d false), (20, .d false), (27, .v (i6 (a1.prods.length : Int))), (28, .d true)] (apc (cv h1) (apc (lg a1.prods eProd 7) (apc (cv h2) (apc (cv h3) (apc (lg a1.prods eProd 7) (apc (cv h4) apn)))))) rfl (by kernel_rfl)
    ·
     refine bn h fun x5 h5 h => ?_
     refine bi h (fun h6 h => ?_) fun h6 h => ?_
     ·
      rw [← sj h]
      exact fpr (n := 30) [(8, .d false), (14, .v (i6 (a1.prods.length : Int))), (15, .d false), (20, .d false), (27, .v (i6 (a1.prods.length : Int))), (28, .d false), (35, .v (.ro (eProd x5))), (38, .d true)] (apc (cv h1) (apc (lg a1.prods eProd 7) (apc (cv h2) (apc (cv h3) (apc (lg a1.prods eProd 7) (apc (cv h4) (apc (ig eProd 7 .i64 h5) (apc (cv h6) apn)))))))) rfl (by kernel_rfl)
     ·
      refine bn h fun x7 h7 h => ?_
      refine bi h (fun h8 h => ?_) fun h8 h => ?_
      ·
       rw [← sj h]
       exact fpr (n := 30) [(8, .d false), (14, .v (i6 (a1.prods.length : Int))), (15, .d false), (20, .d false), (27, .v (i6 (a1.prods.length : Int))), (28, .d false), (35, .v (.ro (eProd x5))), (38, .d false), (45, .v (.ro (eProd x7))), (48, .d true)] (apc (cv h1) (apc (lg a1.prods eProd 7) (apc (cv h2) (apc (cv h3) (apc (lg a1.prods eProd 7) (apc (cv h4) (apc (ig eProd 7 .i64 h5) (apc (cv h6) (apc (ig eProd 7 .i64 h7) (apc (cv h8) apn)))))))))) rfl (by kernel_rfl)
      ·
       refine bi h (fun h9 h => ?_) fun h9 h => ?_
       ·
        rw [← sj h]
        exact fpr (n := 30) [(8, .d false), (14, .v (i6 (a1.prods.length : Int))), (15, .d false), (20, .d false), (27, .v (i6 (a1.prods.length : Int))), (28, .d false), (35, .v (.ro (eProd x5))), (38, .d false), (45, .v (.ro (eProd x7))), (48, .d false), (52, .d true)] (apc (cv h1) (apc (lg a1.prods eProd 7) (apc (cv h2) (apc (cv h3) (apc (lg a1.prods eProd 7) (apc (cv h4) (apc (ig eProd 7 .i64 h5) (apc (cv h6) (apc (ig eProd 7 .i64 h7) (apc (cv h8) (apc (cv h9) apn))))))))))) rfl (by kernel_rfl)
       ·
        refine bi h (fun h10 h => ?_) fun h10 h => ?_
        ·
         rw [← sj h]
         exact fpr (n := 30) [(8, .d false), (14, .v (i6 (a1.prods.length : Int))), (15, .d false), (20, .d false), (27, .v (i6 (a1.prods.length : Int))), (28, .d false), (35, .v (.ro (eProd x5))), (38, .d false), (45, .v (.ro (eProd x7))), (48, .d false), (52, .d false), (60, .v (.ro (eProd x5))), (63, .v (i6 (x5.right.length : Int))), (64, .d true)] (apc (cv h1) (apc (lg a1.prods eProd 7) (apc (cv h2) (apc (cv h3) (apc (lg a1.prods eProd 7) (apc (cv h4) (apc (ig eProd 7 .i64 h5) (apc (cv h6) (apc (ig eProd 7 .i64 h7) (apc (cv h8) (apc (cv h9) (apc (ig eProd 7 .i64 h5) (apc (lg x5.right eSym 6) (apc (cv h10) apn)))))))))))))) rfl (by kernel_rfl)
        ·
         refine bn h fun x11 h11 h => ?_
         refine bi h (fun h12 h => ?_) fun h12 h => ?_
         ·
          rw [← sj h]
          exact fpr (n := 30) [(8, .d false), (14, .v (i6 (a1.prods.length : Int))), (15, .d false), (20, .d false), (27, .v (i6 (a1.prods.length : Int))), (28, .d false), (35, .v (.ro (eProd x5))), (38, .d false), (45, .v (.ro (eProd x7))), (48, .d false), (52, .d false), (60, .v (.ro (eProd x5))), (63, .v (i6 (x5.right.length : Int))), (64, .d false), (70, .v (.ro (eProd x5))), (76, .v (.ro (eSym x11))), (80, .d true), (88, .v (.ro (eProd x7)))] (apc (cv h1) (apc (lg a1.prods eProd 7) (apc (cv h2) (apc (cv h3) (apc (lg a1.prods eProd 7) (apc (cv h4) (apc (ig eProd 7 .i64 h5) (apc (cv h6) (apc (ig eProd 7 .i64 h7) (apc (cv h8) (apc (cv h9) (apc (ig eProd 7 .i64 h5) (apc (lg x5.right eSym 6) (apc (cv h10) (apc (ig eProd 7 .i64 h5) (apc (ig eSym 6 .i64 h11) (apc (cv h12) (apc (ig eProd 7 .i64 h7) apn)))))))))))))))))) rfl (by kernel_rfl)
         ·
          rw [← sj h]
          exact fpr (n := 30) [(8, .d false), (14, .v (i6 (a1.prods.length : Int))), (15, .d false), (20, .d false), (27, .v (i6 (a1.prods.length : Int))), (28, .d false), (35, .v (.ro (eProd x5))), (38, .d false), (45, .v (.ro (eProd x7))), (48, .d false), (52, .d false), (60, .v (.ro (eProd x5))), (63, .v (i6 (x5.right.length : Int))), (64, .d false), (70, .v (.ro (eProd x5))), (76, .v (.ro (eSym x11))), (80, .d false)] (apc (cv h1) (apc (lg a1.prods eProd 7) (apc (cv h2) (apc (cv h3) (apc (lg a1.prods eProd 7) (apc (cv h4) (apc (ig eProd 7 .i64 h5) (apc (cv h6) (apc (ig eProd 7 .i64 h7) (apc (cv h8) (apc (cv h9) (apc (ig eProd 7 .i64 h5) (apc (lg x5.right eSym 6) (apc (cv h10) (apc (ig eProd 7 .i64 h5) (apc (ig eSym 6 .i64 h11) (apc (cv h12) apn))))))))))))))))) rfl (by kernel_rfl)
inductive E_L12_2 where
  | k0
  | k1
noncomputable def L12_2 (a1 : Int) (a2 : GramD) (v1 : Int) : Option (E_L12_2 ⊕ (Int)) :=
  (bif (decide (v1 < a1)) then ((getI a2.forbid v1).bind fun x2 => ((getI a2.forbid a1).bind fun x3 => (bif ((x2.parent == x3.parent) && ((x2.at_ == x3.at_) && ((x2.child == x3.child) && true))) then (some (.inl (.k0))) else (some (.inr ((IntKind.wrap .i64 (v1 + 1)))))))) else (some (.inl (.k1))))
def L12_2_s (a1 : Int) (a2 : GramD) (v1 : Int) : St := ⟨fr 160 ug [(1, (.ptr 0 0)), (6, (i6 a1)), (7, (i6 v1))], [bG a2]⟩
def L12_2_x (a1 : Int) (a2 : GramD) (e : E_L12_2) (r : Option (Out × St)) : Prop := match e with | .k0 => ∃ g y, r = some (.ret, ⟨fr 160 g [(2, (i6 160))], y⟩) | .k1 => ∃ g, r = some ((.brk 8), ⟨fr 160 g [(1, (.ptr 0 0)), (6, (i6 a1))], [bG a2]⟩)
theorem L12_2_ok (a1 : Int) (a2 : GramD) (v1 : Int) {r : E_L12_2 ⊕ (Int)} (h : L12_2 a1 a2 v1 = some r) : OkR (fun e => L12_2_x a1 a2 e (evH prg 1 [1, 6, 7] ir12_l2 (L12_2_s a1 a2 v1))) (fun s => evH prg 1 [1, 6, 7] ir12_l2 (L12_2_s a1 a2 v1) = evH prg 1 [1, 6, 7] ir12_l2 (L12_2_s a1 a2 s)) r := by
 unfold L12_2 at h
 refine bi h (fun h1 h => ?_) fun h1 h => ?_
 ·
  refine bn h fun x2 h2 h => ?_
  refine bn h fun x3 h3 h => ?_
  refine bi h (fun h4 h => ?_) fun h4 h => ?_
  ·
   rw [← sj h]
   exact xretY (n := 30) [(103, .d true), (109, .v (.ro (eForb x2))), (114, .v (.ro (eForb x3))), (116, .d true), (6000, .d true)] (apc (cv h1) (apc (ig eForb 3 .i64 h2) (apc (ig eForb 3 .i64 h3) (apc (cv h4) apn)))) (by kernel_rfl)
  ·
   rw [← sj h]
   exact rnd (n := 30) [(103, .d true), (109, .v (.ro (eForb x2))), (114, .v (.ro (eForb x3))), (116, .d false), (6000, .d true)] (apc (cv h1) (apc (ig eForb 3 .i64 h2) (apc (ig eForb 3 .i64 h3) (apc (cv h4) (apc ((okT_of rfl (abl_cons rfl rfl)) : okT 1 [bG a2] = true) apn))))) (by kernel_rfl)
 ·
  rw [← sj h]
  exact xbrk (n := 30) [(103, .d false), (6000, .d true)] (apc (cv h1) apn) (by kernel_rfl)
theorem L12_2_run (a1 : Int) (a2 : GramD) (s0 : Int) (e : E_L12_2) (h : runL (fun s => L12_2 a1 a2 s) s0 = some e) : L12_2_x a1 a2 e (evH prg 1 [1, 6, 7] ir12_l2 (L12_2_s a1 a2 s0)) := by
  have q := @loop_sound' (Int) E_L12_2 (fun s => L12_2 a1 a2 s) (fun s => evH prg 1 [1, 6, 7] ir12_l2 (L12_2_s a1 a2 s)) (L12_2_x a1 a2) (fun s r h => L12_2_ok a1 a2 s h) s0 e h
  exact q
inductive E_L12_3 where
  | k0
  | k1
noncomputable def L12_3 (a1 : GramD) (v1 : Int) : Option (E_L12_3 ⊕ (Int)) :=
  (bif (decide (v1 < (a1.forbid.length : Int))) then ((getI a1.forbid v1).bind fun x2 => ((F43 a1 x2).bind fun x3 => (bif x3 then ((runL (fun s => L12_2 v1 a1 s) 0).bind fun r5 => match r5 with | .k0 => (some (.inl (.k0))) | .k1 => (some (.inr ((IntKind.wrap .i64 (v1 + 1)))))) else (some (.inl (.k0)))))) else (some (.inl (.k1))))
def L12_3_s (a1 : GramD) (v1 : Int) : St := ⟨fr 160 ug [(1, (.ptr 0 0)), (6, (i6 v1))], [bG a1]⟩
def L12_3_x (a1 : GramD) (e : E_L12_3) (r : Option (Out × St)) : Prop := match e with | .k0 => ∃ g y, r = some (.ret, ⟨fr 160 g [(2, (i6 160))], y⟩) | .k1 => ∃ g, r = some ((.brk 6), ⟨fr 160 g [(1, (.ptr 0 0))], [bG a1]⟩)
abbrev L12_3_d0 (g5 : Nat → AV) (v1 : Int) (a1 : GramD) : St := ⟨fr 160 g5 [(1, (.ptr 0 0)), (6, (i6 v1))], [bG a1]⟩
theorem L12_3_ok (a1 : GramD) (v1 : Int) {r : E_L12_3 ⊕ (Int)} (h : L12_3 a1 v1 = some r) : OkR (fun e => L12_3_x a1 e (evH prg 1 [1, 6] ir12_l3 (L12_3_s a1 v1))) (fun s => evH prg 1 [1, 6] ir12_l3 (L12_3_s a1 v1) = evH prg 1 [1, 6] ir12_l3 (L12_3_s a1 s)) r := by
 unfold L12_3 at h
 refine bi h (fun h1 h => ?_) fun h1 h => ?_
 ·
  refine bn h fun x2 h2 h => ?_
  refine bn h fun x3 h3 h => ?_
  refine bi h (fun h4 h => ?_) fun h4 h => ?_
  ·
   have q3 := ((((F43_ok a1 x2 h3).cp rfl _).trans (congrArg (fun z => some (vb z)) h4)) : CP prg 43 [(aG a1), (.agg ((eForb x2).map .p))] [bG a1] = some (vb true))
   refine bn h fun r5 h5 h => ?_
   cases r5 with
   | k0 =>
    obtain ⟨g5, y5, e5⟩ := L12_2_run v1 a1 0 _ h5
    rw [← sj h]
    exact xretY (n := 30) [(89, .v (i6 (a1.forbid.length : Int))), (90, .d true), (97, .v (.ro (eForb x2))), (99, .v (vb true)), (2008, .l .ret ⟨fr 160 g5 [(2, (i6 160))], y5⟩), (6000, .d true)] (apc (lg a1.forbid eForb 3) (apc (cv h1) (apc (ig eForb 3 .i64 h2) (apc q3 (apc ((okT_of rfl (abl_cons rfl rfl)) : okT 1 [bG a1] = true) (apc (e5 : evH prg 1 [1, 6, 7] ir12_l2 (L12_2_s v1 a1 0) = some (.ret, ⟨fr 160 g5 [(2, (i6 160))], y5⟩)) apn)))))) (by kernel_rfl)
   | k1 =>
    obtain ⟨g5, e5⟩ := L12_2_run v1 a1 0 _ h5
    rw [← sj h]
    exact rnd (n := 30) [(89, .v (i6 (a1.forbid.length : Int))), (90, .d true), (97, .v (.ro (eForb x2))), (99, .v (vb true)), (2008, .l (.brk 8) (L12_3_d0 g5 v1 a1)), (6000, .d true)] (apc (lg a1.forbid eForb 3) (apc (cv h1) (apc (ig eForb 3 .i64 h2) (apc q3 (apc ((okT_of rfl (abl_cons rfl rfl)) : okT 1 [bG a1] = true) (apc (e5 : evH prg 1 [1, 6, 7] ir12_l2 (L12_2_s v1 a1 0) = some ((.brk 8), (L12_3_d0 g5 v1 a1))) (apc ((okT_of rfl (abl_cons rfl rfl)) : okT 1 [bG a1] = true) apn))))))) (by kernel_rfl)
  ·
   rw [← sj h]
   exact xretY (n := 30) [(89, .v (i6 (a1.forbid.length : Int))), (90, .d true), (97, .v (.ro (eForb x2))), (99, .v (vb false)), (6000, .d true)] (apc (lg a1.forbid eForb 3) (apc (cv h1) (apc (ig eForb 3 .i64 h2) (apc ((((F43_ok a1 x2 h3).cp rfl _).trans (congrArg (fun z => some (vb z)) h4)) : CP prg 43 [(aG a1), (.agg ((eForb x2).map .p))] [bG a1] = some (vb false)) apn)))) (by kernel_rfl)
 ·
  rw [← sj h]
  exact xbrk (n := 30) [(89, .v (i6 (a1.forbid.length : Int))), (90, .d false), (6000, .d true)] (apc (lg a1.forbid eForb 3) (apc (cv h1) apn)) (by kernel_rfl)
theorem L12_3_run (a1 : GramD) (s0 : Int) (e : E_L12_3) (h : runL (fun s => L12_3 a1 s) s0 = some e) : L12_3_x a1 e (evH prg 1 [1, 6] ir12_l3 (L12_3_s a1 s0)) := by
  have q := @loop_sound' (Int) E_L12_3 (fun s => L12_3 a1 s) (fun s => evH prg 1 [1, 6] ir12_l3 (L12_3_s a1 s)) (L12_3_x a1) (fun s r h => L12_3_ok a1 s h) s0 e h
  exact q
noncomputable def F41_4 (a1 : GramD) (a2 : FollD) : Option Bool :=
  (bif (decide (a2.sort ≥ 0)) then (some (decide (a2.sort < (a1.sorts.length : Int)))) else (some false))
def F41_4_v (a1 : GramD) (a2 : FollD) (x0 : Bool) : AV := (vb x0)
theorem F41_4_ok (a1 : GramD) (a2 : FollD) {r : Bool} (h : F41_4 a1 a2 = some r) : PR1 prg 41 [(aG a1), (i6 a2.sort)] (F41_4_v a1 a2 r) := by
 unfold F41_4 at h
 refine bi h (fun h1 h => ?_) fun h1 h => ?_
 ·
  rw [← sj h]
  exact fpr (n := 30) [(6, .d true), (11, .v (i6 (a1.sorts.length : Int)))] (apc (cv h1) (apc (lg a1.sorts eStr 1) apn)) rfl (by kernel_rfl)
 ·
  rw [← sj h]
  exact fpr (n := 30) [(6, .d false)] (apc (cv h1) apn) rfl (by kernel_rfl)
noncomputable def F44_2 (a1 : FollD) : Option Bool :=
  (some ((IntKind.wrap .u64 ((BitVec.ofInt (IntKind.bits .u64) (IntKind.wrap .u64 ((BitVec.ofInt (IntKind.bits .u64) (IntKind.wrap .u64 ((BitVec.ofInt (IntKind.bits .u64) a1.a ||| BitVec.ofInt (IntKind.bits .u64) a1.b).toNat : Int)) ||| BitVec.ofInt (IntKind.bits .u64) a1.c).toNat : Int)) ||| BitVec.ofInt (IntKind.bits .u64) a1.d).toNat : Int)) == 0))
def F44_2_v (a1 : FollD) (x0 : Bool) : AV := (vb x0)
theorem F44_2_ok (a1 : FollD) {r : Bool} (h : F44_2 a1 = some r) : PR1 prg 44 [(.agg ((List.drop 1 (eFoll a1)).map .p))] (F44_2_v a1 r) := by
 unfold F44_2 at h
 rw [← sj h]
 exact fpr (n := 30) [] apn rfl (by kernel_rfl)
inductive E_L12_0 where
  | k0
  | k1
noncomputable def L12_0 (a1 : Int) (a2 : GramD) (v1 : Int) : Option (E_L12_0 ⊕ (Int)) :=
  (bif (decide (v1 < a1)) then ((getI a2.follow v1).bind fun x2 => ((getI a2.follow a1).bind fun x3 => (bif (x2.sort == x3.sort) then (some (.inl (.k0))) else (some (.inr ((IntKind.wrap .i64 (v1 + 1)))))))) else (some (.inl (.k1))))
def L12_0_s (a1 : Int) (a2 : GramD) (v1 : Int) : St := ⟨fr 160 ug [(1, (.ptr 0 0)), (8, (i6 a1)), (9, (i6 v1))], [bG a2]⟩
def L12_0_x (a1 : Int) (a2 : GramD) (e : E_L12_0) (r : Option (Out × St)) : Prop := match e with | .k0 => ∃ g y, r = some (.ret, ⟨fr 160 g [(2, (i6 160))], y⟩) | .k1 => ∃ g, r = some ((.brk 12), ⟨fr 160 g [(1, (.ptr 0 0)), (8, (i6 a1))], [bG a2]⟩)
theorem L12_0_ok (a1 : Int) (a2 : GramD) (v1 : Int) {r : E_L12_0 ⊕ (Int)} (h : L12_0 a1 a2 v1 = some r) : OkR (fun e => L12_0_x a1 a2 e (evH prg 1 [1, 8, 9] ir12_l0 (L12_0_s a1 a2 v1))) (fun s => evH prg 1 [1, 8, 9] ir12_l0 (L12_0_s a1 a2 v1) = evH prg 1 [1, 8, 9] ir12_l0 (L12_0_s a1 a2 s)) r := by
 unfold L12_0 at h
 refine bi h (fun h1 h => ?_) fun h1 h => ?_
 ·
  refine bn h fun x2 h2 h => ?_
  refine bn h fun x3 h3 h => ?_
  refine bi h (fun h4 h => ?_) fun h4 h => ?_
  ·
   rw [← sj h]
   exact xretY (n := 30) [(144, .d true), (150, .v (.ro (eFoll x2))), (156, .v (.ro (eFoll x3))), (159, .d true), (6000, .d true)] (apc (cv h1) (apc (ig eFoll 5 .i64 h2) (apc (ig eFoll 5 .i64 h3) (apc (cv h4) apn)))) (by kernel_rfl)
  ·
   rw [← sj h]
   exact rnd (n := 30) [(144, .d true), (150, .v (.ro (eFoll x2))), (156, .v (.ro (eFoll x3))), (159, .d false), (6000, .d true)] (apc (cv h1) (apc (ig eFoll 5 .i64 h2) (apc (ig eFoll 5 .i64 h3) (apc (cv h4) (apc ((okT_of rfl (abl_cons rfl rfl)) : okT 1 [bG a2] = true) apn))))) (by kernel_rfl)
 ·
  rw [← sj h]
  exact xbrk (n := 30) [(144, .d false), (6000, .d true)] (apc (cv h1) apn) (by kernel_rfl)
theorem L12_0_run (a1 : Int) (a2 : GramD) (s0 : Int) (e : E_L12_0) (h : runL (fun s => L12_0 a1 a2 s) s0 = some e) : L12_0_x a1 a2 e (evH prg 1 [1, 8, 9] ir12_l0 (L12_0_s a1 a2 s0)) := by
  have q := @loop_sound' (Int) E_L12_0 (fun s => L12_0 a1 a2 s) (fun s => evH prg 1 [1, 8, 9] ir12_l0 (L12_0_s a1 a2 s)) (L12_0_x a1 a2) (fun s r h => L12_0_ok a1 a2 s h) s0 e h
  exact q
inductive E_L12_1 where
  | k0
  | k1
noncomputable def L12_1 (a1 : GramD) (v1 : Int) : Option (E_L12_1 ⊕ (Int)) :=
  (bif (decide (v1 < (a1.follow.length : Int))) then ((getI a1.follow v1).bind fun x2 => ((F41_4 a1 x2).bind fun x3 => (bif x3 then ((F44_2 x2).bind fun x5 => (bif x5 then (some (.inl (.k0))) else ((runL (fun s => L12_0 v1 a1 s) 0).bind fun r7 => match r7 with | .k0 => (some (.inl (.k0))) | .k1 => (some (.inr ((IntKind.wrap .i64 (v1 + 1)))))))) else (some (.inl (.k0)))))) else (some (.inl (.k1))))
def L12_1_s (a1 : GramD) (v1 : Int) : St := ⟨fr 160 ug [(1, (.ptr 0 0)), (8, (i6 v1))], [bG a1]⟩
def L12_1_x (a1 : GramD) (e : E_L12_1) (r : Option (Out × St)) : Prop := match e with | .k0 => ∃ g y, r = some (.ret, ⟨fr 160 g [(2, (i6 160))], y⟩) | .k1 => ∃ g, r = some ((.brk 10), ⟨fr 160 g [(1, (.ptr 0 0))], [bG a1]⟩)
abbrev L12_1_d0 (g7 : Nat → AV) (v1 : Int) (a1 : GramD) : St := ⟨fr 160 g7 [(1, (.ptr 0 0)), (8, (i6 v1))], [bG a1]⟩
theorem L12_1_ok (a1 : GramD) (v1 : Int) {r : E_L12_1 ⊕ (Int)} (h : L12_1 a1 v1 = some r) : OkR (fun e => L12_1_x a1 e (evH prg 1 [1, 8] ir12_l1 (L12_1_s a1 v1))) (fun s => evH prg 1 [1, 8] ir12_l1 (L12_1_s a1 v1) = evH prg 1 [1, 8] ir12_l1 (L12_1_s a1 s)) r := by
 unfold L12_1 at h
 refine bi h (fun h1 h => ?_) fun h1 h => ?_
 ·
  refine bn h fun x2 h2 h => ?_
  refine bn h fun x3 h3 h => ?_
  refine bi h (fun h4 h => ?_) fun h4 h => ?_
  ·
   have q3 := ((((F41_4_ok a1 x2 h3).cp rfl _).trans (congrArg (fun z => some (vb z)) h4)) : CP prg 41 [(aG a1), (i6 x2.sort)] [bG a1] = some (vb true))
   refine bn h fun x5 h5 h => ?_
   refine bi h (fun h6 h => ?_) fun h6 h => ?_
   ·
    rw [← sj h]
    exact xretY (n := 30) [(120, .v (i6 (a1.follow.length : Int))), (121, .d true), (128, .v (.ro (eFoll x2))), (131, .v (vb true)), (137, .v (.ro (eFoll x2))), (140, .v (vb true)), (6000, .d true)] (apc (lg a1.follow eFoll 5) (apc (cv h1) (apc (ig eFoll 5 .i64 h2) (apc q3 (apc (ig eFoll 5 .i64 h2) (apc ((((F44_2_ok x2 h5).cp rfl _).trans (congrArg (fun z => some (vb z)) h6)) : CP prg 44 [(.agg ((List.drop 1 (eFoll x2)).map .p))] [bG a1] = some (vb true)) apn)))))) (by kernel_rfl)
   ·
    have q5 := ((((F44_2_ok x2 h5).cp rfl _).trans (congrArg (fun z => some (vb z)) h6)) : CP prg 44 [(.agg ((List.drop 1 (eFoll x2)).map .p))] [bG a1] = some (vb false))
    refine bn h fun r7 h7 h => ?_
    cases r7 with
    | k0 =>
     obtain ⟨g7, y7, e7⟩ := L12_0_run v1 a1 0 _ h7
     rw [← sj h]
     exact xretY (n := 30) [(120, .v (i6 (a1.follow.length : Int))), (121, .d true), (128, .v (.ro (eFoll x2))), (131, .v (vb true)), (137, .v (.ro (eFoll x2))), (140, .v (vb false)), (2012, .l .ret ⟨fr 160 g7 [(2, (i6 160))], y7⟩), (6000, .d true)] (apc (lg a1.follow eFoll 5) (apc (cv h1) (apc (ig eFoll 5 .i64 h2) (apc q3 (apc (ig eFoll 5 .i64 h2) (apc q5 (apc ((okT_of rfl (abl_cons rfl rfl)) : okT 1 [bG a1] = true) (apc (e7 : evH prg 1 [1, 8, 9] ir12_l0 (L12_0_s v1 a1 0) = some (.ret, ⟨fr 160 g7 [(2, (i6 160))], y7⟩)) apn)))))))) (by kernel_rfl)
    | k1 =>
     obtain ⟨g7, e7⟩ := L12_0_run v1 a1 0 _ h7
     rw [← sj h]
     exact rnd (n := 30) [(120, .v (i6 (a1.follow.length : Int))), (121, .d true), (128, .v (.ro (eFoll x2))), (131, .v (vb true)), (137, .v (.ro (eFoll x2))), (140, .v (vb false)), (2012, .l (.brk 12) (L12_1_d0 g7 v1 a1)), (6000, .d true)] (apc (lg a1.follow eFoll 5) (apc (cv h1) (apc (ig eFoll 5 .i64 h2) (apc q3 (apc (ig eFoll 5 .i64 h2) (apc q5 (apc ((okT_of rfl (abl_cons rfl rfl)) : okT 1 [bG a1] = true) (apc (e7 : evH prg 1 [1, 8, 9] ir12_l0 (L12_0_s v1 a1 0) = some ((.brk 12), (L12_1_d0 g7 v1 a1))) (apc ((okT_of rfl (abl_cons rfl rfl)) : okT 1 [bG a1] = true) apn))))))))) (by kernel_rfl)
  ·
   rw [← sj h]
   exact xretY (n := 30) [(120, .v (i6 (a1.follow.length : Int))), (121, .d true), (128, .v (.ro (eFoll x2))), (131, .v (vb false)), (6000, .d true)] (apc (lg a1.follow eFoll 5) (apc (cv h1) (apc (ig eFoll 5 .i64 h2) (apc ((((F41_4_ok a1 x2 h3).cp rfl _).trans (congrArg (fun z => some (vb z)) h4)) : CP prg 41 [(aG a1), (i6 x2.sort)] [bG a1] = some (vb false)) apn)))) (by kernel_rfl)
 ·
  rw [← sj h]
  exact xbrk (n := 30) [(120, .v (i6 (a1.follow.length : Int))), (121, .d false), (6000, .d true)] (apc (lg a1.follow eFoll 5) (apc (cv h1) apn)) (by kernel_rfl)
theorem L12_1_run (a1 : GramD) (s0 : Int) (e : E_L12_1) (h : runL (fun s => L12_1 a1 s) s0 = some e) : L12_1_x a1 e (evH prg 1 [1, 8] ir12_l1 (L12_1_s a1 s0)) := by
  have q := @loop_sound' (Int) E_L12_1 (fun s => L12_1 a1 s) (fun s => evH prg 1 [1, 8] ir12_l1 (L12_1_s a1 s)) (L12_1_x a1) (fun s r h => L12_1_ok a1 s h) s0 e h
  exact q
noncomputable def F12 (a1 : GramD) : Option Int :=
  (bif (decide ((a1.sorts.length : Int) < 1)) then (some 160) else (bif (decide ((a1.sorts.length : Int) > 1000)) then (some 160) else (bif (decide ((a1.prods.length : Int) > 1000)) then (some 160) else ((F41 a1).bind fun x4 => (bif x4 then ((runL (fun s => L12_6 a1 s) 0).bind fun r6 => match r6 with | .k0 => (some 160) | .k1 => ((runL (fun s => L12_4 a1 s) 0).bind fun r7 => match r7 with | .k0 => (some 160) | .k1 => ((runL (fun s => L12_3 a1 s) 0).bind fun r8 => match r8 with | .k0 => (some 160) | .k1 => ((runL (fun s => L12_1 a1 s) 0).bind fun r9 => match r9 with | .k0 => (some 160) | .k1 => (some 0))))) else (some 160))))))
def F12_v (a1 : GramD) (x0 : Int) : AV := (i6 x0)
theorem F12_ok (a1 : GramD) {r : Int} (h : F12 a1 = some r) : PR1 prg 12 [(aG a1)] (F12_v a1 r) := by
 unfold F12 at h
 refine bi h (fun h1 h => ?_) fun h1 h => ?_
 ·
  rw [← sj h]
  exact fpr (n := 30) [(12, .v (i6 (a1.sorts.length : Int))), (13, .d true)] (apc (lg a1.sorts eStr 1) (apc (cv h1) apn)) rfl (by kernel_rfl)
 ·
  refine bi h (fun h2 h => ?_) fun h2 h => ?_
  ·
   rw [← sj h]
   exact fpr (n := 30) [(12, .v (i6 (a1.sorts.length : Int))), (13, .d false), (17, .v (i6 (a1.sorts.length : Int))), (18, .d true)] (apc (lg a1.sorts eStr 1) (apc (cv h1) (apc (lg a1.sorts eStr 1) (apc (cv h2) apn)))) rfl (by kernel_rfl)
  ·
   refine bi h (fun h3 h => ?_) fun h3 h => ?_
   ·
    rw [← sj h]
    exact fpr (n := 30) [(12, .v (i6 (a1.sorts.length : Int))), (13, .d false), (17, .v (i6 (a1.sorts.length : Int))), (18, .d false), (23, .v (i6 (a1.prods.length : Int))), (24, .d true)] (apc (lg a1.sorts eStr 1) (apc (cv h1) (apc (lg a1.sorts eStr 1) (apc (cv h2) (apc (lg a1.prods eProd 7) (apc (cv h3) apn)))))) rfl (by kernel_rfl)
   ·
    refine bn h fun x4 h4 h => ?_
    refine bi h (fun h5 h => ?_) fun h5 h => ?_
    ·
     have q6 := ((((F41_ok a1 h4).cp rfl _).trans (congrArg (fun z => some (vb z)) h5)) : CP prg 41 [(aG a1), (i6 a1.start)] [bG a1] = some (vb true))
     refine bn h fun r6 h6 h => ?_
     cases r6 with
     | k0 =>
      obtain ⟨g6, y6, e6⟩ := L12_6_run a1 0 _ h6
      rw [← sj h]
      exact fpr (n := 30) [(12, .v (i6 (a1.sorts.length : Int))), (13, .d false), (17, .v (i6 (a1.sorts.length : Int))), (18, .d false), (23, .v (i6 (a1.prods.length : Int))), (24, .d false), (30, .v (vb true)), (2000, .l .ret ⟨fr 160 g6 [(2, (i6 160))], y6⟩), (6000, .d true)] (apc (lg a1.sorts eStr 1) (apc (cv h1) (apc (lg a1.sorts eStr 1) (apc (cv h2) (apc (lg a1.prods eProd 7) (apc (cv h3) (apc q6 (apc ((okT_of rfl (abl_cons rfl rfl)) : okT 1 [bG a1] = true) (apc (e6 : evH prg 1 [1, 3] ir12_l6 (L12_6_s a1 0) = some (.ret, ⟨fr 160 g6 [(2, (i6 160))], y6⟩)) apn))))))))) rfl (by kernel_rfl)
     | k1 =>
      obtain ⟨g6, e6⟩ := L12_6_run a1 0 _ h6
      have q7 := ((okT_of rfl (abl_cons rfl rfl)) : okT 1 [bG a1] = true)
      have q8 := (e6 : evH prg 1 [1, 3] ir12_l6 (L12_6_s a1 0) = some ((.brk 0), ⟨fr 160 g6 [(1, (.ptr 0 0))], [bG a1]⟩))
      refine bn h fun r7 h7 h => ?_
      cases r7 with
      | k0 =>
       obtain ⟨g7, y7, e7⟩ := L12_4_run a1 0 _ h7
       rw [← sj h]
       exact fpr (n := 30) [(12, .v (i6 (a1.sorts.length : Int))), (13, .d false), (17, .v (i6 (a1.sorts.length : Int))), (18, .d false), (23, .v (i6 (a1.prods.length : Int))), (24, .d false), (30, .v (vb true)), (2000, .l (.brk 0) ⟨fr 160 g6 [(1, (.ptr 0 0))], [bG a1]⟩), (2004, .l .ret ⟨fr 160 g7 [(2, (i6 160))], y7⟩), (6000, .d true)] (apc (lg a1.sorts eStr 1) (apc (cv h1) (apc (lg a1.sorts eStr 1) (apc (cv h2) (apc (lg a1.prods eProd 7) (apc (cv h3) (apc q6 (apc q7 (apc q8 (apc ((okT_of rfl (abl_cons rfl rfl)) : okT 1 [bG a1] = true) (apc (e7 : evH prg 1 [1, 5] ir12_l4 (L12_4_s a1 0) = some (.ret, ⟨fr 160 g7 [(2, (i6 160))], y7⟩)) apn))))))))))) rfl (by kernel_rfl)
      | k1 =>
       obtain ⟨g7, e7⟩ := L12_4_run a1 0 _ h7
       have q9 := ((okT_of rfl (abl_cons rfl rfl)) : okT 1 [bG a1] = true)
       have q10 := (e7 : evH prg 1 [1, 5] ir12_l4 (L12_4_s a1 0) = some ((.brk 4), ⟨fr 160 g7 [(1, (.ptr 0 0))], [bG a1]⟩))
       refine bn h fun r8 h8 h => ?_
       cases r8 with
       | k0 =>
        obtain ⟨g8, y8, e8⟩ := L12_3_run a1 0 _ h8
        rw [← sj h]
        exact fpr (n := 30) [(12, .v (i6 (a1.sorts.length : Int))), (13, .d false), (17, .v (i6 (a1.sorts.length : Int))), (18, .d false), (23, .v (i6 (a1.prods.length : Int))), (24, .d false), (30, .v (vb true)), (2000, .l (.brk 0) ⟨fr 160 g6 [(1, (.ptr 0 0))], [bG a1]⟩), (2004, .l (.brk 4) ⟨fr 160 g7 [(1, (.ptr 0 0))], [bG a1]⟩), (2006, .l .ret ⟨fr 160 g8 [(2, (i6 160))], y8⟩), (6000, .d true)] (apc (lg a1.sorts eStr 1) (apc (cv h1) (apc (lg a1.sorts eStr 1) (apc (cv h2) (apc (lg a1.prods eProd 7) (apc (cv h3) (apc q6 (apc q7 (apc q8 (apc q9 (apc q10 (apc ((okT_of rfl (abl_cons rfl rfl)) : okT 1 [bG a1] = true) (apc (e8 : evH prg 1 [1, 6] ir12_l3 (L12_3_s a1 0) = some (.ret, ⟨fr 160 g8 [(2, (i6 160))], y8⟩)) apn))))))))))))) rfl (by kernel_rfl)
       | k1 =>
        obtain ⟨g8, e8⟩ := L12_3_run a1 0 _ h8
        have q11 := ((okT_of rfl (abl_cons rfl rfl)) : okT 1 [bG a1] = true)
        have q12 := (e8 : evH prg 1 [1, 6] ir12_l3 (L12_3_s a1 0) = some ((.brk 6), ⟨fr 160 g8 [(1, (.ptr 0 0))], [bG a1]⟩))
        refine bn h fun r9 h9 h => ?_
        cases r9 with
        | k0 =>
         obtain ⟨g9, y9, e9⟩ := L12_1_run a1 0 _ h9
         rw [← sj h]
         exact fpr (n := 30) [(12, .v (i6 (a1.sorts.length : Int))), (13, .d false), (17, .v (i6 (a1.sorts.length : Int))), (18, .d false), (23, .v (i6 (a1.prods.length : Int))), (24, .d false), (30, .v (vb true)), (2000, .l (.brk 0) ⟨fr 160 g6 [(1, (.ptr 0 0))], [bG a1]⟩), (2004, .l (.brk 4) ⟨fr 160 g7 [(1, (.ptr 0 0))], [bG a1]⟩), (2006, .l (.brk 6) ⟨fr 160 g8 [(1, (.ptr 0 0))], [bG a1]⟩), (2010, .l .ret ⟨fr 160 g9 [(2, (i6 160))], y9⟩), (6000, .d true)] (apc (lg a1.sorts eStr 1) (apc (cv h1) (apc (lg a1.sorts eStr 1) (apc (cv h2) (apc (lg a1.prods eProd 7) (apc (cv h3) (apc q6 (apc q7 (apc q8 (apc q9 (apc q10 (apc q11 (apc q12 (apc ((okT_of rfl (abl_cons rfl rfl)) : okT 1 [bG a1] = true) (apc (e9 : evH prg 1 [1, 8] ir12_l1 (L12_1_s a1 0) = some (.ret, ⟨fr 160 g9 [(2, (i6 160))], y9⟩)) apn))))))))))))))) rfl (by kernel_rfl)
        | k1 =>
         obtain ⟨g9, e9⟩ := L12_1_run a1 0 _ h9
         rw [← sj h]
         exact fpr (n := 30) [(12, .v (i6 (a1.sorts.length : Int))), (13, .d false), (17, .v (i6 (a1.sorts.length : Int))), (18, .d false), (23, .v (i6 (a1.prods.length : Int))), (24, .d false), (30, .v (vb true)), (2000, .l (.brk 0) ⟨fr 160 g6 [(1, (.ptr 0 0))], [bG a1]⟩), (2004, .l (.brk 4) ⟨fr 160 g7 [(1, (.ptr 0 0))], [bG a1]⟩), (2006, .l (.brk 6) ⟨fr 160 g8 [(1, (.ptr 0 0))], [bG a1]⟩), (2010, .l (.brk 10) ⟨fr 160 g9 [(1, (.ptr 0 0))], [bG a1]⟩), (6000, .d true)] (apc (lg a1.sorts eStr 1) (apc (cv h1) (apc (lg a1.sorts eStr 1) (apc (cv h2) (apc (lg a1.prods eProd 7) (apc (cv h3) (apc q6 (apc q7 (apc q8 (apc q9 (apc q10 (apc q11 (apc q12 (apc ((okT_of rfl (abl_cons rfl rfl)) : okT 1 [bG a1] = true) (apc (e9 : evH prg 1 [1, 8] ir12_l1 (L12_1_s a1 0) = some ((.brk 10), ⟨fr 160 g9 [(1, (.ptr 0 0))], [bG a1]⟩)) apn))))))))))))))) rfl (by kernel_rfl)
    ·
     rw [← sj h]
     exact fpr (n := 30) [(12, .v (i6 (a1.sorts.length : Int))), (13, .d false), (17, .v (i6 (a1.sorts.length : Int))), (18, .d false), (23, .v (i6 (a1.prods.length : Int))), (24, .d false), (30, .v (vb false))] (apc (lg a1.sorts eStr 1) (apc (cv h1) (apc (lg a1.sorts eStr 1) (apc (cv h2) (apc (lg a1.prods eProd 7) (apc (cv h3) (apc ((((F41_ok a1 h4).cp rfl _).trans (congrArg (fun z => some (vb z)) h5)) : CP prg 41 [(aG a1), (i6 a1.start)] [bG a1] = some (vb false)) apn))))))) rfl (by kernel_rfl)
inductive E_L16_2 where
  | k0 (x0 : List Int)
noncomputable def L16_2 (a1 : Nat) (v1 : Int) (v2 : List Int) : Option (E_L16_2 ⊕ (Int × (List Int))) :=
  (bif (decide (v1 < ((a1 : Nat) : Int))) then ((ixN a1 v1).bind fun x2 => ((v2[x2]?).bind fun x3 => (some (.inr ((IntKind.wrap .i64 (v1 + 1)), (v2.set x2 (-1))))))) else (some (.inl (.k0 v2))))
def L16_2_s (a1 : Nat) (a2 : GramD) (v1 : Int) (v2 : List Int) : St := ⟨fr 67 ug [(1, (.ptr 0 0)), (3, (.sl 2 0 1 0 a1)), (4, (i6 v1))], [bG a2, bI [], bI v2]⟩
def L16_2_x (a1 : Nat) (a2 : GramD) (e : E_L16_2) (r : Option (Out × St)) : Prop := match e with | .k0 x0 => ∃ g, r = some ((.brk 0), ⟨fr 67 g [(1, (.ptr 0 0)), (3, (.sl 2 0 1 0 a1))], [bG a2, bI [], bI x0]⟩)
abbrev L16_2_d0 (a2 : GramD) (v2 : List Int) (x2 : Nat) : List AB := [bG a2, bI [], bI (v2.set x2 (-1))]
theorem L16_2_ok (a1 : Nat) (a2 : GramD) (v1 : Int) (v2 : List Int) {r : E_L16_2 ⊕ (Int × (List Int))} (h : L16_2 a1 v1 v2 = some r) : OkR (fun e => L16_2_x a1 a2 e (evH prg 3 [1, 3, 4] ir16_l2 (L16_2_s a1 a2 v1 v2))) (fun s => evH prg 3 [1, 3, 4] ir16_l2 (L16_2_s a1 a2 v1 v2) = evH prg 3 [1, 3, 4] ir16_l2 (L16_2_s a1 a2 s.1 s.2)) r := by
 unfold L16_2 at h
 refine bi h (fun h1 h => ?_) fun h1 h => ?_
 ·
  refine bn h fun x2 h2 h => ?_
  refine bn h fun x3 h3 h => ?_
  rw [← sj h]
  exact rnd (n := 30) [(16, .d true), (21, .v (.rp 2 0 1 x2 0)), (1021, .r ud (L16_2_d0 a2 v2 x2)), (6000, .d true)] (apc (cv h1) (apc ((idx_sl h2) : idxA 1 (.sl 2 0 1 0 a1) (i6 v1) = some (.rp 2 0 1 x2 0)) (apc (⟨st_row (v' := (-1)) rfl h3 rfl rfl (Nat.le_of_ble_eq_true rfl) rfl, rfl⟩ : stA [bG a2, bI [], bI v2] 1 (.rp 2 0 1 x2 0) (i6 (-1)) = some (L16_2_d0 a2 v2 x2) ∧ ud = ud) (apc ((okT_of rfl (abl_cons rfl (abl_cons abl_row (abl_cons abl_row rfl)))) : okT 3 (L16_2_d0 a2 v2 x2) = true) apn)))) (by kernel_rfl)
 ·
  rw [← sj h]
  exact xbrk (n := 30) [(16, .d false), (6000, .d true)] (apc (cv h1) apn) (by kernel_rfl)
theorem L16_2_run (a1 : Nat) (a2 : GramD) (s0 : Int × (List Int)) (e : E_L16_2) (h : runL (fun s => L16_2 a1 s.1 s.2) s0 = some e) : L16_2_x a1 a2 e (evH prg 3 [1, 3, 4] ir16_l2 (L16_2_s a1 a2 s0.1 s0.2)) := by
  have q := @loop_sound' (Int × (List Int)) E_L16_2 (fun s => L16_2 a1 s.1 s.2) (fun s => evH prg 3 [1, 3, 4] ir16_l2 (L16_2_s a1 a2 s.1 s.2)) (L16_2_x a1 a2) (fun s r h => L16_2_ok a1 a2 s.1 s.2 h) s0 e h
  exact q
inductive E_L50_0 where
  | k0
  | k1 (x0 : Int)
noncomputable def L50_0 (a1 : List Int) (a2 : ProdD) (v1 : Int) (v2 : Int) : Option (E_L50_0 ⊕ (Int × Int)) :=
  (bif (decide (v2 < (a2.right.length : Int))) then ((getI a2.right v2).bind fun x2 => (bif (x2.kind == 1) then ((getI a1 x2.sort).bind fun x4 => (bif (decide (x4 < 0)) then (some (.inl (.k0))) else (some (.inr ((if 1048577 < (IntKind.wrap .i64 (v1 + x4)) then 1048577 else (IntKind.wrap .i64 (v1 + x4))), (IntKind.wrap .i64 (v2 + 1))))))) else (some (.inr ((if 1048577 < (IntKind.wrap .i64 (v1 + 1)) then 1048577 else (IntKind.wrap .i64 (v1 + 1))), (IntKind.wrap .i64 (v2 + 1))))))) else (some (.inl (.k1 v1))))
def L50_0_s (a1 : List Int) (a2 : ProdD) (v1 : Int) (v2 : Int) : St := ⟨fr 38 ug [(1, (.p (.lst 1 (a1.map eI64)))), (2, (.ptr 0 0)), (5, (i6 v1)), (6, (i6 v2))], [bP a2]⟩
def L50_0_x (a1 : List Int) (a2 : ProdD) (e : E_L50_0) (r : Option (Out × St)) : Prop := match e with | .k0 => ∃ g y, r = some (.ret, ⟨fr 38 g [(4, (i6 (-1)))], y⟩) | .k1 x0 => ∃ g, r = some ((.brk 0), ⟨fr 38 g [(5, (i6 x0))], [bP a2]⟩)
theorem L50_0_ok (a1 : List Int) (a2 : ProdD) (v1 : Int) (v2 : Int) {r : E_L50_0 ⊕ (Int × Int)} (h : L50_0 a1 a2 v1 v2 = some r) : OkR (fun e => L50_0_x a1 a2 e (evH prg 1 [1, 2, 5, 6] ir50_l0 (L50_0_s a1 a2 v1 v2))) (fun s => evH prg 1 [1, 2, 5, 6] ir50_l0 (L50_0_s a1 a2 v1 v2) = evH prg 1 [1, 2, 5, 6] ir50_l0 (L50_0_s a1 a2 s.1 s.2)) r := by
 unfold L50_0 at h
 refine bi h (fun h1 h => ?_) fun h1 h => ?_
 ·
  refine bn h fun x2 h2 h => ?_
  refine bi h (fun h3 h => ?_) fun h3 h => ?_
  ·
   refine bn h fun x4 h4 h => ?_
   refine bi h (fun h5 h => ?_) fun h5 h => ?_
   ·
    rw [← sj h]
    exact xretY (n := 30) [(11, .v (i6 (a2.right.length : Int))), (12, .d true), (18, .v (.ro (eSym x2))), (21, .d true), (26, .v (.ro (eSym x2))), (29, .v (.ro [.val (.int .i64 x4)])), (32, .d true), (6000, .d true)] (apc (lg a2.right eSym 6) (apc (cv h1) (apc (ig eSym 6 .i64 h2) (apc (cv h3) (apc (ig eSym 6 .i64 h2) (apc (ig eI64 1 .i64 h4) (apc (cv h5) apn))))))) (by kernel_rfl)
   ·
    rw [← sj h]
    exact rnd (n := 30) [(11, .v (i6 (a2.right.length : Int))), (12, .d true), (18, .v (.ro (eSym x2))), (21, .d true), (26, .v (.ro (eSym x2))), (29, .v (.ro [.val (.int .i64 x4)])), (32, .d false), (6000, .d true)] (apc (lg a2.right eSym 6) (apc (cv h1) (apc (ig eSym 6 .i64 h2) (apc (cv h3) (apc (ig eSym 6 .i64 h2) (apc (ig eI64 1 .i64 h4) (apc (cv h5) (apc ((okT_of rfl (abl_cons rfl rfl)) : okT 1 [bP a2] = true) apn)))))))) (by kernel_rfl)
  ·
   rw [← sj h]
   exact rnd (n := 30) [(11, .v (i6 (a2.right.length : Int))), (12, .d true), (18, .v (.ro (eSym x2))), (21, .d false), (6000, .d true)] (apc (lg a2.right eSym 6) (apc (cv h1) (apc (ig eSym 6 .i64 h2) (apc (cv h3) (apc ((okT_of rfl (abl_cons rfl rfl)) : okT 1 [bP a2] = true) apn))))) (by kernel_rfl)
 ·
  rw [← sj h]
  exact xbrk (n := 30) [(11, .v (i6 (a2.right.length : Int))), (12, .d false), (6000, .d true)] (apc (lg a2.right eSym 6) (apc (cv h1) apn)) (by kernel_rfl)
theorem L50_0_run (a1 : List Int) (a2 : ProdD) (s0 : Int × Int) (e : E_L50_0) (h : runL (fun s => L50_0 a1 a2 s.1 s.2) s0 = some e) : L50_0_x a1 a2 e (evH prg 1 [1, 2, 5, 6] ir50_l0 (L50_0_s a1 a2 s0.1 s0.2)) := by
  have q := @loop_sound' (Int × Int) E_L50_0 (fun s => L50_0 a1 a2 s.1 s.2) (fun s => evH prg 1 [1, 2, 5, 6] ir50_l0 (L50_0_s a1 a2 s.1 s.2)) (L50_0_x a1 a2) (fun s r h => L50_0_ok a1 a2 s.1 s.2 h) s0 e h
  exact q
noncomputable def F50 (a1 : ProdD) (a2 : List Int) : Option Int :=
  ((runL (fun s => L50_0 a2 a1 s.1 s.2) (0, 0)).bind fun r1 => match r1 with | .k0 => (some (-1)) | .k1 x1_0 => (some x1_0))
def F50_v (a1 : ProdD) (a2 : List Int) (x0 : Int) : AV := (i6 x0)
theorem F50_ok (a1 : ProdD) (a2 : List Int) {r : Int} (h : F50 a1 a2 = some r) : PR1 prg 50 [(aP a1), (.p (.lst 1 (a2.map eI64)))] (F50_v a1 a2 r) := by
 unfold F50 at h
 refine bn h fun r1 h1 h => ?_
 cases r1 with
 | k0 =>
  obtain ⟨g1, y1, e1⟩ := L50_0_run a2 a1 (0, 0) _ h1
  rw [← sj h]
  exact fpr (n := 30) [(2000, .l .ret ⟨fr 38 g1 [(4, (i6 (-1)))], y1⟩), (6000, .d true)] (apc ((okT_of rfl (abl_cons rfl rfl)) : okT 1 [bP a1] = true) (apc (e1 : evH prg 1 [1, 2, 5, 6] ir50_l0 (L50_0_s a2 a1 0 0) = some (.ret, ⟨fr 38 g1 [(4, (i6 (-1)))], y1⟩)) apn)) rfl (by kernel_rfl)
 | k1 x1_0 =>
  obtain ⟨g1, e1⟩ := L50_0_run a2 a1 (0, 0) _ h1
  rw [← sj h]
  exact fpr (n := 30) [(2000, .l (.brk 0) ⟨fr 38 g1 [(5, (i6 x1_0))], [bP a1]⟩), (6000, .d true)] (apc ((okT_of rfl (abl_cons rfl rfl)) : okT 1 [bP a1] = true) (apc (e1 : evH prg 1 [1, 2, 5, 6] ir50_l0 (L50_0_s a2 a1 0 0) = some ((.brk 0), ⟨fr 38 g1 [(5, (i6 x1_0))], [bP a1]⟩)) apn)) rfl (by kernel_rfl)
noncomputable def F51 (a1 : ProdD) : Option Bool :=
  (some (a1.role != 11))
def F51_v (a1 : ProdD) (x0 : Bool) : AV := (vb x0)
theorem F51_ok (a1 : ProdD) {r : Bool} (h : F51 a1 = some r) : PR1 prg 51 [(aP a1)] (F51_v a1 r) := by
 unfold F51 at h
 rw [← sj h]
 exact fpr (n := 30) [] apn rfl (by kernel_rfl)
inductive E_L16_0 where
  | k0 (x0 : Bool) (x1 : List Int)
noncomputable def L16_0 (a1 : Nat) (a2 : GramD) (v1 : Bool) (v2 : Int) (v3 : List Int) : Option (E_L16_0 ⊕ (Bool × Int × (List Int))) :=
  (bif (decide (v2 < (a2.prods.length : Int))) then ((getI a2.prods v2).bind fun x2 => (bif (decide (a1 ≤ v3.length)) then ((F50 x2 (v3.take a1)).bind fun x4 => ((F51 x2).bind fun x5 => (bif x5 then (bif (decide (x4 ≥ 0)) then ((ixN a1 x2.left).bind fun x8 => ((v3[x8]?).bind fun x9 => (bif (decide (x9 < 0)) then (some (.inr (true, (IntKind.wrap .i64 (v2 + 1)), (v3.set x8 x4)))) else (bif (decide (x4 < x9)) then (some (.inr (true, (IntKind.wrap .i64 (v2 + 1)), (v3.set x8 x4)))) else (some (.inr (v1, (IntKind.wrap .i64 (v2 + 1)), v3))))))) else (some (.inr (v1, (IntKind.wrap .i64 (v2 + 1)), v3)))) else (some (.inr (v1, (IntKind.wrap .i64 (v2 + 1)), v3)))))) else none)) else (some (.inl (.k0 v1 v3))))
def L16_0_s (a1 : Nat) (a2 : GramD) (v1 : Bool) (v2 : Int) (v3 : List Int) : St := ⟨fr 67 ug [(1, (.ptr 0 0)), (3, (.sl 2 0 1 0 a1)), (5, (vb v1)), (6, (i6 v2))], [bG a2, bI [], bI v3]⟩
def L16_0_x (a1 : Nat) (a2 : GramD) (e : E_L16_0) (r : Option (Out × St)) : Prop := match e with | .k0 x0 x1 => ∃ g, r = some ((.brk 4), ⟨fr 67 g [(1, (.ptr 0 0)), (3, (.sl 2 0 1 0 a1)), (5, (vb x0))], [bG a2, bI [], bI x1]⟩)
abbrev L16_0_d0 (a2 : GramD) (v3 : List Int) (x2 : ProdD) : List AB := [bG a2, bI [], bI v3, .row 48 6 0 (ra eSym []), bP x2]
abbrev L16_0_d1 (a2 : GramD) (v3 : List Int) (x8 : Nat) (x4 : Int) (x2 : ProdD) : List AB := [bG a2, bI [], bI (v3.set x8 x4), .row 48 6 0 (ra eSym []), bP x2]
theorem L16_0_ok (a1 : Nat) (a2 : GramD) (v1 : Bool) (v2 : Int) (v3 : List Int) {r : E_L16_0 ⊕ (Bool × Int × (List Int))} (h : L16_0 a1 a2 v1 v2 v3 = some r) : OkR (fun e => L16_0_x a1 a2 e (evH prg 3 [1, 3, 5, 6] ir16_l0 (L16_0_s a1 a2 v1 v2 v3))) (fun s => evH prg 3 [1, 3, 5, 6] ir16_l0 (L16_0_s a1 a2 v1 v2 v3) = evH prg 3 [1, 3, 5, 6] ir16_l0 (L16_0_s a1 a2 s.1 s.2.1 s.2.2)) r := by
 unfold L16_0 at h
 refine bi h (fun h1 h => ?_) fun h1 h => ?_
 ·
  refine bn h fun x2 h2 h => ?_
  refine bi h (fun h3 h => ?_) fun h3 h => ?_
  ·
   refine bn h fun x4 h4 h => ?_
   have q3 := (((F50_ok x2 (v3.take a1) h4).own rfl (purAs_cons rfl (purAs_cons (purA_sl rfl h3) purAs_nil)) rfl) : CP prg 50 [(aP x2), (.sl 2 0 1 0 a1)] (L16_0_d0 a2 v3 x2) = some (i6 x4))
   refine bn h fun x5 h5 h => ?_
   refine bi h (fun h6 h => ?_) fun h6 h => ?_
   ·
    have q4 := ((((F51_ok x2 h5).cp rfl _).trans (congrArg (fun z => some (vb z)) h6)) : CP prg 51 [(aP x2)] (L16_0_d0 a2 v3 x2) = some (vb true))
    refine bi h (fun h7 h => ?_) fun h7 h => ?_
    ·
     refine bn h fun x8 h8 h => ?_
     have q6 := ((idx_sl h8) : idxA 1 (.sl 2 0 1 0 a1) (i6 x2.left) = some (.rp 2 0 1 x8 0))
     refine bn h fun x9 h9 h => ?_
     have q7 := ((ld_row rfl h9 rfl) : ldA (L16_0_d0 a2 v3 x2) .false 1 (.rp 2 0 1 x8 0) = some (i6 x9))
     refine bi h (fun h10 h => ?_) fun h10 h => ?_
     ·
      rw [← sj h]
      exact rnd (n := 30) [(26, .v (i6 (a2.prods.length : Int))), (27, .d true), (33, .v (.ro (eProd x2))), (37, .v (i6 x4)), (39, .v (vb true)), (42, .d true), (48, .v (.rp 2 0 1 x8 0)), (49, .v (i6 x9)), (50, .d true), (65, .v (.rp 2 0 1 x8 0)), (1065, .r ud (L16_0_d1 a2 v3 x8 x4 x2)), (6000, .d true)] (apc (lg a2.prods eProd 7) (apc (cv h1) (apc (ig eProd 7 .i64 h2) (apc q3 (apc q4 (apc (cv h7) (apc q6 (apc q7 (apc (cv h10) (apc ((idx_sl h8) : idxA 1 (.sl 2 0 1 0 a1) (i6 x2.left) = some (.rp 2 0 1 x8 0)) (apc (⟨st_row (v' := x4) rfl h9 rfl rfl (Nat.le_of_ble_eq_true rfl) rfl, rfl⟩ : stA (L16_0_d0 a2 v3 x2) 1 (.rp 2 0 1 x8 0) (i6 x4) = some (L16_0_d1 a2 v3 x8 x4 x2) ∧ ud = ud) (apc ((okT_of rfl (abl_cons rfl (abl_cons abl_row (abl_cons abl_row rfl)))) : okT 3 (L16_0_d1 a2 v3 x8 x4 x2) = true) apn)))))))))))) (by kernel_rfl)
     ·
      have q9 := ((idx_sl h8) : idxA 1 (.sl 2 0 1 0 a1) (i6 x2.left) = some (.rp 2 0 1 x8 0))
      have q10 := ((ld_row rfl h9 rfl) : ldA (L16_0_d0 a2 v3 x2) .false 1 (.rp 2 0 1 x8 0) = some (i6 x9))
      refine bi h (fun h11 h => ?_) fun h11 h => ?_
      ·
       rw [← sj h]
       exact rnd (n := 30) [(26, .v (i6 (a2.prods.length : Int))), (27, .d true), (33, .v (.ro (eProd x2))), (37, .v (i6 x4)), (39, .v (vb true)), (42, .d true), (48, .v (.rp 2 0 1 x8 0)), (49, .v (i6 x9)), (50, .d false), (56, .v (.rp 2 0 1 x8 0)), (57, .v (i6 x9)), (58, .d true), (65, .v (.rp 2 0 1 x8 0)), (1065, .r ud (L16_0_d1 a2 v3 x8 x4 x2)), (6000, .d true)] (apc (lg a2.prods eProd 7) (apc (cv h1) (apc (ig eProd 7 .i64 h2) (apc q3 (apc q4 (apc (cv h7) (apc q6 (apc q7 (apc (cv h10) (apc q9 (apc q10 (apc (cv h11) (apc ((idx_sl h8) : idxA 1 (.sl 2 0 1 0 a1) (i6 x2.left) = some (.rp 2 0 1 x8 0)) (apc (⟨st_row (v' := x4) rfl h9 rfl rfl (Nat.le_of_ble_eq_true rfl) rfl, rfl⟩ : stA (L16_0_d0 a2 v3 x2) 1 (.rp 2 0 1 x8 0) (i6 x4) = some (L16_0_d1 a2 v3 x8 x4 x2) ∧ ud = ud) (apc ((okT_of rfl (abl_cons rfl (abl_cons abl_row (abl_cons abl_row rfl)))) : okT 3 (L16_0_d1 a2 v3 x8 x4 x2) = true) apn))))))))))))))) (by kernel_rfl)
      ·
       rw [← sj h]
       exact rnd (n := 30) [(26, .v (i6 (a2.prods.length : Int))), (27, .d true), (33, .v (.ro (eProd x2))), (37, .v (i6 x4)), (39, .v (vb true)), (42, .d true), (48, .v (.rp 2 0 1 x8 0)), (49, .v (i6 x9)), (50, .d false), (56, .v (.rp 2 0 1 x8 0)), (57, .v (i6 x9)), (58, .d false), (6000, .d true)] (apc (lg a2.prods eProd 7) (apc (cv h1) (apc (ig eProd 7 .i64 h2) (apc q3 (apc q4 (apc (cv h7) (apc q6 (apc q7 (apc (cv h10) (apc q9 (apc q10 (apc (cv h11) (apc ((okT_of rfl (abl_cons rfl (abl_cons abl_row (abl_cons abl_row rfl)))) : okT 3 (L16_0_d0 a2 v3 x2) = true) apn))))))))))))) (by kernel_rfl)
    ·
     rw [← sj h]
     exact rnd (n := 30) [(26, .v (i6 (a2.prods.length : Int))), (27, .d true), (33, .v (.ro (eProd x2))), (37, .v (i6 x4)), (39, .v (vb true)), (42, .d false), (6000, .d true)] (apc (lg a2.prods eProd 7) (apc (cv h1) (apc (ig eProd 7 .i64 h2) (apc q3 (apc q4 (apc (cv h7) (apc ((okT_of rfl (abl_cons rfl (abl_cons abl_row (abl_cons abl_row rfl)))) : okT 3 (L16_0_d0 a2 v3 x2) = true) apn))))))) (by kernel_rfl)
   ·
    rw [← sj h]
    exact rnd (n := 30) [(26, .v (i6 (a2.prods.length : Int))), (27, .d true), (33, .v (.ro (eProd x2))), (37, .v (i6 x4)), (39, .v (vb false)), (6000, .d true)] (apc (lg a2.prods eProd 7) (apc (cv h1) (apc (ig eProd 7 .i64 h2) (apc q3 (apc ((((F51_ok x2 h5).cp rfl _).trans (congrArg (fun z => some (vb z)) h6)) : CP prg 51 [(aP x2)] (L16_0_d0 a2 v3 x2) = some (vb false)) (apc ((okT_of rfl (abl_cons rfl (abl_cons abl_row (abl_cons abl_row rfl)))) : okT 3 (L16_0_d0 a2 v3 x2) = true) apn)))))) (by kernel_rfl)
  ·
   cases h
 ·
  rw [← sj h]
  exact xbrk (n := 30) [(26, .v (i6 (a2.prods.length : Int))), (27, .d false), (6000, .d true)] (apc (lg a2.prods eProd 7) (apc (cv h1) apn)) (by kernel_rfl)
theorem L16_0_run (a1 : Nat) (a2 : GramD) (s0 : Bool × Int × (List Int)) (e : E_L16_0) (h : runL (fun s => L16_0 a1 a2 s.1 s.2.1 s.2.2) s0 = some e) : L16_0_x a1 a2 e (evH prg 3 [1, 3, 5, 6] ir16_l0 (L16_0_s a1 a2 s0.1 s0.2.1 s0.2.2)) := by
  have q := @loop_sound' (Bool × Int × (List Int)) E_L16_0 (fun s => L16_0 a1 a2 s.1 s.2.1 s.2.2) (fun s => evH prg 3 [1, 3, 5, 6] ir16_l0 (L16_0_s a1 a2 s.1 s.2.1 s.2.2)) (L16_0_x a1 a2) (fun s r h => L16_0_ok a1 a2 s.1 s.2.1 s.2.2 h) s0 e h
  exact q
inductive E_L16_1 where
  | k0 (x0 : List Int)
noncomputable def L16_1 (a1 : Nat) (a2 : GramD) (v1 : Bool) (v2 : List Int) : Option (E_L16_1 ⊕ (Bool × (List Int))) :=
  (bif v1 then ((runL (fun s => L16_0 a1 a2 s.1 s.2.1 s.2.2) (false, 0, v2)).bind fun r2 => match r2 with | .k0 x2_0 x2_1 => (some (.inr (x2_0, x2_1)))) else (some (.inl (.k0 v2))))
def L16_1_s (a1 : Nat) (a2 : GramD) (v1 : Bool) (v2 : List Int) : St := ⟨fr 67 ug [(1, (.ptr 0 0)), (3, (.sl 2 0 1 0 a1)), (5, (vb v1))], [bG a2, bI [], bI v2]⟩
def L16_1_x (a1 : Nat) (a2 : GramD) (e : E_L16_1) (r : Option (Out × St)) : Prop := match e with | .k0 x0 => ∃ g, r = some ((.brk 2), ⟨fr 67 g [(1, (.ptr 0 0)), (3, (.sl 2 0 1 0 a1))], [bG a2, bI [], bI x0]⟩)
abbrev L16_1_d0 (g2 : Nat → AV) (a1 : Nat) (x2_0 : Bool) (a2 : GramD) (x2_1 : List Int) : St := ⟨fr 67 g2 [(1, (.ptr 0 0)), (3, (.sl 2 0 1 0 a1)), (5, (vb x2_0))], [bG a2, bI [], bI x2_1]⟩
theorem L16_1_ok (a1 : Nat) (a2 : GramD) (v1 : Bool) (v2 : List Int) {r : E_L16_1 ⊕ (Bool × (List Int))} (h : L16_1 a1 a2 v1 v2 = some r) : OkR (fun e => L16_1_x a1 a2 e (evH prg 3 [1, 3, 5] ir16_l1 (L16_1_s a1 a2 v1 v2))) (fun s => evH prg 3 [1, 3, 5] ir16_l1 (L16_1_s a1 a2 v1 v2) = evH prg 3 [1, 3, 5] ir16_l1 (L16_1_s a1 a2 s.1 s.2)) r := by
 unfold L16_1 at h
 refine bi h (fun h1 h => ?_) fun h1 h => ?_
 ·
  refine bn h fun r2 h2 h => ?_
  cases r2 with
  | k0 x2_0 x2_1 =>
   obtain ⟨g2, e2⟩ := L16_0_run a1 a2 (false, 0, v2) _ h2
   rw [← sj h]
   exact rnd (n := 30) [(22, .d true), (2004, .l (.brk 4) (L16_1_d0 g2 a1 x2_0 a2 x2_1)), (6000, .d true)] (apc (cv h1) (apc ((okT_of rfl (abl_cons rfl (abl_cons abl_row (abl_cons abl_row rfl)))) : okT 3 [bG a2, bI [], bI v2] = true) (apc (e2 : evH prg 3 [1, 3, 5, 6] ir16_l0 (L16_0_s a1 a2 false 0 v2) = some ((.brk 4), (L16_1_d0 g2 a1 x2_0 a2 x2_1))) (apc ((okT_of rfl (abl_cons rfl (abl_cons abl_row (abl_cons abl_row rfl)))) : okT 3 [bG a2, bI [], bI x2_1] = true) apn)))) (by kernel_rfl)
 ·
  rw [← sj h]
  exact xbrk (n := 30) [(22, .d false), (6000, .d true)] (apc (cv h1) apn) (by kernel_rfl)
theorem L16_1_run (a1 : Nat) (a2 : GramD) (s0 : Bool × (List Int)) (e : E_L16_1) (h : runL (fun s => L16_1 a1 a2 s.1 s.2) s0 = some e) : L16_1_x a1 a2 e (evH prg 3 [1, 3, 5] ir16_l1 (L16_1_s a1 a2 s0.1 s0.2)) := by
  have q := @loop_sound' (Bool × (List Int)) E_L16_1 (fun s => L16_1 a1 a2 s.1 s.2) (fun s => evH prg 3 [1, 3, 5] ir16_l1 (L16_1_s a1 a2 s.1 s.2)) (L16_1_x a1 a2) (fun s r h => L16_1_ok a1 a2 s.1 s.2 h) s0 e h
  exact q
noncomputable def F16 (a1 : GramD) : Option (List Int) :=
  (bif (mkOk (a1.sorts.length : Int) 8) then ((runL (fun s => L16_2 (Int.toNat (a1.sorts.length : Int)) s.1 s.2) (0, (List.replicate (Int.toNat (a1.sorts.length : Int)) 0))).bind fun r2 => match r2 with | .k0 x2_0 => ((runL (fun s => L16_1 (Int.toNat (a1.sorts.length : Int)) a1 s.1 s.2) (true, x2_0)).bind fun r3 => match r3 with | .k0 x3_0 => (bif (decide ((Int.toNat (a1.sorts.length : Int)) ≤ x3_0.length)) then (some (x3_0.take (Int.toNat (a1.sorts.length : Int)))) else none))) else none)
def F16_v (a1 : GramD) (x0 : (List Int)) : AV := (.p (.lst 1 (x0.map eI64)))
abbrev F16_d0 (a1 : GramD) : List AB := [bG a1, bI [], bI (List.replicate (Int.toNat (a1.sorts.length : Int)) 0)]
abbrev F16_d1 (g2 : Nat → AV) (a1 : GramD) (x2_0 : List Int) : St := ⟨fr 67 g2 [(1, (.ptr 0 0)), (3, (.sl 2 0 1 0 (Int.toNat (a1.sorts.length : Int))))], [bG a1, bI [], bI x2_0]⟩
abbrev F16_d2 (g3 : Nat → AV) (a1 : GramD) (x3_0 : List Int) : St := ⟨fr 67 g3 [(1, (.ptr 0 0)), (3, (.sl 2 0 1 0 (Int.toNat (a1.sorts.length : Int))))], [bG a1, bI [], bI x3_0]⟩
abbrev F16_c0 (a1 : GramD) : List (Nat × Hint) := [(12, .r (.sl 2 0 1 0 (Int.toNat (a1.sorts.length : Int))) (F16_d0 a1))]
abbrev F16_c1 (g2 : Nat → AV) (a1 : GramD) (x2_0 : List Int) : List (Nat × Hint) := [(2000, .l (.brk 0) (F16_d1 g2 a1 x2_0))]
abbrev F16_c2 (g3 : Nat → AV) (a1 : GramD) (x3_0 : List Int) : List (Nat × Hint) := [(2002, .l (.brk 2) (F16_d2 g3 a1 x3_0))]
theorem F16_ok (a1 : GramD) {r : (List Int)} (h : F16 a1 = some r) : PR1 prg 16 [(aG a1)] (F16_v a1 r) := by
 unfold F16 at h
 refine bi h (fun h1 h => ?_) fun h1 h => ?_
 ·
  have q1 := ((mk_row' (h := [bG a1, bI []]) (e := eI64) (z := 0) h1 rfl) : (mkA 3 1 8 [.val (.int .i64 0)] (i6 (a1.sorts.length : Int)) (i6 (a1.sorts.length : Int)) 2).map (fun x => (x.1, [bG a1, bI []] ++ [x.2])) = some ((.sl 2 0 1 0 (Int.toNat (a1.sorts.length : Int))), (F16_d0 a1)))
  refine bn h fun r2 h2 h => ?_
  cases r2 with
  | k0 x2_0 =>
   obtain ⟨g2, e2⟩ := L16_2_run (Int.toNat (a1.sorts.length : Int)) a1 (0, (List.replicate (Int.toNat (a1.sorts.length : Int)) 0)) _ h2
   have q2 := ((okT_of rfl (abl_cons rfl (abl_cons abl_row (abl_cons abl_row rfl)))) : okT 3 (F16_d0 a1) = true)
   have q3 := (e2 : evH prg 3 [1, 3, 4] ir16_l2 (L16_2_s (Int.toNat (a1.sorts.length : Int)) a1 0 (List.replicate (Int.toNat (a1.sorts.length : Int)) 0)) = some ((.brk 0), (F16_d1 g2 a1 x2_0)))
   refine bn h fun r3 h3 h => ?_
   cases r3 with
   | k0 x3_0 =>
    obtain ⟨g3, e3⟩ := L16_1_run (Int.toNat (a1.sorts.length : Int)) a1 (true, x2_0) _ h3
    have q4 := ((okT_of rfl (abl_cons rfl (abl_cons abl_row (abl_cons abl_row rfl)))) : okT 3 [bG a1, bI [], bI x2_0] = true)
    have q5 := (e3 : evH prg 3 [1, 3, 5] ir16_l1 (L16_1_s (Int.toNat (a1.sorts.length : Int)) a1 true x2_0) = some ((.brk 2), (F16_d2 g3 a1 x3_0)))
    refine bi h (fun h4 h => ?_) fun h4 h => ?_
    ·
     rw [← sj h]
     exact fpo (n := 30) (v := (.sl 2 0 1 0 (Int.toNat (a1.sorts.length : Int)))) (h' := [bG a1, bI [], bI x3_0]) ([(11, .v (i6 (a1.sorts.length : Int)))] ++ ((F16_c0 a1) ++ ((F16_c1 g2 a1 x2_0) ++ ((F16_c2 g3 a1 x3_0) ++ [(6000, .d true)])))) (apc (lg a1.sorts eStr 1) (apc q1 (apc q2 (apc q3 (apc q4 (apc q5 apn)))))) (purA_sl rfl h4) (by kernel_rfl)
    ·
     cases h
 ·
  cases h
inductive E_L57_0 where
  | k0
  | k1 (x0 : List (ByteArray × Int))
noncomputable def L57_0 (a1 : GramD) (a2 : Int) (v1 : Int) (v2 : List (ByteArray × Int)) : Option (E_L57_0 ⊕ (Int × (List (ByteArray × Int)))) :=
  (bif (decide (v1 < a2)) then ((getI a1.sorts v1).bind fun x2 => (bif (x2.toList == (⟨([] : List UInt8).toArray⟩ : ByteArray).toList) then (some (.inl (.k0))) else (bif (decide ((x2.size : Int) > 1000)) then (some (.inl (.k0))) else (bif (decide ((mget 0 (mput x2 (IntKind.wrap .i64 ((mget 0 v2 x2) + 1)) v2) x2) > 1)) then (some (.inl (.k0))) else (some (.inr ((IntKind.wrap .i64 (v1 + 1)), (mput x2 (IntKind.wrap .i64 ((mget 0 v2 x2) + 1)) v2)))))))) else (some (.inl (.k1 v2))))
def L57_0_s (a1 : GramD) (a2 : Int) (v1 : Int) (v2 : List (ByteArray × Int)) : St := ⟨fr 55 ug [(1, (.ptr 0 0)), (3, (.mp 1)), (8, (.p (.lst 1 (a1.sorts.map eStr)))), (9, (i6 a2)), (10, (i6 v1))], [bG a1, mSI v2]⟩
def L57_0_x (a1 : GramD) (a2 : Int) (e : E_L57_0) (r : Option (Out × St)) : Prop := match e with | .k0 => ∃ g y, r = some (.ret, ⟨fr 55 g [(2, (vb false))], y⟩) | .k1 x0 => ∃ g, r = some ((.brk 0), ⟨fr 55 g [(1, (.ptr 0 0)), (8, (.p (.lst 1 (a1.sorts.map eStr))))], [bG a1, mSI x0]⟩)
abbrev L57_0_d0 (a1 : GramD) (v2 : List (ByteArray × Int)) : List AB := [bG a1, mSI v2]
abbrev L57_0_d1 (a1 : GramD) (x2 : ByteArray) (v2 : List (ByteArray × Int)) : List AB := [bG a1, mSI (mput x2 (w6 ((mget 0 v2 x2) + 1)) v2)]
abbrev L57_0_c0 (x2 : ByteArray) (v2 : List (ByteArray × Int)) (a1 : GramD) : List (Nat × Hint) := [(12, .v (.ro [.val (.string x2)])), (16, .v (i6 (mget 0 v2 x2))), (7017, .r ud (L57_0_d1 a1 x2 v2))]
abbrev L57_0_c1 (x2 : ByteArray) (v2 : List (ByteArray × Int)) : List (Nat × Hint) := [(23, .d false), (28, .v (i6 (mget 0 (mput x2 (w6 ((mget 0 v2 x2) + 1)) v2) x2)))]
theorem L57_0_ok (a1 : GramD) (a2 : Int) (v1 : Int) (v2 : List (ByteArray × Int)) {r : E_L57_0 ⊕ (Int × (List (ByteArray × Int)))} (h : L57_0 a1 a2 v1 v2 = some r) : OkR (fun e => L57_0_x a1 a2 e (evH prg 2 [1, 3, 8, 9, 10] ir57_l0 (L57_0_s a1 a2 v1 v2))) (fun s => evH prg 2 [1, 3, 8, 9, 10] ir57_l0 (L57_0_s a1 a2 v1 v2) = evH prg 2 [1, 3, 8, 9, 10] ir57_l0 (L57_0_s a1 a2 s.1 s.2)) r := by
 unfold L57_0 at h
 refine bi h (fun h1 h => ?_) fun h1 h => ?_
 ·
  refine bn h fun x2 h2 h => ?_
  have q2 := ((lk_row key_str (es := v2) (k := x2) (z := 0) rfl rfl) : lkA (L57_0_d0 a1 v2) [2] .false .false [(.val (.int .i64 0))] .false (.mp 1) (vs x2) = some (i6 (mget 0 v2 x2)))
  have q3 := (⟨up_row key_str (es := v2) (k := x2) (v := (w6 ((mget 0 v2 x2) + 1))) rfl, rfl⟩ : upA (L57_0_d0 a1 v2) [2] .false (.mp 1) (vs x2) (i6 (w6 ((mget 0 v2 x2) + 1))) = some (L57_0_d1 a1 x2 v2) ∧ ud = ud)
  refine bi h (fun h3 h => ?_) fun h3 h => ?_
  ·
   rw [← sj h]
   exact xretY (n := 30) ([(11, .d true)] ++ ((L57_0_c0 x2 v2 a1) ++ [(19, .d true), (6000, .d true)])) (apc (cv h1) (apc (ig eStr 1 .i64 h2) (apc q2 (apc q3 (apc (cv h3) apn))))) (by kernel_rfl)
  ·
   refine bi h (fun h4 h => ?_) fun h4 h => ?_
   ·
    rw [← sj h]
    exact xretY (n := 30) ([(11, .d true)] ++ ((L57_0_c0 x2 v2 a1) ++ [(19, .d false), (23, .d true), (6000, .d true)])) (apc (cv h1) (apc (ig eStr 1 .i64 h2) (apc q2 (apc q3 (apc (cv h3) (apc (cv h4) apn)))))) (by kernel_rfl)
   ·
    have q6 := ((lk_row key_str (es := (mput x2 (w6 ((mget 0 v2 x2) + 1)) v2)) (k := x2) (z := 0) rfl rfl) : lkA (L57_0_d1 a1 x2 v2) [2] .false .false [(.val (.int .i64 0))] .false (.mp 1) (vs x2) = some (i6 (mget 0 (mput x2 (w6 ((mget 0 v2 x2) + 1)) v2) x2)))
    refine bi h (fun h5 h => ?_) fun h5 h => ?_
    ·
     rw [← sj h]
     exact xretY (n := 30) ([(11, .d true)] ++ ((L57_0_c0 x2 v2 a1) ++ ([(19, .d false)] ++ ((L57_0_c1 x2 v2) ++ [(29, .d true), (6000, .d true)])))) (apc (cv h1) (apc (ig eStr 1 .i64 h2) (apc q2 (apc q3 (apc (cv h3) (apc (cv h4) (apc q6 (apc (cv h5) apn)))))))) (by kernel_rfl)
    ·
     rw [← sj h]
     exact rnd (n := 30) ([(11, .d true)] ++ ((L57_0_c0 x2 v2 a1) ++ ([(19, .d false)] ++ ((L57_0_c1 x2 v2) ++ [(29, .d false), (6000, .d true)])))) (apc (cv h1) (apc (ig eStr 1 .i64 h2) (apc q2 (apc q3 (apc (cv h3) (apc (cv h4) (apc q6 (apc (cv h5) (apc ((okT_of rfl (abl_cons rfl (abl_cons (abl_map (fun _ => rfl) (fun _ => rfl)) rfl))) : okT 2 (L57_0_d1 a1 x2 v2) = true) apn))))))))) (by kernel_rfl)
 ·
  rw [← sj h]
  exact xbrk (n := 30) [(11, .d false), (6000, .d true)] (apc (cv h1) apn) (by kernel_rfl)
theorem L57_0_run (a1 : GramD) (a2 : Int) (s0 : Int × (List (ByteArray × Int))) (e : E_L57_0) (h : runL (fun s => L57_0 a1 a2 s.1 s.2) s0 = some e) : L57_0_x a1 a2 e (evH prg 2 [1, 3, 8, 9, 10] ir57_l0 (L57_0_s a1 a2 s0.1 s0.2)) := by
  have q := @loop_sound' (Int × (List (ByteArray × Int))) E_L57_0 (fun s => L57_0 a1 a2 s.1 s.2) (fun s => evH prg 2 [1, 3, 8, 9, 10] ir57_l0 (L57_0_s a1 a2 s.1 s.2)) (L57_0_x a1 a2) (fun s r h => L57_0_ok a1 a2 s.1 s.2 h) s0 e h
  exact q
noncomputable def F57 (a1 : GramD) : Option Bool :=
  ((runL (fun s => L57_0 a1 (a1.sorts.length : Int) s.1 s.2) (0, [])).bind fun r1 => match r1 with | .k0 => (some false) | .k1 x1_0 => (bif (decide ((a1.sorts.length : Int) ≥ 1)) then (bif (decide ((a1.sorts.length : Int) ≤ 1000)) then (bif (decide (a1.start ≥ 0)) then (some (decide (a1.start < (a1.sorts.length : Int)))) else (some false)) else (some false)) else (some false)))
def F57_v (a1 : GramD) (x0 : Bool) : AV := (vb x0)
abbrev F57_d0 (g1 : Nat → AV) (a1 : GramD) (x1_0 : List (ByteArray × Int)) : St := ⟨fr 55 g1 [(1, (.ptr 0 0)), (8, (.p (.lst 1 (a1.sorts.map eStr))))], [bG a1, mSI x1_0]⟩
abbrev F57_c0 (g1 : Nat → AV) (a1 : GramD) (x1_0 : List (ByteArray × Int)) : List (Nat × Hint) := [(2000, .l (.brk 0) (F57_d0 g1 a1 x1_0)), (34, .v (i6 (a1.sorts.length : Int)))]
theorem F57_ok (a1 : GramD) {r : Bool} (h : F57 a1 = some r) : PR1 prg 57 [(aG a1)] (F57_v a1 r) := by
 unfold F57 at h
 refine bn h fun r1 h1 h => ?_
 cases r1 with
 | k0 =>
  obtain ⟨g1, y1, e1⟩ := L57_0_run a1 (a1.sorts.length : Int) (0, []) _ h1
  rw [← sj h]
  exact fpr (n := 30) [(9, .v (i6 (a1.sorts.length : Int))), (2000, .l .ret ⟨fr 55 g1 [(2, (vb false))], y1⟩), (6000, .d true)] (apc (lg a1.sorts eStr 1) (apc ((okT_of rfl (abl_cons rfl (abl_cons rfl rfl))) : okT 2 [bG a1, .map []] = true) (apc (e1 : evH prg 2 [1, 3, 8, 9, 10] ir57_l0 (L57_0_s a1 (a1.sorts.length : Int) 0 ([])) = some (.ret, ⟨fr 55 g1 [(2, (vb false))], y1⟩)) apn))) rfl (by kernel_rfl)
 | k1 x1_0 =>
  obtain ⟨g1, e1⟩ := L57_0_run a1 (a1.sorts.length : Int) (0, []) _ h1
  have q1 := ((okT_of rfl (abl_cons rfl (abl_cons rfl rfl))) : okT 2 [bG a1, .map []] = true)
  have q2 := (e1 : evH prg 2 [1, 3, 8, 9, 10] ir57_l0 (L57_0_s a1 (a1.sorts.length : Int) 0 ([])) = some ((.brk 0), (F57_d0 g1 a1 x1_0)))
  refine bi h (fun h2 h => ?_) fun h2 h => ?_
  ·
   refine bi h (fun h3 h => ?_) fun h3 h => ?_
   ·
    refine bi h (fun h4 h => ?_) fun h4 h => ?_
    ·
     rw [← sj h]
     exact fpr (n := 30) ([(9, .v (i6 (a1.sorts.length : Int)))] ++ ((F57_c0 g1 a1 x1_0) ++ [(35, .d true), (39, .v (i6 (a1.sorts.length : Int))), (40, .d true), (45, .d true), (52, .v (i6 (a1.sorts.length : Int))), (6000, .d true)])) (apc (lg a1.sorts eStr 1) (apc q1 (apc q2 (apc (lg a1.sorts eStr 1) (apc (cv h2) (apc (lg a1.sorts eStr 1) (apc (cv h3) (apc (cv h4) (apc (lg a1.sorts eStr 1) apn))))))))) rfl (by kernel_rfl)
    ·
     rw [← sj h]
     exact fpr (n := 30) ([(9, .v (i6 (a1.sorts.length : Int)))] ++ ((F57_c0 g1 a1 x1_0) ++ [(35, .d true), (39, .v (i6 (a1.sorts.length : Int))), (40, .d true), (45, .d false), (6000, .d true)])) (apc (lg a1.sorts eStr 1) (apc q1 (apc q2 (apc (lg a1.sorts eStr 1) (apc (cv h2) (apc (lg a1.sorts eStr 1) (apc (cv h3) (apc (cv h4) apn)))))))) rfl (by kernel_rfl)
   ·
    rw [← sj h]
    exact fpr (n := 30) ([(9, .v (i6 (a1.sorts.length : Int)))] ++ ((F57_c0 g1 a1 x1_0) ++ [(35, .d true), (39, .v (i6 (a1.sorts.length : Int))), (40, .d false), (6000, .d true)])) (apc (lg a1.sorts eStr 1) (apc q1 (apc q2 (apc (lg a1.sorts eStr 1) (apc (cv h2) (apc (lg a1.sorts eStr 1) (apc (cv h3) apn))))))) rfl (by kernel_rfl)
  ·
   rw [← sj h]
   exact fpr (n := 30) ([(9, .v (i6 (a1.sorts.length : Int)))] ++ ((F57_c0 g1 a1 x1_0) ++ [(35, .d false), (6000, .d true)])) (apc (lg a1.sorts eStr 1) (apc q1 (apc q2 (apc (lg a1.sorts eStr 1) (apc (cv h2) apn))))) rfl (by kernel_rfl)
noncomputable def F73 (a1 : ProdD) (a2 : GramD) : Option Bool :=
  (bif (decide (a1.left ≥ 0)) then (some (decide (a1.left < (a2.sorts.length : Int)))) else (some false))
def F73_v (a1 : ProdD) (a2 : GramD) (x0 : Bool) : AV := (vb x0)
theorem F73_ok (a1 : ProdD) (a2 : GramD) {r : Bool} (h : F73 a1 a2 = some r) : PR1 prg 73 [(i6 a1.left), (.ro (eGram a2))] (F73_v a1 a2 r) := by
 unfold F73 at h
 refine bi h (fun h1 h => ?_) fun h1 h => ?_
 ·
  rw [← sj h]
  exact fpr (n := 30) [(5, .d true), (10, .v (i6 (a2.sorts.length : Int)))] (apc (cv h1) (apc (lg a2.sorts eStr 1) apn)) rfl (by kernel_rfl)
 ·
  rw [← sj h]
  exact fpr (n := 30) [(5, .d false)] (apc (cv h1) apn) rfl (by kernel_rfl)
noncomputable def F73_2 (a1 : SymD) (a2 : GramD) : Option Bool :=
  (bif (decide (a1.sort ≥ 0)) then (some (decide (a1.sort < (a2.sorts.length : Int)))) else (some false))
def F73_2_v (a1 : SymD) (a2 : GramD) (x0 : Bool) : AV := (vb x0)
theorem F73_2_ok (a1 : SymD) (a2 : GramD) {r : Bool} (h : F73_2 a1 a2 = some r) : PR1 prg 73 [(i6 a1.sort), (.ro (eGram a2))] (F73_2_v a1 a2 r) := by
 unfold F73_2 at h
 refine bi h (fun h1 h => ?_) fun h1 h => ?_
 ·
  rw [← sj h]
  exact fpr (n := 30) [(5, .d true), (10, .v (i6 (a2.sorts.length : Int)))] (apc (cv h1) (apc (lg a2.sorts eStr 1) apn)) rfl (by kernel_rfl)
 ·
  rw [← sj h]
  exact fpr (n := 30) [(5, .d false)] (apc (cv h1) apn) rfl (by kernel_rfl)
inductive E_L58_0 where
  | k0
  | k1
noncomputable def L58_0 (a1 : GramD) (a4 : ProdD) (a5 : Int) (v1 : Int) : Option (E_L58_0 ⊕ (Int)) :=
  (bif (decide (v1 < a5)) then ((getI a4.right v1).bind fun x2 => (bif (x2.kind == 0) then (bif ((x2.a == 0) && ((x2.b == 0) && ((x2.c == 0) && ((x2.d == 0) && true)))) then (some (.inl (.k0))) else (bif (x2.sort != 0) then (some (.inl (.k0))) else (some (.inr ((IntKind.wrap .i64 (v1 + 1))))))) else (bif (x2.kind == 1) then (bif (!((x2.a == 0) && ((x2.b == 0) && ((x2.c == 0) && ((x2.d == 0) && true))))) then (some (.inl (.k0))) else ((F73_2 x2 a1).bind fun x6 => (bif x6 then (bif (a4.role == 11) then (some (.inl (.k0))) else (some (.inr ((IntKind.wrap .i64 (v1 + 1)))))) else (some (.inl (.k0)))))) else (some (.inl (.k0)))))) else (some (.inl (.k1))))
def L58_0_s (a1 : GramD) (a2 : Int) (a3 : Int) (a4 : ProdD) (a5 : Int) (v1 : Int) : St := ⟨fr 110 ug [(1, (.ptr 0 0)), (3, (.fn 73 [(.ptr 0 0)])), (5, (.ptr 2 0)), (10, (.p (.lst 7 (a1.prods.map eProd)))), (11, (i6 a2)), (12, (i6 a3)), (67, (.p (.lst 6 (a4.right.map eSym)))), (68, (i6 a5)), (69, (i6 v1))], [bG a1, .row 48 6 0 (ra eSym []), bP a4]⟩
def L58_0_x (a1 : GramD) (a2 : Int) (a3 : Int) (a4 : ProdD) (a5 : Int) (e : E_L58_0) (r : Option (Out × St)) : Prop := match e with | .k0 => ∃ g y, r = some (.ret, ⟨fr 110 g [(2, (vb false))], y⟩) | .k1 => ∃ g, r = some ((.brk 2), ⟨fr 110 g [(1, (.ptr 0 0)), (3, (.fn 73 [(.ptr 0 0)])), (5, (.ptr 2 0)), (10, (.p (.lst 7 (a1.prods.map eProd)))), (11, (i6 a2)), (12, (i6 a3)), (67, (.p (.lst 6 (a4.right.map eSym))))], [bG a1, .row 48 6 0 (ra eSym []), bP a4]⟩)
abbrev L58_0_d0 (a1 : GramD) (a4 : ProdD) (x2 : SymD) : List AB := [bG a1, .row 48 6 0 (ra eSym []), bP a4, .cells 48 ((eSym x2).map .p)]
theorem L58_0_ok (a1 : GramD) (a2 : Int) (a3 : Int) (a4 : ProdD) (a5 : Int) (v1 : Int) {r : E_L58_0 ⊕ (Int)} (h : L58_0 a1 a4 a5 v1 = some r) : OkR (fun e => L58_0_x a1 a2 a3 a4 a5 e (evH prg 3 [1, 3, 5, 10, 11, 12, 67, 68, 69] ir58_l0 (L58_0_s a1 a2 a3 a4 a5 v1))) (fun s => evH prg 3 [1, 3, 5, 10, 11, 12, 67, 68, 69] ir58_l0 (L58_0_s a1 a2 a3 a4 a5 v1) = evH prg 3 [1, 3, 5, 10, 11, 12, 67, 68, 69] ir58_l0 (L58_0_s a1 a2 a3 a4 a5 s)) r := by
 unfold L58_0 at h
 refine bi h (fun h1 h => ?_) fun h1 h => ?_
 ·
  refine bn h fun x2 h2 h => ?_
  refine bi h (fun h3 h => ?_) fun h3 h => ?_
  ·
   refine bi h (fun h4 h => ?_) fun h4 h => ?_
   ·
    rw [← sj h]
    exact xretY (n := 30) [(70, .d true), (71, .v (.ro (eSym x2))), (76, .d true), (80, .d true), (6000, .d true)] (apc (cv h1) (apc (ig eSym 6 .i64 h2) (apc (cv h3) (apc (cv h4) apn)))) (by kernel_rfl)
   ·
    refine bi h (fun h5 h => ?_) fun h5 h => ?_
    ·
     rw [← sj h]
     exact xretY (n := 30) [(70, .d true), (71, .v (.ro (eSym x2))), (76, .d true), (80, .d false), (84, .d true), (6000, .d true)] (apc (cv h1) (apc (ig eSym 6 .i64 h2) (apc (cv h3) (apc (cv h4) (apc (cv h5) apn))))) (by kernel_rfl)
    ·
     rw [← sj h]
     exact rnd (n := 30) [(70, .d true), (71, .v (.ro (eSym x2))), (76, .d true), (80, .d false), (84, .d false), (6000, .d true)] (apc (cv h1) (apc (ig eSym 6 .i64 h2) (apc (cv h3) (apc (cv h4) (apc (cv h5) (apc ((okT_of rfl (abl_cons rfl (abl_cons abl_row (abl_cons rfl rfl)))) : okT 3 (L58_0_d0 a1 a4 x2) = true) apn)))))) (by kernel_rfl)
  ·
   refine bi h (fun h4 h => ?_) fun h4 h => ?_
   ·
    refine bi h (fun h5 h => ?_) fun h5 h => ?_
    ·
     rw [← sj h]
     exact xretY (n := 30) [(70, .d true), (71, .v (.ro (eSym x2))), (76, .d false), (87, .d true), (91, .d true), (6000, .d true)] (apc (cv h1) (apc (ig eSym 6 .i64 h2) (apc (cv h3) (apc (cv h4) (apc (cv h5) apn))))) (by kernel_rfl)
    ·
     refine bn h fun x6 h6 h => ?_
     refine bi h (fun h7 h => ?_) fun h7 h => ?_
     ·
      have q5 := ((((F73_2_ok x2 a1 h6).own rfl (purAs_cons rfl (purAs_cons (purA_ptr rfl (mapO_con rfl (mapO_con rfl (mapO_con rfl (mapO_con rfl (mapO_con rfl rfl)))))) purAs_nil)) rfl).trans (congrArg (fun z => some (vb z)) h7)) : CP prg 73 [(i6 x2.sort), (.ptr 0 0)] (L58_0_d0 a1 a4 x2) = some (vb true))
      refine bi h (fun h8 h => ?_) fun h8 h => ?_
      ·
       rw [← sj h]
       exact xretY (n := 30) [(70, .d true), (71, .v (.ro (eSym x2))), (76, .d false), (87, .d true), (91, .d false), (96, .v (vb true)), (102, .d true), (6000, .d true)] (apc (cv h1) (apc (ig eSym 6 .i64 h2) (apc (cv h3) (apc (cv h4) (apc (cv h5) (apc q5 (apc (cv h8) apn))))))) (by kernel_rfl)
      ·
       rw [← sj h]
       exact rnd (n := 30) [(70, .d true), (71, .v (.ro (eSym x2))), (76, .d false), (87, .d true), (91, .d false), (96, .v (vb true)), (102, .d false), (6000, .d true)] (apc (cv h1) (apc (ig eSym 6 .i64 h2) (apc (cv h3) (apc (cv h4) (apc (cv h5) (apc q5 (apc (cv h8) (apc ((okT_of rfl (abl_cons rfl (abl_cons abl_row (abl_cons rfl rfl)))) : okT 3 (L58_0_d0 a1 a4 x2) = true) apn)))))))) (by kernel_rfl)
     ·
      rw [← sj h]
      exact xretY (n := 30) [(70, .d true), (71, .v (.ro (eSym x2))), (76, .d false), (87, .d true), (91, .d false), (96, .v (vb false)), (6000, .d true)] (apc (cv h1) (apc (ig eSym 6 .i64 h2) (apc (cv h3) (apc (cv h4) (apc (cv h5) (apc ((((F73_2_ok x2 a1 h6).own rfl (purAs_cons rfl (purAs_cons (purA_ptr rfl (mapO_con rfl (mapO_con rfl (mapO_con rfl (mapO_con rfl (mapO_con rfl rfl)))))) purAs_nil)) rfl).trans (congrArg (fun z => some (vb z)) h7)) : CP prg 73 [(i6 x2.sort), (.ptr 0 0)] (L58_0_d0 a1 a4 x2) = some (vb false)) apn)))))) (by kernel_rfl)
   ·
    rw [← sj h]
    exact xretY (n := 30) [(70, .d true), (71, .v (.ro (eSym x2))), (76, .d false), (87, .d false), (6000, .d true)] (apc (cv h1) (apc (ig eSym 6 .i64 h2) (apc (cv h3) (apc (cv h4) apn)))) (by kernel_rfl)
 ·
  rw [← sj h]
  exact xbrk (n := 30) [(70, .d false), (6000, .d true)] (apc (cv h1) apn) (by kernel_rfl)
theorem L58_0_run (a1 : GramD) (a2 : Int) (a3 : Int) (a4 : ProdD) (a5 : Int) (s0 : Int) (e : E_L58_0) (h : runL (fun s => L58_0 a1 a4 a5 s) s0 = some e) : L58_0_x a1 a2 a3 a4 a5 e (evH prg 3 [1, 3, 5, 10, 11, 12, 67, 68, 69] ir58_l0 (L58_0_s a1 a2 a3 a4 a5 s0)) := by
  have q := @loop_sound' (Int) E_L58_0 (fun s => L58_0 a1 a4 a5 s) (fun s => evH prg 3 [1, 3, 5, 10, 11, 12, 67, 68, 69] ir58_l0 (L58_0_s a1 a2 a3 a4 a5 s)) (L58_0_x a1 a2 a3 a4 a5) (fun s r h => L58_0_ok a1 a2 a3 a4 a5 s h) s0 e h
  exact q
inductive E_L58_1 where
  | k0
  | k1
noncomputable def L58_1 (a1 : GramD) (a2 : Int) (v1 : Int) : Option (E_L58_1 ⊕ (Int)) :=
  (bif (decide (v1 < a2)) then ((getI a1.prods v1).bind fun x2 => ((F73 x2 a1).bind fun x3 => (bif x3 then (bif (decide ((x2.right.length : Int) > 30)) then (some (.inl (.k0))) else (bif (decide (x2.role < 0)) then (some (.inl (.k0))) else (bif (decide (x2.role > 11)) then (some (.inl (.k0))) else (bif (decide (x2.frm < (-1))) then (some (.inl (.k0))) else (bif (decide ((x2.cons.size : Int) > 64)) then (some (.inl (.k0))) else (bif (!(x2.cons.toList == (⟨([] : List UInt8).toArray⟩ : ByteArray).toList)) then (bif (x2.role != 0) then (some (.inl (.k0))) else (bif x2.prefer then (bif x2.avoid then (some (.inl (.k0))) else ((runL (fun s => L58_0 a1 x2 (x2.right.length : Int) s) 0).bind fun r14 => match r14 with | .k0 => (some (.inl (.k0))) | .k1 => (some (.inr ((IntKind.wrap .i64 (v1 + 1))))))) else ((runL (fun s => L58_0 a1 x2 (x2.right.length : Int) s) 0).bind fun r13 => match r13 with | .k0 => (some (.inl (.k0))) | .k1 => (some (.inr ((IntKind.wrap .i64 (v1 + 1)))))))) else (bif x2.prefer then (bif x2.avoid then (some (.inl (.k0))) else ((runL (fun s => L58_0 a1 x2 (x2.right.length : Int) s) 0).bind fun r13 => match r13 with | .k0 => (some (.inl (.k0))) | .k1 => (some (.inr ((IntKind.wrap .i64 (v1 + 1))))))) else ((runL (fun s => L58_0 a1 x2 (x2.right.length : Int) s) 0).bind fun r12 => match r12 with | .k0 => (some (.inl (.k0))) | .k1 => (some (.inr ((IntKind.wrap .i64 (v1 + 1))))))))))))) else (some (.inl (.k0)))))) else (some (.inl (.k1))))
def L58_1_s (a1 : GramD) (a2 : Int) (v1 : Int) : St := ⟨fr 110 ug [(1, (.ptr 0 0)), (3, (.fn 73 [(.ptr 0 0)])), (10, (.p (.lst 7 (a1.prods.map eProd)))), (11, (i6 a2)), (12, (i6 v1))], [bG a1]⟩
def L58_1_x (a1 : GramD) (a2 : Int) (e : E_L58_1) (r : Option (Out × St)) : Prop := match e with | .k0 => ∃ g y, r = some (.ret, ⟨fr 110 g [(2, (vb false))], y⟩) | .k1 => ∃ g, r = some ((.brk 0), ⟨fr 110 g [(1, (.ptr 0 0)), (10, (.p (.lst 7 (a1.prods.map eProd))))], [bG a1]⟩)
abbrev L58_1_d0 (a1 : GramD) (x2 : ProdD) : List AB := [bG a1, .row 48 6 0 (ra eSym []), bP x2]
abbrev L58_1_d1 (g14 : Nat → AV) (a1 : GramD) (a2 : Int) (v1 : Int) (x2 : ProdD) : St := ⟨fr 110 g14 [(1, (.ptr 0 0)), (3, (.fn 73 [(.ptr 0 0)])), (5, (.ptr 2 0)), (10, (.p (.lst 7 (a1.prods.map eProd)))), (11, (i6 a2)), (12, (i6 v1)), (67, (.p (.lst 6 (x2.right.map eSym))))], [bG a1, .row 48 6 0 (ra eSym []), bP x2]⟩
abbrev L58_1_d2 (g13 : Nat → AV) (a1 : GramD) (a2 : Int) (v1 : Int) (x2 : ProdD) : St := ⟨fr 110 g13 [(1, (.ptr 0 0)), (3, (.fn 73 [(.ptr 0 0)])), (5, (.ptr 2 0)), (10, (.p (.lst 7 (a1.prods.map eProd)))), (11, (i6 a2)), (12, (i6 v1)), (67, (.p (.lst 6 (x2.right.map eSym))))], [bG a1, .row 48 6 0 (ra eSym []), bP x2]⟩
abbrev L58_1_d3 (g12 : Nat → AV) (a1 : GramD) (a2 : Int) (v1 : Int) (x2 : ProdD) : St := ⟨fr 110 g12 [(1, (.ptr 0 0)), (3, (.fn 73 [(.ptr 0 0)])), (5, (.ptr 2 0)), (10, (.p (.lst 7 (a1.prods.map eProd)))), (11, (i6 a2)), (12, (i6 v1)), (67, (.p (.lst 6 (x2.right.map eSym))))], [bG a1, .row 48 6 0 (ra eSym []), bP x2]⟩
theorem L58_1_ok (a1 : GramD) (a2 : Int) (v1 : Int) {r : E_L58_1 ⊕ (Int)} (h : L58_1 a1 a2 v1 = some r) : OkR (fun e => L58_1_x a1 a2 e (evH prg 1 [1, 3, 10, 11, 12] ir58_l1 (L58_1_s a1 a2 v1))) (fun s => evH prg 1 [1, 3, 10, 11, 12] ir58_l1 (L58_1_s a1 a2 v1) = evH prg 1 [1, 3, 10, 11, 12] ir58_l1 (L58_1_s a1 a2 s)) r := by
 unfold L58_1 at h
 refine bi h (fun h1 h => ?_) fun h1 h => ?_
 ·
  refine bn h fun x2 h2 h => ?_
  refine bn h fun x3 h3 h => ?_
  refine bi h (fun h4 h => ?_) fun h4 h => ?_
  ·
   have q2 := ((((F73_ok x2 a1 h3).own rfl (purAs_cons rfl (purAs_cons (purA_ptr rfl (mapO_con rfl (mapO_con rfl (mapO_con rfl (mapO_con rfl (mapO_con rfl rfl)))))) purAs_nil)) rfl).trans (congrArg (fun z => some (vb z)) h4)) : CP prg 73 [(i6 x2.left), (.ptr 0 0)] (L58_1_d0 a1 x2) = some (vb true))
   refine bi h (fun h5 h => ?_) fun h5 h => ?_
   ·
    rw [← sj h]
    exact xretY (n := 30) [(13, .d true), (14, .v (.ro (eProd x2))), (19, .v (vb true)), (24, .v (i6 (x2.right.length : Int))), (25, .d true), (6000, .d true)] (apc (cv h1) (apc (ig eProd 7 .i64 h2) (apc q2 (apc (lg x2.right eSym 6) (apc (cv h5) apn))))) (by kernel_rfl)
   ·
    refine bi h (fun h6 h => ?_) fun h6 h => ?_
    ·
     rw [← sj h]
     exact xretY (n := 30) [(13, .d true), (14, .v (.ro (eProd x2))), (19, .v (vb true)), (24, .v (i6 (x2.right.length : Int))), (25, .d false), (30, .d true), (6000, .d true)] (apc (cv h1) (apc (ig eProd 7 .i64 h2) (apc q2 (apc (lg x2.right eSym 6) (apc (cv h5) (apc (cv h6) apn)))))) (by kernel_rfl)
    ·
     refine bi h (fun h7 h => ?_) fun h7 h => ?_
     ·
      rw [← sj h]
      exact xretY (n := 30) [(13, .d true), (14, .v (.ro (eProd x2))), (19, .v (vb true)), (24, .v (i6 (x2.right.length : Int))), (25, .d false), (30, .d false), (35, .d true), (6000, .d true)] (apc (cv h1) (apc (ig eProd 7 .i64 h2) (apc q2 (apc (lg x2.right eSym 6) (apc (cv h5) (apc (cv h6) (apc (cv h7) apn))))))) (by kernel_rfl)
     ·
      refine bi h (fun h8 h => ?_) fun h8 h => ?_
      ·
       rw [← sj h]
       exact xretY (n := 30) [(13, .d true), (14, .v (.ro (eProd x2))), (19, .v (vb true)), (24, .v (i6 (x2.right.length : Int))), (25, .d false), (30, .d false), (35, .d false), (40, .d true), (6000, .d true)] (apc (cv h1) (apc (ig eProd 7 .i64 h2) (apc q2 (apc (lg x2.right eSym 6) (apc (cv h5) (apc (cv h6) (apc (cv h7) (apc (cv h8) apn)))))))) (by kernel_rfl)
      ·
       refine bi h (fun h9 h => ?_) fun h9 h => ?_
       ·
        rw [← sj h]
        exact xretY (n := 30) [(13, .d true), (14, .v (.ro (eProd x2))), (19, .v (vb true)), (24, .v (i6 (x2.right.length : Int))), (25, .d false), (30, .d false), (35, .d false), (40, .d false), (46, .d true), (6000, .d true)] (apc (cv h1) (apc (ig eProd 7 .i64 h2) (apc q2 (apc (lg x2.right eSym 6) (apc (cv h5) (apc (cv h6) (apc (cv h7) (apc (cv h8) (apc (cv h9) apn))))))))) (by kernel_rfl)
       ·
        refine bi h (fun h10 h => ?_) fun h10 h => ?_
        ·
         refine bi h (fun h11 h => ?_) fun h11 h => ?_
         ·
          rw [← sj h]
          exact xretY (n := 30) [(13, .d true), (14, .v (.ro (eProd x2))), (19, .v (vb true)), (24, .v (i6 (x2.right.length : Int))), (25, .d false), (30, .d false), (35, .d false), (40, .d false), (46, .d false), (51, .d true), (55, .d true), (6000, .d true)] (apc (cv h1) (apc (ig eProd 7 .i64 h2) (apc q2 (apc (lg x2.right eSym 6) (apc (cv h5) (apc (cv h6) (apc (cv h7) (apc (cv h8) (apc (cv h9) (apc (cv h10) (apc (cv h11) apn))))))))))) (by kernel_rfl)
         ·
          refine bi h (fun h12 h => ?_) fun h12 h => ?_
          ·
           refine bi h (fun h13 h => ?_) fun h13 h => ?_
           ·
            rw [← sj h]
            exact xretY (n := 30) [(13, .d true), (14, .v (.ro (eProd x2))), (19, .v (vb true)), (24, .v (i6 (x2.right.length : Int))), (25, .d false), (30, .d false), (35, .d false), (40, .d false), (46, .d false), (51, .d true), (55, .d false), (60, .d true), (63, .d true), (6000, .d true)] (apc (cv h1) (apc (ig eProd 7 .i64 h2) (apc q2 (apc (lg x2.right eSym 6) (apc (cv h5) (apc (cv h6) (apc (cv h7) (apc (cv h8) (apc (cv h9) (apc (cv h10) (apc (cv h11) (apc (cv h12) (apc (cv h13) apn))))))))))))) (by kernel_rfl)
           ·
            refine bn h fun r14 h14 h => ?_
            cases r14 with
            | k0 =>
             obtain ⟨g14, y14, e14⟩ := L58_0_run a1 a2 v1 x2 (x2.right.length : Int) 0 _ h14
             rw [← sj h]
             exact xretY (n := 30) [(13, .d true), (14, .v (.ro (eProd x2))), (19, .v (vb true)), (24, .v (i6 (x2.right.length : Int))), (25, .d false), (30, .d false), (35, .d false), (40, .d false), (46, .d false), (51, .d true), (55, .d false), (60, .d true), (63, .d false), (68, .v (i6 (x2.right.length : Int))), (2002, .l .ret ⟨fr 110 g14 [(2, (vb false))], y14⟩), (6000, .d true)] (apc (cv h1) (apc (ig eProd 7 .i64 h2) (apc q2 (apc (lg x2.right eSym 6) (apc (cv h5) (apc (cv h6) (apc (cv h7) (apc (cv h8) (apc (cv h9) (apc (cv h10) (apc (cv h11) (apc (cv h12) (apc (cv h13) (apc (lg x2.right eSym 6) (apc ((okT_of rfl (abl_cons rfl (abl_cons abl_row (abl_cons rfl rfl)))) : okT 3 (L58_1_d0 a1 x2) = true) (apc (e14 : evH prg 3 [1, 3, 5, 10, 11, 12, 67, 68, 69] ir58_l0 (L58_0_s a1 a2 v1 x2 (x2.right.length : Int) 0) = some (.ret, ⟨fr 110 g14 [(2, (vb false))], y14⟩)) apn)))))))))))))))) (by kernel_rfl)
            | k1 =>
             obtain ⟨g14, e14⟩ := L58_0_run a1 a2 v1 x2 (x2.right.length : Int) 0 _ h14
             rw [← sj h]
             exact rnd (n := 30) [(13, .d true), (14, .v (.ro (eProd x2))), (19, .v (vb true)), (24, .v (i6 (x2.right.length : Int))), (25, .d false), (30, .d false), (35, .d false), (40, .d false), (46, .d false), (51, .d true), (55, .d false), (60, .d true), (63, .d false), (68, .v (i6 (x2.right.length : Int))), (2002, .l (.brk 2) (L58_1_d1 g14 a1 a2 v1 x2)), (6000, .d true)] (apc (cv h1) (apc (ig eProd 7 .i64 h2) (apc q2 (apc (lg x2.right eSym 6) (apc (cv h5) (apc (cv h6) (apc (cv h7) (apc (cv h8) (apc (cv h9) (apc (cv h10) (apc (cv h11) (apc (cv h12) (apc (cv h13) (apc (lg x2.right eSym 6) (apc ((okT_of rfl (abl_cons rfl (abl_cons abl_row (abl_cons rfl rfl)))) : okT 3 (L58_1_d0 a1 x2) = true) (apc (e14 : evH prg 3 [1, 3, 5, 10, 11, 12, 67, 68, 69] ir58_l0 (L58_0_s a1 a2 v1 x2 (x2.right.length : Int) 0) = some ((.brk 2), (L58_1_d1 g14 a1 a2 v1 x2))) (apc ((okT_of rfl (abl_cons rfl rfl)) : okT 1 (L58_1_d0 a1 x2) = true) apn))))))))))))))))) (by kernel_rfl)
          ·
           refine bn h fun r13 h13 h => ?_
           cases r13 with
           | k0 =>
            obtain ⟨g13, y13, e13⟩ := L58_0_run a1 a2 v1 x2 (x2.right.length : Int) 0 _ h13
            rw [← sj h]
            exact xretY (n := 30) [(13, .d true), (14, .v (.ro (eProd x2))), (19, .v (vb true)), (24, .v (i6 (x2.right.length : Int))), (25, .d false), (30, .d false), (35, .d false), (40, .d false), (46, .d false), (51, .d true), (55, .d false), (60, .d false), (68, .v (i6 (x2.right.length : Int))), (2002, .l .ret ⟨fr 110 g13 [(2, (vb false))], y13⟩), (6000, .d true)] (apc (cv h1) (apc (ig eProd 7 .i64 h2) (apc q2 (apc (lg x2.right eSym 6) (apc (cv h5) (apc (cv h6) (apc (cv h7) (apc (cv h8) (apc (cv h9) (apc (cv h10) (apc (cv h11) (apc (cv h12) (apc (lg x2.right eSym 6) (apc ((okT_of rfl (abl_cons rfl (abl_cons abl_row (abl_cons rfl rfl)))) : okT 3 (L58_1_d0 a1 x2) = true) (apc (e13 : evH prg 3 [1, 3, 5, 10, 11, 12, 67, 68, 69] ir58_l0 (L58_0_s a1 a2 v1 x2 (x2.right.length : Int) 0) = some (.ret, ⟨fr 110 g13 [(2, (vb false))], y13⟩)) apn))))))))))))))) (by kernel_rfl)
           | k1 =>
            obtain ⟨g13, e13⟩ := L58_0_run a1 a2 v1 x2 (x2.right.length : Int) 0 _ h13
            rw [← sj h]
            exact rnd (n := 30) [(13, .d true), (14, .v (.ro (eProd x2))), (19, .v (vb true)), (24, .v (i6 (x2.right.length : Int))), (25, .d false), (30, .d false), (35, .d false), (40, .d false), (46, .d false), (51, .d true), (55, .d false), (60, .d false), (68, .v (i6 (x2.right.length : Int))), (2002, .l (.brk 2) (L58_1_d2 g13 a1 a2 v1 x2)), (6000, .d true)] (apc (cv h1) (apc (ig eProd 7 .i64 h2) (apc q2 (apc (lg x2.right eSym 6) (apc (cv h5) (apc (cv h6) (apc (cv h7) (apc (cv h8) (apc (cv h9) (apc (cv h10) (apc (cv h11) (apc (cv h12) (apc (lg x2.right eSym 6) (apc ((okT_of rfl (abl_cons rfl (abl_cons abl_row (abl_cons rfl rfl)))) : okT 3 (L58_1_d0 a1 x2) = true) (apc (e13 : evH prg 3 [1, 3, 5, 10, 11, 12, 67, 68, 69] ir58_l0 (L58_0_s a1 a2 v1 x2 (x2.right.length : Int) 0) = some ((.brk 2), (L58_1_d2 g13 a1 a2 v1 x2))) (apc ((okT_of rfl (abl_cons rfl rfl)) : okT 1 (L58_1_d0 a1 x2) = true) apn)))))))))))))))) (by kernel_rfl)
        ·
         refine bi h (fun h11 h => ?_) fun h11 h => ?_
         ·
          refine bi h (fun h12 h => ?_) fun h12 h => ?_
          ·
           rw [← sj h]
           exact xretY (n := 30) [(13, .d true), (14, .v (.ro (eProd x2))), (19, .v (vb true)), (24, .v (i6 (x2.right.length : Int))), (25, .d false), (30, .d false), (35, .d false), (40, .d false), (46, .d false), (51, .d false), (60, .d true), (63, .d true), (6000, .d true)] (apc (cv h1) (apc (ig eProd 7 .i64 h2) (apc q2 (apc (lg x2.right eSym 6) (apc (cv h5) (apc (cv h6) (apc (cv h7) (apc (cv h8) (apc (cv h9) (apc (cv h10) (apc (cv h11) (apc (cv h12) apn)))))))))))) (by kernel_rfl)
          ·
           refine bn h fun r13 h13 h => ?_
           cases r13 with
           | k0 =>
            obtain ⟨g13, y13, e13⟩ := L58_0_run a1 a2 v1 x2 (x2.right.length : Int) 0 _ h13
            rw [← sj h]
            exact xretY (n := 30) [(13, .d true), (14, .v (.ro (eProd x2))), (19, .v (vb true)), (24, .v (i6 (x2.right.length : Int))), (25, .d false), (30, .d false), (35, .d false), (40, .d false), (46, .d false), (51, .d false), (60, .d true), (63, .d false), (68, .v (i6 (x2.right.length : Int))), (2002, .l .ret ⟨fr 110 g13 [(2, (vb false))], y13⟩), (6000, .d true)] (apc (cv h1) (apc (ig eProd 7 .i64 h2) (apc q2 (apc (lg x2.right eSym 6) (apc (cv h5) (apc (cv h6) (apc (cv h7) (apc (cv h8) (apc (cv h9) (apc (cv h10) (apc (cv h11) (apc (cv h12) (apc (lg x2.right eSym 6) (apc ((okT_of rfl (abl_cons rfl (abl_cons abl_row (abl_cons rfl rfl)))) : okT 3 (L58_1_d0 a1 x2) = true) (apc (e13 : evH prg 3 [1, 3, 5, 10, 11, 12, 67, 68, 69] ir58_l0 (L58_0_s a1 a2 v1 x2 (x2.right.length : Int) 0) = some (.ret, ⟨fr 110 g13 [(2, (vb false))], y13⟩)) apn))))))))))))))) (by kernel_rfl)
           | k1 =>
            obtain ⟨g13, e13⟩ := L58_0_run a1 a2 v1 x2 (x2.right.length : Int) 0 _ h13
            rw [← sj h]
            exact rnd (n := 30) [(13, .d true), (14, .v (.ro (eProd x2))), (19, .v (vb true)), (24, .v (i6 (x2.right.length : Int))), (25, .d false), (30, .d false), (35, .d false), (40, .d false), (46, .d false), (51, .d false), (60, .d true), (63, .d false), (68, .v (i6 (x2.right.length : Int))), (2002, .l (.brk 2) (L58_1_d2 g13 a1 a2 v1 x2)), (6000, .d true)] (apc (cv h1) (apc (ig eProd 7 .i64 h2) (apc q2 (apc (lg x2.right eSym 6) (apc (cv h5) (apc (cv h6) (apc (cv h7) (apc (cv h8) (apc (cv h9) (apc (cv h10) (apc (cv h11) (apc (cv h12) (apc (lg x2.right eSym 6) (apc ((okT_of rfl (abl_cons rfl (abl_cons abl_row (abl_cons rfl rfl)))) : okT 3 (L58_1_d0 a1 x2) = true) (apc (e13 : evH prg 3 [1, 3, 5, 10, 11, 12, 67, 68, 69] ir58_l0 (L58_0_s a1 a2 v1 x2 (x2.right.length : Int) 0) = some ((.brk 2), (L58_1_d2 g13 a1 a2 v1 x2))) (apc ((okT_of rfl (abl_cons rfl rfl)) : okT 1 (L58_1_d0 a1 x2) = true) apn)))))))))))))))) (by kernel_rfl)
         ·
          refine bn h fun r12 h12 h => ?_
          cases r12 with
          | k0 =>
           obtain ⟨g12, y12, e12⟩ := L58_0_run a1 a2 v1 x2 (x2.right.length : Int) 0 _ h12
           rw [← sj h]
           exact xretY (n := 30) [(13, .d true), (14, .v (.ro (eProd x2))), (19, .v (vb true)), (24, .v (i6 (x2.right.length : Int))), (25, .d false), (30, .d false), (35, .d false), (40, .d false), (46, .d false), (51, .d false), (60, .d false), (68, .v (i6 (x2.right.length : Int))), (2002, .l .ret ⟨fr 110 g12 [(2, (vb false))], y12⟩), (6000, .d true)] (apc (cv h1) (apc (ig eProd 7 .i64 h2) (apc q2 (apc (lg x2.right eSym 6) (apc (cv h5) (apc (cv h6) (apc (cv h7) (apc (cv h8) (apc (cv h9) (apc (cv h10) (apc (cv h11) (apc (lg x2.right eSym 6) (apc ((okT_of rfl (abl_cons rfl (abl_cons abl_row (abl_cons rfl rfl)))) : okT 3 (L58_1_d0 a1 x2) = true) (apc (e12 : evH prg 3 [1, 3, 5, 10, 11, 12, 67, 68, 69] ir58_l0 (L58_0_s a1 a2 v1 x2 (x2.right.length : Int) 0) = some (.ret, ⟨fr 110 g12 [(2, (vb false))], y12⟩)) apn)))))))))))))) (by kernel_rfl)
          | k1 =>
           obtain ⟨g12, e12⟩ := L58_0_run a1 a2 v1 x2 (x2.right.length : Int) 0 _ h12
           rw [← sj h]
           exact rnd (n := 30) [(13, .d true), (14, .v (.ro (eProd x2))), (19, .v (vb true)), (24, .v (i6 (x2.right.length : Int))), (25, .d false), (30, .d false), (35, .d false), (40, .d false), (46, .d false), (51, .d false), (60, .d false), (68, .v (i6 (x2.right.length : Int))), (2002, .l (.brk 2) (L58_1_d3 g12 a1 a2 v1 x2)), (6000, .d true)] (apc (cv h1) (apc (ig eProd 7 .i64 h2) (apc q2 (apc (lg x2.right eSym 6) (apc (cv h5) (apc (cv h6) (apc (cv h7) (apc (cv h8) (apc (cv h9) (apc (cv h10) (apc (cv h11) (apc (lg x2.right eSym 6) (apc ((okT_of rfl (abl_cons rfl (abl_cons abl_row (abl_cons rfl rfl)))) : okT 3 (L58_1_d0 a1 x2) = true) (apc (e12 : evH prg 3 [1, 3, 5, 10, 11, 12, 67, 68, 69] ir58_l0 (L58_0_s a1 a2 v1 x2 (x2.right.length : Int) 0) = some ((.brk 2), (L58_1_d3 g12 a1 a2 v1 x2))) (apc ((okT_of rfl (abl_cons rfl rfl)) : okT 1 (L58_1_d0 a1 x2) = true) apn))))))))))))))) (by kernel_rfl)
  ·
   rw [← sj h]
   exact xretY (n := 30) [(13, .d true), (14, .v (.ro (eProd x2))), (19, .v (vb false)), (6000, .d true)] (apc (cv h1) (apc (ig eProd 7 .i64 h2) (apc ((((F73_ok x2 a1 h3).own rfl (purAs_cons rfl (purAs_cons (purA_ptr rfl (mapO_con rfl (mapO_con rfl (mapO_con rfl (mapO_con rfl (mapO_con rfl rfl)))))) purAs_nil)) rfl).trans (congrArg (fun z => some (vb z)) h4)) : CP prg 73 [(i6 x2.left), (.ptr 0 0)] (L58_1_d0 a1 x2) = some (vb false)) apn))) (by kernel_rfl)
 ·
  rw [← sj h]
  exact xbrk (n := 30) [(13, .d false), (6000, .d true)] (apc (cv h1) apn) (by kernel_rfl)
theorem L58_1_run (a1 : GramD) (a2 : Int) (s0 : Int) (e : E_L58_1) (h : runL (fun s => L58_1 a1 a2 s) s0 = some e) : L58_1_x a1 a2 e (evH prg 1 [1, 3, 10, 11, 12] ir58_l1 (L58_1_s a1 a2 s0)) := by
  have q := @loop_sound' (Int) E_L58_1 (fun s => L58_1 a1 a2 s) (fun s => evH prg 1 [1, 3, 10, 11, 12] ir58_l1 (L58_1_s a1 a2 s)) (L58_1_x a1 a2) (fun s r h => L58_1_ok a1 a2 s h) s0 e h
  exact q
noncomputable def F58 (a1 : GramD) : Option Bool :=
  ((runL (fun s => L58_1 a1 (a1.prods.length : Int) s) 0).bind fun r1 => match r1 with | .k0 => (some false) | .k1 => (some (decide ((a1.prods.length : Int) ≤ 1000))))
def F58_v (a1 : GramD) (x0 : Bool) : AV := (vb x0)
abbrev F58_d0 (g1 : Nat → AV) (a1 : GramD) : St := ⟨fr 110 g1 [(1, (.ptr 0 0)), (10, (.p (.lst 7 (a1.prods.map eProd))))], [bG a1]⟩
theorem F58_ok (a1 : GramD) {r : Bool} (h : F58 a1 = some r) : PR1 prg 58 [(aG a1)] (F58_v a1 r) := by
 unfold F58 at h
 refine bn h fun r1 h1 h => ?_
 cases r1 with
 | k0 =>
  obtain ⟨g1, y1, e1⟩ := L58_1_run a1 (a1.prods.length : Int) 0 _ h1
  rw [← sj h]
  exact fpr (n := 30) [(11, .v (i6 (a1.prods.length : Int))), (2000, .l .ret ⟨fr 110 g1 [(2, (vb false))], y1⟩), (6000, .d true)] (apc (lg a1.prods eProd 7) (apc ((okT_of rfl (abl_cons rfl rfl)) : okT 1 [bG a1] = true) (apc (e1 : evH prg 1 [1, 3, 10, 11, 12] ir58_l1 (L58_1_s a1 (a1.prods.length : Int) 0) = some (.ret, ⟨fr 110 g1 [(2, (vb false))], y1⟩)) apn))) rfl (by kernel_rfl)
 | k1 =>
  obtain ⟨g1, e1⟩ := L58_1_run a1 (a1.prods.length : Int) 0 _ h1
  rw [← sj h]
  exact fpr (n := 30) [(11, .v (i6 (a1.prods.length : Int))), (2000, .l (.brk 0) (F58_d0 g1 a1)), (108, .v (i6 (a1.prods.length : Int))), (6000, .d true)] (apc (lg a1.prods eProd 7) (apc ((okT_of rfl (abl_cons rfl rfl)) : okT 1 [bG a1] = true) (apc (e1 : evH prg 1 [1, 3, 10, 11, 12] ir58_l1 (L58_1_s a1 (a1.prods.length : Int) 0) = some ((.brk 0), (F58_d0 g1 a1))) (apc (lg a1.prods eProd 7) apn)))) rfl (by kernel_rfl)
noncomputable def F74 (a1 : ForbD) (a2 : GramD) : Option Bool :=
  (bif (decide (a1.parent ≥ 0)) then (bif (decide (a1.parent < (a2.prods.length : Int))) then ((getI a2.prods a1.parent).bind fun x3 => (some (x3.role != 11))) else (some false)) else (some false))
def F74_v (a1 : ForbD) (a2 : GramD) (x0 : Bool) : AV := (vb x0)
theorem F74_ok (a1 : ForbD) (a2 : GramD) {r : Bool} (h : F74 a1 a2 = some r) : PR1 prg 74 [(i6 a1.parent), (.ro (eGram a2))] (F74_v a1 a2 r) := by
 unfold F74 at h
 refine bi h (fun h1 h => ?_) fun h1 h => ?_
 ·
  refine bi h (fun h2 h => ?_) fun h2 h => ?_
  ·
   refine bn h fun x3 h3 h => ?_
   rw [← sj h]
   exact fpr (n := 30) [(5, .d true), (10, .v (i6 (a2.prods.length : Int))), (11, .d true), (17, .v (.ro (eProd x3)))] (apc (cv h1) (apc (lg a2.prods eProd 7) (apc (cv h2) (apc (ig eProd 7 .i64 h3) apn)))) rfl (by kernel_rfl)
  ·
   rw [← sj h]
   exact fpr (n := 30) [(5, .d true), (10, .v (i6 (a2.prods.length : Int))), (11, .d false)] (apc (cv h1) (apc (lg a2.prods eProd 7) (apc (cv h2) apn))) rfl (by kernel_rfl)
 ·
  rw [← sj h]
  exact fpr (n := 30) [(5, .d false)] (apc (cv h1) apn) rfl (by kernel_rfl)
noncomputable def F74_2 (a1 : ForbD) (a2 : GramD) : Option Bool :=
  (bif (decide (a1.child ≥ 0)) then (bif (decide (a1.child < (a2.prods.length : Int))) then ((getI a2.prods a1.child).bind fun x3 => (some (x3.role != 11))) else (some false)) else (some false))
def F74_2_v (a1 : ForbD) (a2 : GramD) (x0 : Bool) : AV := (vb x0)
theorem F74_2_ok (a1 : ForbD) (a2 : GramD) {r : Bool} (h : F74_2 a1 a2 = some r) : PR1 prg 74 [(i6 a1.child), (.ro (eGram a2))] (F74_2_v a1 a2 r) := by
 unfold F74_2 at h
 refine bi h (fun h1 h => ?_) fun h1 h => ?_
 ·
  refine bi h (fun h2 h => ?_) fun h2 h => ?_
  ·
   refine bn h fun x3 h3 h => ?_
   rw [← sj h]
   exact fpr (n := 30) [(5, .d true), (10, .v (i6 (a2.prods.length : Int))), (11, .d true), (17, .v (.ro (eProd x3)))] (apc (cv h1) (apc (lg a2.prods eProd 7) (apc (cv h2) (apc (ig eProd 7 .i64 h3) apn)))) rfl (by kernel_rfl)
  ·
   rw [← sj h]
   exact fpr (n := 30) [(5, .d true), (10, .v (i6 (a2.prods.length : Int))), (11, .d false)] (apc (cv h1) (apc (lg a2.prods eProd 7) (apc (cv h2) apn))) rfl (by kernel_rfl)
 ·
  rw [← sj h]
  exact fpr (n := 30) [(5, .d false)] (apc (cv h1) apn) rfl (by kernel_rfl)
inductive E_L59_0 where
  | k0
  | k1 (x0 : List ((Int × Int × Int) × Int))
noncomputable def L59_0 (a1 : GramD) (a2 : Int) (v1 : Int) (v2 : List ((Int × Int × Int) × Int)) : Option (E_L59_0 ⊕ (Int × (List ((Int × Int × Int) × Int)))) :=
  (bif (decide (v1 < a2)) then ((getI a1.forbid v1).bind fun x2 => (bif (decide ((mget 0 (mput (x2.parent, x2.at_, x2.child) (IntKind.wrap .i64 ((mget 0 v2 (x2.parent, x2.at_, x2.child)) + 1)) v2) (x2.parent, x2.at_, x2.child)) > 1)) then (some (.inl (.k0))) else ((F74 x2 a1).bind fun x4 => (bif x4 then ((F74_2 x2 a1).bind fun x6 => (bif x6 then (bif (decide (x2.at_ < 1)) then (some (.inl (.k0))) else ((getI a1.prods x2.parent).bind fun x9 => (bif (decide (x2.at_ > (x9.right.length : Int))) then (some (.inl (.k0))) else ((getI x9.right (IntKind.wrap .i64 (x2.at_ - 1))).bind fun x11 => (bif (x11.kind != 1) then (some (.inl (.k0))) else ((getI a1.prods x2.child).bind fun x13 => (bif (x11.sort != x13.left) then (some (.inl (.k0))) else (some (.inr ((IntKind.wrap .i64 (v1 + 1)), (mput (x2.parent, x2.at_, x2.child) (IntKind.wrap .i64 ((mget 0 v2 (x2.parent, x2.at_, x2.child)) + 1)) v2))))))))))) else (some (.inl (.k0))))) else (some (.inl (.k0))))))) else (some (.inl (.k1 v2))))
def L59_0_s (a1 : GramD) (a2 : Int) (v1 : Int) (v2 : List ((Int × Int × Int) × Int)) : St := ⟨fr 87 ug [(1, (.ptr 0 0)), (3, (.mp 1)), (4, (.fn 74 [(.ptr 0 0)])), (11, (.p (.lst 3 (a1.forbid.map eForb)))), (12, (i6 a2)), (13, (i6 v1))], [bG a1, mFI v2]⟩
def L59_0_x (a1 : GramD) (a2 : Int) (e : E_L59_0) (r : Option (Out × St)) : Prop := match e with | .k0 => ∃ g y, r = some (.ret, ⟨fr 87 g [(2, (vb false))], y⟩) | .k1 x0 => ∃ g, r = some ((.brk 0), ⟨fr 87 g [(1, (.ptr 0 0)), (11, (.p (.lst 3 (a1.forbid.map eForb))))], [bG a1, mFI x0]⟩)
abbrev L59_0_d0 (a1 : GramD) (v2 : List ((Int × Int × Int) × Int)) (x2 : ForbD) : List AB := [bG a1, mFI v2, .cells 85 ((eForb x2).map .p)]
abbrev L59_0_d1 (a1 : GramD) (v2 : List ((Int × Int × Int) × Int)) (x2 : ForbD) : List AB := [bG a1, mFI (ment 0 v2 (x2.parent, x2.at_, x2.child)), .cells 85 ((eForb x2).map .p)]
abbrev L59_0_d2 (a1 : GramD) (x2 : ForbD) (v2 : List ((Int × Int × Int) × Int)) : List AB := [bG a1, mFI (mput (x2.parent, x2.at_, x2.child) (w6 ((mget 0 v2 (x2.parent, x2.at_, x2.child)) + 1)) v2), .cells 85 ((eForb x2).map .p)]
abbrev L59_0_c0 (x2 : ForbD) (v2 : List ((Int × Int × Int) × Int)) (a1 : GramD) : List (Nat × Hint) := [(15, .v (.ro (eForb x2))), (19, .v (i6 (mget 0 v2 (x2.parent, x2.at_, x2.child)))), (21, .r (.tup [(i6 (mget 0 v2 (x2.parent, x2.at_, x2.child))), (i6 (midx v2 (x2.parent, x2.at_, x2.child) : Int))]) (L59_0_d1 a1 v2 x2)), (8020, .r ud (L59_0_d2 a1 x2 v2)), (25, .v (i6 (mget 0 (mput (x2.parent, x2.at_, x2.child) (w6 ((mget 0 v2 (x2.parent, x2.at_, x2.child)) + 1)) v2) (x2.parent, x2.at_, x2.child))))]
theorem L59_0_ok (a1 : GramD) (a2 : Int) (v1 : Int) (v2 : List ((Int × Int × Int) × Int)) {r : E_L59_0 ⊕ (Int × (List ((Int × Int × Int) × Int)))} (h : L59_0 a1 a2 v1 v2 = some r) : OkR (fun e => L59_0_x a1 a2 e (evH prg 2 [1, 3, 4, 11, 12, 13] ir59_l0 (L59_0_s a1 a2 v1 v2))) (fun s => evH prg 2 [1, 3, 4, 11, 12, 13] ir59_l0 (L59_0_s a1 a2 v1 v2) = evH prg 2 [1, 3, 4, 11, 12, 13] ir59_l0 (L59_0_s a1 a2 s.1 s.2)) r := by
 unfold L59_0 at h
 refine bi h (fun h1 h => ?_) fun h1 h => ?_
 ·
  refine bn h fun x2 h2 h => ?_
  have q2 := ((lk_row key_int3 (es := v2) (k := (x2.parent, x2.at_, x2.child)) (z := 0) rfl rfl) : lkA (L59_0_d0 a1 v2 x2) [1, 1, 1] .true .false [(.val (.int .i64 0))] .false (.mp 1) (.agg ((eForb x2).map .p)) = some (i6 (mget 0 v2 (x2.parent, x2.at_, x2.child))))
  have q3 := ((en_row key_int3 (es := v2) (k := (x2.parent, x2.at_, x2.child)) (z := 0) rfl rfl) : enA (L59_0_d0 a1 v2 x2) [1, 1, 1] .true .false [(.val (.int .i64 0))] (.mp 1) (.agg ((eForb x2).map .p)) = some ((.tup [(i6 (mget 0 v2 (x2.parent, x2.at_, x2.child))), (i6 (midx v2 (x2.parent, x2.at_, x2.child) : Int))]), (L59_0_d1 a1 v2 x2)))
  have q4 := (⟨es_row key_int3 (es := v2) (k := (x2.parent, x2.at_, x2.child)) (v := (w6 ((mget 0 v2 (x2.parent, x2.at_, x2.child)) + 1))) (z := 0) rfl, rfl⟩ : esA (L59_0_d1 a1 v2 x2) (.mp 1) (i6 (midx v2 (x2.parent, x2.at_, x2.child) : Int)) (i6 (w6 ((mget 0 v2 (x2.parent, x2.at_, x2.child)) + 1))) = some (L59_0_d2 a1 x2 v2) ∧ ud = ud)
  have q5 := ((lk_row key_int3 (es := (mput (x2.parent, x2.at_, x2.child) (w6 ((mget 0 v2 (x2.parent, x2.at_, x2.child)) + 1)) v2)) (k := (x2.parent, x2.at_, x2.child)) (z := 0) rfl rfl) : lkA (L59_0_d2 a1 x2 v2) [1, 1, 1] .true .false [(.val (.int .i64 0))] .false (.mp 1) (.agg ((eForb x2).map .p)) = some (i6 (mget 0 (mput (x2.parent, x2.at_, x2.child) (w6 ((mget 0 v2 (x2.parent, x2.at_, x2.child)) + 1)) v2) (x2.parent, x2.at_, x2.child))))
  refine bi h (fun h3 h => ?_) fun h3 h => ?_
  ·
   rw [← sj h]
   exact xretY (n := 30) ([(14, .d true)] ++ ((L59_0_c0 x2 v2 a1) ++ [(26, .d true), (6000, .d true)])) (apc (cv h1) (apc (ig eForb 3 .i64 h2) (apc q2 (apc q3 (apc q4 (apc q5 (apc (cv h3) apn))))))) (by kernel_rfl)
  ·
   refine bn h fun x4 h4 h => ?_
   refine bi h (fun h5 h => ?_) fun h5 h => ?_
   ·
    have q7 := ((((F74_ok x2 a1 h4).own rfl (purAs_cons rfl (purAs_cons (purA_ptr rfl (mapO_con rfl (mapO_con rfl (mapO_con rfl (mapO_con rfl (mapO_con rfl rfl)))))) purAs_nil)) rfl).trans (congrArg (fun z => some (vb z)) h5)) : CP prg 74 [(i6 x2.parent), (.ptr 0 0)] (L59_0_d2 a1 x2 v2) = some (vb true))
    refine bn h fun x6 h6 h => ?_
    refine bi h (fun h7 h => ?_) fun h7 h => ?_
    ·
     have q8 := ((((F74_2_ok x2 a1 h6).own rfl (purAs_cons rfl (purAs_cons (purA_ptr rfl (mapO_con rfl (mapO_con rfl (mapO_con rfl (mapO_con rfl (mapO_con rfl rfl)))))) purAs_nil)) rfl).trans (congrArg (fun z => some (vb z)) h7)) : CP prg 74 [(i6 x2.child), (.ptr 0 0)] (L59_0_d2 a1 x2 v2) = some (vb true))
     refine bi h (fun h8 h => ?_) fun h8 h => ?_
     ·
      rw [← sj h]
      exact xretY (n := 30) ([(14, .d true)] ++ ((L59_0_c0 x2 v2 a1) ++ [(26, .d false), (31, .v (vb true)), (38, .v (vb true)), (44, .d true), (6000, .d true)])) (apc (cv h1) (apc (ig eForb 3 .i64 h2) (apc q2 (apc q3 (apc q4 (apc q5 (apc (cv h3) (apc q7 (apc q8 (apc (cv h8) apn)))))))))) (by kernel_rfl)
     ·
      refine bn h fun x9 h9 h => ?_
      refine bi h (fun h10 h => ?_) fun h10 h => ?_
      ·
       rw [← sj h]
       exact xretY (n := 30) ([(14, .d true)] ++ ((L59_0_c0 x2 v2 a1) ++ [(26, .d false), (31, .v (vb true)), (38, .v (vb true)), (44, .d false), (53, .v (.ro (eProd x9))), (56, .v (i6 (x9.right.length : Int))), (57, .d true), (6000, .d true)])) (apc (cv h1) (apc (ig eForb 3 .i64 h2) (apc q2 (apc q3 (apc q4 (apc q5 (apc (cv h3) (apc q7 (apc q8 (apc (cv h8) (apc (ig eProd 7 .i64 h9) (apc (lg x9.right eSym 6) (apc (cv h10) apn))))))))))))) (by kernel_rfl)
      ·
       refine bn h fun x11 h11 h => ?_
       refine bi h (fun h12 h => ?_) fun h12 h => ?_
       ·
        rw [← sj h]
        exact xretY (n := 30) ([(14, .d true)] ++ ((L59_0_c0 x2 v2 a1) ++ [(26, .d false), (31, .v (vb true)), (38, .v (vb true)), (44, .d false), (53, .v (.ro (eProd x9))), (56, .v (i6 (x9.right.length : Int))), (57, .d false), (63, .v (.ro (eProd x9))), (69, .v (.ro (eSym x11))), (73, .d true), (6000, .d true)])) (apc (cv h1) (apc (ig eForb 3 .i64 h2) (apc q2 (apc q3 (apc q4 (apc q5 (apc (cv h3) (apc q7 (apc q8 (apc (cv h8) (apc (ig eProd 7 .i64 h9) (apc (lg x9.right eSym 6) (apc (cv h10) (apc (ig eProd 7 .i64 h9) (apc (ig eSym 6 .i64 h11) (apc (cv h12) apn)))))))))))))))) (by kernel_rfl)
       ·
        refine bn h fun x13 h13 h => ?_
        refine bi h (fun h14 h => ?_) fun h14 h => ?_
        ·
         rw [← sj h]
         exact xretY (n := 30) ([(14, .d true)] ++ ((L59_0_c0 x2 v2 a1) ++ [(26, .d false), (31, .v (vb true)), (38, .v (vb true)), (44, .d false), (53, .v (.ro (eProd x9))), (56, .v (i6 (x9.right.length : Int))), (57, .d false), (63, .v (.ro (eProd x9))), (69, .v (.ro (eSym x11))), (73, .d false), (81, .v (.ro (eProd x13))), (84, .d true), (6000, .d true)])) (apc (cv h1) (apc (ig eForb 3 .i64 h2) (apc q2 (apc q3 (apc q4 (apc q5 (apc (cv h3) (apc q7 (apc q8 (apc (cv h8) (apc (ig eProd 7 .i64 h9) (apc (lg x9.right eSym 6) (apc (cv h10) (apc (ig eProd 7 .i64 h9) (apc (ig eSym 6 .i64 h11) (apc (cv h12) (apc (ig eProd 7 .i64 h13) (apc (cv h14) apn)))))))))))))))))) (by kernel_rfl)
        ·
         rw [← sj h]
         exact rnd (n := 30) ([(14, .d true)] ++ ((L59_0_c0 x2 v2 a1) ++ [(26, .d false), (31, .v (vb true)), (38, .v (vb true)), (44, .d false), (53, .v (.ro (eProd x9))), (56, .v (i6 (x9.right.length : Int))), (57, .d false), (63, .v (.ro (eProd x9))), (69, .v (.ro (eSym x11))), (73, .d false), (81, .v (.ro (eProd x13))), (84, .d false), (6000, .d true)])) (apc (cv h1) (apc (ig eForb 3 .i64 h2) (apc q2 (apc q3 (apc q4 (apc q5 (apc (cv h3) (apc q7 (apc q8 (apc (cv h8) (apc (ig eProd 7 .i64 h9) (apc (lg x9.right eSym 6) (apc (cv h10) (apc (ig eProd 7 .i64 h9) (apc (ig eSym 6 .i64 h11) (apc (cv h12) (apc (ig eProd 7 .i64 h13) (apc (cv h14) (apc ((okT_of rfl (abl_cons rfl (abl_cons (abl_map (fun _ => rfl) (fun _ => rfl)) rfl))) : okT 2 [bG a1, mFI (mput (x2.parent, x2.at_, x2.child) (w6 ((mget 0 v2 (x2.parent, x2.at_, x2.child)) + 1)) v2), .cells 85 ((eForb x2).map .p), .cells 48 ((eSym x11).map .p)] = true) apn))))))))))))))))))) (by kernel_rfl)
    ·
     rw [← sj h]
     exact xretY (n := 30) ([(14, .d true)] ++ ((L59_0_c0 x2 v2 a1) ++ [(26, .d false), (31, .v (vb true)), (38, .v (vb false)), (6000, .d true)])) (apc (cv h1) (apc (ig eForb 3 .i64 h2) (apc q2 (apc q3 (apc q4 (apc q5 (apc (cv h3) (apc q7 (apc ((((F74_2_ok x2 a1 h6).own rfl (purAs_cons rfl (purAs_cons (purA_ptr rfl (mapO_con rfl (mapO_con rfl (mapO_con rfl (mapO_con rfl (mapO_con rfl rfl)))))) purAs_nil)) rfl).trans (congrArg (fun z => some (vb z)) h7)) : CP prg 74 [(i6 x2.child), (.ptr 0 0)] (L59_0_d2 a1 x2 v2) = some (vb false)) apn))))))))) (by kernel_rfl)
   ·
    rw [← sj h]
    exact xretY (n := 30) ([(14, .d true)] ++ ((L59_0_c0 x2 v2 a1) ++ [(26, .d false), (31, .v (vb false)), (6000, .d true)])) (apc (cv h1) (apc (ig eForb 3 .i64 h2) (apc q2 (apc q3 (apc q4 (apc q5 (apc (cv h3) (apc ((((F74_ok x2 a1 h4).own rfl (purAs_cons rfl (purAs_cons (purA_ptr rfl (mapO_con rfl (mapO_con rfl (mapO_con rfl (mapO_con rfl (mapO_con rfl rfl)))))) purAs_nil)) rfl).trans (congrArg (fun z => some (vb z)) h5)) : CP prg 74 [(i6 x2.parent), (.ptr 0 0)] (L59_0_d2 a1 x2 v2) = some (vb false)) apn)))))))) (by kernel_rfl)
 ·
  rw [← sj h]
  exact xbrk (n := 30) [(14, .d false), (6000, .d true)] (apc (cv h1) apn) (by kernel_rfl)
theorem L59_0_run (a1 : GramD) (a2 : Int) (s0 : Int × (List ((Int × Int × Int) × Int))) (e : E_L59_0) (h : runL (fun s => L59_0 a1 a2 s.1 s.2) s0 = some e) : L59_0_x a1 a2 e (evH prg 2 [1, 3, 4, 11, 12, 13] ir59_l0 (L59_0_s a1 a2 s0.1 s0.2)) := by
  have q := @loop_sound' (Int × (List ((Int × Int × Int) × Int))) E_L59_0 (fun s => L59_0 a1 a2 s.1 s.2) (fun s => evH prg 2 [1, 3, 4, 11, 12, 13] ir59_l0 (L59_0_s a1 a2 s.1 s.2)) (L59_0_x a1 a2) (fun s r h => L59_0_ok a1 a2 s.1 s.2 h) s0 e h
  exact q
noncomputable def F59 (a1 : GramD) : Option Bool :=
  ((runL (fun s => L59_0 a1 (a1.forbid.length : Int) s.1 s.2) (0, [])).bind fun r1 => match r1 with | .k0 => (some false) | .k1 x1_0 => (some true))
def F59_v (a1 : GramD) (x0 : Bool) : AV := (vb x0)
abbrev F59_d0 (g1 : Nat → AV) (a1 : GramD) (x1_0 : List ((Int × Int × Int) × Int)) : St := ⟨fr 87 g1 [(1, (.ptr 0 0)), (11, (.p (.lst 3 (a1.forbid.map eForb))))], [bG a1, mFI x1_0]⟩
theorem F59_ok (a1 : GramD) {r : Bool} (h : F59 a1 = some r) : PR1 prg 59 [(aG a1)] (F59_v a1 r) := by
 unfold F59 at h
 refine bn h fun r1 h1 h => ?_
 cases r1 with
 | k0 =>
  obtain ⟨g1, y1, e1⟩ := L59_0_run a1 (a1.forbid.length : Int) (0, []) _ h1
  rw [← sj h]
  exact fpr (n := 30) [(12, .v (i6 (a1.forbid.length : Int))), (2000, .l .ret ⟨fr 87 g1 [(2, (vb false))], y1⟩), (6000, .d true)] (apc (lg a1.forbid eForb 3) (apc ((okT_of rfl (abl_cons rfl (abl_cons rfl rfl))) : okT 2 [bG a1, .map []] = true) (apc (e1 : evH prg 2 [1, 3, 4, 11, 12, 13] ir59_l0 (L59_0_s a1 (a1.forbid.length : Int) 0 ([])) = some (.ret, ⟨fr 87 g1 [(2, (vb false))], y1⟩)) apn))) rfl (by kernel_rfl)
 | k1 x1_0 =>
  obtain ⟨g1, e1⟩ := L59_0_run a1 (a1.forbid.length : Int) (0, []) _ h1
  rw [← sj h]
  exact fpr (n := 30) [(12, .v (i6 (a1.forbid.length : Int))), (2000, .l (.brk 0) (F59_d0 g1 a1 x1_0)), (6000, .d true)] (apc (lg a1.forbid eForb 3) (apc ((okT_of rfl (abl_cons rfl (abl_cons rfl rfl))) : okT 2 [bG a1, .map []] = true) (apc (e1 : evH prg 2 [1, 3, 4, 11, 12, 13] ir59_l0 (L59_0_s a1 (a1.forbid.length : Int) 0 ([])) = some ((.brk 0), (F59_d0 g1 a1 x1_0))) apn))) rfl (by kernel_rfl)
inductive E_L60_0 where
  | k0
  | k1 (x0 : List (Int × Int))
noncomputable def L60_0 (a1 : GramD) (a2 : Int) (v1 : Int) (v2 : List (Int × Int)) : Option (E_L60_0 ⊕ (Int × (List (Int × Int)))) :=
  (bif (decide (v1 < a2)) then ((getI a1.follow v1).bind fun x2 => (bif (decide ((mget 0 (mput x2.sort (IntKind.wrap .i64 ((mget 0 v2 x2.sort) + 1)) v2) x2.sort) > 1)) then (some (.inl (.k0))) else (bif (decide (x2.sort < 0)) then (some (.inl (.k0))) else (bif (decide (x2.sort ≥ (a1.sorts.length : Int))) then (some (.inl (.k0))) else (bif ((x2.a == 0) && ((x2.b == 0) && ((x2.c == 0) && ((x2.d == 0) && true)))) then (some (.inl (.k0))) else (some (.inr ((IntKind.wrap .i64 (v1 + 1)), (mput x2.sort (IntKind.wrap .i64 ((mget 0 v2 x2.sort) + 1)) v2))))))))) else (some (.inl (.k1 v2))))
def L60_0_s (a1 : GramD) (a2 : Int) (v1 : Int) (v2 : List (Int × Int)) : St := ⟨fr 44 ug [(1, (.ptr 0 0)), (3, (.mp 1)), (8, (.p (.lst 5 (a1.follow.map eFoll)))), (9, (i6 a2)), (10, (i6 v1))], [bG a1, mII v2]⟩
def L60_0_x (a1 : GramD) (a2 : Int) (e : E_L60_0) (r : Option (Out × St)) : Prop := match e with | .k0 => ∃ g y, r = some (.ret, ⟨fr 44 g [(2, (vb false))], y⟩) | .k1 x0 => ∃ g, r = some ((.brk 0), ⟨fr 44 g [(1, (.ptr 0 0)), (8, (.p (.lst 5 (a1.follow.map eFoll))))], [bG a1, mII x0]⟩)
abbrev L60_0_d0 (a1 : GramD) (v2 : List (Int × Int)) (x2 : FollD) : List AB := [bG a1, mII v2, .cells 87 ((eFoll x2).map .p)]
abbrev L60_0_d1 (a1 : GramD) (x2 : FollD) (v2 : List (Int × Int)) : List AB := [bG a1, mII (mput x2.sort (w6 ((mget 0 v2 x2.sort) + 1)) v2), .cells 87 ((eFoll x2).map .p)]
abbrev L60_0_c0 (x2 : FollD) (v2 : List (Int × Int)) (a1 : GramD) : List (Nat × Hint) := [(12, .v (.ro (eFoll x2))), (17, .v (i6 (mget 0 v2 x2.sort))), (7018, .r ud (L60_0_d1 a1 x2 v2)), (22, .v (i6 (mget 0 (mput x2.sort (w6 ((mget 0 v2 x2.sort) + 1)) v2) x2.sort)))]
theorem L60_0_ok (a1 : GramD) (a2 : Int) (v1 : Int) (v2 : List (Int × Int)) {r : E_L60_0 ⊕ (Int × (List (Int × Int)))} (h : L60_0 a1 a2 v1 v2 = some r) : OkR (fun e => L60_0_x a1 a2 e (evH prg 2 [1, 3, 8, 9, 10] ir60_l0 (L60_0_s a1 a2 v1 v2))) (fun s => evH prg 2 [1, 3, 8, 9, 10] ir60_l0 (L60_0_s a1 a2 v1 v2) = evH prg 2 [1, 3, 8, 9, 10] ir60_l0 (L60_0_s a1 a2 s.1 s.2)) r := by
 unfold L60_0 at h
 refine bi h (fun h1 h => ?_) fun h1 h => ?_
 ·
  refine bn h fun x2 h2 h => ?_
  have q2 := ((lk_row key_int (es := v2) (k := x2.sort) (z := 0) rfl rfl) : lkA (L60_0_d0 a1 v2 x2) [1] .false .false [(.val (.int .i64 0))] .false (.mp 1) (i6 x2.sort) = some (i6 (mget 0 v2 x2.sort)))
  have q3 := (⟨up_row key_int (es := v2) (k := x2.sort) (v := (w6 ((mget 0 v2 x2.sort) + 1))) rfl, rfl⟩ : upA (L60_0_d0 a1 v2 x2) [1] .false (.mp 1) (i6 x2.sort) (i6 (w6 ((mget 0 v2 x2.sort) + 1))) = some (L60_0_d1 a1 x2 v2) ∧ ud = ud)
  have q4 := ((lk_row key_int (es := (mput x2.sort (w6 ((mget 0 v2 x2.sort) + 1)) v2)) (k := x2.sort) (z := 0) rfl rfl) : lkA (L60_0_d1 a1 x2 v2) [1] .false .false [(.val (.int .i64 0))] .false (.mp 1) (i6 x2.sort) = some (i6 (mget 0 (mput x2.sort (w6 ((mget 0 v2 x2.sort) + 1)) v2) x2.sort)))
  refine bi h (fun h3 h => ?_) fun h3 h => ?_
  ·
   rw [← sj h]
   exact xretY (n := 30) ([(11, .d true)] ++ ((L60_0_c0 x2 v2 a1) ++ [(23, .d true), (6000, .d true)])) (apc (cv h1) (apc (ig eFoll 5 .i64 h2) (apc q2 (apc q3 (apc q4 (apc (cv h3) apn)))))) (by kernel_rfl)
  ·
   refine bi h (fun h4 h => ?_) fun h4 h => ?_
   ·
    rw [← sj h]
    exact xretY (n := 30) ([(11, .d true)] ++ ((L60_0_c0 x2 v2 a1) ++ [(23, .d false), (27, .d true), (6000, .d true)])) (apc (cv h1) (apc (ig eFoll 5 .i64 h2) (apc q2 (apc q3 (apc q4 (apc (cv h3) (apc (cv h4) apn))))))) (by kernel_rfl)
   ·
    refine bi h (fun h5 h => ?_) fun h5 h => ?_
    ·
     rw [← sj h]
     exact xretY (n := 30) ([(11, .d true)] ++ ((L60_0_c0 x2 v2 a1) ++ [(23, .d false), (27, .d false), (34, .v (i6 (a1.sorts.length : Int))), (35, .d true), (6000, .d true)])) (apc (cv h1) (apc (ig eFoll 5 .i64 h2) (apc q2 (apc q3 (apc q4 (apc (cv h3) (apc (cv h4) (apc (lg a1.sorts eStr 1) (apc (cv h5) apn))))))))) (by kernel_rfl)
    ·
     refine bi h (fun h6 h => ?_) fun h6 h => ?_
     ·
      rw [← sj h]
      exact xretY (n := 30) ([(11, .d true)] ++ ((L60_0_c0 x2 v2 a1) ++ [(23, .d false), (27, .d false), (34, .v (i6 (a1.sorts.length : Int))), (35, .d false), (41, .d true), (6000, .d true)])) (apc (cv h1) (apc (ig eFoll 5 .i64 h2) (apc q2 (apc q3 (apc q4 (apc (cv h3) (apc (cv h4) (apc (lg a1.sorts eStr 1) (apc (cv h5) (apc (cv h6) apn)))))))))) (by kernel_rfl)
     ·
      rw [← sj h]
      exact rnd (n := 30) ([(11, .d true)] ++ ((L60_0_c0 x2 v2 a1) ++ [(23, .d false), (27, .d false), (34, .v (i6 (a1.sorts.length : Int))), (35, .d false), (41, .d false), (6000, .d true)])) (apc (cv h1) (apc (ig eFoll 5 .i64 h2) (apc q2 (apc q3 (apc q4 (apc (cv h3) (apc (cv h4) (apc (lg a1.sorts eStr 1) (apc (cv h5) (apc (cv h6) (apc ((okT_of rfl (abl_cons rfl (abl_cons (abl_map (fun _ => rfl) (fun _ => rfl)) rfl))) : okT 2 (L60_0_d1 a1 x2 v2) = true) apn))))))))))) (by kernel_rfl)
 ·
  rw [← sj h]
  exact xbrk (n := 30) [(11, .d false), (6000, .d true)] (apc (cv h1) apn) (by kernel_rfl)
theorem L60_0_run (a1 : GramD) (a2 : Int) (s0 : Int × (List (Int × Int))) (e : E_L60_0) (h : runL (fun s => L60_0 a1 a2 s.1 s.2) s0 = some e) : L60_0_x a1 a2 e (evH prg 2 [1, 3, 8, 9, 10] ir60_l0 (L60_0_s a1 a2 s0.1 s0.2)) := by
  have q := @loop_sound' (Int × (List (Int × Int))) E_L60_0 (fun s => L60_0 a1 a2 s.1 s.2) (fun s => evH prg 2 [1, 3, 8, 9, 10] ir60_l0 (L60_0_s a1 a2 s.1 s.2)) (L60_0_x a1 a2) (fun s r h => L60_0_ok a1 a2 s.1 s.2 h) s0 e h
  exact q
noncomputable def F60 (a1 : GramD) : Option Bool :=
  ((runL (fun s => L60_0 a1 (a1.follow.length : Int) s.1 s.2) (0, [])).bind fun r1 => match r1 with | .k0 => (some false) | .k1 x1_0 => (some true))
def F60_v (a1 : GramD) (x0 : Bool) : AV := (vb x0)
abbrev F60_d0 (g1 : Nat → AV) (a1 : GramD) (x1_0 : List (Int × Int)) : St := ⟨fr 44 g1 [(1, (.ptr 0 0)), (8, (.p (.lst 5 (a1.follow.map eFoll))))], [bG a1, mII x1_0]⟩
theorem F60_ok (a1 : GramD) {r : Bool} (h : F60 a1 = some r) : PR1 prg 60 [(aG a1)] (F60_v a1 r) := by
 unfold F60 at h
 refine bn h fun r1 h1 h => ?_
 cases r1 with
 | k0 =>
  obtain ⟨g1, y1, e1⟩ := L60_0_run a1 (a1.follow.length : Int) (0, []) _ h1
  rw [← sj h]
  exact fpr (n := 30) [(9, .v (i6 (a1.follow.length : Int))), (2000, .l .ret ⟨fr 44 g1 [(2, (vb false))], y1⟩), (6000, .d true)] (apc (lg a1.follow eFoll 5) (apc ((okT_of rfl (abl_cons rfl (abl_cons rfl rfl))) : okT 2 [bG a1, .map []] = true) (apc (e1 : evH prg 2 [1, 3, 8, 9, 10] ir60_l0 (L60_0_s a1 (a1.follow.length : Int) 0 ([])) = some (.ret, ⟨fr 44 g1 [(2, (vb false))], y1⟩)) apn))) rfl (by kernel_rfl)
 | k1 x1_0 =>
  obtain ⟨g1, e1⟩ := L60_0_run a1 (a1.follow.length : Int) (0, []) _ h1
  rw [← sj h]
  exact fpr (n := 30) [(9, .v (i6 (a1.follow.length : Int))), (2000, .l (.brk 0) (F60_d0 g1 a1 x1_0)), (6000, .d true)] (apc (lg a1.follow eFoll 5) (apc ((okT_of rfl (abl_cons rfl (abl_cons rfl rfl))) : okT 2 [bG a1, .map []] = true) (apc (e1 : evH prg 2 [1, 3, 8, 9, 10] ir60_l0 (L60_0_s a1 (a1.follow.length : Int) 0 ([])) = some ((.brk 0), (F60_d0 g1 a1 x1_0))) apn))) rfl (by kernel_rfl)
inductive E_L29_0 where
  | k0
  | k1
noncomputable def L29_0 (a1 : GramD) (v1 : Int) : Option (E_L29_0 ⊕ (Int)) :=
  (bif (decide (v1 < 4)) then (bif (v1 == 0) then ((F57 a1).bind fun x3 => (bif x3 then (some (.inr ((IntKind.wrap .i64 (v1 + 1))))) else (some (.inl (.k0))))) else (bif (v1 == 1) then ((F58 a1).bind fun x4 => (bif x4 then (some (.inr ((IntKind.wrap .i64 (v1 + 1))))) else (some (.inl (.k0))))) else (bif (v1 == 2) then ((F59 a1).bind fun x5 => (bif x5 then (some (.inr ((IntKind.wrap .i64 (v1 + 1))))) else (some (.inl (.k0))))) else (bif (v1 == 3) then ((F60 a1).bind fun x6 => (bif x6 then (some (.inr ((IntKind.wrap .i64 (v1 + 1))))) else (some (.inl (.k0))))) else none)))) else (some (.inl (.k1))))
def L29_0_s (a1 : GramD) (v1 : Int) : St := ⟨fr 14 ug [(1, (.ptr 0 0)), (5, (.agg [(.fn 57 []), (.fn 58 []), (.fn 59 []), (.fn 60 [])])), (6, (i6 v1))], [bG a1]⟩
def L29_0_x (a1 : GramD) (e : E_L29_0) (r : Option (Out × St)) : Prop := match e with | .k0 => ∃ g y, r = some (.ret, ⟨fr 14 g [(2, (i6 160))], y⟩) | .k1 => ∃ g, r = some ((.brk 0), ⟨fr 14 g [], [bG a1]⟩)
theorem L29_0_ok (a1 : GramD) (v1 : Int) {r : E_L29_0 ⊕ (Int)} (h : L29_0 a1 v1 = some r) : OkR (fun e => L29_0_x a1 e (evH prg 1 [1, 5, 6] ir29_l0 (L29_0_s a1 v1))) (fun s => evH prg 1 [1, 5, 6] ir29_l0 (L29_0_s a1 v1) = evH prg 1 [1, 5, 6] ir29_l0 (L29_0_s a1 s)) r := by
 unfold L29_0 at h
 refine bi h (fun h1 h => ?_) fun h1 h => ?_
 ·
  refine bi h (fun h2 h => ?_) fun h2 h => ?_
  ·
   have q1 := ((ix_lit h2 (fun z => ixG false 4 1 (.agg [(.fn 57 []), (.fn 58 []), (.fn 59 []), (.fn 60 [])]) (i6 z)) rfl) : ixG false 4 1 (.agg [(.fn 57 []), (.fn 58 []), (.fn 59 []), (.fn 60 [])]) (i6 v1) = some (.fn 57 []))
   refine bn h fun x3 h3 h => ?_
   refine bi h (fun h4 h => ?_) fun h4 h => ?_
   ·
    rw [← sj h]
    exact rnd (n := 30) [(7, .d true), (8, .v (.fn 57 [])), (11, .v (vb true)), (6000, .d true)] (apc (cv h1) (apc q1 (apc ((((F57_ok a1 h3).cp rfl _).trans (congrArg (fun z => some (vb z)) h4)) : CP prg 57 [(aG a1)] [bG a1] = some (vb true)) (apc ((okT_of rfl (abl_cons rfl rfl)) : okT 1 [bG a1] = true) apn)))) (by kernel_rfl)
   ·
    rw [← sj h]
    exact xretY (n := 30) [(7, .d true), (8, .v (.fn 57 [])), (11, .v (vb false)), (6000, .d true)] (apc (cv h1) (apc q1 (apc ((((F57_ok a1 h3).cp rfl _).trans (congrArg (fun z => some (vb z)) h4)) : CP prg 57 [(aG a1)] [bG a1] = some (vb false)) apn))) (by kernel_rfl)
  ·
   refine bi h (fun h3 h => ?_) fun h3 h => ?_
   ·
    have q1 := ((ix_lit h3 (fun z => ixG false 4 1 (.agg [(.fn 57 []), (.fn 58 []), (.fn 59 []), (.fn 60 [])]) (i6 z)) rfl) : ixG false 4 1 (.agg [(.fn 57 []), (.fn 58 []), (.fn 59 []), (.fn 60 [])]) (i6 v1) = some (.fn 58 []))
    refine bn h fun x4 h4 h => ?_
    refine bi h (fun h5 h => ?_) fun h5 h => ?_
    ·
     rw [← sj h]
     exact rnd (n := 30) [(7, .d true), (8, .v (.fn 58 [])), (11, .v (vb true)), (6000, .d true)] (apc (cv h1) (apc q1 (apc ((((F58_ok a1 h4).cp rfl _).trans (congrArg (fun z => some (vb z)) h5)) : CP prg 58 [(aG a1)] [bG a1] = some (vb true)) (apc ((okT_of rfl (abl_cons rfl rfl)) : okT 1 [bG a1] = true) apn)))) (by kernel_rfl)
    ·
     rw [← sj h]
     exact xretY (n := 30) [(7, .d true), (8, .v (.fn 58 [])), (11, .v (vb false)), (6000, .d true)] (apc (cv h1) (apc q1 (apc ((((F58_ok a1 h4).cp rfl _).trans (congrArg (fun z => some (vb z)) h5)) : CP prg 58 [(aG a1)] [bG a1] = some (vb false)) apn))) (by kernel_rfl)
   ·
    refine bi h (fun h4 h => ?_) fun h4 h => ?_
    ·
     have q1 := ((ix_lit h4 (fun z => ixG false 4 1 (.agg [(.fn 57 []), (.fn 58 []), (.fn 59 []), (.fn 60 [])]) (i6 z)) rfl) : ixG false 4 1 (.agg [(.fn 57 []), (.fn 58 []), (.fn 59 []), (.fn 60 [])]) (i6 v1) = some (.fn 59 []))
     refine bn h fun x5 h5 h => ?_
     refine bi h (fun h6 h => ?_) fun h6 h => ?_
     ·
      rw [← sj h]
      exact rnd (n := 30) [(7, .d true), (8, .v (.fn 59 [])), (11, .v (vb true)), (6000, .d true)] (apc (cv h1) (apc q1 (apc ((((F59_ok a1 h5).cp rfl _).trans (congrArg (fun z => some (vb z)) h6)) : CP prg 59 [(aG a1)] [bG a1] = some (vb true)) (apc ((okT_of rfl (abl_cons rfl rfl)) : okT 1 [bG a1] = true) apn)))) (by kernel_rfl)
     ·
      rw [← sj h]
      exact xretY (n := 30) [(7, .d true), (8, .v (.fn 59 [])), (11, .v (vb false)), (6000, .d true)] (apc (cv h1) (apc q1 (apc ((((F59_ok a1 h5).cp rfl _).trans (congrArg (fun z => some (vb z)) h6)) : CP prg 59 [(aG a1)] [bG a1] = some (vb false)) apn))) (by kernel_rfl)
    ·
     refine bi h (fun h5 h => ?_) fun h5 h => ?_
     ·
      have q1 := ((ix_lit h5 (fun z => ixG false 4 1 (.agg [(.fn 57 []), (.fn 58 []), (.fn 59 []), (.fn 60 [])]) (i6 z)) rfl) : ixG false 4 1 (.agg [(.fn 57 []), (.fn 58 []), (.fn 59 []), (.fn 60 [])]) (i6 v1) = some (.fn 60 []))
      refine bn h fun x6 h6 h => ?_
      refine bi h (fun h7 h => ?_) fun h7 h => ?_
      ·
       rw [← sj h]
       exact rnd (n := 30) [(7, .d true), (8, .v (.fn 60 [])), (11, .v (vb true)), (6000, .d true)] (apc (cv h1) (apc q1 (apc ((((F60_ok a1 h6).cp rfl _).trans (congrArg (fun z => some (vb z)) h7)) : CP prg 60 [(aG a1)] [bG a1] = some (vb true)) (apc ((okT_of rfl (abl_cons rfl rfl)) : okT 1 [bG a1] = true) apn)))) (by kernel_rfl)
      ·
       rw [← sj h]
       exact xretY (n := 30) [(7, .d true), (8, .v (.fn 60 [])), (11, .v (vb false)), (6000, .d true)] (apc (cv h1) (apc q1 (apc ((((F60_ok a1 h6).cp rfl _).trans (congrArg (fun z => some (vb z)) h7)) : CP prg 60 [(aG a1)] [bG a1] = some (vb false)) apn))) (by kernel_rfl)
     ·
      cases h
 ·
  rw [← sj h]
  exact xbrk (n := 30) [(7, .d false), (6000, .d true)] (apc (cv h1) apn) (by kernel_rfl)
theorem L29_0_run (a1 : GramD) (s0 : Int) (e : E_L29_0) (h : runL (fun s => L29_0 a1 s) s0 = some e) : L29_0_x a1 e (evH prg 1 [1, 5, 6] ir29_l0 (L29_0_s a1 s0)) := by
  have q := @loop_sound' (Int) E_L29_0 (fun s => L29_0 a1 s) (fun s => evH prg 1 [1, 5, 6] ir29_l0 (L29_0_s a1 s)) (L29_0_x a1) (fun s r h => L29_0_ok a1 s h) s0 e h
  exact q
noncomputable def F29 (a1 : GramD) : Option Int :=
  ((runL (fun s => L29_0 a1 s) 0).bind fun r1 => match r1 with | .k0 => (some 160) | .k1 => (some 0))
def F29_v (a1 : GramD) (x0 : Int) : AV := (i6 x0)
theorem F29_ok (a1 : GramD) {r : Int} (h : F29 a1 = some r) : PR1 prg 29 [(aG a1)] (F29_v a1 r) := by
 unfold F29 at h
 refine bn h fun r1 h1 h => ?_
 cases r1 with
 | k0 =>
  obtain ⟨g1, y1, e1⟩ := L29_0_run a1 0 _ h1
  rw [← sj h]
  exact fpr (n := 30) [(2000, .l .ret ⟨fr 14 g1 [(2, (i6 160))], y1⟩), (6000, .d true)] (apc ((okT_of rfl (abl_cons rfl rfl)) : okT 1 [bG a1] = true) (apc (e1 : evH prg 1 [1, 5, 6] ir29_l0 (L29_0_s a1 0) = some (.ret, ⟨fr 14 g1 [(2, (i6 160))], y1⟩)) apn)) rfl (by kernel_rfl)
 | k1 =>
  obtain ⟨g1, e1⟩ := L29_0_run a1 0 _ h1
  rw [← sj h]
  exact fpr (n := 30) [(2000, .l (.brk 0) ⟨fr 14 g1 [], [bG a1]⟩), (6000, .d true)] (apc ((okT_of rfl (abl_cons rfl rfl)) : okT 1 [bG a1] = true) (apc (e1 : evH prg 1 [1, 5, 6] ir29_l0 (L29_0_s a1 0) = some ((.brk 0), ⟨fr 14 g1 [], [bG a1]⟩)) apn)) rfl (by kernel_rfl)
inductive E_L45_0 where
  | k0 (x0 : List Int)
noncomputable def L45_0 (a1 : Int) (a5 : Nat) (v1 : Int) (v2 : List Int) : Option (E_L45_0 ⊕ (Int × (List Int))) :=
  (bif (decide (v1 < a1)) then ((ixN a5 v1).bind fun x2 => ((v2[x2]?).bind fun x3 => (some (.inr ((IntKind.wrap .i64 (v1 + 1)), (v2.set x2 (-1))))))) else (some (.inl (.k0 v2))))
def L45_0_s (a1 : Int) (a2 : GramD) (a4 : List Bool) (a5 : Nat) (v1 : Int) (v2 : List Int) : St := ⟨fr 42 ug [(5, (.ptr 4 0)), (27, (i6 a1)), (28, (i6 v1))], [bG a2, bI v2, bB a4, .cells 93 (ap (eGram a2) [(.sl 1 0 1 0 a5), (.sl 2 0 1 0 a5)]), .cells 89 [(.ptr 3 0)]]⟩
def L45_0_x (a1 : Int) (a2 : GramD) (a4 : List Bool) (a5 : Nat) (e : E_L45_0) (r : Option (Out × St)) : Prop := match e with | .k0 x0 => ∃ g, r = some ((.brk 0), ⟨fr 42 g [(5, (.ptr 4 0))], [bG a2, bI x0, bB a4, .cells 93 (ap (eGram a2) [(.sl 1 0 1 0 a5), (.sl 2 0 1 0 a5)]), .cells 89 [(.ptr 3 0)]]⟩)
abbrev L45_0_d0 (a2 : GramD) (v2 : List Int) (x2 : Nat) (a4 : List Bool) (a5 : Nat) : List AB := [bG a2, bI (v2.set x2 (-1)), bB a4, .cells 93 (ap (eGram a2) [(.sl 1 0 1 0 a5), (.sl 2 0 1 0 a5)]), .cells 89 [(.ptr 3 0)]]
theorem L45_0_ok (a1 : Int) (a2 : GramD) (a4 : List Bool) (a5 : Nat) (v1 : Int) (v2 : List Int) {r : E_L45_0 ⊕ (Int × (List Int))} (h : L45_0 a1 a5 v1 v2 = some r) : OkR (fun e => L45_0_x a1 a2 a4 a5 e (evH prg 5 [5, 27, 28] ir45_l0 (L45_0_s a1 a2 a4 a5 v1 v2))) (fun s => evH prg 5 [5, 27, 28] ir45_l0 (L45_0_s a1 a2 a4 a5 v1 v2) = evH prg 5 [5, 27, 28] ir45_l0 (L45_0_s a1 a2 a4 a5 s.1 s.2)) r := by
 unfold L45_0 at h
 refine bi h (fun h1 h => ?_) fun h1 h => ?_
 ·
  refine bn h fun x2 h2 h => ?_
  refine bn h fun x3 h3 h => ?_
  rw [← sj h]
  exact rnd (n := 30) [(29, .d true), (36, .v (.rp 1 0 1 x2 0)), (1036, .r ud (L45_0_d0 a2 v2 x2 a4 a5)), (6000, .d true)] (apc (cv h1) (apc ((idx_sl h2) : idxA 1 (.sl 1 0 1 0 a5) (i6 v1) = some (.rp 1 0 1 x2 0)) (apc (⟨st_row (v' := (-1)) rfl h3 rfl rfl (Nat.le_of_ble_eq_true rfl) rfl, rfl⟩ : stA [bG a2, bI v2, bB a4, .cells 93 (ap (eGram a2) [(.sl 1 0 1 0 a5), (.sl 2 0 1 0 a5)]), .cells 89 [(.ptr 3 0)]] 1 (.rp 1 0 1 x2 0) (i6 (-1)) = some (L45_0_d0 a2 v2 x2 a4 a5) ∧ ud = ud) (apc ((okT_of rfl (abl_cons rfl (abl_cons abl_row (abl_cons abl_row (abl_cons rfl (abl_cons rfl rfl)))))) : okT 5 (L45_0_d0 a2 v2 x2 a4 a5) = true) apn)))) (by kernel_rfl)
 ·
  rw [← sj h]
  exact xbrk (n := 30) [(29, .d false), (6000, .d true)] (apc (cv h1) apn) (by kernel_rfl)
theorem L45_0_run (a1 : Int) (a2 : GramD) (a4 : List Bool) (a5 : Nat) (s0 : Int × (List Int)) (e : E_L45_0) (h : runL (fun s => L45_0 a1 a5 s.1 s.2) s0 = some e) : L45_0_x a1 a2 a4 a5 e (evH prg 5 [5, 27, 28] ir45_l0 (L45_0_s a1 a2 a4 a5 s0.1 s0.2)) := by
  have q := @loop_sound' (Int × (List Int)) E_L45_0 (fun s => L45_0 a1 a5 s.1 s.2) (fun s => evH prg 5 [5, 27, 28] ir45_l0 (L45_0_s a1 a2 a4 a5 s.1 s.2)) (L45_0_x a1 a2 a4 a5) (fun s r h => L45_0_ok a1 a2 a4 a5 s.1 s.2 h) s0 e h
  exact q
noncomputable def F54 (a1 : ProdD) : Option Bool :=
  (some (a1.role != 11))
def F54_v (a1 : ProdD) (x0 : Bool) : AV := (vb x0)
theorem F54_ok (a1 : ProdD) {r : Bool} (h : F54 a1 = some r) : PR1 prg 54 [(aP a1)] (F54_v a1 r) := by
 unfold F54 at h
 rw [← sj h]
 exact fpr (n := 30) [] apn rfl (by kernel_rfl)
inductive E_L48_0 where
  | k0
  | k1 (x0 : Int)
noncomputable def L48_0 (a2 : List Int) (a4 : ProdD) (a5 : Int) (v1 : Int) (v2 : Int) : Option (E_L48_0 ⊕ (Int × Int)) :=
  (bif (decide (v2 < a5)) then ((getI a4.right v2).bind fun x2 => (bif (x2.kind == 1) then ((getI a2 x2.sort).bind fun x4 => (bif (decide (x4 < 0)) then (some (.inl (.k0))) else (some (.inr ((if 1048577 < (IntKind.wrap .i64 (v1 + x4)) then 1048577 else (IntKind.wrap .i64 (v1 + x4))), (IntKind.wrap .i64 (v2 + 1))))))) else (some (.inr ((if 1048577 < (IntKind.wrap .i64 (v1 + 1)) then 1048577 else (IntKind.wrap .i64 (v1 + 1))), (IntKind.wrap .i64 (v2 + 1))))))) else (some (.inl (.k1 v1))))
def L48_0_s (a1 : GramD) (a2 : List Int) (a3 : List Bool) (a4 : ProdD) (a5 : Int) (v1 : Int) (v2 : Int) : St := ⟨fr 35 ug [(0, (.ro (eOp a1 a2 a3))), (5, (i6 v1)), (10, (.p (.lst 6 (a4.right.map eSym)))), (11, (i6 a5)), (12, (i6 v2))], [bP a4]⟩
def L48_0_x (a1 : GramD) (a2 : List Int) (a3 : List Bool) (a4 : ProdD) (a5 : Int) (e : E_L48_0) (r : Option (Out × St)) : Prop := match e with | .k0 => ∃ g y, r = some (.ret, ⟨fr 35 g [(4, (i6 (-1)))], y⟩) | .k1 x0 => ∃ g, r = some ((.brk 0), ⟨fr 35 g [(5, (i6 x0)), (10, (.p (.lst 6 (a4.right.map eSym))))], [bP a4]⟩)
theorem L48_0_ok (a1 : GramD) (a2 : List Int) (a3 : List Bool) (a4 : ProdD) (a5 : Int) (v1 : Int) (v2 : Int) {r : E_L48_0 ⊕ (Int × Int)} (h : L48_0 a2 a4 a5 v1 v2 = some r) : OkR (fun e => L48_0_x a1 a2 a3 a4 a5 e (evH prg 1 [0, 5, 10, 11, 12] ir48_l0 (L48_0_s a1 a2 a3 a4 a5 v1 v2))) (fun s => evH prg 1 [0, 5, 10, 11, 12] ir48_l0 (L48_0_s a1 a2 a3 a4 a5 v1 v2) = evH prg 1 [0, 5, 10, 11, 12] ir48_l0 (L48_0_s a1 a2 a3 a4 a5 s.1 s.2)) r := by
 unfold L48_0 at h
 refine bi h (fun h1 h => ?_) fun h1 h => ?_
 ·
  refine bn h fun x2 h2 h => ?_
  refine bi h (fun h3 h => ?_) fun h3 h => ?_
  ·
   refine bn h fun x4 h4 h => ?_
   refine bi h (fun h5 h => ?_) fun h5 h => ?_
   ·
    rw [← sj h]
    exact xretY (n := 30) [(13, .d true), (14, .v (.ro (eSym x2))), (18, .d true), (25, .v (.ro [.val (.int .i64 x4)])), (28, .d true), (6000, .d true)] (apc (cv h1) (apc (ig eSym 6 .i64 h2) (apc (cv h3) (apc (ig eI64 1 .i64 h4) (apc (cv h5) apn))))) (by kernel_rfl)
   ·
    rw [← sj h]
    exact rnd (n := 30) [(13, .d true), (14, .v (.ro (eSym x2))), (18, .d true), (25, .v (.ro [.val (.int .i64 x4)])), (28, .d false), (6000, .d true)] (apc (cv h1) (apc (ig eSym 6 .i64 h2) (apc (cv h3) (apc (ig eI64 1 .i64 h4) (apc (cv h5) (apc ((okT_of rfl (abl_cons rfl rfl)) : okT 1 [bP a4, .cells 48 ((eSym x2).map .p)] = true) apn)))))) (by kernel_rfl)
  ·
   rw [← sj h]
   exact rnd (n := 30) [(13, .d true), (14, .v (.ro (eSym x2))), (18, .d false), (6000, .d true)] (apc (cv h1) (apc (ig eSym 6 .i64 h2) (apc (cv h3) (apc ((okT_of rfl (abl_cons rfl rfl)) : okT 1 [bP a4, .cells 48 ((eSym x2).map .p)] = true) apn)))) (by kernel_rfl)
 ·
  rw [← sj h]
  exact xbrk (n := 30) [(13, .d false), (6000, .d true)] (apc (cv h1) apn) (by kernel_rfl)
theorem L48_0_run (a1 : GramD) (a2 : List Int) (a3 : List Bool) (a4 : ProdD) (a5 : Int) (s0 : Int × Int) (e : E_L48_0) (h : runL (fun s => L48_0 a2 a4 a5 s.1 s.2) s0 = some e) : L48_0_x a1 a2 a3 a4 a5 e (evH prg 1 [0, 5, 10, 11, 12] ir48_l0 (L48_0_s a1 a2 a3 a4 a5 s0.1 s0.2)) := by
  have q := @loop_sound' (Int × Int) E_L48_0 (fun s => L48_0 a2 a4 a5 s.1 s.2) (fun s => evH prg 1 [0, 5, 10, 11, 12] ir48_l0 (L48_0_s a1 a2 a3 a4 a5 s.1 s.2)) (L48_0_x a1 a2 a3 a4 a5) (fun s r h => L48_0_ok a1 a2 a3 a4 a5 s.1 s.2 h) s0 e h
  exact q
noncomputable def F48 (a2 : List Int) (a4 : ProdD) : Option Int :=
  ((runL (fun s => L48_0 a2 a4 (a4.right.length : Int) s.1 s.2) (0, 0)).bind fun r1 => match r1 with | .k0 => (some (-1)) | .k1 x1_0 => (some x1_0))
def F48_v (a1 : GramD) (a2 : List Int) (a3 : List Bool) (a4 : ProdD) (x0 : Int) : AV := (i6 x0)
abbrev F48_d0 (g1 : Nat → AV) (x1_0 : Int) (a4 : ProdD) : St := ⟨fr 35 g1 [(5, (i6 x1_0)), (10, (.p (.lst 6 (a4.right.map eSym))))], [bP a4]⟩
theorem F48_ok (a1 : GramD) (a2 : List Int) (a3 : List Bool) (a4 : ProdD) {r : Int} (h : F48 a2 a4 = some r) : PR1 prg 48 [(.ro (eOp a1 a2 a3)), (aP a4)] (F48_v a1 a2 a3 a4 r) := by
 unfold F48 at h
 refine bn h fun r1 h1 h => ?_
 cases r1 with
 | k0 =>
  obtain ⟨g1, y1, e1⟩ := L48_0_run a1 a2 a3 a4 (a4.right.length : Int) (0, 0) _ h1
  rw [← sj h]
  exact fpr (n := 30) [(11, .v (i6 (a4.right.length : Int))), (2000, .l .ret ⟨fr 35 g1 [(4, (i6 (-1)))], y1⟩), (6000, .d true)] (apc (lg a4.right eSym 6) (apc ((okT_of rfl (abl_cons rfl rfl)) : okT 1 [bP a4] = true) (apc (e1 : evH prg 1 [0, 5, 10, 11, 12] ir48_l0 (L48_0_s a1 a2 a3 a4 (a4.right.length : Int) 0 0) = some (.ret, ⟨fr 35 g1 [(4, (i6 (-1)))], y1⟩)) apn))) rfl (by kernel_rfl)
 | k1 x1_0 =>
  obtain ⟨g1, e1⟩ := L48_0_run a1 a2 a3 a4 (a4.right.length : Int) (0, 0) _ h1
  rw [← sj h]
  exact fpr (n := 30) [(11, .v (i6 (a4.right.length : Int))), (2000, .l (.brk 0) (F48_d0 g1 x1_0 a4)), (6000, .d true)] (apc (lg a4.right eSym 6) (apc ((okT_of rfl (abl_cons rfl rfl)) : okT 1 [bP a4] = true) (apc (e1 : evH prg 1 [0, 5, 10, 11, 12] ir48_l0 (L48_0_s a1 a2 a3 a4 (a4.right.length : Int) 0 0) = some ((.brk 0), (F48_d0 g1 x1_0 a4))) apn))) rfl (by kernel_rfl)
inductive R_F69 where
  | k0 (x0 : Bool) (x1 : List Int) (x2 : List Bool)
noncomputable def F69 (a1 : ProdD) (a3 : List Int) (a4 : List Bool) (a5 : Nat) : Option R_F69 :=
  (bif (decide (a5 ≤ a3.length)) then (bif (decide (a5 ≤ a4.length)) then ((F48 (a3.take a5) a1).bind fun x3 => ((ixN a5 a1.left).bind fun x4 => ((a3[x4]?).bind fun x5 => (bif (decide (x3 < 0)) then (some (.k0 false a3 a4)) else (bif (decide (x5 ≥ 0)) then (bif (decide (x5 ≤ x3)) then (some (.k0 false a3 a4)) else ((a4[x4]?).bind fun x9 => (some (.k0 true (a3.set x4 x3) (a4.set x4 (x3 == 0)))))) else ((a4[x4]?).bind fun x8 => (some (.k0 true (a3.set x4 x3) (a4.set x4 (x3 == 0)))))))))) else none) else none)
def F69_v (a1 : ProdD) (a2 : GramD) (a3 : List Int) (a4 : List Bool) (a5 : Nat) (r : R_F69) : AV := match r with | .k0 x0 x1 x2 => (vb x0)
def F69_h (a1 : ProdD) (a2 : GramD) (a3 : List Int) (a4 : List Bool) (a5 : Nat) (r : R_F69) : List AB := match r with | .k0 x0 x1 x2 => [bG a2, bI x1, bB x2, .cells 93 (ap (eGram a2) [(.sl 1 0 1 0 a5), (.sl 2 0 1 0 a5)]), .cells 89 [(.ptr 3 0)], .row 48 6 0 (ra eSym []), bP a1, bP a1]
abbrev F69_d0 (a2 : GramD) (a3 : List Int) (a4 : List Bool) (a5 : Nat) (a1 : ProdD) : List AB := [bG a2, bI a3, bB a4, .cells 93 (ap (eGram a2) [(.sl 1 0 1 0 a5), (.sl 2 0 1 0 a5)]), .cells 89 [(.ptr 3 0)], .row 48 6 0 (ra eSym []), bP a1, bP a1]
abbrev F69_d1 (a2 : GramD) (a3 : List Int) (x4 : Nat) (x3 : Int) (a4 : List Bool) (a5 : Nat) (a1 : ProdD) : List AB := [bG a2, bI (a3.set x4 x3), bB a4, .cells 93 (ap (eGram a2) [(.sl 1 0 1 0 a5), (.sl 2 0 1 0 a5)]), .cells 89 [(.ptr 3 0)], .row 48 6 0 (ra eSym []), bP a1, bP a1]
abbrev F69_d2 (a2 : GramD) (a3 : List Int) (x4 : Nat) (x3 : Int) (a4 : List Bool) (a5 : Nat) (a1 : ProdD) : List AB := [bG a2, bI (a3.set x4 x3), bB (a4.set x4 (x3 == 0)), .cells 93 (ap (eGram a2) [(.sl 1 0 1 0 a5), (.sl 2 0 1 0 a5)]), .cells 89 [(.ptr 3 0)], .row 48 6 0 (ra eSym []), bP a1, bP a1]
theorem F69_ok (a1 : ProdD) (a2 : GramD) (a3 : List Int) (a4 : List Bool) (a5 : Nat) {r : R_F69} (h : F69 a1 a3 a4 a5 = some r) : CS prg 69 [(aP a1), (.ptr 4 0)] [bG a2, bI a3, bB a4, .cells 93 (ap (eGram a2) [(.sl 1 0 1 0 a5), (.sl 2 0 1 0 a5)]), .cells 89 [(.ptr 3 0)], .row 48 6 0 (ra eSym []), bP a1] = some (F69_v a1 a2 a3 a4 a5 r, F69_h a1 a2 a3 a4 a5 r) := by
 unfold F69 at h
 refine bi h (fun h1 h => ?_) fun h1 h => ?_
 ·
  refine bi h (fun h2 h => ?_) fun h2 h => ?_
  ·
   refine bn h fun x3 h3 h => ?_
   have q0 := (((F48_ok a2 (a3.take a5) (a4.take a5) a1 h3).own rfl (purAs_cons (purA_ptr rfl (mapO_con rfl (mapO_con rfl (mapO_con rfl (mapO_con rfl (mapO_con rfl (mapO_con (purP_sl rfl h1) (mapO_con (purP_sl rfl h2) rfl)))))))) (purAs_cons rfl purAs_nil)) rfl) : CP prg 48 [(.ptr 3 0), (aP a1)] (F69_d0 a2 a3 a4 a5 a1) = some (i6 x3))
   refine bn h fun x4 h4 h => ?_
   have q1 := ((idx_sl h4) : idxA 1 (.sl 1 0 1 0 a5) (i6 a1.left) = some (.rp 1 0 1 x4 0))
   refine bn h fun x5 h5 h => ?_
   have q2 := ((ld_row rfl h5 rfl) : ldA (F69_d0 a2 a3 a4 a5 a1) .false 1 (.rp 1 0 1 x4 0) = some (i6 x5))
   refine bi h (fun h6 h => ?_) fun h6 h => ?_
   ·
    rw [← sj h]
    exact fcs (n := 30) [(8, .v (i6 x3)), (15, .v (.rp 1 0 1 x4 0)), (16, .v (i6 x5)), (18, .d true)] (apc q0 (apc q1 (apc q2 (apc (cv h6) apn)))) (by kernel_rfl)
   ·
    refine bi h (fun h7 h => ?_) fun h7 h => ?_
    ·
     refine bi h (fun h8 h => ?_) fun h8 h => ?_
     ·
      rw [← sj h]
      exact fcs (n := 30) [(8, .v (i6 x3)), (15, .v (.rp 1 0 1 x4 0)), (16, .v (i6 x5)), (18, .d false), (21, .d true), (25, .d true)] (apc q0 (apc q1 (apc q2 (apc (cv h6) (apc (cv h7) (apc (cv h8) apn)))))) (by kernel_rfl)
     ·
      refine bn h fun x9 h9 h => ?_
      rw [← sj h]
      exact fcs (n := 30) [(8, .v (i6 x3)), (15, .v (.rp 1 0 1 x4 0)), (16, .v (i6 x5)), (18, .d false), (21, .d true), (25, .d false), (35, .v (.rp 1 0 1 x4 0)), (1035, .r ud (F69_d1 a2 a3 x4 x3 a4 a5 a1)), (44, .v (.rp 2 0 1 x4 0)), (1044, .r ud (F69_d2 a2 a3 x4 x3 a4 a5 a1))] (apc q0 (apc q1 (apc q2 (apc (cv h6) (apc (cv h7) (apc (cv h8) (apc ((idx_sl h4) : idxA 1 (.sl 1 0 1 0 a5) (i6 a1.left) = some (.rp 1 0 1 x4 0)) (apc (⟨st_row (v' := x3) rfl h5 rfl rfl (Nat.le_of_ble_eq_true rfl) rfl, rfl⟩ : stA (F69_d0 a2 a3 a4 a5 a1) 1 (.rp 1 0 1 x4 0) (i6 x3) = some (F69_d1 a2 a3 x4 x3 a4 a5 a1) ∧ ud = ud) (apc ((idx_sl h4) : idxA 1 (.sl 2 0 1 0 a5) (i6 a1.left) = some (.rp 2 0 1 x4 0)) (apc (⟨st_row (v' := (x3 == 0)) rfl h9 rfl rfl (Nat.le_of_ble_eq_true rfl) rfl, rfl⟩ : stA (F69_d1 a2 a3 x4 x3 a4 a5 a1) 1 (.rp 2 0 1 x4 0) (vb (x3 == 0)) = some (F69_d2 a2 a3 x4 x3 a4 a5 a1) ∧ ud = ud) apn)))))))))) (by kernel_rfl)
    ·
     refine bn h fun x8 h8 h => ?_
     rw [← sj h]
     exact fcs (n := 30) [(8, .v (i6 x3)), (15, .v (.rp 1 0 1 x4 0)), (16, .v (i6 x5)), (18, .d false), (21, .d false), (35, .v (.rp 1 0 1 x4 0)), (1035, .r ud (F69_d1 a2 a3 x4 x3 a4 a5 a1)), (44, .v (.rp 2 0 1 x4 0)), (1044, .r ud (F69_d2 a2 a3 x4 x3 a4 a5 a1))] (apc q0 (apc q1 (apc q2 (apc (cv h6) (apc (cv h7) (apc ((idx_sl h4) : idxA 1 (.sl 1 0 1 0 a5) (i6 a1.left) = some (.rp 1 0 1 x4 0)) (apc (⟨st_row (v' := x3) rfl h5 rfl rfl (Nat.le_of_ble_eq_true rfl) rfl, rfl⟩ : stA (F69_d0 a2 a3 a4 a5 a1) 1 (.rp 1 0 1 x4 0) (i6 x3) = some (F69_d1 a2 a3 x4 x3 a4 a5 a1) ∧ ud = ud) (apc ((idx_sl h4) : idxA 1 (.sl 2 0 1 0 a5) (i6 a1.left) = some (.rp 2 0 1 x4 0)) (apc (⟨st_row (v' := (x3 == 0)) rfl h8 rfl rfl (Nat.le_of_ble_eq_true rfl) rfl, rfl⟩ : stA (F69_d1 a2 a3 x4 x3 a4 a5 a1) 1 (.rp 2 0 1 x4 0) (vb (x3 == 0)) = some (F69_d2 a2 a3 x4 x3 a4 a5 a1) ∧ ud = ud) apn))))))))) (by kernel_rfl)
  ·
   cases h
 ·
  cases h
inductive E_L46_0 where
  | k0 (x0 : Bool) (x1 : List Int) (x2 : List Bool)
noncomputable def L46_0 (a1 : GramD) (a2 : Int) (a5 : Nat) (v1 : Bool) (v2 : Int) (v3 : List Int) (v4 : List Bool) : Option (E_L46_0 ⊕ (Bool × Int × (List Int) × (List Bool))) :=
  (bif (decide (v2 < a2)) then ((getI a1.prods v2).bind fun x2 => ((F54 x2).bind fun x3 => (bif x3 then ((F69 x2 v3 v4 a5).bind fun r5 => match r5 with | .k0 x5_0 x5_1 x5_2 => (bif x5_0 then (some (.inr (true, (IntKind.wrap .i64 (v2 + 1)), x5_1, x5_2))) else (some (.inr (v1, (IntKind.wrap .i64 (v2 + 1)), x5_1, x5_2))))) else (some (.inr (v1, (IntKind.wrap .i64 (v2 + 1)), v3, v4)))))) else (some (.inl (.k0 v1 v3 v4))))
def L46_0_s (a1 : GramD) (a2 : Int) (a5 : Nat) (v1 : Bool) (v2 : Int) (v3 : List Int) (v4 : List Bool) : St := ⟨fr 27 ug [(0, (.ptr 3 0)), (1, (.fn 69 [(.ptr 4 0)])), (4, (vb v1)), (11, (.p (.lst 7 (a1.prods.map eProd)))), (12, (i6 a2)), (13, (i6 v2))], [bG a1, bI v3, bB v4, .cells 93 (ap (eGram a1) [(.sl 1 0 1 0 a5), (.sl 2 0 1 0 a5)]), .cells 89 [(.ptr 3 0)]]⟩
def L46_0_x (a1 : GramD) (a2 : Int) (a5 : Nat) (e : E_L46_0) (r : Option (Out × St)) : Prop := match e with | .k0 x0 x1 x2 => ∃ g, r = some ((.brk 2), ⟨fr 27 g [(0, (.ptr 3 0)), (1, (.fn 69 [(.ptr 4 0)])), (4, (vb x0)), (11, (.p (.lst 7 (a1.prods.map eProd))))], [bG a1, bI x1, bB x2, .cells 93 (ap (eGram a1) [(.sl 1 0 1 0 a5), (.sl 2 0 1 0 a5)]), .cells 89 [(.ptr 3 0)]]⟩)
abbrev L46_0_d0 (a1 : GramD) (v3 : List Int) (v4 : List Bool) (a5 : Nat) (x2 : ProdD) : List AB := [bG a1, bI v3, bB v4, .cells 93 (ap (eGram a1) [(.sl 1 0 1 0 a5), (.sl 2 0 1 0 a5)]), .cells 89 [(.ptr 3 0)], .row 48 6 0 (ra eSym []), bP x2]
abbrev L46_0_d1 (a1 : GramD) (x5_1 : List Int) (x5_2 : List Bool) (a5 : Nat) (x2 : ProdD) : List AB := [bG a1, bI x5_1, bB x5_2, .cells 93 (ap (eGram a1) [(.sl 1 0 1 0 a5), (.sl 2 0 1 0 a5)]), .cells 89 [(.ptr 3 0)], .row 48 6 0 (ra eSym []), bP x2, bP x2]
theorem L46_0_ok (a1 : GramD) (a2 : Int) (a5 : Nat) (v1 : Bool) (v2 : Int) (v3 : List Int) (v4 : List Bool) {r : E_L46_0 ⊕ (Bool × Int × (List Int) × (List Bool))} (h : L46_0 a1 a2 a5 v1 v2 v3 v4 = some r) : OkR (fun e => L46_0_x a1 a2 a5 e (evH prg 5 [0, 1, 4, 11, 12, 13] ir46_l0 (L46_0_s a1 a2 a5 v1 v2 v3 v4))) (fun s => evH prg 5 [0, 1, 4, 11, 12, 13] ir46_l0 (L46_0_s a1 a2 a5 v1 v2 v3 v4) = evH prg 5 [0, 1, 4, 11, 12, 13] ir46_l0 (L46_0_s a1 a2 a5 s.1 s.2.1 s.2.2.1 s.2.2.2)) r := by
 unfold L46_0 at h
 refine bi h (fun h1 h => ?_) fun h1 h => ?_
 ·
  refine bn h fun x2 h2 h => ?_
  refine bn h fun x3 h3 h => ?_
  refine bi h (fun h4 h => ?_) fun h4 h => ?_
  ·
   have q2 := ((((F54_ok x2 h3).cp rfl _).trans (congrArg (fun z => some (vb z)) h4)) : CP prg 54 [(aP x2)] (L46_0_d0 a1 v3 v4 a5 x2) = some (vb true))
   refine bn h fun r5 h5 h => ?_
   cases r5 with
   | k0 x5_0 x5_1 x5_2 =>
    refine bi h (fun h6 h => ?_) fun h6 h => ?_
    ·
     rw [← sj h]
     exact rnd (n := 30) [(14, .d true), (15, .v (.ro (eProd x2))), (18, .v (vb true)), (22, .r (vb true) (L46_0_d1 a1 x5_1 x5_2 a5 x2)), (6000, .d true)] (apc (cv h1) (apc (ig eProd 7 .i64 h2) (apc q2 (apc (((F69_ok x2 a1 v3 v4 a5 h5).trans (congrArg (fun z => some (vb z, ((L46_0_d1 a1 x5_1 x5_2 a5 x2) : List AB))) h6)) : CS prg 69 [(aP x2), (.ptr 4 0)] (L46_0_d0 a1 v3 v4 a5 x2) = some (vb true, (L46_0_d1 a1 x5_1 x5_2 a5 x2))) (apc ((okT_of rfl (abl_cons rfl (abl_cons abl_row (abl_cons abl_row (abl_cons rfl (abl_cons rfl rfl)))))) : okT 5 (L46_0_d1 a1 x5_1 x5_2 a5 x2) = true) apn))))) (by kernel_rfl)
    ·
     rw [← sj h]
     exact rnd (n := 30) [(14, .d true), (15, .v (.ro (eProd x2))), (18, .v (vb true)), (22, .r (vb false) (L46_0_d1 a1 x5_1 x5_2 a5 x2)), (6000, .d true)] (apc (cv h1) (apc (ig eProd 7 .i64 h2) (apc q2 (apc (((F69_ok x2 a1 v3 v4 a5 h5).trans (congrArg (fun z => some (vb z, ((L46_0_d1 a1 x5_1 x5_2 a5 x2) : List AB))) h6)) : CS prg 69 [(aP x2), (.ptr 4 0)] (L46_0_d0 a1 v3 v4 a5 x2) = some (vb false, (L46_0_d1 a1 x5_1 x5_2 a5 x2))) (apc ((okT_of rfl (abl_cons rfl (abl_cons abl_row (abl_cons abl_row (abl_cons rfl (abl_cons rfl rfl)))))) : okT 5 (L46_0_d1 a1 x5_1 x5_2 a5 x2) = true) apn))))) (by kernel_rfl)
  ·
   rw [← sj h]
   exact rnd (n := 30) [(14, .d true), (15, .v (.ro (eProd x2))), (18, .v (vb false)), (6000, .d true)] (apc (cv h1) (apc (ig eProd 7 .i64 h2) (apc ((((F54_ok x2 h3).cp rfl _).trans (congrArg (fun z => some (vb z)) h4)) : CP prg 54 [(aP x2)] (L46_0_d0 a1 v3 v4 a5 x2) = some (vb false)) (apc ((okT_of rfl (abl_cons rfl (abl_cons abl_row (abl_cons abl_row (abl_cons rfl (abl_cons rfl rfl)))))) : okT 5 (L46_0_d0 a1 v3 v4 a5 x2) = true) apn)))) (by kernel_rfl)
 ·
  rw [← sj h]
  exact xbrk (n := 30) [(14, .d false), (6000, .d true)] (apc (cv h1) apn) (by kernel_rfl)
theorem L46_0_run (a1 : GramD) (a2 : Int) (a5 : Nat) (s0 : Bool × Int × (List Int) × (List Bool)) (e : E_L46_0) (h : runL (fun s => L46_0 a1 a2 a5 s.1 s.2.1 s.2.2.1 s.2.2.2) s0 = some e) : L46_0_x a1 a2 a5 e (evH prg 5 [0, 1, 4, 11, 12, 13] ir46_l0 (L46_0_s a1 a2 a5 s0.1 s0.2.1 s0.2.2.1 s0.2.2.2)) := by
  have q := @loop_sound' (Bool × Int × (List Int) × (List Bool)) E_L46_0 (fun s => L46_0 a1 a2 a5 s.1 s.2.1 s.2.2.1 s.2.2.2) (fun s => evH prg 5 [0, 1, 4, 11, 12, 13] ir46_l0 (L46_0_s a1 a2 a5 s.1 s.2.1 s.2.2.1 s.2.2.2)) (L46_0_x a1 a2 a5) (fun s r h => L46_0_ok a1 a2 a5 s.1 s.2.1 s.2.2.1 s.2.2.2 h) s0 e h
  exact q
inductive E_L46_1 where
  | k0 (x0 : List Int) (x1 : List Bool)
noncomputable def L46_1 (a1 : GramD) (a4 : Nat) (v1 : List Int) (v2 : List Bool) : Option (E_L46_1 ⊕ ((List Int) × (List Bool))) :=
  ((runL (fun s => L46_0 a1 (a1.prods.length : Int) a4 s.1 s.2.1 s.2.2.1 s.2.2.2) (false, 0, v1, v2)).bind fun r1 => match r1 with | .k0 x1_0 x1_1 x1_2 => (bif x1_0 then (some (.inr (x1_1, x1_2))) else (some (.inl (.k0 x1_1 x1_2)))))
def L46_1_s (a1 : GramD) (a4 : Nat) (v1 : List Int) (v2 : List Bool) : St := ⟨fr 27 ug [(0, (.ptr 3 0)), (1, (.fn 69 [(.ptr 4 0)]))], [bG a1, bI v1, bB v2, .cells 93 (ap (eGram a1) [(.sl 1 0 1 0 a4), (.sl 2 0 1 0 a4)]), .cells 89 [(.ptr 3 0)]]⟩
def L46_1_x (a1 : GramD) (a4 : Nat) (e : E_L46_1) (r : Option (Out × St)) : Prop := match e with | .k0 x0 x1 => ∃ g, r = some ((.brk 0), ⟨fr 27 g [(0, (.ptr 3 0)), (1, (.fn 69 [(.ptr 4 0)]))], [bG a1, bI x0, bB x1, .cells 93 (ap (eGram a1) [(.sl 1 0 1 0 a4), (.sl 2 0 1 0 a4)]), .cells 89 [(.ptr 3 0)]]⟩)
abbrev L46_1_d0 (g1 : Nat → AV) (x1_0 : Bool) (a1 : GramD) (x1_1 : List Int) (x1_2 : List Bool) (a4 : Nat) : St := ⟨fr 27 g1 [(0, (.ptr 3 0)), (1, (.fn 69 [(.ptr 4 0)])), (4, (vb x1_0)), (11, (.p (.lst 7 (a1.prods.map eProd))))], [bG a1, bI x1_1, bB x1_2, .cells 93 (ap (eGram a1) [(.sl 1 0 1 0 a4), (.sl 2 0 1 0 a4)]), .cells 89 [(.ptr 3 0)]]⟩
abbrev L46_1_c0 (g1 : Nat → AV) (x1_0 : Bool) (a1 : GramD) (x1_1 : List Int) (x1_2 : List Bool) (a4 : Nat) : List (Nat × Hint) := [(2002, .l (.brk 2) (L46_1_d0 g1 x1_0 a1 x1_1 x1_2 a4))]
theorem L46_1_ok (a1 : GramD) (a4 : Nat) (v1 : List Int) (v2 : List Bool) {r : E_L46_1 ⊕ ((List Int) × (List Bool))} (h : L46_1 a1 a4 v1 v2 = some r) : OkR (fun e => L46_1_x a1 a4 e (evH prg 5 [0, 1] ir46_l1 (L46_1_s a1 a4 v1 v2))) (fun s => evH prg 5 [0, 1] ir46_l1 (L46_1_s a1 a4 v1 v2) = evH prg 5 [0, 1] ir46_l1 (L46_1_s a1 a4 s.1 s.2)) r := by
 unfold L46_1 at h
 refine bn h fun r1 h1 h => ?_
 cases r1 with
 | k0 x1_0 x1_1 x1_2 =>
  obtain ⟨g1, e1⟩ := L46_0_run a1 (a1.prods.length : Int) a4 (false, 0, v1, v2) _ h1
  have q1 := ((okT_of rfl (abl_cons rfl (abl_cons abl_row (abl_cons abl_row (abl_cons rfl (abl_cons rfl rfl)))))) : okT 5 [bG a1, bI v1, bB v2, .cells 93 (ap (eGram a1) [(.sl 1 0 1 0 a4), (.sl 2 0 1 0 a4)]), .cells 89 [(.ptr 3 0)]] = true)
  have q2 := (e1 : evH prg 5 [0, 1, 4, 11, 12, 13] ir46_l0 (L46_0_s a1 (a1.prods.length : Int) a4 false 0 v1 v2) = some ((.brk 2), (L46_1_d0 g1 x1_0 a1 x1_1 x1_2 a4)))
  refine bi h (fun h2 h => ?_) fun h2 h => ?_
  ·
   rw [← sj h]
   exact rnd (n := 30) ([(12, .v (i6 (a1.prods.length : Int)))] ++ ((L46_1_c0 g1 x1_0 a1 x1_1 x1_2 a4) ++ [(25, .d true), (6000, .d true)])) (apc (lg a1.prods eProd 7) (apc q1 (apc q2 (apc (cv h2) (apc ((okT_of rfl (abl_cons rfl (abl_cons abl_row (abl_cons abl_row (abl_cons rfl (abl_cons rfl rfl)))))) : okT 5 [bG a1, bI x1_1, bB x1_2, .cells 93 (ap (eGram a1) [(.sl 1 0 1 0 a4), (.sl 2 0 1 0 a4)]), .cells 89 [(.ptr 3 0)]] = true) apn))))) (by kernel_rfl)
  ·
   rw [← sj h]
   exact xbrk (n := 30) ([(12, .v (i6 (a1.prods.length : Int)))] ++ ((L46_1_c0 g1 x1_0 a1 x1_1 x1_2 a4) ++ [(25, .d false), (6000, .d true)])) (apc (lg a1.prods eProd 7) (apc q1 (apc q2 (apc (cv h2) apn)))) (by kernel_rfl)
theorem L46_1_run (a1 : GramD) (a4 : Nat) (s0 : (List Int) × (List Bool)) (e : E_L46_1) (h : runL (fun s => L46_1 a1 a4 s.1 s.2) s0 = some e) : L46_1_x a1 a4 e (evH prg 5 [0, 1] ir46_l1 (L46_1_s a1 a4 s0.1 s0.2)) := by
  have q := @loop_sound' ((List Int) × (List Bool)) E_L46_1 (fun s => L46_1 a1 a4 s.1 s.2) (fun s => evH prg 5 [0, 1] ir46_l1 (L46_1_s a1 a4 s.1 s.2)) (L46_1_x a1 a4) (fun s r h => L46_1_ok a1 a4 s.1 s.2 h) s0 e h
  exact q
inductive E_L46_2 where
  | k0 (x0 : List Int) (x1 : List Bool)
noncomputable def L46_2 (a1 : GramD) (a2 : List Int) (a3 : List Bool) (a4 : Nat) : Option (E_L46_2 ⊕ (Unit)) :=
  ((runL (fun s => L46_1 a1 a4 s.1 s.2) (a2, a3)).bind fun r1 => match r1 with | .k0 x1_0 x1_1 => (some (.inl (.k0 x1_0 x1_1))))
def L46_2_s (a1 : GramD) (a2 : List Int) (a3 : List Bool) (a4 : Nat) : St := ⟨fr 27 ug [(0, (.ptr 3 0)), (1, (.fn 69 [(.ptr 4 0)]))], [bG a1, bI a2, bB a3, .cells 93 (ap (eGram a1) [(.sl 1 0 1 0 a4), (.sl 2 0 1 0 a4)]), .cells 89 [(.ptr 3 0)]]⟩
def L46_2_x (a1 : GramD) (a2 : List Int) (a3 : List Bool) (a4 : Nat) (e : E_L46_2) (r : Option (Out × St)) : Prop := match e with | .k0 x0 x1 => ∃ g, r = some ((.brk 2000000), ⟨fr 27 g [], [bG a1, bI x0, bB x1, .cells 93 (ap (eGram a1) [(.sl 1 0 1 0 a4), (.sl 2 0 1 0 a4)]), .cells 89 [(.ptr 3 0)]]⟩)
abbrev L46_2_d0 (g1 : Nat → AV) (a1 : GramD) (x1_0 : List Int) (x1_1 : List Bool) (a4 : Nat) : St := ⟨fr 27 g1 [(0, (.ptr 3 0)), (1, (.fn 69 [(.ptr 4 0)]))], [bG a1, bI x1_0, bB x1_1, .cells 93 (ap (eGram a1) [(.sl 1 0 1 0 a4), (.sl 2 0 1 0 a4)]), .cells 89 [(.ptr 3 0)]]⟩
theorem L46_2_ok (a1 : GramD) (a2 : List Int) (a3 : List Bool) (a4 : Nat) {r : E_L46_2 ⊕ (Unit)} (h : L46_2 a1 a2 a3 a4 = some r) : OkR (fun e => L46_2_x a1 a2 a3 a4 e (evH prg 5 [0, 1] ir46_l2 (L46_2_s a1 a2 a3 a4))) (fun s => evH prg 5 [0, 1] ir46_l2 (L46_2_s a1 a2 a3 a4) = evH prg 5 [0, 1] ir46_l2 (L46_2_s a1 a2 a3 a4)) r := by
 unfold L46_2 at h
 refine bn h fun r1 h1 h => ?_
 cases r1 with
 | k0 x1_0 x1_1 =>
  obtain ⟨g1, e1⟩ := L46_1_run a1 a4 (a2, a3) _ h1
  rw [← sj h]
  exact xbrk (n := 30) [(2000, .l (.brk 0) (L46_2_d0 g1 a1 x1_0 x1_1 a4)), (6000, .d true)] (apc ((okT_of rfl (abl_cons rfl (abl_cons abl_row (abl_cons abl_row (abl_cons rfl (abl_cons rfl rfl)))))) : okT 5 [bG a1, bI a2, bB a3, .cells 93 (ap (eGram a1) [(.sl 1 0 1 0 a4), (.sl 2 0 1 0 a4)]), .cells 89 [(.ptr 3 0)]] = true) (apc (e1 : evH prg 5 [0, 1] ir46_l1 (L46_1_s a1 a4 a2 a3) = some ((.brk 0), (L46_2_d0 g1 a1 x1_0 x1_1 a4))) apn)) (by kernel_rfl)
theorem L46_2_run (a1 : GramD) (a2 : List Int) (a3 : List Bool) (a4 : Nat) (s0 : Unit) (e : E_L46_2) (h : runL (fun s => L46_2 a1 a2 a3 a4) s0 = some e) : L46_2_x a1 a2 a3 a4 e (evH prg 5 [0, 1] ir46_l2 (L46_2_s a1 a2 a3 a4)) := by
  have q := @loop_sound' (Unit) E_L46_2 (fun s => L46_2 a1 a2 a3 a4) (fun s => evH prg 5 [0, 1] ir46_l2 (L46_2_s a1 a2 a3 a4)) (L46_2_x a1 a2 a3 a4) (fun s r h => L46_2_ok a1 a2 a3 a4 h) s0 e h
  exact q
inductive R_F46 where
  | k0 (x0 : List Int) (x1 : List Bool)
noncomputable def F46 (a1 : GramD) (a2 : List Int) (a3 : List Bool) (a4 : Nat) : Option R_F46 :=
  ((runL (fun s => L46_2 a1 a2 a3 a4) ()).bind fun r1 => match r1 with | .k0 x1_0 x1_1 => (some (.k0 x1_0 x1_1)))
def F46_v (a1 : GramD) (a2 : List Int) (a3 : List Bool) (a4 : Nat) (r : R_F46) : AV := match r with | .k0 x0 x1 => (.tup [])
def F46_h (a1 : GramD) (a2 : List Int) (a3 : List Bool) (a4 : Nat) (r : R_F46) : List AB := match r with | .k0 x0 x1 => [bG a1, bI x0, bB x1, .cells 93 (ap (eGram a1) [(.sl 1 0 1 0 a4), (.sl 2 0 1 0 a4)]), .cells 89 [(.ptr 3 0)]]
abbrev F46_d0 (g1 : Nat → AV) (a1 : GramD) (x1_0 : List Int) (x1_1 : List Bool) (a4 : Nat) : St := ⟨fr 27 g1 [], [bG a1, bI x1_0, bB x1_1, .cells 93 (ap (eGram a1) [(.sl 1 0 1 0 a4), (.sl 2 0 1 0 a4)]), .cells 89 [(.ptr 3 0)]]⟩
theorem F46_ok (a1 : GramD) (a2 : List Int) (a3 : List Bool) (a4 : Nat) {r : R_F46} (h : F46 a1 a2 a3 a4 = some r) : CS prg 46 [(.ptr 3 0), (.fn 69 [(.ptr 4 0)])] [bG a1, bI a2, bB a3, .cells 93 (ap (eGram a1) [(.sl 1 0 1 0 a4), (.sl 2 0 1 0 a4)]), .cells 89 [(.ptr 3 0)]] = some (F46_v a1 a2 a3 a4 r, F46_h a1 a2 a3 a4 r) := by
 unfold F46 at h
 refine bn h fun r1 h1 h => ?_
 cases r1 with
 | k0 x1_0 x1_1 =>
  obtain ⟨g1, e1⟩ := L46_2_run a1 a2 a3 a4 () _ h1
  rw [← sj h]
  exact fcs (n := 30) [(2002000, .l (.brk 2000000) (F46_d0 g1 a1 x1_0 x1_1 a4)), (6000, .d true)] (apc ((okT_of rfl (abl_cons rfl (abl_cons abl_row (abl_cons abl_row (abl_cons rfl (abl_cons rfl rfl)))))) : okT 5 [bG a1, bI a2, bB a3, .cells 93 (ap (eGram a1) [(.sl 1 0 1 0 a4), (.sl 2 0 1 0 a4)]), .cells 89 [(.ptr 3 0)]] = true) (apc (e1 : evH prg 5 [0, 1] ir46_l2 (L46_2_s a1 a2 a3 a4) = some ((.brk 2000000), (F46_d0 g1 a1 x1_0 x1_1 a4))) apn)) (by kernel_rfl)
inductive R_F45 where
  | k0 (x0 : Int)
  | k1 (x0 : List ByteArray) (x1 : List ProdD) (x2 : Int) (x3 : List ForbD) (x4 : List FollD) (x5 : List Int) (x6 : List Bool)
noncomputable def F45 (a1 : GramD) : Option R_F45 :=
  ((F29 a1).bind fun x1 => (bif (x1 != 0) then (some (.k0 x1)) else (bif (mkOk (a1.sorts.length : Int) 8) then (bif (mkOk (a1.sorts.length : Int) 1) then ((runL (fun s => L45_0 (((Int.toNat (a1.sorts.length : Int)) : Nat) : Int) (Int.toNat (a1.sorts.length : Int)) s.1 s.2) (0, (List.replicate (Int.toNat (a1.sorts.length : Int)) 0))).bind fun r5 => match r5 with | .k0 x5_0 => ((F46 a1 x5_0 (List.replicate (Int.toNat (a1.sorts.length : Int)) false) (Int.toNat (a1.sorts.length : Int))).bind fun r6 => match r6 with | .k0 x6_0 x6_1 => (bif (decide ((Int.toNat (a1.sorts.length : Int)) ≤ x6_0.length)) then (bif (decide ((Int.toNat (a1.sorts.length : Int)) ≤ x6_1.length)) then (some (.k1 a1.sorts a1.prods a1.start a1.forbid a1.follow (x6_0.take (Int.toNat (a1.sorts.length : Int))) (x6_1.take (Int.toNat (a1.sorts.length : Int))))) else none) else none))) else none) else none)))
def F45_v (a1 : GramD) (r : R_F45) : AV := match r with | .k0 x0 => (.tup [(.p (.val (.pointer .none))), (i6 x0)]) | .k1 x0 x1 x2 x3 x4 x5 x6 => (.tup [(.ro [.lst 1 (x0.map eStr), .lst 7 (x1.map eProd), .val (.int .i64 x2), .lst 3 (x3.map eForb), .lst 5 (x4.map eFoll), .lst 1 (x5.map eI64), .lst 1 (x6.map eBool)]), (i6 0)])
abbrev F45_d0 (g5 : Nat → AV) (a1 : GramD) (x5_0 : List Int) : St := ⟨fr 42 g5 [(5, (.ptr 4 0))], [bG a1, bI x5_0, bB (List.replicate (Int.toNat (a1.sorts.length : Int)) false), .cells 93 (ap (eGram a1) [(.sl 1 0 1 0 (Int.toNat (a1.sorts.length : Int))), (.sl 2 0 1 0 (Int.toNat (a1.sorts.length : Int)))]), .cells 89 [(.ptr 3 0)]]⟩
abbrev F45_d1 (a1 : GramD) (x6_0 : List Int) (x6_1 : List Bool) : List AB := [bG a1, bI x6_0, bB x6_1, .cells 93 (ap (eGram a1) [(.sl 1 0 1 0 (Int.toNat (a1.sorts.length : Int))), (.sl 2 0 1 0 (Int.toNat (a1.sorts.length : Int)))]), .cells 89 [(.ptr 3 0)]]
abbrev F45_c0 (a1 : GramD) : List (Nat × Hint) := [(16, .r (.sl 1 0 1 0 (Int.toNat (a1.sorts.length : Int))) [bI (List.replicate (Int.toNat (a1.sorts.length : Int)) 0)]), (19, .v (i6 (a1.sorts.length : Int)))]
abbrev F45_c1 (a1 : GramD) : List (Nat × Hint) := [(20, .r (.sl 2 0 1 0 (Int.toNat (a1.sorts.length : Int))) [bB (List.replicate (Int.toNat (a1.sorts.length : Int)) false)])]
abbrev F45_c2 (g5 : Nat → AV) (a1 : GramD) (x5_0 : List Int) : List (Nat × Hint) := [(2000, .l (.brk 0) (F45_d0 g5 a1 x5_0))]
abbrev F45_c3 (a1 : GramD) (x6_0 : List Int) (x6_1 : List Bool) : List (Nat × Hint) := [(40, .r (.tup []) (F45_d1 a1 x6_0 x6_1))]
theorem F45_ok (a1 : GramD) {r : R_F45} (h : F45 a1 = some r) : PR1 prg 45 [(aG a1)] (F45_v a1 r) := by
 unfold F45 at h
 refine bn h fun x1 h1 h => ?_
 have q0 := (((F29_ok a1 h1).cp rfl _) : CP prg 29 [(aG a1)] [bG a1] = some (i6 x1))
 refine bi h (fun h2 h => ?_) fun h2 h => ?_
 ·
  rw [← sj h]
  exact fpr (n := 30) [(8, .v (i6 x1)), (10, .d true)] (apc q0 (apc (cv h2) apn)) rfl (by kernel_rfl)
 ·
  refine bi h (fun h3 h => ?_) fun h3 h => ?_
  ·
   have q3 := ((mk_row (e := eI64) (z := 0) h3 rfl) : mkA 3 1 8 [.val (.int .i64 0)] (i6 (a1.sorts.length : Int)) (i6 (a1.sorts.length : Int)) 1 = some ((.sl 1 0 1 0 (Int.toNat (a1.sorts.length : Int))), bI (List.replicate (Int.toNat (a1.sorts.length : Int)) 0)))
   refine bi h (fun h4 h => ?_) fun h4 h => ?_
   ·
    have q5 := ((mk_row (e := eBool) (z := false) h4 rfl) : mkA 4 1 1 [.val (.bool false)] (i6 (a1.sorts.length : Int)) (i6 (a1.sorts.length : Int)) 2 = some ((.sl 2 0 1 0 (Int.toNat (a1.sorts.length : Int))), bB (List.replicate (Int.toNat (a1.sorts.length : Int)) false)))
    refine bn h fun r5 h5 h => ?_
    cases r5 with
    | k0 x5_0 =>
     obtain ⟨g5, e5⟩ := L45_0_run (((Int.toNat (a1.sorts.length : Int)) : Nat) : Int) a1 (List.replicate (Int.toNat (a1.sorts.length : Int)) false) (Int.toNat (a1.sorts.length : Int)) (0, (List.replicate (Int.toNat (a1.sorts.length : Int)) 0)) _ h5
     have q6 := ((okT_of rfl (abl_cons rfl (abl_cons abl_row (abl_cons abl_row (abl_cons rfl (abl_cons rfl rfl)))))) : okT 5 [bG a1, bI (List.replicate (Int.toNat (a1.sorts.length : Int)) 0), bB (List.replicate (Int.toNat (a1.sorts.length : Int)) false), .cells 93 (ap (eGram a1) [(.sl 1 0 1 0 (Int.toNat (a1.sorts.length : Int))), (.sl 2 0 1 0 (Int.toNat (a1.sorts.length : Int)))]), .cells 89 [(.ptr 3 0)]] = true)
     have q7 := (e5 : evH prg 5 [5, 27, 28] ir45_l0 (L45_0_s (((Int.toNat (a1.sorts.length : Int)) : Nat) : Int) a1 (List.replicate (Int.toNat (a1.sorts.length : Int)) false) (Int.toNat (a1.sorts.length : Int)) 0 (List.replicate (Int.toNat (a1.sorts.length : Int)) 0)) = some ((.brk 0), (F45_d0 g5 a1 x5_0)))
     refine bn h fun r6 h6 h => ?_
     cases r6 with
     | k0 x6_0 x6_1 =>
      have q8 := ((F46_ok a1 x5_0 (List.replicate (Int.toNat (a1.sorts.length : Int)) false) (Int.toNat (a1.sorts.length : Int)) h6) : CS prg 46 [(.ptr 3 0), (.fn 69 [(.ptr 4 0)])] [bG a1, bI x5_0, bB (List.replicate (Int.toNat (a1.sorts.length : Int)) false), .cells 93 (ap (eGram a1) [(.sl 1 0 1 0 (Int.toNat (a1.sorts.length : Int))), (.sl 2 0 1 0 (Int.toNat (a1.sorts.length : Int)))]), .cells 89 [(.ptr 3 0)]] = some ((.tup []), (F45_d1 a1 x6_0 x6_1)))
      refine bi h (fun h7 h => ?_) fun h7 h => ?_
      ·
       refine bi h (fun h8 h => ?_) fun h8 h => ?_
       ·
        rw [← sj h]
        exact fpo (n := 30) (v := (.tup [(.ptr 3 0), (i6 0)])) (h' := (F45_d1 a1 x6_0 x6_1)) ([(8, .v (i6 x1)), (10, .d false), (15, .v (i6 (a1.sorts.length : Int)))] ++ ((F45_c0 a1) ++ ((F45_c1 a1) ++ ((F45_c2 g5 a1 x5_0) ++ ((F45_c3 a1 x6_0 x6_1) ++ [(6000, .d true)]))))) (apc q0 (apc (cv h2) (apc (lg a1.sorts eStr 1) (apc q3 (apc (lg a1.sorts eStr 1) (apc q5 (apc q6 (apc q7 (apc q8 apn))))))))) (purA_tup (purAs_cons (purA_ptr rfl (mapO_con rfl (mapO_con rfl (mapO_con rfl (mapO_con rfl (mapO_con rfl (mapO_con (purP_sl rfl h7) (mapO_con (purP_sl rfl h8) rfl)))))))) (purAs_cons rfl purAs_nil))) (by kernel_rfl)
       ·
        cases h
      ·
       cases h
   ·
    cases h
  ·
   cases h
inductive R_F13 where
  | k0 (x0 : List Int) (x1 : Int)
noncomputable def F13 (a1 : GramD) : Option R_F13 :=
  ((F45 a1).bind fun r1 => match r1 with | .k0 x1_0 => (bif (x1_0 != 0) then (some (.k0 ([]) x1_0)) else none) | .k1 x1_0 x1_1 x1_2 x1_3 x1_4 x1_5 x1_6 => (some (.k0 x1_5 0)))
def F13_v (a1 : GramD) (r : R_F13) : AV := match r with | .k0 x0 x1 => (.tup [(.p (.lst 1 (x0.map eI64))), (i6 x1)])
theorem F13_ok (a1 : GramD) {r : R_F13} (h : F13 a1 = some r) : PR1 prg 13 [(aG a1)] (F13_v a1 r) := by
 unfold F13 at h
 refine bn h fun r1 h1 h => ?_
 cases r1 with
 | k0 x1_0 =>
  have q0 := (((F45_ok a1 h1).cp rfl _) : CP prg 45 [(aG a1)] [bG a1, bI []] = some (.tup [(.p (.val (.pointer .none))), (i6 x1_0)]))
  refine bi h (fun h2 h => ?_) fun h2 h => ?_
  ·
   rw [← sj h]
   exact fpo (n := 30) (v := (.tup [(.sl 2 0 1 0 0), (i6 x1_0)])) (h' := [bG a1, bI [], bI []]) [(8, .v (.tup [(.p (.val (.pointer .none))), (i6 x1_0)])), (12, .d true)] (apc q0 (apc (cv h2) apn)) (purA_tup (purAs_cons (purA_sl (xs := []) rfl rfl) (purAs_cons rfl purAs_nil))) (by kernel_rfl)
  ·
   cases h
 | k1 x1_0 x1_1 x1_2 x1_3 x1_4 x1_5 x1_6 =>
  rw [← sj h]
  exact fpr (n := 30) [(8, .v (.tup [(.ro [.lst 1 (x1_0.map eStr), .lst 7 (x1_1.map eProd), .val (.int .i64 x1_2), .lst 3 (x1_3.map eForb), .lst 5 (x1_4.map eFoll), .lst 1 (x1_5.map eI64), .lst 1 (x1_6.map eBool)]), (i6 0)]))] (apc (((F45_ok a1 h1).cp rfl _) : CP prg 45 [(aG a1)] [bG a1, bI []] = some (.tup [(.ro [.lst 1 (x1_0.map eStr), .lst 7 (x1_1.map eProd), .val (.int .i64 x1_2), .lst 3 (x1_3.map eForb), .lst 5 (x1_4.map eFoll), .lst 1 (x1_5.map eI64), .lst 1 (x1_6.map eBool)]), (i6 0)])) apn) rfl (by kernel_rfl)
inductive E_L47_0 where
  | k0 (x0 : Int) (x1 : Int) (x2 : Int) (x3 : Int) (x4 : Int) (x5 : Int)
  | k1 (x0 : ByteArray)
noncomputable def L47_0 (a1 : ProdD) (a2 : Int) (a8 : List (Int × ByteArray)) (v1 : ByteArray) (v2 : Int) : Option (E_L47_0 ⊕ (ByteArray × Int)) :=
  (bif (decide (v2 < a2)) then ((getI a1.right v2).bind fun x2 => (bif (x2.kind == 0) then ((F49 x2).bind fun r4 => match r4 with | .k0 x4_0 x4_1 => (bif (decide (v1.size + (⟨([UInt8.ofNat (Int.toNat x4_0)] : List UInt8).toArray⟩ : ByteArray).size ≤ 9223372036854775807)) then (some (.inr ((v1 ++ (⟨([UInt8.ofNat (Int.toNat x4_0)] : List UInt8).toArray⟩ : ByteArray)), (IntKind.wrap .i64 (v2 + 1))))) else none)) else (bif (mhas a8 x2.sort) then (bif (decide (v1.size + (mget (⟨([] : List UInt8).toArray⟩ : ByteArray) a8 x2.sort).size ≤ 9223372036854775807)) then (some (.inr ((v1 ++ (mget (⟨([] : List UInt8).toArray⟩ : ByteArray) a8 x2.sort)), (IntKind.wrap .i64 (v2 + 1))))) else none) else (some (.inl (.k0 x2.kind x2.a x2.b x2.c x2.d x2.sort)))))) else (some (.inl (.k1 v1))))
def L47_0_s (a1 : ProdD) (a2 : Int) (a3 : GramD) (a4 : Int) (a5 : GramD) (a6 : List Int) (a7 : List Bool) (a8 : List (Int × ByteArray)) (v1 : ByteArray) (v2 : Int) : St := ⟨fr 95 ug [(3, (.ptr 4 0)), (4, (.ptr 7 0)), (7, (vs v1)), (45, (.p (.lst 6 (a1.right.map eSym)))), (46, (i6 a2)), (47, (i6 v2))], [bG a3, .cells 3 [(i6 a4)], .cells 89 [(.ro (eOp a5 a6 a7))], mIS a8, .cells 94 [(.mp 3)], .row 48 6 0 (ra eSym []), bP a1, bP a1]⟩
def L47_0_x (a1 : ProdD) (a2 : Int) (a3 : GramD) (a4 : Int) (a5 : GramD) (a6 : List Int) (a7 : List Bool) (a8 : List (Int × ByteArray)) (e : E_L47_0) (r : Option (Out × St)) : Prop := match e with | .k0 x0 x1 x2 x3 x4 x5 => ∃ g, r = some (.ret, ⟨fr 95 g [(5, (vb false))], [bG a3, .cells 3 [(i6 a4)], .cells 89 [(.ro (eOp a5 a6 a7))], mIS a8, .cells 94 [(.mp 3)], .row 48 6 0 (ra eSym []), bP a1, bP a1, .cells 48 [(i6 x0), (vi .u64 x1), (vi .u64 x2), (vi .u64 x3), (vi .u64 x4), (i6 x5)]]⟩) | .k1 x0 => ∃ g, r = some ((.brk 0), ⟨fr 95 g [(3, (.ptr 4 0)), (4, (.ptr 7 0)), (7, (vs x0)), (45, (.p (.lst 6 (a1.right.map eSym))))], [bG a3, .cells 3 [(i6 a4)], .cells 89 [(.ro (eOp a5 a6 a7))], mIS a8, .cells 94 [(.mp 3)], .row 48 6 0 (ra eSym []), bP a1, bP a1]⟩)
abbrev L47_0_d0 (a3 : GramD) (a4 : Int) (a5 : GramD) (a6 : List Int) (a7 : List Bool) (a8 : List (Int × ByteArray)) (a1 : ProdD) (x2 : SymD) : List AB := [bG a3, .cells 3 [(i6 a4)], .cells 89 [(.ro (eOp a5 a6 a7))], mIS a8, .cells 94 [(.mp 3)], .row 48 6 0 (ra eSym []), bP a1, bP a1, .cells 48 ((eSym x2).map .p)]
abbrev L47_0_c0 (a8 : List (Int × ByteArray)) (x2 : SymD) : List (Nat × Hint) := [(53, .d false), (69, .v (.tup [(vs (mget b0 a8 x2.sort)), (vb (mhas a8 x2.sort))]))]
theorem L47_0_ok (a1 : ProdD) (a2 : Int) (a3 : GramD) (a4 : Int) (a5 : GramD) (a6 : List Int) (a7 : List Bool) (a8 : List (Int × ByteArray)) (v1 : ByteArray) (v2 : Int) {r : E_L47_0 ⊕ (ByteArray × Int)} (h : L47_0 a1 a2 a8 v1 v2 = some r) : OkR (fun e => L47_0_x a1 a2 a3 a4 a5 a6 a7 a8 e (evH prg 8 [3, 4, 7, 45, 46, 47] ir47_l0 (L47_0_s a1 a2 a3 a4 a5 a6 a7 a8 v1 v2))) (fun s => evH prg 8 [3, 4, 7, 45, 46, 47] ir47_l0 (L47_0_s a1 a2 a3 a4 a5 a6 a7 a8 v1 v2) = evH prg 8 [3, 4, 7, 45, 46, 47] ir47_l0 (L47_0_s a1 a2 a3 a4 a5 a6 a7 a8 s.1 s.2)) r := by
 unfold L47_0 at h
 refine bi h (fun h1 h => ?_) fun h1 h => ?_
 ·
  refine bn h fun x2 h2 h => ?_
  refine bi h (fun h3 h => ?_) fun h3 h => ?_
  ·
   refine bn h fun r4 h4 h => ?_
   cases r4 with
   | k0 x4_0 x4_1 =>
    have q3 := (((F49_ok x2 h4).cp rfl _) : CP prg 49 [(.agg ((List.take 4 (List.drop 1 (eSym x2))).map .p))] (L47_0_d0 a3 a4 a5 a6 a7 a8 a1 x2) = some (.tup [(vi .u8 x4_0), (vb x4_1)]))
    refine bi h (fun h5 h => ?_) fun h5 h => ?_
    ·
     rw [← sj h]
     exact rnd (n := 30) [(48, .d true), (49, .v (.ro (eSym x2))), (53, .d true), (57, .v (.tup [(vi .u8 x4_0), (vb x4_1)])), (64, .v (vs (v1 ++ (⟨([UInt8.ofNat (Int.toNat x4_0)] : List UInt8).toArray⟩ : ByteArray)))), (6000, .d true)] (apc (cv h1) (apc (ig eSym 6 .i64 h2) (apc (cv h3) (apc q3 (apc ((st_add h5) : binA .add (vs v1) (vs (⟨([UInt8.ofNat (Int.toNat x4_0)] : List UInt8).toArray⟩ : ByteArray)) = some (vs (v1 ++ (⟨([UInt8.ofNat (Int.toNat x4_0)] : List UInt8).toArray⟩ : ByteArray)))) (apc ((okT_of rfl (abl_cons rfl (abl_cons rfl (abl_cons rfl (abl_cons (abl_map (fun _ => rfl) (fun _ => rfl)) (abl_cons rfl (abl_cons abl_row (abl_cons rfl (abl_cons rfl rfl))))))))) : okT 8 [bG a3, .cells 3 [(i6 a4)], .cells 89 [(.ro (eOp a5 a6 a7))], mIS a8, .cells 94 [(.mp 3)], .row 48 6 0 (ra eSym []), bP a1, bP a1, .cells 48 ((eSym x2).map .p), .row 5 1 0 [[(vi .u8 x4_0)]]] = true) apn)))))) (by kernel_rfl)
    ·
     cases h
  ·
   have q3 := ((lk_row2 key_int (es := a8) (k := x2.sort) (z := b0) rfl rfl) : lkA (L47_0_d0 a3 a4 a5 a6 a7 a8 a1 x2) [1] .false .false [(.val (.string ⟨([] : List UInt8).toArray⟩))] .true (.mp 3) (i6 x2.sort) = some (.tup [(vs (mget b0 a8 x2.sort)), (vb (mhas a8 x2.sort))]))
   refine bi h (fun h4 h => ?_) fun h4 h => ?_
   ·
    refine bi h (fun h5 h => ?_) fun h5 h => ?_
    ·
     rw [← sj h]
     exact rnd (n := 30) ([(48, .d true), (49, .v (.ro (eSym x2)))] ++ ((L47_0_c0 a8 x2) ++ [(71, .d true), (76, .v (vs (v1 ++ (mget b0 a8 x2.sort)))), (6000, .d true)])) (apc (cv h1) (apc (ig eSym 6 .i64 h2) (apc (cv h3) (apc q3 (apc (cv h4) (apc ((st_add h5) : binA .add (vs v1) (vs (mget b0 a8 x2.sort)) = some (vs (v1 ++ (mget b0 a8 x2.sort)))) (apc ((okT_of rfl (abl_cons rfl (abl_cons rfl (abl_cons rfl (abl_cons (abl_map (fun _ => rfl) (fun _ => rfl)) (abl_cons rfl (abl_cons abl_row (abl_cons rfl (abl_cons rfl rfl))))))))) : okT 8 (L47_0_d0 a3 a4 a5 a6 a7 a8 a1 x2) = true) apn))))))) (by kernel_rfl)
    ·
     cases h
   ·
    rw [← sj h]
    exact xret (n := 30) ([(48, .d true), (49, .v (.ro (eSym x2)))] ++ ((L47_0_c0 a8 x2) ++ [(71, .d false), (6000, .d true)])) (apc (cv h1) (apc (ig eSym 6 .i64 h2) (apc (cv h3) (apc q3 (apc (cv h4) apn))))) (by kernel_rfl)
 ·
  rw [← sj h]
  exact xbrk (n := 30) [(48, .d false), (6000, .d true)] (apc (cv h1) apn) (by kernel_rfl)
theorem L47_0_run (a1 : ProdD) (a2 : Int) (a3 : GramD) (a4 : Int) (a5 : GramD) (a6 : List Int) (a7 : List Bool) (a8 : List (Int × ByteArray)) (s0 : ByteArray × Int) (e : E_L47_0) (h : runL (fun s => L47_0 a1 a2 a8 s.1 s.2) s0 = some e) : L47_0_x a1 a2 a3 a4 a5 a6 a7 a8 e (evH prg 8 [3, 4, 7, 45, 46, 47] ir47_l0 (L47_0_s a1 a2 a3 a4 a5 a6 a7 a8 s0.1 s0.2)) := by
  have q := @loop_sound' (ByteArray × Int) E_L47_0 (fun s => L47_0 a1 a2 a8 s.1 s.2) (fun s => evH prg 8 [3, 4, 7, 45, 46, 47] ir47_l0 (L47_0_s a1 a2 a3 a4 a5 a6 a7 a8 s.1 s.2)) (L47_0_x a1 a2 a3 a4 a5 a6 a7 a8) (fun s r h => L47_0_ok a1 a2 a3 a4 a5 a6 a7 a8 s.1 s.2 h) s0 e h
  exact q
inductive R_F47 where
  | k0 (x0 : Bool) (x1 : List (Int × ByteArray))
  | k1 (x0 : Int) (x1 : Int) (x2 : Int) (x3 : Int) (x4 : Int) (x5 : Int)
noncomputable def F47 (a1 : ProdD) (a3 : Int) (a5 : List Int) (a7 : List (Int × ByteArray)) : Option R_F47 :=
  ((F48 a5 a1).bind fun x1 => (bif (decide (x1 < 0)) then (some (.k0 false a7)) else ((getI a5 a3).bind fun x3 => (bif (decide (x1 > x3)) then (some (.k0 false a7)) else ((getI a5 a1.left).bind fun x5 => (bif (x1 != x5) then (some (.k0 false a7)) else ((runL (fun s => L47_0 a1 (a1.right.length : Int) a7 s.1 s.2) ((⟨([] : List UInt8).toArray⟩ : ByteArray), 0)).bind fun r7 => match r7 with | .k0 x7_0 x7_1 x7_2 x7_3 x7_4 x7_5 => (some (.k1 x7_0 x7_1 x7_2 x7_3 x7_4 x7_5)) | .k1 x7_0 => (bif (mhas a7 a1.left) then (bif (Op.bytesLess (mget (⟨([] : List UInt8).toArray⟩ : ByteArray) a7 a1.left).toList x7_0.toList || (mget (⟨([] : List UInt8).toArray⟩ : ByteArray) a7 a1.left).toList == x7_0.toList) then (some (.k0 false a7)) else (some (.k0 true (mput a1.left x7_0 a7)))) else (some (.k0 true (mput a1.left x7_0 a7)))))))))))
def F47_v (a1 : ProdD) (a2 : GramD) (a3 : Int) (a4 : GramD) (a5 : List Int) (a6 : List Bool) (a7 : List (Int × ByteArray)) (r : R_F47) : AV := match r with | .k0 x0 x1 => (vb x0) | .k1 x0 x1 x2 x3 x4 x5 => (vb false)
def F47_h (a1 : ProdD) (a2 : GramD) (a3 : Int) (a4 : GramD) (a5 : List Int) (a6 : List Bool) (a7 : List (Int × ByteArray)) (r : R_F47) : List AB := match r with | .k0 x0 x1 => [bG a2, .cells 3 [(i6 a3)], .cells 89 [(.ro (eOp a4 a5 a6))], mIS x1, .cells 94 [(.mp 3)], .row 48 6 0 (ra eSym []), bP a1, bP a1] | .k1 x0 x1 x2 x3 x4 x5 => [bG a2, .cells 3 [(i6 a3)], .cells 89 [(.ro (eOp a4 a5 a6))], mIS a7, .cells 94 [(.mp 3)], .row 48 6 0 (ra eSym []), bP a1, bP a1, .cells 48 [(i6 x0), (vi .u64 x1), (vi .u64 x2), (vi .u64 x3), (vi .u64 x4), (i6 x5)]]
abbrev F47_d0 (a2 : GramD) (a3 : Int) (a4 : GramD) (a5 : List Int) (a6 : List Bool) (a7 : List (Int × ByteArray)) (a1 : ProdD) : List AB := [bG a2, .cells 3 [(i6 a3)], .cells 89 [(.ro (eOp a4 a5 a6))], mIS a7, .cells 94 [(.mp 3)], .row 48 6 0 (ra eSym []), bP a1, bP a1]
abbrev F47_c0 (g7 : Nat → AV) (x7_0 : ByteArray) (a1 : ProdD) (a2 : GramD) (a3 : Int) (a4 : GramD) (a5 : List Int) (a6 : List Bool) (a7 : List (Int × ByteArray)) : List (Nat × Hint) := [(2000, .l (.brk 0) ⟨fr 95 g7 [(3, (.ptr 4 0)), (4, (.ptr 7 0)), (7, (vs x7_0)), (45, (.p (.lst 6 (a1.right.map eSym))))], [bG a2, .cells 3 [(i6 a3)], .cells 89 [(.ro (eOp a4 a5 a6))], mIS a7, .cells 94 [(.mp 3)], .row 48 6 0 (ra eSym []), bP a1, bP a1]⟩), (82, .v (.tup [(vs (mget b0 a7 a1.left)), (vb (mhas a7 a1.left))]))]
theorem F47_ok (a1 : ProdD) (a2 : GramD) (a3 : Int) (a4 : GramD) (a5 : List Int) (a6 : List Bool) (a7 : List (Int × ByteArray)) {r : R_F47} (h : F47 a1 a3 a5 a7 = some r) : CS prg 47 [(aP a1), (.ptr 2 0), (.ptr 1 0), (.ptr 4 0)] [bG a2, .cells 3 [(i6 a3)], .cells 89 [(.ro (eOp a4 a5 a6))], mIS a7, .cells 94 [(.mp 3)], .row 48 6 0 (ra eSym []), bP a1] = some (F47_v a1 a2 a3 a4 a5 a6 a7 r, F47_h a1 a2 a3 a4 a5 a6 a7 r) := by
 unfold F47 at h
 refine bn h fun x1 h1 h => ?_
 have q0 := (((F48_ok a4 a5 a6 a1 h1).cp rfl _) : CP prg 48 [(.ro (eOp a4 a5 a6)), (aP a1)] (F47_d0 a2 a3 a4 a5 a6 a7 a1) = some (i6 x1))
 refine bi h (fun h2 h => ?_) fun h2 h => ?_
 ·
  rw [← sj h]
  exact fcs (n := 30) [(18, .v (i6 x1)), (20, .d true)] (apc q0 (apc (cv h2) apn)) (by kernel_rfl)
 ·
  refine bn h fun x3 h3 h => ?_
  refine bi h (fun h4 h => ?_) fun h4 h => ?_
  ·
   rw [← sj h]
   exact fcs (n := 30) [(18, .v (i6 x1)), (20, .d false), (28, .v (.ro [.val (.int .i64 x3)])), (30, .d true)] (apc q0 (apc (cv h2) (apc (ig eI64 1 .i64 h3) (apc (cv h4) apn)))) (by kernel_rfl)
  ·
   refine bn h fun x5 h5 h => ?_
   refine bi h (fun h6 h => ?_) fun h6 h => ?_
   ·
    rw [← sj h]
    exact fcs (n := 30) [(18, .v (i6 x1)), (20, .d false), (28, .v (.ro [.val (.int .i64 x3)])), (30, .d false), (40, .v (.ro [.val (.int .i64 x5)])), (42, .d true)] (apc q0 (apc (cv h2) (apc (ig eI64 1 .i64 h3) (apc (cv h4) (apc (ig eI64 1 .i64 h5) (apc (cv h6) apn)))))) (by kernel_rfl)
   ·
    refine bn h fun r7 h7 h => ?_
    cases r7 with
    | k0 x7_0 x7_1 x7_2 x7_3 x7_4 x7_5 =>
     obtain ⟨g7, e7⟩ := L47_0_run a1 (a1.right.length : Int) a2 a3 a4 a5 a6 a7 (b0, 0) _ h7
     rw [← sj h]
     exact fcs (n := 30) [(18, .v (i6 x1)), (20, .d false), (28, .v (.ro [.val (.int .i64 x3)])), (30, .d false), (40, .v (.ro [.val (.int .i64 x5)])), (42, .d false), (46, .v (i6 (a1.right.length : Int))), (2000, .l .ret ⟨fr 95 g7 [(5, (vb false))], [bG a2, .cells 3 [(i6 a3)], .cells 89 [(.ro (eOp a4 a5 a6))], mIS a7, .cells 94 [(.mp 3)], .row 48 6 0 (ra eSym []), bP a1, bP a1, .cells 48 [(i6 x7_0), (vi .u64 x7_1), (vi .u64 x7_2), (vi .u64 x7_3), (vi .u64 x7_4), (i6 x7_5)]]⟩), (6000, .d true)] (apc q0 (apc (cv h2) (apc (ig eI64 1 .i64 h3) (apc (cv h4) (apc (ig eI64 1 .i64 h5) (apc (cv h6) (apc (lg a1.right eSym 6) (apc ((okT_of rfl (abl_cons rfl (abl_cons rfl (abl_cons rfl (abl_cons (abl_map (fun _ => rfl) (fun _ => rfl)) (abl_cons rfl (abl_cons abl_row (abl_cons rfl (abl_cons rfl rfl))))))))) : okT 8 (F47_d0 a2 a3 a4 a5 a6 a7 a1) = true) (apc (e7 : evH prg 8 [3, 4, 7, 45, 46, 47] ir47_l0 (L47_0_s a1 (a1.right.length : Int) a2 a3 a4 a5 a6 a7 b0 0) = some (.ret, ⟨fr 95 g7 [(5, (vb false))], [bG a2, .cells 3 [(i6 a3)], .cells 89 [(.ro (eOp a4 a5 a6))], mIS a7, .cells 94 [(.mp 3)], .row 48 6 0 (ra eSym []), bP a1, bP a1, .cells 48 [(i6 x7_0), (vi .u64 x7_1), (vi .u64 x7_2), (vi .u64 x7_3), (vi .u64 x7_4), (i6 x7_5)]]⟩)) apn))))))))) (by kernel_rfl)
    | k1 x7_0 =>
     obtain ⟨g7, e7⟩ := L47_0_run a1 (a1.right.length : Int) a2 a3 a4 a5 a6 a7 (b0, 0) _ h7
     have q7 := ((okT_of rfl (abl_cons rfl (abl_cons rfl (abl_cons rfl (abl_cons (abl_map (fun _ => rfl) (fun _ => rfl)) (abl_cons rfl (abl_cons abl_row (abl_cons rfl (abl_cons rfl rfl))))))))) : okT 8 (F47_d0 a2 a3 a4 a5 a6 a7 a1) = true)
     have q8 := (e7 : evH prg 8 [3, 4, 7, 45, 46, 47] ir47_l0 (L47_0_s a1 (a1.right.length : Int) a2 a3 a4 a5 a6 a7 b0 0) = some ((.brk 0), ⟨fr 95 g7 [(3, (.ptr 4 0)), (4, (.ptr 7 0)), (7, (vs x7_0)), (45, (.p (.lst 6 (a1.right.map eSym))))], [bG a2, .cells 3 [(i6 a3)], .cells 89 [(.ro (eOp a4 a5 a6))], mIS a7, .cells 94 [(.mp 3)], .row 48 6 0 (ra eSym []), bP a1, bP a1]⟩))
     have q9 := ((lk_row2 key_int (es := a7) (k := a1.left) (z := b0) rfl rfl) : lkA (F47_d0 a2 a3 a4 a5 a6 a7 a1) [1] .false .false [(.val (.string ⟨([] : List UInt8).toArray⟩))] .true (.mp 3) (i6 a1.left) = some (.tup [(vs (mget b0 a7 a1.left)), (vb (mhas a7 a1.left))]))
     refine bi h (fun h8 h => ?_) fun h8 h => ?_
     ·
      refine bi h (fun h9 h => ?_) fun h9 h => ?_
      ·
       rw [← sj h]
       exact fcs (n := 30) ([(18, .v (i6 x1)), (20, .d false), (28, .v (.ro [.val (.int .i64 x3)])), (30, .d false), (40, .v (.ro [.val (.int .i64 x5)])), (42, .d false), (46, .v (i6 (a1.right.length : Int)))] ++ ((F47_c0 g7 x7_0 a1 a2 a3 a4 a5 a6 a7) ++ [(84, .d true), (89, .d true), (6000, .d true)])) (apc q0 (apc (cv h2) (apc (ig eI64 1 .i64 h3) (apc (cv h4) (apc (ig eI64 1 .i64 h5) (apc (cv h6) (apc (lg a1.right eSym 6) (apc q7 (apc q8 (apc q9 (apc (cv h8) (apc (cv h9) apn)))))))))))) (by kernel_rfl)
      ·
       rw [← sj h]
       exact fcs (n := 30) ([(18, .v (i6 x1)), (20, .d false), (28, .v (.ro [.val (.int .i64 x3)])), (30, .d false), (40, .v (.ro [.val (.int .i64 x5)])), (42, .d false), (46, .v (i6 (a1.right.length : Int)))] ++ ((F47_c0 g7 x7_0 a1 a2 a3 a4 a5 a6 a7) ++ [(84, .d true), (89, .d false), (7094, .r ud [bG a2, .cells 3 [(i6 a3)], .cells 89 [(.ro (eOp a4 a5 a6))], mIS (mput a1.left x7_0 a7), .cells 94 [(.mp 3)], .row 48 6 0 (ra eSym []), bP a1, bP a1]), (6000, .d true)])) (apc q0 (apc (cv h2) (apc (ig eI64 1 .i64 h3) (apc (cv h4) (apc (ig eI64 1 .i64 h5) (apc (cv h6) (apc (lg a1.right eSym 6) (apc q7 (apc q8 (apc q9 (apc (cv h8) (apc (cv h9) (apc (⟨up_row key_int (es := a7) (k := a1.left) (v := x7_0) rfl, rfl⟩ : upA (F47_d0 a2 a3 a4 a5 a6 a7 a1) [1] .false (.mp 3) (i6 a1.left) (vs x7_0) = some [bG a2, .cells 3 [(i6 a3)], .cells 89 [(.ro (eOp a4 a5 a6))], mIS (mput a1.left x7_0 a7), .cells 94 [(.mp 3)], .row 48 6 0 (ra eSym []), bP a1, bP a1] ∧ ud = ud) apn))))))))))))) (by kernel_rfl)
     ·
      rw [← sj h]
      exact fcs (n := 30) ([(18, .v (i6 x1)), (20, .d false), (28, .v (.ro [.val (.int .i64 x3)])), (30, .d false), (40, .v (.ro [.val (.int .i64 x5)])), (42, .d false), (46, .v (i6 (a1.right.length : Int)))] ++ ((F47_c0 g7 x7_0 a1 a2 a3 a4 a5 a6 a7) ++ [(84, .d false), (7094, .r ud [bG a2, .cells 3 [(i6 a3)], .cells 89 [(.ro (eOp a4 a5 a6))], mIS (mput a1.left x7_0 a7), .cells 94 [(.mp 3)], .row 48 6 0 (ra eSym []), bP a1, bP a1]), (6000, .d true)])) (apc q0 (apc (cv h2) (apc (ig eI64 1 .i64 h3) (apc (cv h4) (apc (ig eI64 1 .i64 h5) (apc (cv h6) (apc (lg a1.right eSym 6) (apc q7 (apc q8 (apc q9 (apc (cv h8) (apc (⟨up_row key_int (es := a7) (k := a1.left) (v := x7_0) rfl, rfl⟩ : upA (F47_d0 a2 a3 a4 a5 a6 a7 a1) [1] .false (.mp 3) (i6 a1.left) (vs x7_0) = some [bG a2, .cells 3 [(i6 a3)], .cells 89 [(.ro (eOp a4 a5 a6))], mIS (mput a1.left x7_0 a7), .cells 94 [(.mp 3)], .row 48 6 0 (ra eSym []), bP a1, bP a1] ∧ ud = ud) apn)))))))))))) (by kernel_rfl)
inductive E_L46_0_4 where
  | k0 (x0 : Bool) (x1 : List (Int × ByteArray))
noncomputable def L46_0_4 (a1 : GramD) (a2 : List Int) (a4 : Int) (a6 : Int) (v1 : Bool) (v2 : Int) (v3 : List (Int × ByteArray)) : Option (E_L46_0_4 ⊕ (Bool × Int × (List (Int × ByteArray)))) :=
  (bif (decide (v2 < a4)) then ((getI a1.prods v2).bind fun x2 => ((F54 x2).bind fun x3 => (bif x3 then ((F47 x2 a6 a2 v3).bind fun r5 => match r5 with | .k0 x5_0 x5_1 => (bif x5_0 then (some (.inr (true, (IntKind.wrap .i64 (v2 + 1)), x5_1))) else (some (.inr (v1, (IntKind.wrap .i64 (v2 + 1)), x5_1)))) | .k1 x5_0 x5_1 x5_2 x5_3 x5_4 x5_5 => (some (.inr (v1, (IntKind.wrap .i64 (v2 + 1)), v3)))) else (some (.inr (v1, (IntKind.wrap .i64 (v2 + 1)), v3)))))) else (some (.inl (.k0 v1 v3))))
def L46_0_4_s (a1 : GramD) (a2 : List Int) (a3 : List Bool) (a4 : Int) (a5 : GramD) (a6 : Int) (v1 : Bool) (v2 : Int) (v3 : List (Int × ByteArray)) : St := ⟨fr 27 ug [(0, (.ro (eOp a1 a2 a3))), (1, (.fn 47 [(.ptr 2 0), (.ptr 1 0), (.ptr 4 0)])), (4, (vb v1)), (11, (.p (.lst 7 (a1.prods.map eProd)))), (12, (i6 a4)), (13, (i6 v2))], [bG a5, .cells 3 [(i6 a6)], .cells 89 [(.ro (eOp a1 a2 a3))], mIS v3, .cells 94 [(.mp 3)]]⟩
def L46_0_4_x (a1 : GramD) (a2 : List Int) (a3 : List Bool) (a4 : Int) (a5 : GramD) (a6 : Int) (e : E_L46_0_4) (r : Option (Out × St)) : Prop := match e with | .k0 x0 x1 => ∃ g, r = some ((.brk 2), ⟨fr 27 g [(0, (.ro (eOp a1 a2 a3))), (1, (.fn 47 [(.ptr 2 0), (.ptr 1 0), (.ptr 4 0)])), (4, (vb x0)), (11, (.p (.lst 7 (a1.prods.map eProd))))], [bG a5, .cells 3 [(i6 a6)], .cells 89 [(.ro (eOp a1 a2 a3))], mIS x1, .cells 94 [(.mp 3)]]⟩)
abbrev L46_0_4_d0 (a5 : GramD) (a6 : Int) (a1 : GramD) (a2 : List Int) (a3 : List Bool) (v3 : List (Int × ByteArray)) (x2 : ProdD) : List AB := [bG a5, .cells 3 [(i6 a6)], .cells 89 [(.ro (eOp a1 a2 a3))], mIS v3, .cells 94 [(.mp 3)], .row 48 6 0 (ra eSym []), bP x2]
theorem L46_0_4_ok (a1 : GramD) (a2 : List Int) (a3 : List Bool) (a4 : Int) (a5 : GramD) (a6 : Int) (v1 : Bool) (v2 : Int) (v3 : List (Int × ByteArray)) {r : E_L46_0_4 ⊕ (Bool × Int × (List (Int × ByteArray)))} (h : L46_0_4 a1 a2 a4 a6 v1 v2 v3 = some r) : OkR (fun e => L46_0_4_x a1 a2 a3 a4 a5 a6 e (evH prg 5 [0, 1, 4, 11, 12, 13] ir46_l0 (L46_0_4_s a1 a2 a3 a4 a5 a6 v1 v2 v3))) (fun s => evH prg 5 [0, 1, 4, 11, 12, 13] ir46_l0 (L46_0_4_s a1 a2 a3 a4 a5 a6 v1 v2 v3) = evH prg 5 [0, 1, 4, 11, 12, 13] ir46_l0 (L46_0_4_s a1 a2 a3 a4 a5 a6 s.1 s.2.1 s.2.2)) r := by
 unfold L46_0_4 at h
 refine bi h (fun h1 h => ?_) fun h1 h => ?_
 ·
  refine bn h fun x2 h2 h => ?_
  refine bn h fun x3 h3 h => ?_
  refine bi h (fun h4 h => ?_) fun h4 h => ?_
  ·
   have q2 := ((((F54_ok x2 h3).cp rfl _).trans (congrArg (fun z => some (vb z)) h4)) : CP prg 54 [(aP x2)] (L46_0_4_d0 a5 a6 a1 a2 a3 v3 x2) = some (vb true))
   refine bn h fun r5 h5 h => ?_
   cases r5 with
   | k0 x5_0 x5_1 =>
    refine bi h (fun h6 h => ?_) fun h6 h => ?_
    ·
     rw [← sj h]
     exact rnd (n := 30) [(14, .d true), (15, .v (.ro (eProd x2))), (18, .v (vb true)), (22, .r (vb true) [bG a5, .cells 3 [(i6 a6)], .cells 89 [(.ro (eOp a1 a2 a3))], mIS x5_1, .cells 94 [(.mp 3)], .row 48 6 0 (ra eSym []), bP x2, bP x2]), (6000, .d true)] (apc (cv h1) (apc (ig eProd 7 .i64 h2) (apc q2 (apc (((F47_ok x2 a5 a6 a1 a2 a3 v3 h5).trans (congrArg (fun z => some (vb z, ([bG a5, .cells 3 [(i6 a6)], .cells 89 [(.ro (eOp a1 a2 a3))], mIS x5_1, .cells 94 [(.mp 3)], .row 48 6 0 (ra eSym []), bP x2, bP x2] : List AB))) h6)) : CS prg 47 [(aP x2), (.ptr 2 0), (.ptr 1 0), (.ptr 4 0)] (L46_0_4_d0 a5 a6 a1 a2 a3 v3 x2) = some (vb true, [bG a5, .cells 3 [(i6 a6)], .cells 89 [(.ro (eOp a1 a2 a3))], mIS x5_1, .cells 94 [(.mp 3)], .row 48 6 0 (ra eSym []), bP x2, bP x2])) (apc ((okT_of rfl (abl_cons rfl (abl_cons rfl (abl_cons rfl (abl_cons (abl_map (fun _ => rfl) (fun _ => rfl)) (abl_cons rfl rfl)))))) : okT 5 [bG a5, .cells 3 [(i6 a6)], .cells 89 [(.ro (eOp a1 a2 a3))], mIS x5_1, .cells 94 [(.mp 3)], .row 48 6 0 (ra eSym []), bP x2, bP x2] = true) apn))))) (by kernel_rfl)
    ·
     rw [← sj h]
     exact rnd (n := 30) [(14, .d true), (15, .v (.ro (eProd x2))), (18, .v (vb true)), (22, .r (vb false) [bG a5, .cells 3 [(i6 a6)], .cells 89 [(.ro (eOp a1 a2 a3))], mIS x5_1, .cells 94 [(.mp 3)], .row 48 6 0 (ra eSym []), bP x2, bP x2]), (6000, .d true)] (apc (cv h1) (apc (ig eProd 7 .i64 h2) (apc q2 (apc (((F47_ok x2 a5 a6 a1 a2 a3 v3 h5).trans (congrArg (fun z => some (vb z, ([bG a5, .cells 3 [(i6 a6)], .cells 89 [(.ro (eOp a1 a2 a3))], mIS x5_1, .cells 94 [(.mp 3)], .row 48 6 0 (ra eSym []), bP x2, bP x2] : List AB))) h6)) : CS prg 47 [(aP x2), (.ptr 2 0), (.ptr 1 0), (.ptr 4 0)] (L46_0_4_d0 a5 a6 a1 a2 a3 v3 x2) = some (vb false, [bG a5, .cells 3 [(i6 a6)], .cells 89 [(.ro (eOp a1 a2 a3))], mIS x5_1, .cells 94 [(.mp 3)], .row 48 6 0 (ra eSym []), bP x2, bP x2])) (apc ((okT_of rfl (abl_cons rfl (abl_cons rfl (abl_cons rfl (abl_cons (abl_map (fun _ => rfl) (fun _ => rfl)) (abl_cons rfl rfl)))))) : okT 5 [bG a5, .cells 3 [(i6 a6)], .cells 89 [(.ro (eOp a1 a2 a3))], mIS x5_1, .cells 94 [(.mp 3)], .row 48 6 0 (ra eSym []), bP x2, bP x2] = true) apn))))) (by kernel_rfl)
   | k1 x5_0 x5_1 x5_2 x5_3 x5_4 x5_5 =>
    rw [← sj h]
    exact rnd (n := 30) [(14, .d true), (15, .v (.ro (eProd x2))), (18, .v (vb true)), (22, .r (vb false) [bG a5, .cells 3 [(i6 a6)], .cells 89 [(.ro (eOp a1 a2 a3))], mIS v3, .cells 94 [(.mp 3)], .row 48 6 0 (ra eSym []), bP x2, bP x2, .cells 48 [(i6 x5_0), (vi .u64 x5_1), (vi .u64 x5_2), (vi .u64 x5_3), (vi .u64 x5_4), (i6 x5_5)]]), (6000, .d true)] (apc (cv h1) (apc (ig eProd 7 .i64 h2) (apc q2 (apc ((F47_ok x2 a5 a6 a1 a2 a3 v3 h5) : CS prg 47 [(aP x2), (.ptr 2 0), (.ptr 1 0), (.ptr 4 0)] (L46_0_4_d0 a5 a6 a1 a2 a3 v3 x2) = some ((vb false), [bG a5, .cells 3 [(i6 a6)], .cells 89 [(.ro (eOp a1 a2 a3))], mIS v3, .cells 94 [(.mp 3)], .row 48 6 0 (ra eSym []), bP x2, bP x2, .cells 48 [(i6 x5_0), (vi .u64 x5_1), (vi .u64 x5_2), (vi .u64 x5_3), (vi .u64 x5_4), (i6 x5_5)]])) (apc ((okT_of rfl (abl_cons rfl (abl_cons rfl (abl_cons rfl (abl_cons (abl_map (fun _ => rfl) (fun _ => rfl)) (abl_cons rfl rfl)))))) : okT 5 [bG a5, .cells 3 [(i6 a6)], .cells 89 [(.ro (eOp a1 a2 a3))], mIS v3, .cells 94 [(.mp 3)], .row 48 6 0 (ra eSym []), bP x2, bP x2, .cells 48 [(i6 x5_0), (vi .u64 x5_1), (vi .u64 x5_2), (vi .u64 x5_3), (vi .u64 x5_4), (i6 x5_5)]] = true) apn))))) (by kernel_rfl)
  ·
   rw [← sj h]
   exact rnd (n := 30) [(14, .d true), (15, .v (.ro (eProd x2))), (18, .v (vb false)), (6000, .d true)] (apc (cv h1) (apc (ig eProd 7 .i64 h2) (apc ((((F54_ok x2 h3).cp rfl _).trans (congrArg (fun z => some (vb z)) h4)) : CP prg 54 [(aP x2)] (L46_0_4_d0 a5 a6 a1 a2 a3 v3 x2) = some (vb false)) (apc ((okT_of rfl (abl_cons rfl (abl_cons rfl (abl_cons rfl (abl_cons (abl_map (fun _ => rfl) (fun _ => rfl)) (abl_cons rfl rfl)))))) : okT 5 (L46_0_4_d0 a5 a6 a1 a2 a3 v3 x2) = true) apn)))) (by kernel_rfl)
 ·
  rw [← sj h]
  exact xbrk (n := 30) [(14, .d false), (6000, .d true)] (apc (cv h1) apn) (by kernel_rfl)
theorem L46_0_4_run (a1 : GramD) (a2 : List Int) (a3 : List Bool) (a4 : Int) (a5 : GramD) (a6 : Int) (s0 : Bool × Int × (List (Int × ByteArray))) (e : E_L46_0_4) (h : runL (fun s => L46_0_4 a1 a2 a4 a6 s.1 s.2.1 s.2.2) s0 = some e) : L46_0_4_x a1 a2 a3 a4 a5 a6 e (evH prg 5 [0, 1, 4, 11, 12, 13] ir46_l0 (L46_0_4_s a1 a2 a3 a4 a5 a6 s0.1 s0.2.1 s0.2.2)) := by
  have q := @loop_sound' (Bool × Int × (List (Int × ByteArray))) E_L46_0_4 (fun s => L46_0_4 a1 a2 a4 a6 s.1 s.2.1 s.2.2) (fun s => evH prg 5 [0, 1, 4, 11, 12, 13] ir46_l0 (L46_0_4_s a1 a2 a3 a4 a5 a6 s.1 s.2.1 s.2.2)) (L46_0_4_x a1 a2 a3 a4 a5 a6) (fun s r h => L46_0_4_ok a1 a2 a3 a4 a5 a6 s.1 s.2.1 s.2.2 h) s0 e h
  exact q
end Go.Proofs.Tryd
namespace Go.Proofs.Tryd
set_option linter.unusedSimpArgs false
set_option linter.unusedVariables false
open Go Go.Vs
inductive E_L46_1_2 where
  | k0 (x0 : List (Int × ByteArray))
noncomputable def L46_1_2 (a1 : GramD) (a2 : List Int) (a5 : Int) (v1 : List (Int × ByteArray)) : Option (E_L46_1_2 ⊕ ((List (Int × ByteArray)))) :=
  ((runL (fun s => L46_0_4 a1 a2 (a1.prods.length : Int) a5 s.1 s.2.1 s.2.2) (false, 0, v1)).bind fun r1 => match r1 with | .k0 x1_0 x1_1 => (bif x1_0 then (some (.inr (x1_1))) else (some (.inl (.k0 x1_1)))))
def L46_1_2_s (a1 : GramD) (a2 : List Int) (a3 : List Bool) (a4 : GramD) (a5 : Int) (v1 : List (Int × ByteArray)) : St := ⟨fr 27 ug [(0, (.ro (eOp a1 a2 a3))), (1, (.fn 47 [(.ptr 2 0), (.ptr 1 0), (.ptr 4 0)]))], [bG a4, .cells 3 [(i6 a5)], .cells 89 [(.ro (eOp a1 a2 a3))], mIS v1, .cells 94 [(.mp 3)]]⟩
def L46_1_2_x (a1 : GramD) (a2 : List Int) (a3 : List Bool) (a4 : GramD) (a5 : Int) (e : E_L46_1_2) (r : Option (Out × St)) : Prop := match e with | .k0 x0 => ∃ g, r = some ((.brk 0), ⟨fr 27 g [(0, (.ro (eOp a1 a2 a3))), (1, (.fn 47 [(.ptr 2 0), (.ptr 1 0), (.ptr 4 0)]))], [bG a4, .cells 3 [(i6 a5)], .cells 89 [(.ro (eOp a1 a2 a3))], mIS x0, .cells 94 [(.mp 3)]]⟩)
abbrev L46_1_2_d0 (g1 : Nat → AV) (a1 : GramD) (a2 : List Int) (a3 : List Bool) (x1_0 : Bool) (a4 : GramD) (a5 : Int) (x1_1 : List (Int × ByteArray)) : St := ⟨fr 27 g1 [(0, (.ro (eOp a1 a2 a3))), (1, (.fn 47 [(.ptr 2 0), (.ptr 1 0), (.ptr 4 0)])), (4, (vb x1_0)), (11, (.p (.lst 7 (a1.prods.map eProd))))], [bG a4, .cells 3 [(i6 a5)], .cells 89 [(.ro (eOp a1 a2 a3))], mIS x1_1, .cells 94 [(.mp 3)]]⟩
abbrev L46_1_2_c0 (g1 : Nat → AV) (a1 : GramD) (a2 : List Int) (a3 : List Bool) (x1_0 : Bool) (a4 : GramD) (a5 : Int) (x1_1 : List (Int × ByteArray)) : List (Nat × Hint) := [(2002, .l (.brk 2) (L46_1_2_d0 g1 a1 a2 a3 x1_0 a4 a5 x1_1))]
theorem L46_1_2_ok (a1 : GramD) (a2 : List Int) (a3 : List Bool) (a4 : GramD) (a5 : Int) (v1 : List (Int × ByteArray)) {r : E_L46_1_2 ⊕ ((List (Int × ByteArray)))} (h : L46_1_2 a1 a2 a5 v1 = some r) : OkR (fun e => L46_1_2_x a1 a2 a3 a4 a5 e (evH prg 5 [0, 1] ir46_l1 (L46_1_2_s a1 a2 a3 a4 a5 v1))) (fun s => evH prg 5 [0, 1] ir46_l1 (L46_1_2_s a1 a2 a3 a4 a5 v1) = evH prg 5 [0, 1] ir46_l1 (L46_1_2_s a1 a2 a3 a4 a5 s)) r := by
 unfold L46_1_2 at h
 refine bn h fun r1 h1 h => ?_
 cases r1 with
 | k0 x1_0 x1_1 =>
  obtain ⟨g1, e1⟩ := L46_0_4_run a1 a2 a3 (a1.prods.length : Int) a4 a5 (false, 0, v1) _ h1
  have q1 := ((okT_of rfl (abl_cons rfl (abl_cons rfl (abl_cons rfl (abl_cons (abl_map (fun _ => rfl) (fun _ => rfl)) (abl_cons rfl rfl)))))) : okT 5 [bG a4, .cells 3 [(i6 a5)], .cells 89 [(.ro (eOp a1 a2 a3))], mIS v1, .cells 94 [(.mp 3)]] = true)
  have q2 := (e1 : evH prg 5 [0, 1, 4, 11, 12, 13] ir46_l0 (L46_0_4_s a1 a2 a3 (a1.prods.length : Int) a4 a5 false 0 v1) = some ((.brk 2), (L46_1_2_d0 g1 a1 a2 a3 x1_0 a4 a5 x1_1)))
  refine bi h (fun h2 h => ?_) fun h2 h => ?_
  ·
   rw [← sj h]
   exact rnd (n := 30) ([(12, .v (i6 (a1.prods.length : Int)))] ++ ((L46_1_2_c0 g1 a1 a2 a3 x1_0 a4 a5 x1_1) ++ [(25, .d true), (6000, .d true)])) (apc (lg a1.prods eProd 7) (apc q1 (apc q2 (apc (cv h2) (apc ((okT_of rfl (abl_cons rfl (abl_cons rfl (abl_cons rfl (abl_cons (abl_map (fun _ => rfl) (fun _ => rfl)) (abl_cons rfl rfl)))))) : okT 5 [bG a4, .cells 3 [(i6 a5)], .cells 89 [(.ro (eOp a1 a2 a3))], mIS x1_1, .cells 94 [(.mp 3)]] = true) apn))))) (by kernel_rfl)
  ·
   rw [← sj h]
   exact xbrk (n := 30) ([(12, .v (i6 (a1.prods.length : Int)))] ++ ((L46_1_2_c0 g1 a1 a2 a3 x1_0 a4 a5 x1_1) ++ [(25, .d false), (6000, .d true)])) (apc (lg a1.prods eProd 7) (apc q1 (apc q2 (apc (cv h2) apn)))) (by kernel_rfl)
theorem L46_1_2_run (a1 : GramD) (a2 : List Int) (a3 : List Bool) (a4 : GramD) (a5 : Int) (s0 : (List (Int × ByteArray))) (e : E_L46_1_2) (h : runL (fun s => L46_1_2 a1 a2 a5 s) s0 = some e) : L46_1_2_x a1 a2 a3 a4 a5 e (evH prg 5 [0, 1] ir46_l1 (L46_1_2_s a1 a2 a3 a4 a5 s0)) := by
  have q := @loop_sound' ((List (Int × ByteArray))) E_L46_1_2 (fun s => L46_1_2 a1 a2 a5 s) (fun s => evH prg 5 [0, 1] ir46_l1 (L46_1_2_s a1 a2 a3 a4 a5 s)) (L46_1_2_x a1 a2 a3 a4 a5) (fun s r h => L46_1_2_ok a1 a2 a3 a4 a5 s h) s0 e h
  exact q
inductive E_L46_2_2 where
  | k0 (x0 : List (Int × ByteArray))
noncomputable def L46_2_2 (a1 : GramD) (a2 : List Int) (a5 : Int) : Option (E_L46_2_2 ⊕ (Unit)) :=
  ((runL (fun s => L46_1_2 a1 a2 a5 s) []).bind fun r1 => match r1 with | .k0 x1_0 => (some (.inl (.k0 x1_0))))
def L46_2_2_s (a1 : GramD) (a2 : List Int) (a3 : List Bool) (a4 : GramD) (a5 : Int) : St := ⟨fr 27 ug [(0, (.ro (eOp a1 a2 a3))), (1, (.fn 47 [(.ptr 2 0), (.ptr 1 0), (.ptr 4 0)]))], [bG a4, .cells 3 [(i6 a5)], .cells 89 [(.ro (eOp a1 a2 a3))], .map [], .cells 94 [(.mp 3)]]⟩
def L46_2_2_x (a1 : GramD) (a2 : List Int) (a3 : List Bool) (a4 : GramD) (a5 : Int) (e : E_L46_2_2) (r : Option (Out × St)) : Prop := match e with | .k0 x0 => ∃ g, r = some ((.brk 2000000), ⟨fr 27 g [], [bG a4, .cells 3 [(i6 a5)], .cells 89 [(.ro (eOp a1 a2 a3))], mIS x0, .cells 94 [(.mp 3)]]⟩)
abbrev L46_2_2_d0 (g1 : Nat → AV) (a1 : GramD) (a2 : List Int) (a3 : List Bool) (a4 : GramD) (a5 : Int) (x1_0 : List (Int × ByteArray)) : St := ⟨fr 27 g1 [(0, (.ro (eOp a1 a2 a3))), (1, (.fn 47 [(.ptr 2 0), (.ptr 1 0), (.ptr 4 0)]))], [bG a4, .cells 3 [(i6 a5)], .cells 89 [(.ro (eOp a1 a2 a3))], mIS x1_0, .cells 94 [(.mp 3)]]⟩
theorem L46_2_2_ok (a1 : GramD) (a2 : List Int) (a3 : List Bool) (a4 : GramD) (a5 : Int) {r : E_L46_2_2 ⊕ (Unit)} (h : L46_2_2 a1 a2 a5 = some r) : OkR (fun e => L46_2_2_x a1 a2 a3 a4 a5 e (evH prg 5 [0, 1] ir46_l2 (L46_2_2_s a1 a2 a3 a4 a5))) (fun s => evH prg 5 [0, 1] ir46_l2 (L46_2_2_s a1 a2 a3 a4 a5) = evH prg 5 [0, 1] ir46_l2 (L46_2_2_s a1 a2 a3 a4 a5)) r := by
 unfold L46_2_2 at h
 refine bn h fun r1 h1 h => ?_
 cases r1 with
 | k0 x1_0 =>
  obtain ⟨g1, e1⟩ := L46_1_2_run a1 a2 a3 a4 a5 [] _ h1
  rw [← sj h]
  exact xbrk (n := 30) [(2000, .l (.brk 0) (L46_2_2_d0 g1 a1 a2 a3 a4 a5 x1_0)), (6000, .d true)] (apc ((okT_of rfl (abl_cons rfl (abl_cons rfl (abl_cons rfl (abl_cons rfl (abl_cons rfl rfl)))))) : okT 5 [bG a4, .cells 3 [(i6 a5)], .cells 89 [(.ro (eOp a1 a2 a3))], .map [], .cells 94 [(.mp 3)]] = true) (apc (e1 : evH prg 5 [0, 1] ir46_l1 (L46_1_2_s a1 a2 a3 a4 a5 ([])) = some ((.brk 0), (L46_2_2_d0 g1 a1 a2 a3 a4 a5 x1_0))) apn)) (by kernel_rfl)
theorem L46_2_2_run (a1 : GramD) (a2 : List Int) (a3 : List Bool) (a4 : GramD) (a5 : Int) (s0 : Unit) (e : E_L46_2_2) (h : runL (fun s => L46_2_2 a1 a2 a5) s0 = some e) : L46_2_2_x a1 a2 a3 a4 a5 e (evH prg 5 [0, 1] ir46_l2 (L46_2_2_s a1 a2 a3 a4 a5)) := by
  have q := @loop_sound' (Unit) E_L46_2_2 (fun s => L46_2_2 a1 a2 a5) (fun s => evH prg 5 [0, 1] ir46_l2 (L46_2_2_s a1 a2 a3 a4 a5)) (L46_2_2_x a1 a2 a3 a4 a5) (fun s r h => L46_2_2_ok a1 a2 a3 a4 a5 h) s0 e h
  exact q
noncomputable def F46_2 (a1 : GramD) (a2 : List Int) (a5 : Int) : Option (List (Int × ByteArray)) :=
  ((runL (fun s => L46_2_2 a1 a2 a5) ()).bind fun r1 => match r1 with | .k0 x1_0 => (some x1_0))
def F46_2_v (a1 : GramD) (a2 : List Int) (a3 : List Bool) (a4 : GramD) (a5 : Int) (x0 : (List (Int × ByteArray))) : AV := (.tup [])
def F46_2_h (a1 : GramD) (a2 : List Int) (a3 : List Bool) (a4 : GramD) (a5 : Int) (x0 : (List (Int × ByteArray))) : List AB := [bG a4, .cells 3 [(i6 a5)], .cells 89 [(.ro (eOp a1 a2 a3))], mIS x0, .cells 94 [(.mp 3)]]
abbrev F46_2_d0 (g1 : Nat → AV) (a4 : GramD) (a5 : Int) (a1 : GramD) (a2 : List Int) (a3 : List Bool) (x1_0 : List (Int × ByteArray)) : St := ⟨fr 27 g1 [], [bG a4, .cells 3 [(i6 a5)], .cells 89 [(.ro (eOp a1 a2 a3))], mIS x1_0, .cells 94 [(.mp 3)]]⟩
theorem F46_2_ok (a1 : GramD) (a2 : List Int) (a3 : List Bool) (a4 : GramD) (a5 : Int) {r : (List (Int × ByteArray))} (h : F46_2 a1 a2 a5 = some r) : CS prg 46 [(.ro (eOp a1 a2 a3)), (.fn 47 [(.ptr 2 0), (.ptr 1 0), (.ptr 4 0)])] [bG a4, .cells 3 [(i6 a5)], .cells 89 [(.ro (eOp a1 a2 a3))], .map [], .cells 94 [(.mp 3)]] = some (F46_2_v a1 a2 a3 a4 a5 r, F46_2_h a1 a2 a3 a4 a5 r) := by
 unfold F46_2 at h
 refine bn h fun r1 h1 h => ?_
 cases r1 with
 | k0 x1_0 =>
  obtain ⟨g1, e1⟩ := L46_2_2_run a1 a2 a3 a4 a5 () _ h1
  rw [← sj h]
  exact fcs (n := 30) [(2002000, .l (.brk 2000000) (F46_2_d0 g1 a4 a5 a1 a2 a3 x1_0)), (6000, .d true)] (apc ((okT_of rfl (abl_cons rfl (abl_cons rfl (abl_cons rfl (abl_cons rfl (abl_cons rfl rfl)))))) : okT 5 [bG a4, .cells 3 [(i6 a5)], .cells 89 [(.ro (eOp a1 a2 a3))], .map [], .cells 94 [(.mp 3)]] = true) (apc (e1 : evH prg 5 [0, 1] ir46_l2 (L46_2_2_s a1 a2 a3 a4 a5) = some ((.brk 2000000), (F46_2_d0 g1 a4 a5 a1 a2 a3 x1_0))) apn)) (by kernel_rfl)
inductive R_F14 where
  | k0 (x0 : ByteArray) (x1 : Int)
noncomputable def F14 (a1 : GramD) (a2 : Int) : Option R_F14 :=
  ((F45 a1).bind fun r1 => match r1 with | .k0 x1_0 => (bif (x1_0 != 0) then (some (.k0 (⟨([] : List UInt8).toArray⟩ : ByteArray) x1_0)) else (bif (decide (a2 < 0)) then (some (.k0 (⟨([] : List UInt8).toArray⟩ : ByteArray) 4)) else (bif (decide (a2 ≥ (a1.sorts.length : Int))) then (some (.k0 (⟨([] : List UInt8).toArray⟩ : ByteArray) 4)) else none))) | .k1 x1_0 x1_1 x1_2 x1_3 x1_4 x1_5 x1_6 => (bif (decide (a2 < 0)) then (some (.k0 (⟨([] : List UInt8).toArray⟩ : ByteArray) 4)) else (bif (decide (a2 ≥ (a1.sorts.length : Int))) then (some (.k0 (⟨([] : List UInt8).toArray⟩ : ByteArray) 4)) else ((getI x1_5 a2).bind fun x4 => (bif (decide (x4 < 0)) then (some (.k0 (⟨([] : List UInt8).toArray⟩ : ByteArray) 161)) else (bif (decide (x4 > 1048576)) then (some (.k0 (⟨([] : List UInt8).toArray⟩ : ByteArray) 3)) else ((F46_2 (⟨x1_0, x1_1, x1_2, x1_3, x1_4⟩ : GramD) x1_5 a2).bind fun x7 => (some (.k0 (mget (⟨([] : List UInt8).toArray⟩ : ByteArray) x7 a2) 0)))))))))
def F14_v (a1 : GramD) (a2 : Int) (r : R_F14) : AV := match r with | .k0 x0 x1 => (.tup [(vs x0), (i6 x1)])
abbrev F14_c0 (x1_0 : List ByteArray) (x1_1 : List ProdD) (x1_2 : Int) (x1_3 : List ForbD) (x1_4 : List FollD) (x1_5 : List Int) (x1_6 : List Bool) : List (Nat × Hint) := [(11, .v (.tup [(.ro [.lst 1 (x1_0.map eStr), .lst 7 (x1_1.map eProd), .val (.int .i64 x1_2), .lst 3 (x1_3.map eForb), .lst 5 (x1_4.map eFoll), .lst 1 (x1_5.map eI64), .lst 1 (x1_6.map eBool)]), (i6 0)]))]
theorem F14_ok (a1 : GramD) (a2 : Int) {r : R_F14} (h : F14 a1 a2 = some r) : PR1 prg 14 [(aG a1), (i6 a2)] (F14_v a1 a2 r) := by
 unfold F14 at h
 refine bn h fun r1 h1 h => ?_
 cases r1 with
 | k0 x1_0 =>
  have q0 := (((F45_ok a1 h1).cp rfl _) : CP prg 45 [(aG a1)] [bG a1, .cells 3 [(i6 a2)]] = some (.tup [(.p (.val (.pointer .none))), (i6 x1_0)]))
  refine bi h (fun h2 h => ?_) fun h2 h => ?_
  ·
   rw [← sj h]
   exact fpr (n := 30) [(11, .v (.tup [(.p (.val (.pointer .none))), (i6 x1_0)])), (16, .d true)] (apc q0 (apc (cv h2) apn)) rfl (by kernel_rfl)
  ·
   refine bi h (fun h3 h => ?_) fun h3 h => ?_
   ·
    rw [← sj h]
    exact fpr (n := 30) [(11, .v (.tup [(.p (.val (.pointer .none))), (i6 x1_0)])), (16, .d false), (20, .d true)] (apc q0 (apc (cv h2) (apc (cv h3) apn))) rfl (by kernel_rfl)
   ·
    refine bi h (fun h4 h => ?_) fun h4 h => ?_
    ·
     rw [← sj h]
     exact fpr (n := 30) [(11, .v (.tup [(.p (.val (.pointer .none))), (i6 x1_0)])), (16, .d false), (20, .d false), (25, .v (i6 (a1.sorts.length : Int))), (26, .d true)] (apc q0 (apc (cv h2) (apc (cv h3) (apc (lg a1.sorts eStr 1) (apc (cv h4) apn))))) rfl (by kernel_rfl)
    ·
     cases h
 | k1 x1_0 x1_1 x1_2 x1_3 x1_4 x1_5 x1_6 =>
  have q0 := (((F45_ok a1 h1).cp rfl _) : CP prg 45 [(aG a1)] [bG a1, .cells 3 [(i6 a2)]] = some (.tup [(.ro [.lst 1 (x1_0.map eStr), .lst 7 (x1_1.map eProd), .val (.int .i64 x1_2), .lst 3 (x1_3.map eForb), .lst 5 (x1_4.map eFoll), .lst 1 (x1_5.map eI64), .lst 1 (x1_6.map eBool)]), (i6 0)]))
  refine bi h (fun h2 h => ?_) fun h2 h => ?_
  ·
   rw [← sj h]
   exact fpr (n := 30) ((F14_c0 x1_0 x1_1 x1_2 x1_3 x1_4 x1_5 x1_6) ++ [(20, .d true)]) (apc q0 (apc (cv h2) apn)) rfl (by kernel_rfl)
  ·
   refine bi h (fun h3 h => ?_) fun h3 h => ?_
   ·
    rw [← sj h]
    exact fpr (n := 30) ((F14_c0 x1_0 x1_1 x1_2 x1_3 x1_4 x1_5 x1_6) ++ [(20, .d false), (25, .v (i6 (a1.sorts.length : Int))), (26, .d true)]) (apc q0 (apc (cv h2) (apc (lg a1.sorts eStr 1) (apc (cv h3) apn)))) rfl (by kernel_rfl)
   ·
    refine bn h fun x4 h4 h => ?_
    refine bi h (fun h5 h => ?_) fun h5 h => ?_
    ·
     rw [← sj h]
     exact fpr (n := 30) ((F14_c0 x1_0 x1_1 x1_2 x1_3 x1_4 x1_5 x1_6) ++ [(20, .d false), (25, .v (i6 (a1.sorts.length : Int))), (26, .d false), (34, .v (.ro [.val (.int .i64 x4)])), (36, .d true)]) (apc q0 (apc (cv h2) (apc (lg a1.sorts eStr 1) (apc (cv h3) (apc (ig eI64 1 .i64 h4) (apc (cv h5) apn)))))) rfl (by kernel_rfl)
    ·
     refine bi h (fun h6 h => ?_) fun h6 h => ?_
     ·
      rw [← sj h]
      exact fpr (n := 30) ((F14_c0 x1_0 x1_1 x1_2 x1_3 x1_4 x1_5 x1_6) ++ [(20, .d false), (25, .v (i6 (a1.sorts.length : Int))), (26, .d false), (34, .v (.ro [.val (.int .i64 x4)])), (36, .d false), (43, .v (.ro [.val (.int .i64 x4)])), (45, .d true)]) (apc q0 (apc (cv h2) (apc (lg a1.sorts eStr 1) (apc (cv h3) (apc (ig eI64 1 .i64 h4) (apc (cv h5) (apc (ig eI64 1 .i64 h4) (apc (cv h6) apn)))))))) rfl (by kernel_rfl)
     ·
      refine bn h fun x7 h7 h => ?_
      rw [← sj h]
      exact fpr (n := 30) ((F14_c0 x1_0 x1_1 x1_2 x1_3 x1_4 x1_5 x1_6) ++ [(20, .d false), (25, .v (i6 (a1.sorts.length : Int))), (26, .d false), (34, .v (.ro [.val (.int .i64 x4)])), (36, .d false), (43, .v (.ro [.val (.int .i64 x4)])), (45, .d false), (49, .r (.tup []) [bG a1, .cells 3 [(i6 a2)], .cells 89 [(.ro [.lst 1 (x1_0.map eStr), .lst 7 (x1_1.map eProd), .val (.int .i64 x1_2), .lst 3 (x1_3.map eForb), .lst 5 (x1_4.map eFoll), .lst 1 (x1_5.map eI64), .lst 1 (x1_6.map eBool)])], mIS x7, .cells 94 [(.mp 3)]]), (52, .v (vs (mget b0 x7 a2)))]) (apc q0 (apc (cv h2) (apc (lg a1.sorts eStr 1) (apc (cv h3) (apc (ig eI64 1 .i64 h4) (apc (cv h5) (apc (ig eI64 1 .i64 h4) (apc (cv h6) (apc ((F46_2_ok (⟨x1_0, x1_1, x1_2, x1_3, x1_4⟩ : GramD) x1_5 x1_6 a1 a2 h7) : CS prg 46 [(.ro [.lst 1 (x1_0.map eStr), .lst 7 (x1_1.map eProd), .val (.int .i64 x1_2), .lst 3 (x1_3.map eForb), .lst 5 (x1_4.map eFoll), .lst 1 (x1_5.map eI64), .lst 1 (x1_6.map eBool)]), (.fn 47 [(.ptr 2 0), (.ptr 1 0), (.ptr 4 0)])] [bG a1, .cells 3 [(i6 a2)], .cells 89 [(.ro [.lst 1 (x1_0.map eStr), .lst 7 (x1_1.map eProd), .val (.int .i64 x1_2), .lst 3 (x1_3.map eForb), .lst 5 (x1_4.map eFoll), .lst 1 (x1_5.map eI64), .lst 1 (x1_6.map eBool)])], .map [], .cells 94 [(.mp 3)]] = some ((.tup []), [bG a1, .cells 3 [(i6 a2)], .cells 89 [(.ro [.lst 1 (x1_0.map eStr), .lst 7 (x1_1.map eProd), .val (.int .i64 x1_2), .lst 3 (x1_3.map eForb), .lst 5 (x1_4.map eFoll), .lst 1 (x1_5.map eI64), .lst 1 (x1_6.map eBool)])], mIS x7, .cells 94 [(.mp 3)]])) (apc ((lk_row key_int (es := x7) (k := a2) (z := b0) rfl rfl) : lkA [bG a1, .cells 3 [(i6 a2)], .cells 89 [(.ro [.lst 1 (x1_0.map eStr), .lst 7 (x1_1.map eProd), .val (.int .i64 x1_2), .lst 3 (x1_3.map eForb), .lst 5 (x1_4.map eFoll), .lst 1 (x1_5.map eI64), .lst 1 (x1_6.map eBool)])], mIS x7, .cells 94 [(.mp 3)]] [1] .false .false [(.val (.string ⟨([] : List UInt8).toArray⟩))] .false (.mp 3) (i6 a2) = some (vs (mget b0 x7 a2))) apn)))))))))) rfl (by kernel_rfl)
end Go.Proofs.Tryd
