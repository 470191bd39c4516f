/- Decompiled by a program: functions as plain data see them, part 2. -/
import Derived.Test.YtefidjmkfefilaaDoorU16
namespace Go.Proofs.Tryd
set_option linter.unusedSimpArgs false
set_option linter.unusedVariables false
open Go Go.Vs
inductive E_L46_0_3 where
  | k0 (x0 : Bool) (x1 : List SetD)
noncomputable def L46_0_3 (a1 : GramD) (a2 : List Int) (a3 : List Bool) (a4 : Int) (a6 : Nat) (v1 : Bool) (v2 : Int) (v3 : List SetD) : Option (E_L46_0_3 ⊕ (Bool × Int × (List SetD))) :=
  (bif (decide (v2 < a4)) then ((getI a1.prods v2).bind fun x2 => ((F54 x2).bind fun x3 => (bif x3 then ((F75 x2 a2 a3 v3 a6).bind fun r5 => match r5 with | .k0 => (some (.inr (v1, (IntKind.wrap .i64 (v2 + 1)), v3))) | .k1 x5_0 x5_1 x5_2 x5_3 x5_4 x5_5 x5_6 x5_7 x5_8 x5_9 x5_10 x5_11 x5_12 x5_13 x5_14 x5_15 x5_16 x5_17 x5_18 x5_19 => (bif x5_0 then (some (.inr (true, (IntKind.wrap .i64 (v2 + 1)), x5_1))) else (some (.inr (v1, (IntKind.wrap .i64 (v2 + 1)), x5_1)))) | .k2 x5_0 x5_1 x5_2 x5_3 x5_4 x5_5 => (bif x5_0 then (some (.inr (true, (IntKind.wrap .i64 (v2 + 1)), x5_1))) else (some (.inr (v1, (IntKind.wrap .i64 (v2 + 1)), x5_1))))) else (some (.inr (v1, (IntKind.wrap .i64 (v2 + 1)), v3)))))) else (some (.inl (.k0 v1 v3))))
def L46_0_3_s (a1 : GramD) (a2 : List Int) (a3 : List Bool) (a4 : Int) (a6 : Nat) (v1 : Bool) (v2 : Int) (v3 : List SetD) : St := ⟨fr 27 ug [(0, (.ro (eOp a1 a2 a3))), (1, (.fn 75 [(.ptr 0 0), (.ptr 4 0)])), (4, (vb v1)), (11, (.p (.lst 7 (a1.prods.map eProd)))), (12, (i6 a4)), (13, (i6 v2))], [.cells 89 [(.ro (eOp a1 a2 a3))], bS [], bS v3, bS [], .cells 63 [(.sl 2 0 4 0 a6)]]⟩
def L46_0_3_x (a1 : GramD) (a2 : List Int) (a3 : List Bool) (a4 : Int) (a6 : Nat) (e : E_L46_0_3) (r : Option (Out × St)) : Prop := match e with | .k0 x0 x1 => ∃ g, r = some ((.brk 2), ⟨fr 27 g [(0, (.ro (eOp a1 a2 a3))), (1, (.fn 75 [(.ptr 0 0), (.ptr 4 0)])), (4, (vb x0)), (11, (.p (.lst 7 (a1.prods.map eProd))))], [.cells 89 [(.ro (eOp a1 a2 a3))], bS [], bS x1, bS [], .cells 63 [(.sl 2 0 4 0 a6)]]⟩)
theorem L46_0_3_ok (a1 : GramD) (a2 : List Int) (a3 : List Bool) (a4 : Int) (a6 : Nat) (v1 : Bool) (v2 : Int) (v3 : List SetD) {r : E_L46_0_3 ⊕ (Bool × Int × (List SetD))} (h : L46_0_3 a1 a2 a3 a4 a6 v1 v2 v3 = some r) : OkR (fun e => L46_0_3_x a1 a2 a3 a4 a6 e (evH prg 5 [0, 1, 4, 11, 12, 13] ir46_l0 (L46_0_3_s a1 a2 a3 a4 a6 v1 v2 v3))) (fun s => evH prg 5 [0, 1, 4, 11, 12, 13] ir46_l0 (L46_0_3_s a1 a2 a3 a4 a6 v1 v2 v3) = evH prg 5 [0, 1, 4, 11, 12, 13] ir46_l0 (L46_0_3_s a1 a2 a3 a4 a6 s.1 s.2.1 s.2.2)) r := by
 unfold L46_0_3 at h
 refine bi h (fun h1 h => ?_) fun h1 h => ?_
 ·
  refine bn h fun x2 h2 h => ?_
  refine bn h fun x3 h3 h => ?_
  refine bi h (fun h4 h => ?_) fun h4 h => ?_
  ·
   refine bn h fun r5 h5 h => ?_
   cases r5 with
   | k0 =>
    rw [← sj h]
    exact rnd (n := 30) [(14, .d true), (15, .v (.ro (eProd x2))), (18, .v (vb true)), (22, .r (vb false) [.cells 89 [(.ro (eOp a1 a2 a3))], bS [], bS v3, bS [], .cells 63 [(.sl 2 0 4 0 a6)], .row 48 6 0 (ra eSym []), bP x2, bP x2]), (6000, .d true)] (apc (cv h1) (apc (ig eProd 7 .i64 h2) (apc ((((F54_ok x2 h3).cp rfl _).trans (congrArg (fun z => some (vb z)) h4)) : CP prg 54 [(aP x2)] [.cells 89 [(.ro (eOp a1 a2 a3))], bS [], bS v3, bS [], .cells 63 [(.sl 2 0 4 0 a6)], .row 48 6 0 (ra eSym []), bP x2] = some (vb true)) (apc ((F75_ok x2 a1 a2 a3 v3 a6 h5) : CS prg 75 [(aP x2), (.ptr 0 0), (.ptr 4 0)] [.cells 89 [(.ro (eOp a1 a2 a3))], bS [], bS v3, bS [], .cells 63 [(.sl 2 0 4 0 a6)], .row 48 6 0 (ra eSym []), bP x2] = some ((vb false), [.cells 89 [(.ro (eOp a1 a2 a3))], bS [], bS v3, bS [], .cells 63 [(.sl 2 0 4 0 a6)], .row 48 6 0 (ra eSym []), bP x2, bP x2])) (apc ((okT_of rfl (abl_cons rfl (abl_cons abl_row (abl_cons abl_row (abl_cons abl_row (abl_cons rfl rfl)))))) : okT 5 [.cells 89 [(.ro (eOp a1 a2 a3))], bS [], bS v3, bS [], .cells 63 [(.sl 2 0 4 0 a6)], .row 48 6 0 (ra eSym []), bP x2, bP x2] = true) apn))))) (by kernel_rfl)
   | k1 x5_0 x5_1 x5_2 x5_3 x5_4 x5_5 x5_6 x5_7 x5_8 x5_9 x5_10 x5_11 x5_12 x5_13 x5_14 x5_15 x5_16 x5_17 x5_18 x5_19 =>
    refine bi h (fun h6 h => ?_) fun h6 h => ?_
    ·
     rw [← sj h]
     exact rnd (n := 30) [(14, .d true), (15, .v (.ro (eProd x2))), (18, .v (vb true)), (22, .r (vb true) [.cells 89 [(.ro (eOp a1 a2 a3))], bS [], bS x5_1, bS [], .cells 63 [(.sl 2 0 4 0 a6)], .row 48 6 0 (ra eSym []), bP x2, bP x2, .cells 46 [(vi .u64 x5_2), (vi .u64 x5_3), (vi .u64 x5_4), (vi .u64 x5_5)], .cells 48 [(i6 x5_6), (vi .u64 x5_7), (vi .u64 x5_8), (vi .u64 x5_9), (vi .u64 x5_10), (i6 x5_11)], .row 46 4 0 [[(vi .u64 x5_12), (vi .u64 x5_13), (vi .u64 x5_14), (vi .u64 x5_15)], [(vi .u64 x5_16), (vi .u64 x5_17), (vi .u64 x5_18), (vi .u64 x5_19)]]]), (6000, .d true)] (apc (cv h1) (apc (ig eProd 7 .i64 h2) (apc ((((F54_ok x2 h3).cp rfl _).trans (congrArg (fun z => some (vb z)) h4)) : CP prg 54 [(aP x2)] [.cells 89 [(.ro (eOp a1 a2 a3))], bS [], bS v3, bS [], .cells 63 [(.sl 2 0 4 0 a6)], .row 48 6 0 (ra eSym []), bP x2] = some (vb true)) (apc (((F75_ok x2 a1 a2 a3 v3 a6 h5).trans (congrArg (fun z => some (vb z, ([.cells 89 [(.ro (eOp a1 a2 a3))], bS [], bS x5_1, bS [], .cells 63 [(.sl 2 0 4 0 a6)], .row 48 6 0 (ra eSym []), bP x2, bP x2, .cells 46 [(vi .u64 x5_2), (vi .u64 x5_3), (vi .u64 x5_4), (vi .u64 x5_5)], .cells 48 [(i6 x5_6), (vi .u64 x5_7), (vi .u64 x5_8), (vi .u64 x5_9), (vi .u64 x5_10), (i6 x5_11)], .row 46 4 0 [[(vi .u64 x5_12), (vi .u64 x5_13), (vi .u64 x5_14), (vi .u64 x5_15)], [(vi .u64 x5_16), (vi .u64 x5_17), (vi .u64 x5_18), (vi .u64 x5_19)]]] : List AB))) h6)) : CS prg 75 [(aP x2), (.ptr 0 0), (.ptr 4 0)] [.cells 89 [(.ro (eOp a1 a2 a3))], bS [], bS v3, bS [], .cells 63 [(.sl 2 0 4 0 a6)], .row 48 6 0 (ra eSym []), bP x2] = some (vb true, [.cells 89 [(.ro (eOp a1 a2 a3))], bS [], bS x5_1, bS [], .cells 63 [(.sl 2 0 4 0 a6)], .row 48 6 0 (ra eSym []), bP x2, bP x2, .cells 46 [(vi .u64 x5_2), (vi .u64 x5_3), (vi .u64 x5_4), (vi .u64 x5_5)], .cells 48 [(i6 x5_6), (vi .u64 x5_7), (vi .u64 x5_8), (vi .u64 x5_9), (vi .u64 x5_10), (i6 x5_11)], .row 46 4 0 [[(vi .u64 x5_12), (vi .u64 x5_13), (vi .u64 x5_14), (vi .u64 x5_15)], [(vi .u64 x5_16), (vi .u64 x5_17), (vi .u64 x5_18), (vi .u64 x5_19)]]])) (apc ((okT_of rfl (abl_cons rfl (abl_cons abl_row (abl_cons abl_row (abl_cons abl_row (abl_cons rfl rfl)))))) : okT 5 [.cells 89 [(.ro (eOp a1 a2 a3))], bS [], bS x5_1, bS [], .cells 63 [(.sl 2 0 4 0 a6)], .row 48 6 0 (ra eSym []), bP x2, bP x2, .cells 46 [(vi .u64 x5_2), (vi .u64 x5_3), (vi .u64 x5_4), (vi .u64 x5_5)], .cells 48 [(i6 x5_6), (vi .u64 x5_7), (vi .u64 x5_8), (vi .u64 x5_9), (vi .u64 x5_10), (i6 x5_11)], .row 46 4 0 [[(vi .u64 x5_12), (vi .u64 x5_13), (vi .u64 x5_14), (vi .u64 x5_15)], [(vi .u64 x5_16), (vi .u64 x5_17), (vi .u64 x5_18), (vi .u64 x5_19)]]] = true) apn))))) (by kernel_rfl)
    ·
     rw [← sj h]
     exact rnd (n := 30) [(14, .d true), (15, .v (.ro (eProd x2))), (18, .v (vb true)), (22, .r (vb false) [.cells 89 [(.ro (eOp a1 a2 a3))], bS [], bS x5_1, bS [], .cells 63 [(.sl 2 0 4 0 a6)], .row 48 6 0 (ra eSym []), bP x2, bP x2, .cells 46 [(vi .u64 x5_2), (vi .u64 x5_3), (vi .u64 x5_4), (vi .u64 x5_5)], .cells 48 [(i6 x5_6), (vi .u64 x5_7), (vi .u64 x5_8), (vi .u64 x5_9), (vi .u64 x5_10), (i6 x5_11)], .row 46 4 0 [[(vi .u64 x5_12), (vi .u64 x5_13), (vi .u64 x5_14), (vi .u64 x5_15)], [(vi .u64 x5_16), (vi .u64 x5_17), (vi .u64 x5_18), (vi .u64 x5_19)]]]), (6000, .d true)] (apc (cv h1) (apc (ig eProd 7 .i64 h2) (apc ((((F54_ok x2 h3).cp rfl _).trans (congrArg (fun z => some (vb z)) h4)) : CP prg 54 [(aP x2)] [.cells 89 [(.ro (eOp a1 a2 a3))], bS [], bS v3, bS [], .cells 63 [(.sl 2 0 4 0 a6)], .row 48 6 0 (ra eSym []), bP x2] = some (vb true)) (apc (((F75_ok x2 a1 a2 a3 v3 a6 h5).trans (congrArg (fun z => some (vb z, ([.cells 89 [(.ro (eOp a1 a2 a3))], bS [], bS x5_1, bS [], .cells 63 [(.sl 2 0 4 0 a6)], .row 48 6 0 (ra eSym []), bP x2, bP x2, .cells 46 [(vi .u64 x5_2), (vi .u64 x5_3), (vi .u64 x5_4), (vi .u64 x5_5)], .cells 48 [(i6 x5_6), (vi .u64 x5_7), (vi .u64 x5_8), (vi .u64 x5_9), (vi .u64 x5_10), (i6 x5_11)], .row 46 4 0 [[(vi .u64 x5_12), (vi .u64 x5_13), (vi .u64 x5_14), (vi .u64 x5_15)], [(vi .u64 x5_16), (vi .u64 x5_17), (vi .u64 x5_18), (vi .u64 x5_19)]]] : List AB))) h6)) : CS prg 75 [(aP x2), (.ptr 0 0), (.ptr 4 0)] [.cells 89 [(.ro (eOp a1 a2 a3))], bS [], bS v3, bS [], .cells 63 [(.sl 2 0 4 0 a6)], .row 48 6 0 (ra eSym []), bP x2] = some (vb false, [.cells 89 [(.ro (eOp a1 a2 a3))], bS [], bS x5_1, bS [], .cells 63 [(.sl 2 0 4 0 a6)], .row 48 6 0 (ra eSym []), bP x2, bP x2, .cells 46 [(vi .u64 x5_2), (vi .u64 x5_3), (vi .u64 x5_4), (vi .u64 x5_5)], .cells 48 [(i6 x5_6), (vi .u64 x5_7), (vi .u64 x5_8), (vi .u64 x5_9), (vi .u64 x5_10), (i6 x5_11)], .row 46 4 0 [[(vi .u64 x5_12), (vi .u64 x5_13), (vi .u64 x5_14), (vi .u64 x5_15)], [(vi .u64 x5_16), (vi .u64 x5_17), (vi .u64 x5_18), (vi .u64 x5_19)]]])) (apc ((okT_of rfl (abl_cons rfl (abl_cons abl_row (abl_cons abl_row (abl_cons abl_row (abl_cons rfl rfl)))))) : okT 5 [.cells 89 [(.ro (eOp a1 a2 a3))], bS [], bS x5_1, bS [], .cells 63 [(.sl 2 0 4 0 a6)], .row 48 6 0 (ra eSym []), bP x2, bP x2, .cells 46 [(vi .u64 x5_2), (vi .u64 x5_3), (vi .u64 x5_4), (vi .u64 x5_5)], .cells 48 [(i6 x5_6), (vi .u64 x5_7), (vi .u64 x5_8), (vi .u64 x5_9), (vi .u64 x5_10), (i6 x5_11)], .row 46 4 0 [[(vi .u64 x5_12), (vi .u64 x5_13), (vi .u64 x5_14), (vi .u64 x5_15)], [(vi .u64 x5_16), (vi .u64 x5_17), (vi .u64 x5_18), (vi .u64 x5_19)]]] = true) apn))))) (by kernel_rfl)
   | k2 x5_0 x5_1 x5_2 x5_3 x5_4 x5_5 =>
    refine bi h (fun h6 h => ?_) fun h6 h => ?_
    ·
     rw [← sj h]
     exact rnd (n := 30) [(14, .d true), (15, .v (.ro (eProd x2))), (18, .v (vb true)), (22, .r (vb true) [.cells 89 [(.ro (eOp a1 a2 a3))], bS [], bS x5_1, bS [], .cells 63 [(.sl 2 0 4 0 a6)], .row 48 6 0 (ra eSym []), bP x2, bP x2, .cells 46 [(vi .u64 x5_2), (vi .u64 x5_3), (vi .u64 x5_4), (vi .u64 x5_5)]]), (6000, .d true)] (apc (cv h1) (apc (ig eProd 7 .i64 h2) (apc ((((F54_ok x2 h3).cp rfl _).trans (congrArg (fun z => some (vb z)) h4)) : CP prg 54 [(aP x2)] [.cells 89 [(.ro (eOp a1 a2 a3))], bS [], bS v3, bS [], .cells 63 [(.sl 2 0 4 0 a6)], .row 48 6 0 (ra eSym []), bP x2] = some (vb true)) (apc (((F75_ok x2 a1 a2 a3 v3 a6 h5).trans (congrArg (fun z => some (vb z, ([.cells 89 [(.ro (eOp a1 a2 a3))], bS [], bS x5_1, bS [], .cells 63 [(.sl 2 0 4 0 a6)], .row 48 6 0 (ra eSym []), bP x2, bP x2, .cells 46 [(vi .u64 x5_2), (vi .u64 x5_3), (vi .u64 x5_4), (vi .u64 x5_5)]] : List AB))) h6)) : CS prg 75 [(aP x2), (.ptr 0 0), (.ptr 4 0)] [.cells 89 [(.ro (eOp a1 a2 a3))], bS [], bS v3, bS [], .cells 63 [(.sl 2 0 4 0 a6)], .row 48 6 0 (ra eSym []), bP x2] = some (vb true, [.cells 89 [(.ro (eOp a1 a2 a3))], bS [], bS x5_1, bS [], .cells 63 [(.sl 2 0 4 0 a6)], .row 48 6 0 (ra eSym []), bP x2, bP x2, .cells 46 [(vi .u64 x5_2), (vi .u64 x5_3), (vi .u64 x5_4), (vi .u64 x5_5)]])) (apc ((okT_of rfl (abl_cons rfl (abl_cons abl_row (abl_cons abl_row (abl_cons abl_row (abl_cons rfl rfl)))))) : okT 5 [.cells 89 [(.ro (eOp a1 a2 a3))], bS [], bS x5_1, bS [], .cells 63 [(.sl 2 0 4 0 a6)], .row 48 6 0 (ra eSym []), bP x2, bP x2, .cells 46 [(vi .u64 x5_2), (vi .u64 x5_3), (vi .u64 x5_4), (vi .u64 x5_5)]] = true) apn))))) (by kernel_rfl)
    ·
     rw [← sj h]
     exact rnd (n := 30) [(14, .d true), (15, .v (.ro (eProd x2))), (18, .v (vb true)), (22, .r (vb false) [.cells 89 [(.ro (eOp a1 a2 a3))], bS [], bS x5_1, bS [], .cells 63 [(.sl 2 0 4 0 a6)], .row 48 6 0 (ra eSym []), bP x2, bP x2, .cells 46 [(vi .u64 x5_2), (vi .u64 x5_3), (vi .u64 x5_4), (vi .u64 x5_5)]]), (6000, .d true)] (apc (cv h1) (apc (ig eProd 7 .i64 h2) (apc ((((F54_ok x2 h3).cp rfl _).trans (congrArg (fun z => some (vb z)) h4)) : CP prg 54 [(aP x2)] [.cells 89 [(.ro (eOp a1 a2 a3))], bS [], bS v3, bS [], .cells 63 [(.sl 2 0 4 0 a6)], .row 48 6 0 (ra eSym []), bP x2] = some (vb true)) (apc (((F75_ok x2 a1 a2 a3 v3 a6 h5).trans (congrArg (fun z => some (vb z, ([.cells 89 [(.ro (eOp a1 a2 a3))], bS [], bS x5_1, bS [], .cells 63 [(.sl 2 0 4 0 a6)], .row 48 6 0 (ra eSym []), bP x2, bP x2, .cells 46 [(vi .u64 x5_2), (vi .u64 x5_3), (vi .u64 x5_4), (vi .u64 x5_5)]] : List AB))) h6)) : CS prg 75 [(aP x2), (.ptr 0 0), (.ptr 4 0)] [.cells 89 [(.ro (eOp a1 a2 a3))], bS [], bS v3, bS [], .cells 63 [(.sl 2 0 4 0 a6)], .row 48 6 0 (ra eSym []), bP x2] = some (vb false, [.cells 89 [(.ro (eOp a1 a2 a3))], bS [], bS x5_1, bS [], .cells 63 [(.sl 2 0 4 0 a6)], .row 48 6 0 (ra eSym []), bP x2, bP x2, .cells 46 [(vi .u64 x5_2), (vi .u64 x5_3), (vi .u64 x5_4), (vi .u64 x5_5)]])) (apc ((okT_of rfl (abl_cons rfl (abl_cons abl_row (abl_cons abl_row (abl_cons abl_row (abl_cons rfl rfl)))))) : okT 5 [.cells 89 [(.ro (eOp a1 a2 a3))], bS [], bS x5_1, bS [], .cells 63 [(.sl 2 0 4 0 a6)], .row 48 6 0 (ra eSym []), bP x2, bP x2, .cells 46 [(vi .u64 x5_2), (vi .u64 x5_3), (vi .u64 x5_4), (vi .u64 x5_5)]] = true) apn))))) (by kernel_rfl)
  ·
   rw [← sj h]
   exact rnd (n := 30) [(14, .d true), (15, .v (.ro (eProd x2))), (18, .v (vb false)), (6000, .d true)] (apc (cv h1) (apc (ig eProd 7 .i64 h2) (apc ((((F54_ok x2 h3).cp rfl _).trans (congrArg (fun z => some (vb z)) h4)) : CP prg 54 [(aP x2)] [.cells 89 [(.ro (eOp a1 a2 a3))], bS [], bS v3, bS [], .cells 63 [(.sl 2 0 4 0 a6)], .row 48 6 0 (ra eSym []), bP x2] = some (vb false)) (apc ((okT_of rfl (abl_cons rfl (abl_cons abl_row (abl_cons abl_row (abl_cons abl_row (abl_cons rfl rfl)))))) : okT 5 [.cells 89 [(.ro (eOp a1 a2 a3))], bS [], bS v3, bS [], .cells 63 [(.sl 2 0 4 0 a6)], .row 48 6 0 (ra eSym []), bP x2] = true) apn)))) (by kernel_rfl)
 ·
  rw [← sj h]
  exact xbrk (n := 30) [(14, .d false), (6000, .d true)] (apc (cv h1) apn) (by kernel_rfl)
theorem L46_0_3_run (a1 : GramD) (a2 : List Int) (a3 : List Bool) (a4 : Int) (a6 : Nat) (s0 : Bool × Int × (List SetD)) (e : E_L46_0_3) (h : runL (fun s => L46_0_3 a1 a2 a3 a4 a6 s.1 s.2.1 s.2.2) s0 = some e) : L46_0_3_x a1 a2 a3 a4 a6 e (evH prg 5 [0, 1, 4, 11, 12, 13] ir46_l0 (L46_0_3_s a1 a2 a3 a4 a6 s0.1 s0.2.1 s0.2.2)) := by
  have q := @loop_sound' (Bool × Int × (List SetD)) E_L46_0_3 (fun s => L46_0_3 a1 a2 a3 a4 a6 s.1 s.2.1 s.2.2) (fun s => evH prg 5 [0, 1, 4, 11, 12, 13] ir46_l0 (L46_0_3_s a1 a2 a3 a4 a6 s.1 s.2.1 s.2.2)) (L46_0_3_x a1 a2 a3 a4 a6) (fun s r h => L46_0_3_ok a1 a2 a3 a4 a6 s.1 s.2.1 s.2.2 h) s0 e h
  exact q
inductive E_L46_1_4 where
  | k0 (x0 : List SetD)
noncomputable def L46_1_4 (a1 : GramD) (a2 : List Int) (a3 : List Bool) (a5 : Nat) (v1 : List SetD) : Option (E_L46_1_4 ⊕ ((List SetD))) :=
  ((runL (fun s => L46_0_3 a1 a2 a3 (a1.prods.length : Int) a5 s.1 s.2.1 s.2.2) (false, 0, v1)).bind fun r1 => match r1 with | .k0 x1_0 x1_1 => (bif x1_0 then (some (.inr (x1_1))) else (some (.inl (.k0 x1_1)))))
def L46_1_4_s (a1 : GramD) (a2 : List Int) (a3 : List Bool) (a5 : Nat) (v1 : List SetD) : St := ⟨fr 27 ug [(0, (.ro (eOp a1 a2 a3))), (1, (.fn 75 [(.ptr 0 0), (.ptr 4 0)]))], [.cells 89 [(.ro (eOp a1 a2 a3))], bS [], bS v1, bS [], .cells 63 [(.sl 2 0 4 0 a5)]]⟩
def L46_1_4_x (a1 : GramD) (a2 : List Int) (a3 : List Bool) (a5 : Nat) (e : E_L46_1_4) (r : Option (Out × St)) : Prop := match e with | .k0 x0 => ∃ g, r = some ((.brk 0), ⟨fr 27 g [], [.cells 89 [(.ro (eOp a1 a2 a3))], bS [], bS x0, bS [], .cells 63 [(.sl 2 0 4 0 a5)]]⟩)
theorem L46_1_4_ok (a1 : GramD) (a2 : List Int) (a3 : List Bool) (a5 : Nat) (v1 : List SetD) {r : E_L46_1_4 ⊕ ((List SetD))} (h : L46_1_4 a1 a2 a3 a5 v1 = some r) : OkR (fun e => L46_1_4_x a1 a2 a3 a5 e (evH prg 5 [0, 1] ir46_l1 (L46_1_4_s a1 a2 a3 a5 v1))) (fun s => evH prg 5 [0, 1] ir46_l1 (L46_1_4_s a1 a2 a3 a5 v1) = evH prg 5 [0, 1] ir46_l1 (L46_1_4_s a1 a2 a3 a5 s)) r := by
 unfold L46_1_4 at h
 refine bn h fun r1 h1 h => ?_
 cases r1 with
 | k0 x1_0 x1_1 =>
  obtain ⟨g1, e1⟩ := L46_0_3_run a1 a2 a3 (a1.prods.length : Int) a5 (false, 0, v1) _ h1
  refine bi h (fun h2 h => ?_) fun h2 h => ?_
  ·
   rw [← sj h]
   exact rnd (n := 30) [(12, .v (i6 (a1.prods.length : Int))), (2002, .l (.brk 2) ⟨fr 27 g1 [(0, (.ro (eOp a1 a2 a3))), (1, (.fn 75 [(.ptr 0 0), (.ptr 4 0)])), (4, (vb x1_0)), (11, (.p (.lst 7 (a1.prods.map eProd))))], [.cells 89 [(.ro (eOp a1 a2 a3))], bS [], bS x1_1, bS [], .cells 63 [(.sl 2 0 4 0 a5)]]⟩), (25, .d true), (6000, .d true)] (apc (lg a1.prods eProd 7) (apc ((okT_of rfl (abl_cons rfl (abl_cons abl_row (abl_cons abl_row (abl_cons abl_row (abl_cons rfl rfl)))))) : okT 5 [.cells 89 [(.ro (eOp a1 a2 a3))], bS [], bS v1, bS [], .cells 63 [(.sl 2 0 4 0 a5)]] = true) (apc (e1 : evH prg 5 [0, 1, 4, 11, 12, 13] ir46_l0 (L46_0_3_s a1 a2 a3 (a1.prods.length : Int) a5 false 0 v1) = some ((.brk 2), ⟨fr 27 g1 [(0, (.ro (eOp a1 a2 a3))), (1, (.fn 75 [(.ptr 0 0), (.ptr 4 0)])), (4, (vb x1_0)), (11, (.p (.lst 7 (a1.prods.map eProd))))], [.cells 89 [(.ro (eOp a1 a2 a3))], bS [], bS x1_1, bS [], .cells 63 [(.sl 2 0 4 0 a5)]]⟩)) (apc (cv h2) (apc ((okT_of rfl (abl_cons rfl (abl_cons abl_row (abl_cons abl_row (abl_cons abl_row (abl_cons rfl rfl)))))) : okT 5 [.cells 89 [(.ro (eOp a1 a2 a3))], bS [], bS x1_1, bS [], .cells 63 [(.sl 2 0 4 0 a5)]] = true) apn))))) (by kernel_rfl)
  ·
   rw [← sj h]
   exact xbrk (n := 30) [(12, .v (i6 (a1.prods.length : Int))), (2002, .l (.brk 2) ⟨fr 27 g1 [(0, (.ro (eOp a1 a2 a3))), (1, (.fn 75 [(.ptr 0 0), (.ptr 4 0)])), (4, (vb x1_0)), (11, (.p (.lst 7 (a1.prods.map eProd))))], [.cells 89 [(.ro (eOp a1 a2 a3))], bS [], bS x1_1, bS [], .cells 63 [(.sl 2 0 4 0 a5)]]⟩), (25, .d false), (6000, .d true)] (apc (lg a1.prods eProd 7) (apc ((okT_of rfl (abl_cons rfl (abl_cons abl_row (abl_cons abl_row (abl_cons abl_row (abl_cons rfl rfl)))))) : okT 5 [.cells 89 [(.ro (eOp a1 a2 a3))], bS [], bS v1, bS [], .cells 63 [(.sl 2 0 4 0 a5)]] = true) (apc (e1 : evH prg 5 [0, 1, 4, 11, 12, 13] ir46_l0 (L46_0_3_s a1 a2 a3 (a1.prods.length : Int) a5 false 0 v1) = some ((.brk 2), ⟨fr 27 g1 [(0, (.ro (eOp a1 a2 a3))), (1, (.fn 75 [(.ptr 0 0), (.ptr 4 0)])), (4, (vb x1_0)), (11, (.p (.lst 7 (a1.prods.map eProd))))], [.cells 89 [(.ro (eOp a1 a2 a3))], bS [], bS x1_1, bS [], .cells 63 [(.sl 2 0 4 0 a5)]]⟩)) (apc (cv h2) apn)))) (by kernel_rfl)
theorem L46_1_4_run (a1 : GramD) (a2 : List Int) (a3 : List Bool) (a5 : Nat) (s0 : (List SetD)) (e : E_L46_1_4) (h : runL (fun s => L46_1_4 a1 a2 a3 a5 s) s0 = some e) : L46_1_4_x a1 a2 a3 a5 e (evH prg 5 [0, 1] ir46_l1 (L46_1_4_s a1 a2 a3 a5 s0)) := by
  have q := @loop_sound' ((List SetD)) E_L46_1_4 (fun s => L46_1_4 a1 a2 a3 a5 s) (fun s => evH prg 5 [0, 1] ir46_l1 (L46_1_4_s a1 a2 a3 a5 s)) (L46_1_4_x a1 a2 a3 a5) (fun s r h => L46_1_4_ok a1 a2 a3 a5 s h) s0 e h
  exact q
noncomputable def F46_4 (a1 : GramD) (a2 : List Int) (a3 : List Bool) (a4 : List SetD) (a5 : Nat) : Option (List SetD) :=
  ((runL (fun s => L46_1_4 a1 a2 a3 a5 s) a4).bind fun r1 => match r1 with | .k0 x1_0 => (some x1_0))
def F46_4_v (a1 : GramD) (a2 : List Int) (a3 : List Bool) (a4 : List SetD) (a5 : Nat) (x0 : (List SetD)) : AV := (.tup [])
def F46_4_h (a1 : GramD) (a2 : List Int) (a3 : List Bool) (a4 : List SetD) (a5 : Nat) (x0 : (List SetD)) : List AB := [.cells 89 [(.ro (eOp a1 a2 a3))], bS [], bS x0, bS [], .cells 63 [(.sl 2 0 4 0 a5)]]
theorem F46_4_ok (a1 : GramD) (a2 : List Int) (a3 : List Bool) (a4 : List SetD) (a5 : Nat) {r : (List SetD)} (h : F46_4 a1 a2 a3 a4 a5 = some r) : CS prg 46 [(.ro (eOp a1 a2 a3)), (.fn 75 [(.ptr 0 0), (.ptr 4 0)])] [.cells 89 [(.ro (eOp a1 a2 a3))], bS [], bS a4, bS [], .cells 63 [(.sl 2 0 4 0 a5)]] = some (F46_4_v a1 a2 a3 a4 a5 r, F46_4_h a1 a2 a3 a4 a5 r) := by
 unfold F46_4 at h
 refine bn h fun r1 h1 h => ?_
 cases r1 with
 | k0 x1_0 =>
  obtain ⟨g1, e1⟩ := L46_1_4_run a1 a2 a3 a5 a4 _ h1
  rw [← sj h]
  exact fcs (n := 30) [(2000, .l (.brk 0) ⟨fr 27 g1 [], [.cells 89 [(.ro (eOp a1 a2 a3))], bS [], bS x1_0, bS [], .cells 63 [(.sl 2 0 4 0 a5)]]⟩), (6000, .d true)] (apc ((okT_of rfl (abl_cons rfl (abl_cons abl_row (abl_cons abl_row (abl_cons abl_row (abl_cons rfl rfl)))))) : okT 5 [.cells 89 [(.ro (eOp a1 a2 a3))], bS [], bS a4, bS [], .cells 63 [(.sl 2 0 4 0 a5)]] = true) (apc (e1 : evH prg 5 [0, 1] ir46_l1 (L46_1_4_s a1 a2 a3 a5 a4) = some ((.brk 0), ⟨fr 27 g1 [], [.cells 89 [(.ro (eOp a1 a2 a3))], bS [], bS x1_0, bS [], .cells 63 [(.sl 2 0 4 0 a5)]]⟩)) apn)) (by kernel_rfl)
noncomputable def F61_2 (a1 : GramD) (a2 : List Int) (a3 : List Bool) : Option (List SetD) :=
  (bif (mkOk (a1.sorts.length : Int) 32) then ((F46_4 a1 a2 a3 (List.replicate (Int.toNat (a1.sorts.length : Int)) (⟨0, 0, 0, 0⟩ : SetD)) (Int.toNat (a1.sorts.length : Int))).bind fun x2 => (bif (decide ((Int.toNat (a1.sorts.length : Int)) ≤ x2.length)) then (some (x2.take (Int.toNat (a1.sorts.length : Int)))) else none)) else none)
def F61_2_v (a1 : GramD) (a2 : List Int) (a3 : List Bool) (x0 : (List SetD)) : AV := (.p (.lst 4 (x0.map eSet)))
theorem F61_2_ok (a1 : GramD) (a2 : List Int) (a3 : List Bool) {r : (List SetD)} (h : F61_2 a1 a2 a3 = some r) : PR1 prg 61 [(.ro (eOp a1 a2 a3))] (F61_2_v a1 a2 a3 r) := by
 unfold F61_2 at h
 refine bi h (fun h1 h => ?_) fun h1 h => ?_
 ·
  refine bn h fun x2 h2 h => ?_
  refine bi h (fun h3 h => ?_) fun h3 h => ?_
  ·
   rw [← sj h]
   exact fpo (n := 30) (v := (.sl 2 0 4 0 (Int.toNat (a1.sorts.length : Int)))) (h' := [.cells 89 [(.ro (eOp a1 a2 a3))], bS [], bS x2, bS [], .cells 63 [(.sl 2 0 4 0 (Int.toNat (a1.sorts.length : Int)))]]) [(9, .v (i6 (a1.sorts.length : Int))), (10, .r (.sl 2 0 4 0 (Int.toNat (a1.sorts.length : Int))) [.cells 89 [(.ro (eOp a1 a2 a3))], bS [], .row 46 4 0 (ra eSet (List.replicate (Int.toNat (a1.sorts.length : Int)) (⟨0, 0, 0, 0⟩ : SetD)))]), (13, .r (.tup []) [.cells 89 [(.ro (eOp a1 a2 a3))], bS [], bS x2, bS [], .cells 63 [(.sl 2 0 4 0 (Int.toNat (a1.sorts.length : Int)))]])] (apc (lg a1.sorts eStr 1) (apc ((mk_row' (h := [.cells 89 [(.ro (eOp a1 a2 a3))], bS []]) (e := eSet) (z := (⟨0, 0, 0, 0⟩ : SetD)) h1 rfl) : (mkA 46 4 32 [.val (.int .u64 0), .val (.int .u64 0), .val (.int .u64 0), .val (.int .u64 0)] (i6 (a1.sorts.length : Int)) (i6 (a1.sorts.length : Int)) 2).map (fun x => (x.1, [.cells 89 [(.ro (eOp a1 a2 a3))], bS []] ++ [x.2])) = some ((.sl 2 0 4 0 (Int.toNat (a1.sorts.length : Int))), [.cells 89 [(.ro (eOp a1 a2 a3))], bS [], .row 46 4 0 (ra eSet (List.replicate (Int.toNat (a1.sorts.length : Int)) (⟨0, 0, 0, 0⟩ : SetD)))])) (apc ((F46_4_ok a1 a2 a3 (List.replicate (Int.toNat (a1.sorts.length : Int)) (⟨0, 0, 0, 0⟩ : SetD)) (Int.toNat (a1.sorts.length : Int)) h2) : CS prg 46 [(.ro (eOp a1 a2 a3)), (.fn 75 [(.ptr 0 0), (.ptr 4 0)])] [.cells 89 [(.ro (eOp a1 a2 a3))], bS [], .row 46 4 0 (ra eSet (List.replicate (Int.toNat (a1.sorts.length : Int)) (⟨0, 0, 0, 0⟩ : SetD))), bS [], .cells 63 [(.sl 2 0 4 0 (Int.toNat (a1.sorts.length : Int)))]] = some ((.tup []), [.cells 89 [(.ro (eOp a1 a2 a3))], bS [], bS x2, bS [], .cells 63 [(.sl 2 0 4 0 (Int.toNat (a1.sorts.length : Int)))]])) apn))) (purA_sl rfl h3) (by kernel_rfl)
  ·
   cases h
 ·
  cases h
inductive R_F30 where
  | k0 (x0 : List SetD) (x1 : Int)
noncomputable def F30 (a1 : GramD) : Option R_F30 :=
  ((F45 a1).bind fun r1 => match r1 with | .k0 x1_0 => (bif (x1_0 != 0) then (some (.k0 ([]) x1_0)) else none) | .k1 x1_0 x1_1 x1_2 x1_3 x1_4 x1_5 x1_6 => ((F61_2 (⟨x1_0, x1_1, x1_2, x1_3, x1_4⟩ : GramD) x1_5 x1_6).bind fun x2 => (some (.k0 x2 0))))
def F30_v (a1 : GramD) (r : R_F30) : AV := match r with | .k0 x0 x1 => (.tup [(.p (.lst 4 (x0.map eSet))), (i6 x1)])
theorem F30_ok (a1 : GramD) {r : R_F30} (h : F30 a1 = some r) : PR1 prg 30 [(aG a1)] (F30_v a1 r) := by
 unfold F30 at h
 refine bn h fun r1 h1 h => ?_
 cases r1 with
 | k0 x1_0 =>
  refine bi h (fun h2 h => ?_) fun h2 h => ?_
  ·
   rw [← sj h]
   exact fpo (n := 30) (v := (.tup [(.sl 2 0 4 0 0), (i6 x1_0)])) (h' := [bG a1, bS [], bS []]) [(8, .v (.tup [(.p (.val (.pointer .none))), (i6 x1_0)])), (12, .d true)] (apc (((F45_ok a1 h1).cp rfl _) : CP prg 45 [(aG a1)] [bG a1, bS []] = some (.tup [(.p (.val (.pointer .none))), (i6 x1_0)])) (apc (cv h2) apn)) (purA_tup (purAs_cons (purA_sl (xs := []) rfl rfl) (purAs_cons rfl purAs_nil))) (by kernel_rfl)
  ·
   cases h
 | k1 x1_0 x1_1 x1_2 x1_3 x1_4 x1_5 x1_6 =>
  refine bn h fun x2 h2 h => ?_
  rw [← sj h]
  exact fpr (n := 30) [(8, .v (.tup [(.ro [.lst 1 (x1_0.map eStr), .lst 7 (x1_1.map eProd), .val (.int .i64 x1_2), .lst 3 (x1_3.map eForb), .lst 5 (x1_4.map eFoll), .lst 1 (x1_5.map eI64), .lst 1 (x1_6.map eBool)]), (i6 0)])), (15, .v (.p (.lst 4 (x2.map eSet))))] (apc (((F45_ok a1 h1).cp rfl _) : CP prg 45 [(aG a1)] [bG a1, bS []] = some (.tup [(.ro [.lst 1 (x1_0.map eStr), .lst 7 (x1_1.map eProd), .val (.int .i64 x1_2), .lst 3 (x1_3.map eForb), .lst 5 (x1_4.map eFoll), .lst 1 (x1_5.map eI64), .lst 1 (x1_6.map eBool)]), (i6 0)])) (apc (((F61_2_ok (⟨x1_0, x1_1, x1_2, x1_3, x1_4⟩ : GramD) x1_5 x1_6 h2).cp rfl _) : CP prg 61 [(.ro [.lst 1 (x1_0.map eStr), .lst 7 (x1_1.map eProd), .val (.int .i64 x1_2), .lst 3 (x1_3.map eForb), .lst 5 (x1_4.map eFoll), .lst 1 (x1_5.map eI64), .lst 1 (x1_6.map eBool)])] [bG a1, bS []] = some (.p (.lst 4 (x2.map eSet)))) apn)) rfl (by kernel_rfl)
inductive E_L47_0 where
  | k0 (x0 : Int) (x1 : Int) (x2 : Int) (x3 : Int) (x4 : Int) (x5 : Int)
  | k1 (x0 : ByteArray)
noncomputable def L47_0 (a1 : ProdD) (a2 : Int) (a8 : List (Int × ByteArray)) (v1 : ByteArray) (v2 : Int) : Option (E_L47_0 ⊕ (ByteArray × Int)) :=
  (bif (decide (v2 < a2)) then ((getI a1.right v2).bind fun x2 => (bif (x2.kind == 0) then ((F49 x2).bind fun r4 => match r4 with | .k0 x4_0 x4_1 => (bif (decide (v1.size + (⟨([UInt8.ofNat (Int.toNat x4_0)] : List UInt8).toArray⟩ : ByteArray).size ≤ 9223372036854775807)) then (some (.inr ((v1 ++ (⟨([UInt8.ofNat (Int.toNat x4_0)] : List UInt8).toArray⟩ : ByteArray)), (IntKind.wrap .i64 (v2 + 1))))) else none)) else (bif (mhas a8 x2.sort) then (bif (decide (v1.size + (mget (⟨([] : List UInt8).toArray⟩ : ByteArray) a8 x2.sort).size ≤ 9223372036854775807)) then (some (.inr ((v1 ++ (mget (⟨([] : List UInt8).toArray⟩ : ByteArray) a8 x2.sort)), (IntKind.wrap .i64 (v2 + 1))))) else none) else (some (.inl (.k0 x2.kind x2.a x2.b x2.c x2.d x2.sort)))))) else (some (.inl (.k1 v1))))
def L47_0_s (a1 : ProdD) (a2 : Int) (a3 : GramD) (a4 : Int) (a5 : GramD) (a6 : List Int) (a7 : List Bool) (a8 : List (Int × ByteArray)) (v1 : ByteArray) (v2 : Int) : St := ⟨fr 95 ug [(3, (.ptr 4 0)), (4, (.ptr 7 0)), (7, (vs v1)), (45, (.p (.lst 6 (a1.right.map eSym)))), (46, (i6 a2)), (47, (i6 v2))], [bG a3, .cells 3 [(i6 a4)], .cells 89 [(.ro (eOp a5 a6 a7))], mIS a8, .cells 94 [(.mp 3)], .row 48 6 0 (ra eSym []), bP a1, bP a1]⟩
def L47_0_x (a1 : ProdD) (a2 : Int) (a3 : GramD) (a4 : Int) (a5 : GramD) (a6 : List Int) (a7 : List Bool) (a8 : List (Int × ByteArray)) (e : E_L47_0) (r : Option (Out × St)) : Prop := match e with | .k0 x0 x1 x2 x3 x4 x5 => ∃ g, r = some (.ret, ⟨fr 95 g [(5, (vb false))], [bG a3, .cells 3 [(i6 a4)], .cells 89 [(.ro (eOp a5 a6 a7))], mIS a8, .cells 94 [(.mp 3)], .row 48 6 0 (ra eSym []), bP a1, bP a1, .cells 48 [(i6 x0), (vi .u64 x1), (vi .u64 x2), (vi .u64 x3), (vi .u64 x4), (i6 x5)]]⟩) | .k1 x0 => ∃ g, r = some ((.brk 0), ⟨fr 95 g [(3, (.ptr 4 0)), (4, (.ptr 7 0)), (7, (vs x0)), (45, (.p (.lst 6 (a1.right.map eSym))))], [bG a3, .cells 3 [(i6 a4)], .cells 89 [(.ro (eOp a5 a6 a7))], mIS a8, .cells 94 [(.mp 3)], .row 48 6 0 (ra eSym []), bP a1, bP a1]⟩)
theorem L47_0_ok (a1 : ProdD) (a2 : Int) (a3 : GramD) (a4 : Int) (a5 : GramD) (a6 : List Int) (a7 : List Bool) (a8 : List (Int × ByteArray)) (v1 : ByteArray) (v2 : Int) {r : E_L47_0 ⊕ (ByteArray × Int)} (h : L47_0 a1 a2 a8 v1 v2 = some r) : OkR (fun e => L47_0_x a1 a2 a3 a4 a5 a6 a7 a8 e (evH prg 8 [3, 4, 7, 45, 46, 47] ir47_l0 (L47_0_s a1 a2 a3 a4 a5 a6 a7 a8 v1 v2))) (fun s => evH prg 8 [3, 4, 7, 45, 46, 47] ir47_l0 (L47_0_s a1 a2 a3 a4 a5 a6 a7 a8 v1 v2) = evH prg 8 [3, 4, 7, 45, 46, 47] ir47_l0 (L47_0_s a1 a2 a3 a4 a5 a6 a7 a8 s.1 s.2)) r := by
 unfold L47_0 at h
 refine bi h (fun h1 h => ?_) fun h1 h => ?_
 ·
  refine bn h fun x2 h2 h => ?_
  refine bi h (fun h3 h => ?_) fun h3 h => ?_
  ·
   refine bn h fun r4 h4 h => ?_
   cases r4 with
   | k0 x4_0 x4_1 =>
    refine bi h (fun h5 h => ?_) fun h5 h => ?_
    ·
     rw [← sj h]
     exact rnd (n := 30) [(48, .d true), (49, .v (.ro (eSym x2))), (53, .d true), (57, .v (.tup [(vi .u8 x4_0), (vb x4_1)])), (64, .v (vs (v1 ++ (⟨([UInt8.ofNat (Int.toNat x4_0)] : List UInt8).toArray⟩ : ByteArray)))), (6000, .d true)] (apc (cv h1) (apc (ig eSym 6 .i64 h2) (apc (cv h3) (apc (((F49_ok x2 h4).cp rfl _) : CP prg 49 [(.agg ((List.take 4 (List.drop 1 (eSym x2))).map .p))] [bG a3, .cells 3 [(i6 a4)], .cells 89 [(.ro (eOp a5 a6 a7))], mIS a8, .cells 94 [(.mp 3)], .row 48 6 0 (ra eSym []), bP a1, bP a1, .cells 48 ((eSym x2).map .p)] = some (.tup [(vi .u8 x4_0), (vb x4_1)])) (apc ((st_add h5) : binA .add (vs v1) (vs (⟨([UInt8.ofNat (Int.toNat x4_0)] : List UInt8).toArray⟩ : ByteArray)) = some (vs (v1 ++ (⟨([UInt8.ofNat (Int.toNat x4_0)] : List UInt8).toArray⟩ : ByteArray)))) (apc ((okT_of rfl (abl_cons rfl (abl_cons rfl (abl_cons rfl (abl_cons (abl_map (fun _ => rfl) (fun _ => rfl)) (abl_cons rfl (abl_cons abl_row (abl_cons rfl (abl_cons rfl rfl))))))))) : okT 8 [bG a3, .cells 3 [(i6 a4)], .cells 89 [(.ro (eOp a5 a6 a7))], mIS a8, .cells 94 [(.mp 3)], .row 48 6 0 (ra eSym []), bP a1, bP a1, .cells 48 ((eSym x2).map .p), .row 5 1 0 [[(vi .u8 x4_0)]]] = true) apn)))))) (by kernel_rfl)
    ·
     cases h
  ·
   refine bi h (fun h4 h => ?_) fun h4 h => ?_
   ·
    refine bi h (fun h5 h => ?_) fun h5 h => ?_
    ·
     rw [← sj h]
     exact rnd (n := 30) [(48, .d true), (49, .v (.ro (eSym x2))), (53, .d false), (69, .v (.tup [(vs (mget b0 a8 x2.sort)), (vb (mhas a8 x2.sort))])), (71, .d true), (76, .v (vs (v1 ++ (mget b0 a8 x2.sort)))), (6000, .d true)] (apc (cv h1) (apc (ig eSym 6 .i64 h2) (apc (cv h3) (apc ((lk_row2 key_int (es := a8) (k := x2.sort) (z := b0) rfl rfl) : lkA [bG a3, .cells 3 [(i6 a4)], .cells 89 [(.ro (eOp a5 a6 a7))], mIS a8, .cells 94 [(.mp 3)], .row 48 6 0 (ra eSym []), bP a1, bP a1, .cells 48 ((eSym x2).map .p)] [1] .false .false [(.val (.string ⟨([] : List UInt8).toArray⟩))] .true (.mp 3) (i6 x2.sort) = some (.tup [(vs (mget b0 a8 x2.sort)), (vb (mhas a8 x2.sort))])) (apc (cv h4) (apc ((st_add h5) : binA .add (vs v1) (vs (mget b0 a8 x2.sort)) = some (vs (v1 ++ (mget b0 a8 x2.sort)))) (apc ((okT_of rfl (abl_cons rfl (abl_cons rfl (abl_cons rfl (abl_cons (abl_map (fun _ => rfl) (fun _ => rfl)) (abl_cons rfl (abl_cons abl_row (abl_cons rfl (abl_cons rfl rfl))))))))) : okT 8 [bG a3, .cells 3 [(i6 a4)], .cells 89 [(.ro (eOp a5 a6 a7))], mIS a8, .cells 94 [(.mp 3)], .row 48 6 0 (ra eSym []), bP a1, bP a1, .cells 48 ((eSym x2).map .p)] = true) apn))))))) (by kernel_rfl)
    ·
     cases h
   ·
    rw [← sj h]
    exact xret (n := 30) [(48, .d true), (49, .v (.ro (eSym x2))), (53, .d false), (69, .v (.tup [(vs (mget b0 a8 x2.sort)), (vb (mhas a8 x2.sort))])), (71, .d false), (6000, .d true)] (apc (cv h1) (apc (ig eSym 6 .i64 h2) (apc (cv h3) (apc ((lk_row2 key_int (es := a8) (k := x2.sort) (z := b0) rfl rfl) : lkA [bG a3, .cells 3 [(i6 a4)], .cells 89 [(.ro (eOp a5 a6 a7))], mIS a8, .cells 94 [(.mp 3)], .row 48 6 0 (ra eSym []), bP a1, bP a1, .cells 48 ((eSym x2).map .p)] [1] .false .false [(.val (.string ⟨([] : List UInt8).toArray⟩))] .true (.mp 3) (i6 x2.sort) = some (.tup [(vs (mget b0 a8 x2.sort)), (vb (mhas a8 x2.sort))])) (apc (cv h4) apn))))) (by kernel_rfl)
 ·
  rw [← sj h]
  exact xbrk (n := 30) [(48, .d false), (6000, .d true)] (apc (cv h1) apn) (by kernel_rfl)
theorem L47_0_run (a1 : ProdD) (a2 : Int) (a3 : GramD) (a4 : Int) (a5 : GramD) (a6 : List Int) (a7 : List Bool) (a8 : List (Int × ByteArray)) (s0 : ByteArray × Int) (e : E_L47_0) (h : runL (fun s => L47_0 a1 a2 a8 s.1 s.2) s0 = some e) : L47_0_x a1 a2 a3 a4 a5 a6 a7 a8 e (evH prg 8 [3, 4, 7, 45, 46, 47] ir47_l0 (L47_0_s a1 a2 a3 a4 a5 a6 a7 a8 s0.1 s0.2)) := by
  have q := @loop_sound' (ByteArray × Int) E_L47_0 (fun s => L47_0 a1 a2 a8 s.1 s.2) (fun s => evH prg 8 [3, 4, 7, 45, 46, 47] ir47_l0 (L47_0_s a1 a2 a3 a4 a5 a6 a7 a8 s.1 s.2)) (L47_0_x a1 a2 a3 a4 a5 a6 a7 a8) (fun s r h => L47_0_ok a1 a2 a3 a4 a5 a6 a7 a8 s.1 s.2 h) s0 e h
  exact q
inductive R_F47 where
  | k0 (x0 : Bool) (x1 : List (Int × ByteArray))
  | k1 (x0 : Int) (x1 : Int) (x2 : Int) (x3 : Int) (x4 : Int) (x5 : Int)
noncomputable def F47 (a1 : ProdD) (a3 : Int) (a5 : List Int) (a7 : List (Int × ByteArray)) : Option R_F47 :=
  ((F48 a5 a1).bind fun x1 => (bif (decide (x1 < 0)) then (some (.k0 false a7)) else ((getI a5 a3).bind fun x3 => (bif (decide (x1 > x3)) then (some (.k0 false a7)) else ((getI a5 a1.left).bind fun x5 => (bif (x1 != x5) then (some (.k0 false a7)) else ((runL (fun s => L47_0 a1 (a1.right.length : Int) a7 s.1 s.2) ((⟨([] : List UInt8).toArray⟩ : ByteArray), 0)).bind fun r7 => match r7 with | .k0 x7_0 x7_1 x7_2 x7_3 x7_4 x7_5 => (some (.k1 x7_0 x7_1 x7_2 x7_3 x7_4 x7_5)) | .k1 x7_0 => (bif (mhas a7 a1.left) then (bif (Op.bytesLess (mget (⟨([] : List UInt8).toArray⟩ : ByteArray) a7 a1.left).toList x7_0.toList || (mget (⟨([] : List UInt8).toArray⟩ : ByteArray) a7 a1.left).toList == x7_0.toList) then (some (.k0 false a7)) else (some (.k0 true (mput a1.left x7_0 a7)))) else (some (.k0 true (mput a1.left x7_0 a7)))))))))))
def F47_v (a1 : ProdD) (a2 : GramD) (a3 : Int) (a4 : GramD) (a5 : List Int) (a6 : List Bool) (a7 : List (Int × ByteArray)) (r : R_F47) : AV := match r with | .k0 x0 x1 => (vb x0) | .k1 x0 x1 x2 x3 x4 x5 => (vb false)
def F47_h (a1 : ProdD) (a2 : GramD) (a3 : Int) (a4 : GramD) (a5 : List Int) (a6 : List Bool) (a7 : List (Int × ByteArray)) (r : R_F47) : List AB := match r with | .k0 x0 x1 => [bG a2, .cells 3 [(i6 a3)], .cells 89 [(.ro (eOp a4 a5 a6))], mIS x1, .cells 94 [(.mp 3)], .row 48 6 0 (ra eSym []), bP a1, bP a1] | .k1 x0 x1 x2 x3 x4 x5 => [bG a2, .cells 3 [(i6 a3)], .cells 89 [(.ro (eOp a4 a5 a6))], mIS a7, .cells 94 [(.mp 3)], .row 48 6 0 (ra eSym []), bP a1, bP a1, .cells 48 [(i6 x0), (vi .u64 x1), (vi .u64 x2), (vi .u64 x3), (vi .u64 x4), (i6 x5)]]
theorem F47_ok (a1 : ProdD) (a2 : GramD) (a3 : Int) (a4 : GramD) (a5 : List Int) (a6 : List Bool) (a7 : List (Int × ByteArray)) {r : R_F47} (h : F47 a1 a3 a5 a7 = some r) : CS prg 47 [(aP a1), (.ptr 2 0), (.ptr 1 0), (.ptr 4 0)] [bG a2, .cells 3 [(i6 a3)], .cells 89 [(.ro (eOp a4 a5 a6))], mIS a7, .cells 94 [(.mp 3)], .row 48 6 0 (ra eSym []), bP a1] = some (F47_v a1 a2 a3 a4 a5 a6 a7 r, F47_h a1 a2 a3 a4 a5 a6 a7 r) := by
 unfold F47 at h
 refine bn h fun x1 h1 h => ?_
 refine bi h (fun h2 h => ?_) fun h2 h => ?_
 ·
  rw [← sj h]
  exact fcs (n := 30) [(18, .v (i6 x1)), (20, .d true)] (apc (((F48_ok a4 a5 a6 a1 h1).cp rfl _) : CP prg 48 [(.ro (eOp a4 a5 a6)), (aP a1)] [bG a2, .cells 3 [(i6 a3)], .cells 89 [(.ro (eOp a4 a5 a6))], mIS a7, .cells 94 [(.mp 3)], .row 48 6 0 (ra eSym []), bP a1, bP a1] = some (i6 x1)) (apc (cv h2) apn)) (by kernel_rfl)
 ·
  refine bn h fun x3 h3 h => ?_
  refine bi h (fun h4 h => ?_) fun h4 h => ?_
  ·
   rw [← sj h]
   exact fcs (n := 30) [(18, .v (i6 x1)), (20, .d false), (28, .v (.ro [.val (.int .i64 x3)])), (30, .d true)] (apc (((F48_ok a4 a5 a6 a1 h1).cp rfl _) : CP prg 48 [(.ro (eOp a4 a5 a6)), (aP a1)] [bG a2, .cells 3 [(i6 a3)], .cells 89 [(.ro (eOp a4 a5 a6))], mIS a7, .cells 94 [(.mp 3)], .row 48 6 0 (ra eSym []), bP a1, bP a1] = some (i6 x1)) (apc (cv h2) (apc (ig eI64 1 .i64 h3) (apc (cv h4) apn)))) (by kernel_rfl)
  ·
   refine bn h fun x5 h5 h => ?_
   refine bi h (fun h6 h => ?_) fun h6 h => ?_
   ·
    rw [← sj h]
    exact fcs (n := 30) [(18, .v (i6 x1)), (20, .d false), (28, .v (.ro [.val (.int .i64 x3)])), (30, .d false), (40, .v (.ro [.val (.int .i64 x5)])), (42, .d true)] (apc (((F48_ok a4 a5 a6 a1 h1).cp rfl _) : CP prg 48 [(.ro (eOp a4 a5 a6)), (aP a1)] [bG a2, .cells 3 [(i6 a3)], .cells 89 [(.ro (eOp a4 a5 a6))], mIS a7, .cells 94 [(.mp 3)], .row 48 6 0 (ra eSym []), bP a1, bP a1] = some (i6 x1)) (apc (cv h2) (apc (ig eI64 1 .i64 h3) (apc (cv h4) (apc (ig eI64 1 .i64 h5) (apc (cv h6) apn)))))) (by kernel_rfl)
   ·
    refine bn h fun r7 h7 h => ?_
    cases r7 with
    | k0 x7_0 x7_1 x7_2 x7_3 x7_4 x7_5 =>
     obtain ⟨g7, e7⟩ := L47_0_run a1 (a1.right.length : Int) a2 a3 a4 a5 a6 a7 (b0, 0) _ h7
     rw [← sj h]
     exact fcs (n := 30) [(18, .v (i6 x1)), (20, .d false), (28, .v (.ro [.val (.int .i64 x3)])), (30, .d false), (40, .v (.ro [.val (.int .i64 x5)])), (42, .d false), (46, .v (i6 (a1.right.length : Int))), (2000, .l .ret ⟨fr 95 g7 [(5, (vb false))], [bG a2, .cells 3 [(i6 a3)], .cells 89 [(.ro (eOp a4 a5 a6))], mIS a7, .cells 94 [(.mp 3)], .row 48 6 0 (ra eSym []), bP a1, bP a1, .cells 48 [(i6 x7_0), (vi .u64 x7_1), (vi .u64 x7_2), (vi .u64 x7_3), (vi .u64 x7_4), (i6 x7_5)]]⟩), (6000, .d true)] (apc (((F48_ok a4 a5 a6 a1 h1).cp rfl _) : CP prg 48 [(.ro (eOp a4 a5 a6)), (aP a1)] [bG a2, .cells 3 [(i6 a3)], .cells 89 [(.ro (eOp a4 a5 a6))], mIS a7, .cells 94 [(.mp 3)], .row 48 6 0 (ra eSym []), bP a1, bP a1] = some (i6 x1)) (apc (cv h2) (apc (ig eI64 1 .i64 h3) (apc (cv h4) (apc (ig eI64 1 .i64 h5) (apc (cv h6) (apc (lg a1.right eSym 6) (apc ((okT_of rfl (abl_cons rfl (abl_cons rfl (abl_cons rfl (abl_cons (abl_map (fun _ => rfl) (fun _ => rfl)) (abl_cons rfl (abl_cons abl_row (abl_cons rfl (abl_cons rfl rfl))))))))) : okT 8 [bG a2, .cells 3 [(i6 a3)], .cells 89 [(.ro (eOp a4 a5 a6))], mIS a7, .cells 94 [(.mp 3)], .row 48 6 0 (ra eSym []), bP a1, bP a1] = true) (apc (e7 : evH prg 8 [3, 4, 7, 45, 46, 47] ir47_l0 (L47_0_s a1 (a1.right.length : Int) a2 a3 a4 a5 a6 a7 b0 0) = some (.ret, ⟨fr 95 g7 [(5, (vb false))], [bG a2, .cells 3 [(i6 a3)], .cells 89 [(.ro (eOp a4 a5 a6))], mIS a7, .cells 94 [(.mp 3)], .row 48 6 0 (ra eSym []), bP a1, bP a1, .cells 48 [(i6 x7_0), (vi .u64 x7_1), (vi .u64 x7_2), (vi .u64 x7_3), (vi .u64 x7_4), (i6 x7_5)]]⟩)) apn))))))))) (by kernel_rfl)
    | k1 x7_0 =>
     obtain ⟨g7, e7⟩ := L47_0_run a1 (a1.right.length : Int) a2 a3 a4 a5 a6 a7 (b0, 0) _ h7
     refine bi h (fun h8 h => ?_) fun h8 h => ?_
     ·
      refine bi h (fun h9 h => ?_) fun h9 h => ?_
      ·
       rw [← sj h]
       exact fcs (n := 30) [(18, .v (i6 x1)), (20, .d false), (28, .v (.ro [.val (.int .i64 x3)])), (30, .d false), (40, .v (.ro [.val (.int .i64 x5)])), (42, .d false), (46, .v (i6 (a1.right.length : Int))), (2000, .l (.brk 0) ⟨fr 95 g7 [(3, (.ptr 4 0)), (4, (.ptr 7 0)), (7, (vs x7_0)), (45, (.p (.lst 6 (a1.right.map eSym))))], [bG a2, .cells 3 [(i6 a3)], .cells 89 [(.ro (eOp a4 a5 a6))], mIS a7, .cells 94 [(.mp 3)], .row 48 6 0 (ra eSym []), bP a1, bP a1]⟩), (82, .v (.tup [(vs (mget b0 a7 a1.left)), (vb (mhas a7 a1.left))])), (84, .d true), (89, .d true), (6000, .d true)] (apc (((F48_ok a4 a5 a6 a1 h1).cp rfl _) : CP prg 48 [(.ro (eOp a4 a5 a6)), (aP a1)] [bG a2, .cells 3 [(i6 a3)], .cells 89 [(.ro (eOp a4 a5 a6))], mIS a7, .cells 94 [(.mp 3)], .row 48 6 0 (ra eSym []), bP a1, bP a1] = some (i6 x1)) (apc (cv h2) (apc (ig eI64 1 .i64 h3) (apc (cv h4) (apc (ig eI64 1 .i64 h5) (apc (cv h6) (apc (lg a1.right eSym 6) (apc ((okT_of rfl (abl_cons rfl (abl_cons rfl (abl_cons rfl (abl_cons (abl_map (fun _ => rfl) (fun _ => rfl)) (abl_cons rfl (abl_cons abl_row (abl_cons rfl (abl_cons rfl rfl))))))))) : okT 8 [bG a2, .cells 3 [(i6 a3)], .cells 89 [(.ro (eOp a4 a5 a6))], mIS a7, .cells 94 [(.mp 3)], .row 48 6 0 (ra eSym []), bP a1, bP a1] = true) (apc (e7 : evH prg 8 [3, 4, 7, 45, 46, 47] ir47_l0 (L47_0_s a1 (a1.right.length : Int) a2 a3 a4 a5 a6 a7 b0 0) = some ((.brk 0), ⟨fr 95 g7 [(3, (.ptr 4 0)), (4, (.ptr 7 0)), (7, (vs x7_0)), (45, (.p (.lst 6 (a1.right.map eSym))))], [bG a2, .cells 3 [(i6 a3)], .cells 89 [(.ro (eOp a4 a5 a6))], mIS a7, .cells 94 [(.mp 3)], .row 48 6 0 (ra eSym []), bP a1, bP a1]⟩)) (apc ((lk_row2 key_int (es := a7) (k := a1.left) (z := b0) rfl rfl) : lkA [bG a2, .cells 3 [(i6 a3)], .cells 89 [(.ro (eOp a4 a5 a6))], mIS a7, .cells 94 [(.mp 3)], .row 48 6 0 (ra eSym []), bP a1, bP a1] [1] .false .false [(.val (.string ⟨([] : List UInt8).toArray⟩))] .true (.mp 3) (i6 a1.left) = some (.tup [(vs (mget b0 a7 a1.left)), (vb (mhas a7 a1.left))])) (apc (cv h8) (apc (cv h9) apn)))))))))))) (by kernel_rfl)
      ·
       rw [← sj h]
       exact fcs (n := 30) [(18, .v (i6 x1)), (20, .d false), (28, .v (.ro [.val (.int .i64 x3)])), (30, .d false), (40, .v (.ro [.val (.int .i64 x5)])), (42, .d false), (46, .v (i6 (a1.right.length : Int))), (2000, .l (.brk 0) ⟨fr 95 g7 [(3, (.ptr 4 0)), (4, (.ptr 7 0)), (7, (vs x7_0)), (45, (.p (.lst 6 (a1.right.map eSym))))], [bG a2, .cells 3 [(i6 a3)], .cells 89 [(.ro (eOp a4 a5 a6))], mIS a7, .cells 94 [(.mp 3)], .row 48 6 0 (ra eSym []), bP a1, bP a1]⟩), (82, .v (.tup [(vs (mget b0 a7 a1.left)), (vb (mhas a7 a1.left))])), (84, .d true), (89, .d false), (7094, .r ud [bG a2, .cells 3 [(i6 a3)], .cells 89 [(.ro (eOp a4 a5 a6))], .map (mrow (fun n => vi .i64 n) (fun s => vs s) (mput a1.left x7_0 a7)), .cells 94 [(.mp 3)], .row 48 6 0 (ra eSym []), bP a1, bP a1]), (6000, .d true)] (apc (((F48_ok a4 a5 a6 a1 h1).cp rfl _) : CP prg 48 [(.ro (eOp a4 a5 a6)), (aP a1)] [bG a2, .cells 3 [(i6 a3)], .cells 89 [(.ro (eOp a4 a5 a6))], mIS a7, .cells 94 [(.mp 3)], .row 48 6 0 (ra eSym []), bP a1, bP a1] = some (i6 x1)) (apc (cv h2) (apc (ig eI64 1 .i64 h3) (apc (cv h4) (apc (ig eI64 1 .i64 h5) (apc (cv h6) (apc (lg a1.right eSym 6) (apc ((okT_of rfl (abl_cons rfl (abl_cons rfl (abl_cons rfl (abl_cons (abl_map (fun _ => rfl) (fun _ => rfl)) (abl_cons rfl (abl_cons abl_row (abl_cons rfl (abl_cons rfl rfl))))))))) : okT 8 [bG a2, .cells 3 [(i6 a3)], .cells 89 [(.ro (eOp a4 a5 a6))], mIS a7, .cells 94 [(.mp 3)], .row 48 6 0 (ra eSym []), bP a1, bP a1] = true) (apc (e7 : evH prg 8 [3, 4, 7, 45, 46, 47] ir47_l0 (L47_0_s a1 (a1.right.length : Int) a2 a3 a4 a5 a6 a7 b0 0) = some ((.brk 0), ⟨fr 95 g7 [(3, (.ptr 4 0)), (4, (.ptr 7 0)), (7, (vs x7_0)), (45, (.p (.lst 6 (a1.right.map eSym))))], [bG a2, .cells 3 [(i6 a3)], .cells 89 [(.ro (eOp a4 a5 a6))], mIS a7, .cells 94 [(.mp 3)], .row 48 6 0 (ra eSym []), bP a1, bP a1]⟩)) (apc ((lk_row2 key_int (es := a7) (k := a1.left) (z := b0) rfl rfl) : lkA [bG a2, .cells 3 [(i6 a3)], .cells 89 [(.ro (eOp a4 a5 a6))], mIS a7, .cells 94 [(.mp 3)], .row 48 6 0 (ra eSym []), bP a1, bP a1] [1] .false .false [(.val (.string ⟨([] : List UInt8).toArray⟩))] .true (.mp 3) (i6 a1.left) = some (.tup [(vs (mget b0 a7 a1.left)), (vb (mhas a7 a1.left))])) (apc (cv h8) (apc (cv h9) (apc (⟨up_row key_int (es := a7) (k := a1.left) (v := x7_0) rfl, rfl⟩ : upA [bG a2, .cells 3 [(i6 a3)], .cells 89 [(.ro (eOp a4 a5 a6))], mIS a7, .cells 94 [(.mp 3)], .row 48 6 0 (ra eSym []), bP a1, bP a1] [1] .false (.mp 3) (i6 a1.left) (vs x7_0) = some [bG a2, .cells 3 [(i6 a3)], .cells 89 [(.ro (eOp a4 a5 a6))], .map (mrow (fun n => vi .i64 n) (fun s => vs s) (mput a1.left x7_0 a7)), .cells 94 [(.mp 3)], .row 48 6 0 (ra eSym []), bP a1, bP a1] ∧ ud = ud) apn))))))))))))) (by kernel_rfl)
     ·
      rw [← sj h]
      exact fcs (n := 30) [(18, .v (i6 x1)), (20, .d false), (28, .v (.ro [.val (.int .i64 x3)])), (30, .d false), (40, .v (.ro [.val (.int .i64 x5)])), (42, .d false), (46, .v (i6 (a1.right.length : Int))), (2000, .l (.brk 0) ⟨fr 95 g7 [(3, (.ptr 4 0)), (4, (.ptr 7 0)), (7, (vs x7_0)), (45, (.p (.lst 6 (a1.right.map eSym))))], [bG a2, .cells 3 [(i6 a3)], .cells 89 [(.ro (eOp a4 a5 a6))], mIS a7, .cells 94 [(.mp 3)], .row 48 6 0 (ra eSym []), bP a1, bP a1]⟩), (82, .v (.tup [(vs (mget b0 a7 a1.left)), (vb (mhas a7 a1.left))])), (84, .d false), (7094, .r ud [bG a2, .cells 3 [(i6 a3)], .cells 89 [(.ro (eOp a4 a5 a6))], .map (mrow (fun n => vi .i64 n) (fun s => vs s) (mput a1.left x7_0 a7)), .cells 94 [(.mp 3)], .row 48 6 0 (ra eSym []), bP a1, bP a1]), (6000, .d true)] (apc (((F48_ok a4 a5 a6 a1 h1).cp rfl _) : CP prg 48 [(.ro (eOp a4 a5 a6)), (aP a1)] [bG a2, .cells 3 [(i6 a3)], .cells 89 [(.ro (eOp a4 a5 a6))], mIS a7, .cells 94 [(.mp 3)], .row 48 6 0 (ra eSym []), bP a1, bP a1] = some (i6 x1)) (apc (cv h2) (apc (ig eI64 1 .i64 h3) (apc (cv h4) (apc (ig eI64 1 .i64 h5) (apc (cv h6) (apc (lg a1.right eSym 6) (apc ((okT_of rfl (abl_cons rfl (abl_cons rfl (abl_cons rfl (abl_cons (abl_map (fun _ => rfl) (fun _ => rfl)) (abl_cons rfl (abl_cons abl_row (abl_cons rfl (abl_cons rfl rfl))))))))) : okT 8 [bG a2, .cells 3 [(i6 a3)], .cells 89 [(.ro (eOp a4 a5 a6))], mIS a7, .cells 94 [(.mp 3)], .row 48 6 0 (ra eSym []), bP a1, bP a1] = true) (apc (e7 : evH prg 8 [3, 4, 7, 45, 46, 47] ir47_l0 (L47_0_s a1 (a1.right.length : Int) a2 a3 a4 a5 a6 a7 b0 0) = some ((.brk 0), ⟨fr 95 g7 [(3, (.ptr 4 0)), (4, (.ptr 7 0)), (7, (vs x7_0)), (45, (.p (.lst 6 (a1.right.map eSym))))], [bG a2, .cells 3 [(i6 a3)], .cells 89 [(.ro (eOp a4 a5 a6))], mIS a7, .cells 94 [(.mp 3)], .row 48 6 0 (ra eSym []), bP a1, bP a1]⟩)) (apc ((lk_row2 key_int (es := a7) (k := a1.left) (z := b0) rfl rfl) : lkA [bG a2, .cells 3 [(i6 a3)], .cells 89 [(.ro (eOp a4 a5 a6))], mIS a7, .cells 94 [(.mp 3)], .row 48 6 0 (ra eSym []), bP a1, bP a1] [1] .false .false [(.val (.string ⟨([] : List UInt8).toArray⟩))] .true (.mp 3) (i6 a1.left) = some (.tup [(vs (mget b0 a7 a1.left)), (vb (mhas a7 a1.left))])) (apc (cv h8) (apc (⟨up_row key_int (es := a7) (k := a1.left) (v := x7_0) rfl, rfl⟩ : upA [bG a2, .cells 3 [(i6 a3)], .cells 89 [(.ro (eOp a4 a5 a6))], mIS a7, .cells 94 [(.mp 3)], .row 48 6 0 (ra eSym []), bP a1, bP a1] [1] .false (.mp 3) (i6 a1.left) (vs x7_0) = some [bG a2, .cells 3 [(i6 a3)], .cells 89 [(.ro (eOp a4 a5 a6))], .map (mrow (fun n => vi .i64 n) (fun s => vs s) (mput a1.left x7_0 a7)), .cells 94 [(.mp 3)], .row 48 6 0 (ra eSym []), bP a1, bP a1] ∧ ud = ud) apn)))))))))))) (by kernel_rfl)
inductive E_L46_0_4 where
  | k0 (x0 : Bool) (x1 : List (Int × ByteArray))
noncomputable def L46_0_4 (a1 : GramD) (a2 : List Int) (a4 : Int) (a6 : Int) (v1 : Bool) (v2 : Int) (v3 : List (Int × ByteArray)) : Option (E_L46_0_4 ⊕ (Bool × Int × (List (Int × ByteArray)))) :=
  (bif (decide (v2 < a4)) then ((getI a1.prods v2).bind fun x2 => ((F54 x2).bind fun x3 => (bif x3 then ((F47 x2 a6 a2 v3).bind fun r5 => match r5 with | .k0 x5_0 x5_1 => (bif x5_0 then (some (.inr (true, (IntKind.wrap .i64 (v2 + 1)), x5_1))) else (some (.inr (v1, (IntKind.wrap .i64 (v2 + 1)), x5_1)))) | .k1 x5_0 x5_1 x5_2 x5_3 x5_4 x5_5 => (some (.inr (v1, (IntKind.wrap .i64 (v2 + 1)), v3)))) else (some (.inr (v1, (IntKind.wrap .i64 (v2 + 1)), v3)))))) else (some (.inl (.k0 v1 v3))))
def L46_0_4_s (a1 : GramD) (a2 : List Int) (a3 : List Bool) (a4 : Int) (a5 : GramD) (a6 : Int) (v1 : Bool) (v2 : Int) (v3 : List (Int × ByteArray)) : St := ⟨fr 27 ug [(0, (.ro (eOp a1 a2 a3))), (1, (.fn 47 [(.ptr 2 0), (.ptr 1 0), (.ptr 4 0)])), (4, (vb v1)), (11, (.p (.lst 7 (a1.prods.map eProd)))), (12, (i6 a4)), (13, (i6 v2))], [bG a5, .cells 3 [(i6 a6)], .cells 89 [(.ro (eOp a1 a2 a3))], mIS v3, .cells 94 [(.mp 3)]]⟩
def L46_0_4_x (a1 : GramD) (a2 : List Int) (a3 : List Bool) (a4 : Int) (a5 : GramD) (a6 : Int) (e : E_L46_0_4) (r : Option (Out × St)) : Prop := match e with | .k0 x0 x1 => ∃ g, r = some ((.brk 2), ⟨fr 27 g [(0, (.ro (eOp a1 a2 a3))), (1, (.fn 47 [(.ptr 2 0), (.ptr 1 0), (.ptr 4 0)])), (4, (vb x0)), (11, (.p (.lst 7 (a1.prods.map eProd))))], [bG a5, .cells 3 [(i6 a6)], .cells 89 [(.ro (eOp a1 a2 a3))], mIS x1, .cells 94 [(.mp 3)]]⟩)
theorem L46_0_4_ok (a1 : GramD) (a2 : List Int) (a3 : List Bool) (a4 : Int) (a5 : GramD) (a6 : Int) (v1 : Bool) (v2 : Int) (v3 : List (Int × ByteArray)) {r : E_L46_0_4 ⊕ (Bool × Int × (List (Int × ByteArray)))} (h : L46_0_4 a1 a2 a4 a6 v1 v2 v3 = some r) : OkR (fun e => L46_0_4_x a1 a2 a3 a4 a5 a6 e (evH prg 5 [0, 1, 4, 11, 12, 13] ir46_l0 (L46_0_4_s a1 a2 a3 a4 a5 a6 v1 v2 v3))) (fun s => evH prg 5 [0, 1, 4, 11, 12, 13] ir46_l0 (L46_0_4_s a1 a2 a3 a4 a5 a6 v1 v2 v3) = evH prg 5 [0, 1, 4, 11, 12, 13] ir46_l0 (L46_0_4_s a1 a2 a3 a4 a5 a6 s.1 s.2.1 s.2.2)) r := by
 unfold L46_0_4 at h
 refine bi h (fun h1 h => ?_) fun h1 h => ?_
 ·
  refine bn h fun x2 h2 h => ?_
  refine bn h fun x3 h3 h => ?_
  refine bi h (fun h4 h => ?_) fun h4 h => ?_
  ·
   refine bn h fun r5 h5 h => ?_
   cases r5 with
   | k0 x5_0 x5_1 =>
    refine bi h (fun h6 h => ?_) fun h6 h => ?_
    ·
     rw [← sj h]
     exact rnd (n := 30) [(14, .d true), (15, .v (.ro (eProd x2))), (18, .v (vb true)), (22, .r (vb true) [bG a5, .cells 3 [(i6 a6)], .cells 89 [(.ro (eOp a1 a2 a3))], mIS x5_1, .cells 94 [(.mp 3)], .row 48 6 0 (ra eSym []), bP x2, bP x2]), (6000, .d true)] (apc (cv h1) (apc (ig eProd 7 .i64 h2) (apc ((((F54_ok x2 h3).cp rfl _).trans (congrArg (fun z => some (vb z)) h4)) : CP prg 54 [(aP x2)] [bG a5, .cells 3 [(i6 a6)], .cells 89 [(.ro (eOp a1 a2 a3))], mIS v3, .cells 94 [(.mp 3)], .row 48 6 0 (ra eSym []), bP x2] = some (vb true)) (apc (((F47_ok x2 a5 a6 a1 a2 a3 v3 h5).trans (congrArg (fun z => some (vb z, ([bG a5, .cells 3 [(i6 a6)], .cells 89 [(.ro (eOp a1 a2 a3))], mIS x5_1, .cells 94 [(.mp 3)], .row 48 6 0 (ra eSym []), bP x2, bP x2] : List AB))) h6)) : CS prg 47 [(aP x2), (.ptr 2 0), (.ptr 1 0), (.ptr 4 0)] [bG a5, .cells 3 [(i6 a6)], .cells 89 [(.ro (eOp a1 a2 a3))], mIS v3, .cells 94 [(.mp 3)], .row 48 6 0 (ra eSym []), bP x2] = some (vb true, [bG a5, .cells 3 [(i6 a6)], .cells 89 [(.ro (eOp a1 a2 a3))], mIS x5_1, .cells 94 [(.mp 3)], .row 48 6 0 (ra eSym []), bP x2, bP x2])) (apc ((okT_of rfl (abl_cons rfl (abl_cons rfl (abl_cons rfl (abl_cons (abl_map (fun _ => rfl) (fun _ => rfl)) (abl_cons rfl rfl)))))) : okT 5 [bG a5, .cells 3 [(i6 a6)], .cells 89 [(.ro (eOp a1 a2 a3))], mIS x5_1, .cells 94 [(.mp 3)], .row 48 6 0 (ra eSym []), bP x2, bP x2] = true) apn))))) (by kernel_rfl)
    ·
     rw [← sj h]
     exact rnd (n := 30) [(14, .d true), (15, .v (.ro (eProd x2))), (18, .v (vb true)), (22, .r (vb false) [bG a5, .cells 3 [(i6 a6)], .cells 89 [(.ro (eOp a1 a2 a3))], mIS x5_1, .cells 94 [(.mp 3)], .row 48 6 0 (ra eSym []), bP x2, bP x2]), (6000, .d true)] (apc (cv h1) (apc (ig eProd 7 .i64 h2) (apc ((((F54_ok x2 h3).cp rfl _).trans (congrArg (fun z => some (vb z)) h4)) : CP prg 54 [(aP x2)] [bG a5, .cells 3 [(i6 a6)], .cells 89 [(.ro (eOp a1 a2 a3))], mIS v3, .cells 94 [(.mp 3)], .row 48 6 0 (ra eSym []), bP x2] = some (vb true)) (apc (((F47_ok x2 a5 a6 a1 a2 a3 v3 h5).trans (congrArg (fun z => some (vb z, ([bG a5, .cells 3 [(i6 a6)], .cells 89 [(.ro (eOp a1 a2 a3))], mIS x5_1, .cells 94 [(.mp 3)], .row 48 6 0 (ra eSym []), bP x2, bP x2] : List AB))) h6)) : CS prg 47 [(aP x2), (.ptr 2 0), (.ptr 1 0), (.ptr 4 0)] [bG a5, .cells 3 [(i6 a6)], .cells 89 [(.ro (eOp a1 a2 a3))], mIS v3, .cells 94 [(.mp 3)], .row 48 6 0 (ra eSym []), bP x2] = some (vb false, [bG a5, .cells 3 [(i6 a6)], .cells 89 [(.ro (eOp a1 a2 a3))], mIS x5_1, .cells 94 [(.mp 3)], .row 48 6 0 (ra eSym []), bP x2, bP x2])) (apc ((okT_of rfl (abl_cons rfl (abl_cons rfl (abl_cons rfl (abl_cons (abl_map (fun _ => rfl) (fun _ => rfl)) (abl_cons rfl rfl)))))) : okT 5 [bG a5, .cells 3 [(i6 a6)], .cells 89 [(.ro (eOp a1 a2 a3))], mIS x5_1, .cells 94 [(.mp 3)], .row 48 6 0 (ra eSym []), bP x2, bP x2] = true) apn))))) (by kernel_rfl)
   | k1 x5_0 x5_1 x5_2 x5_3 x5_4 x5_5 =>
    rw [← sj h]
    exact rnd (n := 30) [(14, .d true), (15, .v (.ro (eProd x2))), (18, .v (vb true)), (22, .r (vb false) [bG a5, .cells 3 [(i6 a6)], .cells 89 [(.ro (eOp a1 a2 a3))], mIS v3, .cells 94 [(.mp 3)], .row 48 6 0 (ra eSym []), bP x2, bP x2, .cells 48 [(i6 x5_0), (vi .u64 x5_1), (vi .u64 x5_2), (vi .u64 x5_3), (vi .u64 x5_4), (i6 x5_5)]]), (6000, .d true)] (apc (cv h1) (apc (ig eProd 7 .i64 h2) (apc ((((F54_ok x2 h3).cp rfl _).trans (congrArg (fun z => some (vb z)) h4)) : CP prg 54 [(aP x2)] [bG a5, .cells 3 [(i6 a6)], .cells 89 [(.ro (eOp a1 a2 a3))], mIS v3, .cells 94 [(.mp 3)], .row 48 6 0 (ra eSym []), bP x2] = some (vb true)) (apc ((F47_ok x2 a5 a6 a1 a2 a3 v3 h5) : CS prg 47 [(aP x2), (.ptr 2 0), (.ptr 1 0), (.ptr 4 0)] [bG a5, .cells 3 [(i6 a6)], .cells 89 [(.ro (eOp a1 a2 a3))], mIS v3, .cells 94 [(.mp 3)], .row 48 6 0 (ra eSym []), bP x2] = some ((vb false), [bG a5, .cells 3 [(i6 a6)], .cells 89 [(.ro (eOp a1 a2 a3))], mIS v3, .cells 94 [(.mp 3)], .row 48 6 0 (ra eSym []), bP x2, bP x2, .cells 48 [(i6 x5_0), (vi .u64 x5_1), (vi .u64 x5_2), (vi .u64 x5_3), (vi .u64 x5_4), (i6 x5_5)]])) (apc ((okT_of rfl (abl_cons rfl (abl_cons rfl (abl_cons rfl (abl_cons (abl_map (fun _ => rfl) (fun _ => rfl)) (abl_cons rfl rfl)))))) : okT 5 [bG a5, .cells 3 [(i6 a6)], .cells 89 [(.ro (eOp a1 a2 a3))], mIS v3, .cells 94 [(.mp 3)], .row 48 6 0 (ra eSym []), bP x2, bP x2, .cells 48 [(i6 x5_0), (vi .u64 x5_1), (vi .u64 x5_2), (vi .u64 x5_3), (vi .u64 x5_4), (i6 x5_5)]] = true) apn))))) (by kernel_rfl)
  ·
   rw [← sj h]
   exact rnd (n := 30) [(14, .d true), (15, .v (.ro (eProd x2))), (18, .v (vb false)), (6000, .d true)] (apc (cv h1) (apc (ig eProd 7 .i64 h2) (apc ((((F54_ok x2 h3).cp rfl _).trans (congrArg (fun z => some (vb z)) h4)) : CP prg 54 [(aP x2)] [bG a5, .cells 3 [(i6 a6)], .cells 89 [(.ro (eOp a1 a2 a3))], mIS v3, .cells 94 [(.mp 3)], .row 48 6 0 (ra eSym []), bP x2] = some (vb false)) (apc ((okT_of rfl (abl_cons rfl (abl_cons rfl (abl_cons rfl (abl_cons (abl_map (fun _ => rfl) (fun _ => rfl)) (abl_cons rfl rfl)))))) : okT 5 [bG a5, .cells 3 [(i6 a6)], .cells 89 [(.ro (eOp a1 a2 a3))], mIS v3, .cells 94 [(.mp 3)], .row 48 6 0 (ra eSym []), bP x2] = true) apn)))) (by kernel_rfl)
 ·
  rw [← sj h]
  exact xbrk (n := 30) [(14, .d false), (6000, .d true)] (apc (cv h1) apn) (by kernel_rfl)
theorem L46_0_4_run (a1 : GramD) (a2 : List Int) (a3 : List Bool) (a4 : Int) (a5 : GramD) (a6 : Int) (s0 : Bool × Int × (List (Int × ByteArray))) (e : E_L46_0_4) (h : runL (fun s => L46_0_4 a1 a2 a4 a6 s.1 s.2.1 s.2.2) s0 = some e) : L46_0_4_x a1 a2 a3 a4 a5 a6 e (evH prg 5 [0, 1, 4, 11, 12, 13] ir46_l0 (L46_0_4_s a1 a2 a3 a4 a5 a6 s0.1 s0.2.1 s0.2.2)) := by
  have q := @loop_sound' (Bool × Int × (List (Int × ByteArray))) E_L46_0_4 (fun s => L46_0_4 a1 a2 a4 a6 s.1 s.2.1 s.2.2) (fun s => evH prg 5 [0, 1, 4, 11, 12, 13] ir46_l0 (L46_0_4_s a1 a2 a3 a4 a5 a6 s.1 s.2.1 s.2.2)) (L46_0_4_x a1 a2 a3 a4 a5 a6) (fun s r h => L46_0_4_ok a1 a2 a3 a4 a5 a6 s.1 s.2.1 s.2.2 h) s0 e h
  exact q
inductive E_L46_1_2 where
  | k0 (x0 : List (Int × ByteArray))
noncomputable def L46_1_2 (a1 : GramD) (a2 : List Int) (a5 : Int) (v1 : List (Int × ByteArray)) : Option (E_L46_1_2 ⊕ ((List (Int × ByteArray)))) :=
  ((runL (fun s => L46_0_4 a1 a2 (a1.prods.length : Int) a5 s.1 s.2.1 s.2.2) (false, 0, v1)).bind fun r1 => match r1 with | .k0 x1_0 x1_1 => (bif x1_0 then (some (.inr (x1_1))) else (some (.inl (.k0 x1_1)))))
def L46_1_2_s (a1 : GramD) (a2 : List Int) (a3 : List Bool) (a4 : GramD) (a5 : Int) (v1 : List (Int × ByteArray)) : St := ⟨fr 27 ug [(0, (.ro (eOp a1 a2 a3))), (1, (.fn 47 [(.ptr 2 0), (.ptr 1 0), (.ptr 4 0)]))], [bG a4, .cells 3 [(i6 a5)], .cells 89 [(.ro (eOp a1 a2 a3))], mIS v1, .cells 94 [(.mp 3)]]⟩
def L46_1_2_x (a1 : GramD) (a2 : List Int) (a3 : List Bool) (a4 : GramD) (a5 : Int) (e : E_L46_1_2) (r : Option (Out × St)) : Prop := match e with | .k0 x0 => ∃ g, r = some ((.brk 0), ⟨fr 27 g [], [bG a4, .cells 3 [(i6 a5)], .cells 89 [(.ro (eOp a1 a2 a3))], mIS x0, .cells 94 [(.mp 3)]]⟩)
theorem L46_1_2_ok (a1 : GramD) (a2 : List Int) (a3 : List Bool) (a4 : GramD) (a5 : Int) (v1 : List (Int × ByteArray)) {r : E_L46_1_2 ⊕ ((List (Int × ByteArray)))} (h : L46_1_2 a1 a2 a5 v1 = some r) : OkR (fun e => L46_1_2_x a1 a2 a3 a4 a5 e (evH prg 5 [0, 1] ir46_l1 (L46_1_2_s a1 a2 a3 a4 a5 v1))) (fun s => evH prg 5 [0, 1] ir46_l1 (L46_1_2_s a1 a2 a3 a4 a5 v1) = evH prg 5 [0, 1] ir46_l1 (L46_1_2_s a1 a2 a3 a4 a5 s)) r := by
 unfold L46_1_2 at h
 refine bn h fun r1 h1 h => ?_
 cases r1 with
 | k0 x1_0 x1_1 =>
  obtain ⟨g1, e1⟩ := L46_0_4_run a1 a2 a3 (a1.prods.length : Int) a4 a5 (false, 0, v1) _ h1
  refine bi h (fun h2 h => ?_) fun h2 h => ?_
  ·
   rw [← sj h]
   exact rnd (n := 30) [(12, .v (i6 (a1.prods.length : Int))), (2002, .l (.brk 2) ⟨fr 27 g1 [(0, (.ro (eOp a1 a2 a3))), (1, (.fn 47 [(.ptr 2 0), (.ptr 1 0), (.ptr 4 0)])), (4, (vb x1_0)), (11, (.p (.lst 7 (a1.prods.map eProd))))], [bG a4, .cells 3 [(i6 a5)], .cells 89 [(.ro (eOp a1 a2 a3))], mIS x1_1, .cells 94 [(.mp 3)]]⟩), (25, .d true), (6000, .d true)] (apc (lg a1.prods eProd 7) (apc ((okT_of rfl (abl_cons rfl (abl_cons rfl (abl_cons rfl (abl_cons (abl_map (fun _ => rfl) (fun _ => rfl)) (abl_cons rfl rfl)))))) : okT 5 [bG a4, .cells 3 [(i6 a5)], .cells 89 [(.ro (eOp a1 a2 a3))], mIS v1, .cells 94 [(.mp 3)]] = true) (apc (e1 : evH prg 5 [0, 1, 4, 11, 12, 13] ir46_l0 (L46_0_4_s a1 a2 a3 (a1.prods.length : Int) a4 a5 false 0 v1) = some ((.brk 2), ⟨fr 27 g1 [(0, (.ro (eOp a1 a2 a3))), (1, (.fn 47 [(.ptr 2 0), (.ptr 1 0), (.ptr 4 0)])), (4, (vb x1_0)), (11, (.p (.lst 7 (a1.prods.map eProd))))], [bG a4, .cells 3 [(i6 a5)], .cells 89 [(.ro (eOp a1 a2 a3))], mIS x1_1, .cells 94 [(.mp 3)]]⟩)) (apc (cv h2) (apc ((okT_of rfl (abl_cons rfl (abl_cons rfl (abl_cons rfl (abl_cons (abl_map (fun _ => rfl) (fun _ => rfl)) (abl_cons rfl rfl)))))) : okT 5 [bG a4, .cells 3 [(i6 a5)], .cells 89 [(.ro (eOp a1 a2 a3))], mIS x1_1, .cells 94 [(.mp 3)]] = true) apn))))) (by kernel_rfl)
  ·
   rw [← sj h]
   exact xbrk (n := 30) [(12, .v (i6 (a1.prods.length : Int))), (2002, .l (.brk 2) ⟨fr 27 g1 [(0, (.ro (eOp a1 a2 a3))), (1, (.fn 47 [(.ptr 2 0), (.ptr 1 0), (.ptr 4 0)])), (4, (vb x1_0)), (11, (.p (.lst 7 (a1.prods.map eProd))))], [bG a4, .cells 3 [(i6 a5)], .cells 89 [(.ro (eOp a1 a2 a3))], mIS x1_1, .cells 94 [(.mp 3)]]⟩), (25, .d false), (6000, .d true)] (apc (lg a1.prods eProd 7) (apc ((okT_of rfl (abl_cons rfl (abl_cons rfl (abl_cons rfl (abl_cons (abl_map (fun _ => rfl) (fun _ => rfl)) (abl_cons rfl rfl)))))) : okT 5 [bG a4, .cells 3 [(i6 a5)], .cells 89 [(.ro (eOp a1 a2 a3))], mIS v1, .cells 94 [(.mp 3)]] = true) (apc (e1 : evH prg 5 [0, 1, 4, 11, 12, 13] ir46_l0 (L46_0_4_s a1 a2 a3 (a1.prods.length : Int) a4 a5 false 0 v1) = some ((.brk 2), ⟨fr 27 g1 [(0, (.ro (eOp a1 a2 a3))), (1, (.fn 47 [(.ptr 2 0), (.ptr 1 0), (.ptr 4 0)])), (4, (vb x1_0)), (11, (.p (.lst 7 (a1.prods.map eProd))))], [bG a4, .cells 3 [(i6 a5)], .cells 89 [(.ro (eOp a1 a2 a3))], mIS x1_1, .cells 94 [(.mp 3)]]⟩)) (apc (cv h2) apn)))) (by kernel_rfl)
theorem L46_1_2_run (a1 : GramD) (a2 : List Int) (a3 : List Bool) (a4 : GramD) (a5 : Int) (s0 : (List (Int × ByteArray))) (e : E_L46_1_2) (h : runL (fun s => L46_1_2 a1 a2 a5 s) s0 = some e) : L46_1_2_x a1 a2 a3 a4 a5 e (evH prg 5 [0, 1] ir46_l1 (L46_1_2_s a1 a2 a3 a4 a5 s0)) := by
  have q := @loop_sound' ((List (Int × ByteArray))) E_L46_1_2 (fun s => L46_1_2 a1 a2 a5 s) (fun s => evH prg 5 [0, 1] ir46_l1 (L46_1_2_s a1 a2 a3 a4 a5 s)) (L46_1_2_x a1 a2 a3 a4 a5) (fun s r h => L46_1_2_ok a1 a2 a3 a4 a5 s h) s0 e h
  exact q
noncomputable def F46_2 (a1 : GramD) (a2 : List Int) (a5 : Int) : Option (List (Int × ByteArray)) :=
  ((runL (fun s => L46_1_2 a1 a2 a5 s) []).bind fun r1 => match r1 with | .k0 x1_0 => (some x1_0))
def F46_2_v (a1 : GramD) (a2 : List Int) (a3 : List Bool) (a4 : GramD) (a5 : Int) (x0 : (List (Int × ByteArray))) : AV := (.tup [])
def F46_2_h (a1 : GramD) (a2 : List Int) (a3 : List Bool) (a4 : GramD) (a5 : Int) (x0 : (List (Int × ByteArray))) : List AB := [bG a4, .cells 3 [(i6 a5)], .cells 89 [(.ro (eOp a1 a2 a3))], mIS x0, .cells 94 [(.mp 3)]]
theorem F46_2_ok (a1 : GramD) (a2 : List Int) (a3 : List Bool) (a4 : GramD) (a5 : Int) {r : (List (Int × ByteArray))} (h : F46_2 a1 a2 a5 = some r) : CS prg 46 [(.ro (eOp a1 a2 a3)), (.fn 47 [(.ptr 2 0), (.ptr 1 0), (.ptr 4 0)])] [bG a4, .cells 3 [(i6 a5)], .cells 89 [(.ro (eOp a1 a2 a3))], .map [], .cells 94 [(.mp 3)]] = some (F46_2_v a1 a2 a3 a4 a5 r, F46_2_h a1 a2 a3 a4 a5 r) := by
 unfold F46_2 at h
 refine bn h fun r1 h1 h => ?_
 cases r1 with
 | k0 x1_0 =>
  obtain ⟨g1, e1⟩ := L46_1_2_run a1 a2 a3 a4 a5 [] _ h1
  rw [← sj h]
  exact fcs (n := 30) [(2000, .l (.brk 0) ⟨fr 27 g1 [], [bG a4, .cells 3 [(i6 a5)], .cells 89 [(.ro (eOp a1 a2 a3))], mIS x1_0, .cells 94 [(.mp 3)]]⟩), (6000, .d true)] (apc ((okT_of rfl (abl_cons rfl (abl_cons rfl (abl_cons rfl (abl_cons rfl (abl_cons rfl rfl)))))) : okT 5 [bG a4, .cells 3 [(i6 a5)], .cells 89 [(.ro (eOp a1 a2 a3))], .map [], .cells 94 [(.mp 3)]] = true) (apc (e1 : evH prg 5 [0, 1] ir46_l1 (L46_1_2_s a1 a2 a3 a4 a5 ([])) = some ((.brk 0), ⟨fr 27 g1 [], [bG a4, .cells 3 [(i6 a5)], .cells 89 [(.ro (eOp a1 a2 a3))], mIS x1_0, .cells 94 [(.mp 3)]]⟩)) apn)) (by kernel_rfl)
inductive R_F14 where
  | k0 (x0 : ByteArray) (x1 : Int)
noncomputable def F14 (a1 : GramD) (a2 : Int) : Option R_F14 :=
  ((F45 a1).bind fun r1 => match r1 with | .k0 x1_0 => (bif (x1_0 != 0) then (some (.k0 (⟨([] : List UInt8).toArray⟩ : ByteArray) x1_0)) else (bif (decide (a2 < 0)) then (some (.k0 (⟨([] : List UInt8).toArray⟩ : ByteArray) 4)) else (bif (decide (a2 ≥ (a1.sorts.length : Int))) then (some (.k0 (⟨([] : List UInt8).toArray⟩ : ByteArray) 4)) else none))) | .k1 x1_0 x1_1 x1_2 x1_3 x1_4 x1_5 x1_6 => (bif (decide (a2 < 0)) then (some (.k0 (⟨([] : List UInt8).toArray⟩ : ByteArray) 4)) else (bif (decide (a2 ≥ (a1.sorts.length : Int))) then (some (.k0 (⟨([] : List UInt8).toArray⟩ : ByteArray) 4)) else ((getI x1_5 a2).bind fun x4 => (bif (decide (x4 < 0)) then (some (.k0 (⟨([] : List UInt8).toArray⟩ : ByteArray) 161)) else (bif (decide (x4 > 1048576)) then (some (.k0 (⟨([] : List UInt8).toArray⟩ : ByteArray) 3)) else ((F46_2 (⟨x1_0, x1_1, x1_2, x1_3, x1_4⟩ : GramD) x1_5 a2).bind fun x7 => (some (.k0 (mget (⟨([] : List UInt8).toArray⟩ : ByteArray) x7 a2) 0)))))))))
def F14_v (a1 : GramD) (a2 : Int) (r : R_F14) : AV := match r with | .k0 x0 x1 => (.tup [(vs x0), (i6 x1)])
theorem F14_ok (a1 : GramD) (a2 : Int) {r : R_F14} (h : F14 a1 a2 = some r) : PR1 prg 14 [(aG a1), (i6 a2)] (F14_v a1 a2 r) := by
 unfold F14 at h
 refine bn h fun r1 h1 h => ?_
 cases r1 with
 | k0 x1_0 =>
  refine bi h (fun h2 h => ?_) fun h2 h => ?_
  ·
   rw [← sj h]
   exact fpr (n := 30) [(11, .v (.tup [(.p (.val (.pointer .none))), (i6 x1_0)])), (16, .d true)] (apc (((F45_ok a1 h1).cp rfl _) : CP prg 45 [(aG a1)] [bG a1, .cells 3 [(i6 a2)]] = some (.tup [(.p (.val (.pointer .none))), (i6 x1_0)])) (apc (cv h2) apn)) rfl (by kernel_rfl)
  ·
   refine bi h (fun h3 h => ?_) fun h3 h => ?_
   ·
    rw [← sj h]
    exact fpr (n := 30) [(11, .v (.tup [(.p (.val (.pointer .none))), (i6 x1_0)])), (16, .d false), (20, .d true)] (apc (((F45_ok a1 h1).cp rfl _) : CP prg 45 [(aG a1)] [bG a1, .cells 3 [(i6 a2)]] = some (.tup [(.p (.val (.pointer .none))), (i6 x1_0)])) (apc (cv h2) (apc (cv h3) apn))) rfl (by kernel_rfl)
   ·
    refine bi h (fun h4 h => ?_) fun h4 h => ?_
    ·
     rw [← sj h]
     exact fpr (n := 30) [(11, .v (.tup [(.p (.val (.pointer .none))), (i6 x1_0)])), (16, .d false), (20, .d false), (25, .v (i6 (a1.sorts.length : Int))), (26, .d true)] (apc (((F45_ok a1 h1).cp rfl _) : CP prg 45 [(aG a1)] [bG a1, .cells 3 [(i6 a2)]] = some (.tup [(.p (.val (.pointer .none))), (i6 x1_0)])) (apc (cv h2) (apc (cv h3) (apc (lg a1.sorts eStr 1) (apc (cv h4) apn))))) rfl (by kernel_rfl)
    ·
     cases h
 | k1 x1_0 x1_1 x1_2 x1_3 x1_4 x1_5 x1_6 =>
  refine bi h (fun h2 h => ?_) fun h2 h => ?_
  ·
   rw [← sj h]
   exact fpr (n := 30) [(11, .v (.tup [(.ro [.lst 1 (x1_0.map eStr), .lst 7 (x1_1.map eProd), .val (.int .i64 x1_2), .lst 3 (x1_3.map eForb), .lst 5 (x1_4.map eFoll), .lst 1 (x1_5.map eI64), .lst 1 (x1_6.map eBool)]), (i6 0)])), (20, .d true)] (apc (((F45_ok a1 h1).cp rfl _) : CP prg 45 [(aG a1)] [bG a1, .cells 3 [(i6 a2)]] = some (.tup [(.ro [.lst 1 (x1_0.map eStr), .lst 7 (x1_1.map eProd), .val (.int .i64 x1_2), .lst 3 (x1_3.map eForb), .lst 5 (x1_4.map eFoll), .lst 1 (x1_5.map eI64), .lst 1 (x1_6.map eBool)]), (i6 0)])) (apc (cv h2) apn)) rfl (by kernel_rfl)
  ·
   refine bi h (fun h3 h => ?_) fun h3 h => ?_
   ·
    rw [← sj h]
    exact fpr (n := 30) [(11, .v (.tup [(.ro [.lst 1 (x1_0.map eStr), .lst 7 (x1_1.map eProd), .val (.int .i64 x1_2), .lst 3 (x1_3.map eForb), .lst 5 (x1_4.map eFoll), .lst 1 (x1_5.map eI64), .lst 1 (x1_6.map eBool)]), (i6 0)])), (20, .d false), (25, .v (i6 (a1.sorts.length : Int))), (26, .d true)] (apc (((F45_ok a1 h1).cp rfl _) : CP prg 45 [(aG a1)] [bG a1, .cells 3 [(i6 a2)]] = some (.tup [(.ro [.lst 1 (x1_0.map eStr), .lst 7 (x1_1.map eProd), .val (.int .i64 x1_2), .lst 3 (x1_3.map eForb), .lst 5 (x1_4.map eFoll), .lst 1 (x1_5.map eI64), .lst 1 (x1_6.map eBool)]), (i6 0)])) (apc (cv h2) (apc (lg a1.sorts eStr 1) (apc (cv h3) apn)))) rfl (by kernel_rfl)
   ·
    refine bn h fun x4 h4 h => ?_
    refine bi h (fun h5 h => ?_) fun h5 h => ?_
    ·
     rw [← sj h]
     exact fpr (n := 30) [(11, .v (.tup [(.ro [.lst 1 (x1_0.map eStr), .lst 7 (x1_1.map eProd), .val (.int .i64 x1_2), .lst 3 (x1_3.map eForb), .lst 5 (x1_4.map eFoll), .lst 1 (x1_5.map eI64), .lst 1 (x1_6.map eBool)]), (i6 0)])), (20, .d false), (25, .v (i6 (a1.sorts.length : Int))), (26, .d false), (34, .v (.ro [.val (.int .i64 x4)])), (36, .d true)] (apc (((F45_ok a1 h1).cp rfl _) : CP prg 45 [(aG a1)] [bG a1, .cells 3 [(i6 a2)]] = some (.tup [(.ro [.lst 1 (x1_0.map eStr), .lst 7 (x1_1.map eProd), .val (.int .i64 x1_2), .lst 3 (x1_3.map eForb), .lst 5 (x1_4.map eFoll), .lst 1 (x1_5.map eI64), .lst 1 (x1_6.map eBool)]), (i6 0)])) (apc (cv h2) (apc (lg a1.sorts eStr 1) (apc (cv h3) (apc (ig eI64 1 .i64 h4) (apc (cv h5) apn)))))) rfl (by kernel_rfl)
    ·
     refine bi h (fun h6 h => ?_) fun h6 h => ?_
     ·
      rw [← sj h]
      exact fpr (n := 30) [(11, .v (.tup [(.ro [.lst 1 (x1_0.map eStr), .lst 7 (x1_1.map eProd), .val (.int .i64 x1_2), .lst 3 (x1_3.map eForb), .lst 5 (x1_4.map eFoll), .lst 1 (x1_5.map eI64), .lst 1 (x1_6.map eBool)]), (i6 0)])), (20, .d false), (25, .v (i6 (a1.sorts.length : Int))), (26, .d false), (34, .v (.ro [.val (.int .i64 x4)])), (36, .d false), (43, .v (.ro [.val (.int .i64 x4)])), (45, .d true)] (apc (((F45_ok a1 h1).cp rfl _) : CP prg 45 [(aG a1)] [bG a1, .cells 3 [(i6 a2)]] = some (.tup [(.ro [.lst 1 (x1_0.map eStr), .lst 7 (x1_1.map eProd), .val (.int .i64 x1_2), .lst 3 (x1_3.map eForb), .lst 5 (x1_4.map eFoll), .lst 1 (x1_5.map eI64), .lst 1 (x1_6.map eBool)]), (i6 0)])) (apc (cv h2) (apc (lg a1.sorts eStr 1) (apc (cv h3) (apc (ig eI64 1 .i64 h4) (apc (cv h5) (apc (ig eI64 1 .i64 h4) (apc (cv h6) apn)))))))) rfl (by kernel_rfl)
     ·
      refine bn h fun x7 h7 h => ?_
      rw [← sj h]
      exact fpr (n := 30) [(11, .v (.tup [(.ro [.lst 1 (x1_0.map eStr), .lst 7 (x1_1.map eProd), .val (.int .i64 x1_2), .lst 3 (x1_3.map eForb), .lst 5 (x1_4.map eFoll), .lst 1 (x1_5.map eI64), .lst 1 (x1_6.map eBool)]), (i6 0)])), (20, .d false), (25, .v (i6 (a1.sorts.length : Int))), (26, .d false), (34, .v (.ro [.val (.int .i64 x4)])), (36, .d false), (43, .v (.ro [.val (.int .i64 x4)])), (45, .d false), (49, .r (.tup []) [bG a1, .cells 3 [(i6 a2)], .cells 89 [(.ro [.lst 1 (x1_0.map eStr), .lst 7 (x1_1.map eProd), .val (.int .i64 x1_2), .lst 3 (x1_3.map eForb), .lst 5 (x1_4.map eFoll), .lst 1 (x1_5.map eI64), .lst 1 (x1_6.map eBool)])], mIS x7, .cells 94 [(.mp 3)]]), (52, .v (vs (mget b0 x7 a2)))] (apc (((F45_ok a1 h1).cp rfl _) : CP prg 45 [(aG a1)] [bG a1, .cells 3 [(i6 a2)]] = some (.tup [(.ro [.lst 1 (x1_0.map eStr), .lst 7 (x1_1.map eProd), .val (.int .i64 x1_2), .lst 3 (x1_3.map eForb), .lst 5 (x1_4.map eFoll), .lst 1 (x1_5.map eI64), .lst 1 (x1_6.map eBool)]), (i6 0)])) (apc (cv h2) (apc (lg a1.sorts eStr 1) (apc (cv h3) (apc (ig eI64 1 .i64 h4) (apc (cv h5) (apc (ig eI64 1 .i64 h4) (apc (cv h6) (apc ((F46_2_ok (⟨x1_0, x1_1, x1_2, x1_3, x1_4⟩ : GramD) x1_5 x1_6 a1 a2 h7) : CS prg 46 [(.ro [.lst 1 (x1_0.map eStr), .lst 7 (x1_1.map eProd), .val (.int .i64 x1_2), .lst 3 (x1_3.map eForb), .lst 5 (x1_4.map eFoll), .lst 1 (x1_5.map eI64), .lst 1 (x1_6.map eBool)]), (.fn 47 [(.ptr 2 0), (.ptr 1 0), (.ptr 4 0)])] [bG a1, .cells 3 [(i6 a2)], .cells 89 [(.ro [.lst 1 (x1_0.map eStr), .lst 7 (x1_1.map eProd), .val (.int .i64 x1_2), .lst 3 (x1_3.map eForb), .lst 5 (x1_4.map eFoll), .lst 1 (x1_5.map eI64), .lst 1 (x1_6.map eBool)])], .map [], .cells 94 [(.mp 3)]] = some ((.tup []), [bG a1, .cells 3 [(i6 a2)], .cells 89 [(.ro [.lst 1 (x1_0.map eStr), .lst 7 (x1_1.map eProd), .val (.int .i64 x1_2), .lst 3 (x1_3.map eForb), .lst 5 (x1_4.map eFoll), .lst 1 (x1_5.map eI64), .lst 1 (x1_6.map eBool)])], mIS x7, .cells 94 [(.mp 3)]])) (apc ((lk_row key_int (es := x7) (k := a2) (z := b0) rfl rfl) : lkA [bG a1, .cells 3 [(i6 a2)], .cells 89 [(.ro [.lst 1 (x1_0.map eStr), .lst 7 (x1_1.map eProd), .val (.int .i64 x1_2), .lst 3 (x1_3.map eForb), .lst 5 (x1_4.map eFoll), .lst 1 (x1_5.map eI64), .lst 1 (x1_6.map eBool)])], mIS x7, .cells 94 [(.mp 3)]] [1] .false .false [(.val (.string ⟨([] : List UInt8).toArray⟩))] .false (.mp 3) (i6 a2) = some (vs (mget b0 x7 a2))) apn)))))))))) rfl (by kernel_rfl)
noncomputable def F31 (a1 : SetD) (a2 : Int) : Option Bool :=
  (bif ((IntKind.wrap .u8 (Int.tdiv a2 64)) == 0) then (bif (decide ((Int.tmod a2 64) < 0)) then none else (some ((Int.tmod (Int.fdiv a1.a (2 ^ (min (Int.toNat (Int.tmod a2 64)) (IntKind.bits .u64)))) 2) == 1))) else (bif ((IntKind.wrap .u8 (Int.tdiv a2 64)) == 1) then (bif (decide ((Int.tmod a2 64) < 0)) then none else (some ((Int.tmod (Int.fdiv a1.b (2 ^ (min (Int.toNat (Int.tmod a2 64)) (IntKind.bits .u64)))) 2) == 1))) else (bif ((IntKind.wrap .u8 (Int.tdiv a2 64)) == 2) then (bif (decide ((Int.tmod a2 64) < 0)) then none else (some ((Int.tmod (Int.fdiv a1.c (2 ^ (min (Int.toNat (Int.tmod a2 64)) (IntKind.bits .u64)))) 2) == 1))) else (bif ((IntKind.wrap .u8 (Int.tdiv a2 64)) == 3) then (bif (decide ((Int.tmod a2 64) < 0)) then none else (some ((Int.tmod (Int.fdiv a1.d (2 ^ (min (Int.toNat (Int.tmod a2 64)) (IntKind.bits .u64)))) 2) == 1))) else none))))
def F31_v (a1 : SetD) (a2 : Int) (x0 : Bool) : AV := (vb x0)
theorem F31_ok (a1 : SetD) (a2 : Int) {r : Bool} (h : F31 a1 a2 = some r) : PR1 prg 31 [(.agg ((eSet a1).map .p)), (vi .u8 a2)] (F31_v a1 a2 r) := by
 unfold F31 at h
 refine bi h (fun h1 h => ?_) fun h1 h => ?_
 ·
  refine bi h (fun h2 h => ?_) fun h2 h => ?_
  ·
   cases h
  ·
   rw [← sj h]
   exact fpr (n := 30) [(7, .v (.ptr 0 0)), (11, .v (vi .u64 (Int.fdiv a1.a (2 ^ (min (Int.toNat (Int.tmod a2 64)) (IntKind.bits .u64))))))] (apc ((ix_lit h1 (fun z => ixP 4 1 (.ptr 0 0) (vi .u8 z)) rfl) : ixP 4 1 (.ptr 0 0) (vi .u8 (IntKind.wrap .u8 (Int.tdiv a2 64))) = some (.ptr 0 0)) (apc ((sh_shr (of_decide_eq_false h2)) : binA .shr (vi .u64 a1.a) (vi .u8 (Int.tmod a2 64)) = some (vi .u64 (Int.fdiv a1.a (2 ^ (min (Int.toNat (Int.tmod a2 64)) (IntKind.bits .u64)))))) apn)) rfl (by kernel_rfl)
 ·
  refine bi h (fun h2 h => ?_) fun h2 h => ?_
  ·
   refine bi h (fun h3 h => ?_) fun h3 h => ?_
   ·
    cases h
   ·
    rw [← sj h]
    exact fpr (n := 30) [(7, .v (.ptr 0 1)), (11, .v (vi .u64 (Int.fdiv a1.b (2 ^ (min (Int.toNat (Int.tmod a2 64)) (IntKind.bits .u64))))))] (apc ((ix_lit h2 (fun z => ixP 4 1 (.ptr 0 0) (vi .u8 z)) rfl) : ixP 4 1 (.ptr 0 0) (vi .u8 (IntKind.wrap .u8 (Int.tdiv a2 64))) = some (.ptr 0 1)) (apc ((sh_shr (of_decide_eq_false h3)) : binA .shr (vi .u64 a1.b) (vi .u8 (Int.tmod a2 64)) = some (vi .u64 (Int.fdiv a1.b (2 ^ (min (Int.toNat (Int.tmod a2 64)) (IntKind.bits .u64)))))) apn)) rfl (by kernel_rfl)
  ·
   refine bi h (fun h3 h => ?_) fun h3 h => ?_
   ·
    refine bi h (fun h4 h => ?_) fun h4 h => ?_
    ·
     cases h
    ·
     rw [← sj h]
     exact fpr (n := 30) [(7, .v (.ptr 0 2)), (11, .v (vi .u64 (Int.fdiv a1.c (2 ^ (min (Int.toNat (Int.tmod a2 64)) (IntKind.bits .u64))))))] (apc ((ix_lit h3 (fun z => ixP 4 1 (.ptr 0 0) (vi .u8 z)) rfl) : ixP 4 1 (.ptr 0 0) (vi .u8 (IntKind.wrap .u8 (Int.tdiv a2 64))) = some (.ptr 0 2)) (apc ((sh_shr (of_decide_eq_false h4)) : binA .shr (vi .u64 a1.c) (vi .u8 (Int.tmod a2 64)) = some (vi .u64 (Int.fdiv a1.c (2 ^ (min (Int.toNat (Int.tmod a2 64)) (IntKind.bits .u64)))))) apn)) rfl (by kernel_rfl)
   ·
    refine bi h (fun h4 h => ?_) fun h4 h => ?_
    ·
     refine bi h (fun h5 h => ?_) fun h5 h => ?_
     ·
      cases h
     ·
      rw [← sj h]
      exact fpr (n := 30) [(7, .v (.ptr 0 3)), (11, .v (vi .u64 (Int.fdiv a1.d (2 ^ (min (Int.toNat (Int.tmod a2 64)) (IntKind.bits .u64))))))] (apc ((ix_lit h4 (fun z => ixP 4 1 (.ptr 0 0) (vi .u8 z)) rfl) : ixP 4 1 (.ptr 0 0) (vi .u8 (IntKind.wrap .u8 (Int.tdiv a2 64))) = some (.ptr 0 3)) (apc ((sh_shr (of_decide_eq_false h5)) : binA .shr (vi .u64 a1.d) (vi .u8 (Int.tmod a2 64)) = some (vi .u64 (Int.fdiv a1.d (2 ^ (min (Int.toNat (Int.tmod a2 64)) (IntKind.bits .u64)))))) apn)) rfl (by kernel_rfl)
    ·
     cases h
inductive E_L6_0 where
  | k0
  | k1
noncomputable def L6_0 (a1 : List Bool) (a2 : List Bool) (a3 : List Int) (a4 : List SetD) (a5 : Int) (a6 : GramD) (v1 : Int) : Option (E_L6_0 ⊕ (Int)) :=
  (bif (decide (v1 < a5)) then ((getI a1 v1).bind fun x2 => ((getI a3 v1).bind fun x3 => (bif (!((x2 == (decide (x3 ≥ 0))) && true)) then (some (.inl (.k0))) else ((getI a2 v1).bind fun x5 => (bif (!((x5 == (x3 == 0)) && true)) then (some (.inl (.k0))) else (bif (decide (x3 > 5000)) then (some (.inr ((IntKind.wrap .i64 (v1 + 1))))) else ((F14 a6 v1).bind fun r8 => match r8 with | .k0 x8_0 x8_1 => ((F15 x8_1).bind fun x9 => (bif (!((x2 == (x9 == 0)) && true)) then (some (.inl (.k0))) else (bif x2 then (bif ((x8_0.size : Int) != x3) then (some (.inl (.k0))) else (bif (!(x8_0.toList == (⟨([] : List UInt8).toArray⟩ : ByteArray).toList)) then ((getI a4 v1).bind fun x14 => ((getI x8_0.data.toList 0).bind fun x15 => ((F31 x14 (x15.toNat : Int)).bind fun x16 => (bif x16 then (some (.inr ((IntKind.wrap .i64 (v1 + 1))))) else (some (.inl (.k0))))))) else (some (.inr ((IntKind.wrap .i64 (v1 + 1))))))) else (some (.inr ((IntKind.wrap .i64 (v1 + 1))))))))))))))) else (some (.inl (.k1))))
def L6_0_s (a1 : List Bool) (a2 : List Bool) (a3 : List Int) (a4 : List SetD) (a5 : Int) (a6 : GramD) (v1 : Int) : St := ⟨fr 159 ug [(1, (.ptr 0 0)), (3, (.p (.lst 1 (a1.map eBool)))), (5, (.p (.lst 1 (a2.map eBool)))), (7, (.p (.lst 1 (a3.map eI64)))), (9, (.p (.lst 4 (a4.map eSet)))), (11, (i6 a5)), (12, (i6 v1))], [bG a6]⟩
def L6_0_x (a1 : List Bool) (a2 : List Bool) (a3 : List Int) (a4 : List SetD) (a5 : Int) (a6 : GramD) (e : E_L6_0) (r : Option (Out × St)) : Prop := match e with | .k0 => ∃ g y, r = some (.ret, ⟨fr 159 g [(2, (vb false))], y⟩) | .k1 => ∃ g, r = some ((.brk 0), ⟨fr 159 g [(1, (.ptr 0 0)), (3, (.p (.lst 1 (a1.map eBool)))), (5, (.p (.lst 1 (a2.map eBool)))), (7, (.p (.lst 1 (a3.map eI64)))), (9, (.p (.lst 4 (a4.map eSet)))), (11, (i6 a5))], [bG a6]⟩)
theorem L6_0_ok (a1 : List Bool) (a2 : List Bool) (a3 : List Int) (a4 : List SetD) (a5 : Int) (a6 : GramD) (v1 : Int) {r : E_L6_0 ⊕ (Int)} (h : L6_0 a1 a2 a3 a4 a5 a6 v1 = some r) : OkR (fun e => L6_0_x a1 a2 a3 a4 a5 a6 e (evH prg 1 [1, 3, 5, 7, 9, 11, 12] ir6_l0 (L6_0_s a1 a2 a3 a4 a5 a6 v1))) (fun s => evH prg 1 [1, 3, 5, 7, 9, 11, 12] ir6_l0 (L6_0_s a1 a2 a3 a4 a5 a6 v1) = evH prg 1 [1, 3, 5, 7, 9, 11, 12] ir6_l0 (L6_0_s a1 a2 a3 a4 a5 a6 s)) r := by
 unfold L6_0 at h
 refine bi h (fun h1 h => ?_) fun h1 h => ?_
 ·
  refine bn h fun x2 h2 h => ?_
  refine bn h fun x3 h3 h => ?_
  refine bi h (fun h4 h => ?_) fun h4 h => ?_
  ·
   rw [← sj h]
   exact xretY (n := 30) [(85, .d true), (90, .v (.ro [.val (.bool x2)])), (94, .v (.ro [.val (.int .i64 x3)])), (97, .d true), (6000, .d true)] (apc (cv h1) (apc (ig eBool 1 .i64 h2) (apc (ig eI64 1 .i64 h3) (apc (cv h4) apn)))) (by kernel_rfl)
  ·
   refine bn h fun x5 h5 h => ?_
   refine bi h (fun h6 h => ?_) fun h6 h => ?_
   ·
    rw [← sj h]
    exact xretY (n := 30) [(85, .d true), (90, .v (.ro [.val (.bool x2)])), (94, .v (.ro [.val (.int .i64 x3)])), (97, .d false), (101, .v (.ro [.val (.bool x5)])), (105, .v (.ro [.val (.int .i64 x3)])), (108, .d true), (6000, .d true)] (apc (cv h1) (apc (ig eBool 1 .i64 h2) (apc (ig eI64 1 .i64 h3) (apc (cv h4) (apc (ig eBool 1 .i64 h5) (apc (ig eI64 1 .i64 h3) (apc (cv h6) apn))))))) (by kernel_rfl)
   ·
    refine bi h (fun h7 h => ?_) fun h7 h => ?_
    ·
     rw [← sj h]
     exact rnd (n := 30) [(85, .d true), (90, .v (.ro [.val (.bool x2)])), (94, .v (.ro [.val (.int .i64 x3)])), (97, .d false), (101, .v (.ro [.val (.bool x5)])), (105, .v (.ro [.val (.int .i64 x3)])), (108, .d false), (112, .v (.ro [.val (.int .i64 x3)])), (114, .d true), (6000, .d true)] (apc (cv h1) (apc (ig eBool 1 .i64 h2) (apc (ig eI64 1 .i64 h3) (apc (cv h4) (apc (ig eBool 1 .i64 h5) (apc (ig eI64 1 .i64 h3) (apc (cv h6) (apc (ig eI64 1 .i64 h3) (apc (cv h7) (apc ((okT_of rfl (abl_cons rfl rfl)) : okT 1 [bG a6] = true) apn)))))))))) (by kernel_rfl)
    ·
     refine bn h fun r8 h8 h => ?_
     cases r8 with
     | k0 x8_0 x8_1 =>
      refine bn h fun x9 h9 h => ?_
      refine bi h (fun h10 h => ?_) fun h10 h => ?_
      ·
       rw [← sj h]
       exact xretY (n := 30) [(85, .d true), (90, .v (.ro [.val (.bool x2)])), (94, .v (.ro [.val (.int .i64 x3)])), (97, .d false), (101, .v (.ro [.val (.bool x5)])), (105, .v (.ro [.val (.int .i64 x3)])), (108, .d false), (112, .v (.ro [.val (.int .i64 x3)])), (114, .d false), (118, .v (.tup [(vs x8_0), (i6 x8_1)])), (123, .v (.ro [.val (.bool x2)])), (126, .v (i6 x9)), (128, .d true), (6000, .d true)] (apc (cv h1) (apc (ig eBool 1 .i64 h2) (apc (ig eI64 1 .i64 h3) (apc (cv h4) (apc (ig eBool 1 .i64 h5) (apc (ig eI64 1 .i64 h3) (apc (cv h6) (apc (ig eI64 1 .i64 h3) (apc (cv h7) (apc (((F14_ok a6 v1 h8).cp rfl _) : CP prg 14 [(aG a6), (i6 v1)] [bG a6] = some (.tup [(vs x8_0), (i6 x8_1)])) (apc (ig eBool 1 .i64 h2) (apc (((F15_ok x8_1 h9).cp rfl _) : CP prg 15 [(i6 x8_1)] [bG a6] = some (i6 x9)) (apc (cv h10) apn))))))))))))) (by kernel_rfl)
      ·
       refine bi h (fun h11 h => ?_) fun h11 h => ?_
       ·
        refine bi h (fun h12 h => ?_) fun h12 h => ?_
        ·
         rw [← sj h]
         exact xretY (n := 30) [(85, .d true), (90, .v (.ro [.val (.bool x2)])), (94, .v (.ro [.val (.int .i64 x3)])), (97, .d false), (101, .v (.ro [.val (.bool x5)])), (105, .v (.ro [.val (.int .i64 x3)])), (108, .d false), (112, .v (.ro [.val (.int .i64 x3)])), (114, .d false), (118, .v (.tup [(vs x8_0), (i6 x8_1)])), (123, .v (.ro [.val (.bool x2)])), (126, .v (i6 x9)), (128, .d false), (132, .v (.ro [.val (.bool x2)])), (133, .d true), (139, .v (.ro [.val (.int .i64 x3)])), (141, .d true), (6000, .d true)] (apc (cv h1) (apc (ig eBool 1 .i64 h2) (apc (ig eI64 1 .i64 h3) (apc (cv h4) (apc (ig eBool 1 .i64 h5) (apc (ig eI64 1 .i64 h3) (apc (cv h6) (apc (ig eI64 1 .i64 h3) (apc (cv h7) (apc (((F14_ok a6 v1 h8).cp rfl _) : CP prg 14 [(aG a6), (i6 v1)] [bG a6] = some (.tup [(vs x8_0), (i6 x8_1)])) (apc (ig eBool 1 .i64 h2) (apc (((F15_ok x8_1 h9).cp rfl _) : CP prg 15 [(i6 x8_1)] [bG a6] = some (i6 x9)) (apc (cv h10) (apc (ig eBool 1 .i64 h2) (apc (cv h11) (apc (ig eI64 1 .i64 h3) (apc (cv h12) apn))))))))))))))))) (by kernel_rfl)
        ·
         refine bi h (fun h13 h => ?_) fun h13 h => ?_
         ·
          refine bn h fun x14 h14 h => ?_
          refine bn h fun x15 h15 h => ?_
          refine bn h fun x16 h16 h => ?_
          refine bi h (fun h17 h => ?_) fun h17 h => ?_
          ·
           rw [← sj h]
           exact rnd (n := 30) [(85, .d true), (90, .v (.ro [.val (.bool x2)])), (94, .v (.ro [.val (.int .i64 x3)])), (97, .d false), (101, .v (.ro [.val (.bool x5)])), (105, .v (.ro [.val (.int .i64 x3)])), (108, .d false), (112, .v (.ro [.val (.int .i64 x3)])), (114, .d false), (118, .v (.tup [(vs x8_0), (i6 x8_1)])), (123, .v (.ro [.val (.bool x2)])), (126, .v (i6 x9)), (128, .d false), (132, .v (.ro [.val (.bool x2)])), (133, .d true), (139, .v (.ro [.val (.int .i64 x3)])), (141, .d false), (144, .d true), (148, .v (.ro (eSet x14))), (151, .v (vi .u8 (x15.toNat : Int))), (152, .v (vb true)), (6000, .d true)] (apc (cv h1) (apc (ig eBool 1 .i64 h2) (apc (ig eI64 1 .i64 h3) (apc (cv h4) (apc (ig eBool 1 .i64 h5) (apc (ig eI64 1 .i64 h3) (apc (cv h6) (apc (ig eI64 1 .i64 h3) (apc (cv h7) (apc (((F14_ok a6 v1 h8).cp rfl _) : CP prg 14 [(aG a6), (i6 v1)] [bG a6] = some (.tup [(vs x8_0), (i6 x8_1)])) (apc (ig eBool 1 .i64 h2) (apc (((F15_ok x8_1 h9).cp rfl _) : CP prg 15 [(i6 x8_1)] [bG a6] = some (i6 x9)) (apc (cv h10) (apc (ig eBool 1 .i64 h2) (apc (cv h11) (apc (ig eI64 1 .i64 h3) (apc (cv h12) (apc (cv h13) (apc (ig eSet 4 .i64 h14) (apc ((ix_str h15) : ixS (vs x8_0) (i6 0) = some (vi .u8 (x15.toNat : Int))) (apc ((((F31_ok x14 (x15.toNat : Int) h16).cp rfl _).trans (congrArg (fun z => some (vb z)) h17)) : CP prg 31 [(.agg ((eSet x14).map .p)), (vi .u8 (x15.toNat : Int))] [bG a6] = some (vb true)) (apc ((okT_of rfl (abl_cons rfl rfl)) : okT 1 [bG a6] = true) apn)))))))))))))))))))))) (by kernel_rfl)
          ·
           rw [← sj h]
           exact xretY (n := 30) [(85, .d true), (90, .v (.ro [.val (.bool x2)])), (94, .v (.ro [.val (.int .i64 x3)])), (97, .d false), (101, .v (.ro [.val (.bool x5)])), (105, .v (.ro [.val (.int .i64 x3)])), (108, .d false), (112, .v (.ro [.val (.int .i64 x3)])), (114, .d false), (118, .v (.tup [(vs x8_0), (i6 x8_1)])), (123, .v (.ro [.val (.bool x2)])), (126, .v (i6 x9)), (128, .d false), (132, .v (.ro [.val (.bool x2)])), (133, .d true), (139, .v (.ro [.val (.int .i64 x3)])), (141, .d false), (144, .d true), (148, .v (.ro (eSet x14))), (151, .v (vi .u8 (x15.toNat : Int))), (152, .v (vb false)), (6000, .d true)] (apc (cv h1) (apc (ig eBool 1 .i64 h2) (apc (ig eI64 1 .i64 h3) (apc (cv h4) (apc (ig eBool 1 .i64 h5) (apc (ig eI64 1 .i64 h3) (apc (cv h6) (apc (ig eI64 1 .i64 h3) (apc (cv h7) (apc (((F14_ok a6 v1 h8).cp rfl _) : CP prg 14 [(aG a6), (i6 v1)] [bG a6] = some (.tup [(vs x8_0), (i6 x8_1)])) (apc (ig eBool 1 .i64 h2) (apc (((F15_ok x8_1 h9).cp rfl _) : CP prg 15 [(i6 x8_1)] [bG a6] = some (i6 x9)) (apc (cv h10) (apc (ig eBool 1 .i64 h2) (apc (cv h11) (apc (ig eI64 1 .i64 h3) (apc (cv h12) (apc (cv h13) (apc (ig eSet 4 .i64 h14) (apc ((ix_str h15) : ixS (vs x8_0) (i6 0) = some (vi .u8 (x15.toNat : Int))) (apc ((((F31_ok x14 (x15.toNat : Int) h16).cp rfl _).trans (congrArg (fun z => some (vb z)) h17)) : CP prg 31 [(.agg ((eSet x14).map .p)), (vi .u8 (x15.toNat : Int))] [bG a6] = some (vb false)) apn))))))))))))))))))))) (by kernel_rfl)
         ·
          rw [← sj h]
          exact rnd (n := 30) [(85, .d true), (90, .v (.ro [.val (.bool x2)])), (94, .v (.ro [.val (.int .i64 x3)])), (97, .d false), (101, .v (.ro [.val (.bool x5)])), (105, .v (.ro [.val (.int .i64 x3)])), (108, .d false), (112, .v (.ro [.val (.int .i64 x3)])), (114, .d false), (118, .v (.tup [(vs x8_0), (i6 x8_1)])), (123, .v (.ro [.val (.bool x2)])), (126, .v (i6 x9)), (128, .d false), (132, .v (.ro [.val (.bool x2)])), (133, .d true), (139, .v (.ro [.val (.int .i64 x3)])), (141, .d false), (144, .d false), (6000, .d true)] (apc (cv h1) (apc (ig eBool 1 .i64 h2) (apc (ig eI64 1 .i64 h3) (apc (cv h4) (apc (ig eBool 1 .i64 h5) (apc (ig eI64 1 .i64 h3) (apc (cv h6) (apc (ig eI64 1 .i64 h3) (apc (cv h7) (apc (((F14_ok a6 v1 h8).cp rfl _) : CP prg 14 [(aG a6), (i6 v1)] [bG a6] = some (.tup [(vs x8_0), (i6 x8_1)])) (apc (ig eBool 1 .i64 h2) (apc (((F15_ok x8_1 h9).cp rfl _) : CP prg 15 [(i6 x8_1)] [bG a6] = some (i6 x9)) (apc (cv h10) (apc (ig eBool 1 .i64 h2) (apc (cv h11) (apc (ig eI64 1 .i64 h3) (apc (cv h12) (apc (cv h13) (apc ((okT_of rfl (abl_cons rfl rfl)) : okT 1 [bG a6] = true) apn))))))))))))))))))) (by kernel_rfl)
       ·
        rw [← sj h]
        exact rnd (n := 30) [(85, .d true), (90, .v (.ro [.val (.bool x2)])), (94, .v (.ro [.val (.int .i64 x3)])), (97, .d false), (101, .v (.ro [.val (.bool x5)])), (105, .v (.ro [.val (.int .i64 x3)])), (108, .d false), (112, .v (.ro [.val (.int .i64 x3)])), (114, .d false), (118, .v (.tup [(vs x8_0), (i6 x8_1)])), (123, .v (.ro [.val (.bool x2)])), (126, .v (i6 x9)), (128, .d false), (132, .v (.ro [.val (.bool x2)])), (133, .d false), (6000, .d true)] (apc (cv h1) (apc (ig eBool 1 .i64 h2) (apc (ig eI64 1 .i64 h3) (apc (cv h4) (apc (ig eBool 1 .i64 h5) (apc (ig eI64 1 .i64 h3) (apc (cv h6) (apc (ig eI64 1 .i64 h3) (apc (cv h7) (apc (((F14_ok a6 v1 h8).cp rfl _) : CP prg 14 [(aG a6), (i6 v1)] [bG a6] = some (.tup [(vs x8_0), (i6 x8_1)])) (apc (ig eBool 1 .i64 h2) (apc (((F15_ok x8_1 h9).cp rfl _) : CP prg 15 [(i6 x8_1)] [bG a6] = some (i6 x9)) (apc (cv h10) (apc (ig eBool 1 .i64 h2) (apc (cv h11) (apc ((okT_of rfl (abl_cons rfl rfl)) : okT 1 [bG a6] = true) apn)))))))))))))))) (by kernel_rfl)
 ·
  rw [← sj h]
  exact xbrk (n := 30) [(85, .d false), (6000, .d true)] (apc (cv h1) apn) (by kernel_rfl)
theorem L6_0_run (a1 : List Bool) (a2 : List Bool) (a3 : List Int) (a4 : List SetD) (a5 : Int) (a6 : GramD) (s0 : Int) (e : E_L6_0) (h : runL (fun s => L6_0 a1 a2 a3 a4 a5 a6 s) s0 = some e) : L6_0_x a1 a2 a3 a4 a5 a6 e (evH prg 1 [1, 3, 5, 7, 9, 11, 12] ir6_l0 (L6_0_s a1 a2 a3 a4 a5 a6 s0)) := by
  have q := @loop_sound' (Int) E_L6_0 (fun s => L6_0 a1 a2 a3 a4 a5 a6 s) (fun s => evH prg 1 [1, 3, 5, 7, 9, 11, 12] ir6_l0 (L6_0_s a1 a2 a3 a4 a5 a6 s)) (L6_0_x a1 a2 a3 a4 a5 a6) (fun s r h => L6_0_ok a1 a2 a3 a4 a5 a6 s h) s0 e h
  exact q
noncomputable def F6 (a1 : GramD) : Option Bool :=
  ((F10 a1).bind fun x1 => (bif x1 then ((F11).bind fun x3 => (some x3)) else ((F29 a1).bind fun x3 => ((F15 x3).bind fun x4 => (bif (x4 != 0) then ((F11).bind fun x6 => (some x6)) else ((F20 a1).bind fun r6 => match r6 with | .k0 x6_0 x6_1 => ((F22 a1).bind fun r7 => match r7 with | .k0 x7_0 x7_1 => ((F13 a1).bind fun r8 => match r8 with | .k0 x8_0 x8_1 => ((F30 a1).bind fun r9 => match r9 with | .k0 x9_0 x9_1 => ((F15 x6_1).bind fun x10 => ((F15 x7_1).bind fun x11 => ((F15 x8_1).bind fun x12 => ((F15 x9_1).bind fun x13 => (bif ((IntKind.wrap .i64 ((IntKind.wrap .i64 ((IntKind.wrap .i64 (x10 + x11)) + x12)) + x13)) != 0) then (some false) else (bif ((x6_0.length : Int) != (a1.sorts.length : Int)) then (some false) else (bif ((x7_0.length : Int) != (a1.sorts.length : Int)) then (some false) else (bif ((x8_0.length : Int) != (a1.sorts.length : Int)) then (some false) else (bif ((x9_0.length : Int) != (a1.sorts.length : Int)) then (some false) else ((runL (fun s => L6_0 x6_0 x7_0 x8_0 x9_0 (a1.sorts.length : Int) a1 s) 0).bind fun r19 => match r19 with | .k0 => (some false) | .k1 => ((F11).bind fun x20 => (some x20)))))))))))))))))))))
def F6_v (a1 : GramD) (x0 : Bool) : AV := (vb x0)
theorem F6_ok (a1 : GramD) {r : Bool} (h : F6 a1 = some r) : PR1 prg 6 [(aG a1)] (F6_v a1 r) := by
 unfold F6 at h
 refine bn h fun x1 h1 h => ?_
 refine bi h (fun h2 h => ?_) fun h2 h => ?_
 ·
  refine bn h fun x3 h3 h => ?_
  rw [← sj h]
  exact fpr (n := 30) [(16, .v (vb true)), (23, .v (vb x3))] (apc ((((F10_ok a1 h1).cp rfl _).trans (congrArg (fun z => some (vb z)) h2)) : CP prg 10 [(aG a1)] [bG a1] = some (vb true)) (apc (((F11_ok  h3).cp rfl _) : CP prg 11 [] [bG a1] = some (vb x3)) apn)) rfl (by kernel_rfl)
 ·
  refine bn h fun x3 h3 h => ?_
  refine bn h fun x4 h4 h => ?_
  refine bi h (fun h5 h => ?_) fun h5 h => ?_
  ·
   refine bn h fun x6 h6 h => ?_
   rw [← sj h]
   exact fpr (n := 30) [(16, .v (vb false)), (19, .v (i6 x3)), (20, .v (i6 x4)), (21, .d true), (23, .v (vb x6))] (apc ((((F10_ok a1 h1).cp rfl _).trans (congrArg (fun z => some (vb z)) h2)) : CP prg 10 [(aG a1)] [bG a1] = some (vb false)) (apc (((F29_ok a1 h3).cp rfl _) : CP prg 29 [(aG a1)] [bG a1] = some (i6 x3)) (apc (((F15_ok x3 h4).cp rfl _) : CP prg 15 [(i6 x3)] [bG a1] = some (i6 x4)) (apc (cv h5) (apc (((F11_ok  h6).cp rfl _) : CP prg 11 [] [bG a1] = some (vb x6)) apn))))) rfl (by kernel_rfl)
  ·
   refine bn h fun r6 h6 h => ?_
   cases r6 with
   | k0 x6_0 x6_1 =>
    refine bn h fun r7 h7 h => ?_
    cases r7 with
    | k0 x7_0 x7_1 =>
     refine bn h fun r8 h8 h => ?_
     cases r8 with
     | k0 x8_0 x8_1 =>
      refine bn h fun r9 h9 h => ?_
      cases r9 with
      | k0 x9_0 x9_1 =>
       refine bn h fun x10 h10 h => ?_
       refine bn h fun x11 h11 h => ?_
       refine bn h fun x12 h12 h => ?_
       refine bn h fun x13 h13 h => ?_
       refine bi h (fun h14 h => ?_) fun h14 h => ?_
       ·
        rw [← sj h]
        exact fpr (n := 30) [(16, .v (vb false)), (19, .v (i6 x3)), (20, .v (i6 x4)), (21, .d false), (26, .v (.tup [(.p (.lst 1 (x6_0.map eBool))), (i6 x6_1)])), (31, .v (.tup [(.p (.lst 1 (x7_0.map eBool))), (i6 x7_1)])), (36, .v (.tup [(.p (.lst 1 (x8_0.map eI64))), (i6 x8_1)])), (41, .v (.tup [(.p (.lst 4 (x9_0.map eSet))), (i6 x9_1)])), (46, .v (i6 (a1.sorts.length : Int))), (48, .v (i6 x10)), (50, .v (i6 x11)), (53, .v (i6 x12)), (56, .v (i6 x13)), (58, .d true)] (apc ((((F10_ok a1 h1).cp rfl _).trans (congrArg (fun z => some (vb z)) h2)) : CP prg 10 [(aG a1)] [bG a1] = some (vb false)) (apc (((F29_ok a1 h3).cp rfl _) : CP prg 29 [(aG a1)] [bG a1] = some (i6 x3)) (apc (((F15_ok x3 h4).cp rfl _) : CP prg 15 [(i6 x3)] [bG a1] = some (i6 x4)) (apc (cv h5) (apc (((F20_ok a1 h6).cp rfl _) : CP prg 20 [(aG a1)] [bG a1] = some (.tup [(.p (.lst 1 (x6_0.map eBool))), (i6 x6_1)])) (apc (((F22_ok a1 h7).cp rfl _) : CP prg 22 [(aG a1)] [bG a1] = some (.tup [(.p (.lst 1 (x7_0.map eBool))), (i6 x7_1)])) (apc (((F13_ok a1 h8).cp rfl _) : CP prg 13 [(aG a1)] [bG a1] = some (.tup [(.p (.lst 1 (x8_0.map eI64))), (i6 x8_1)])) (apc (((F30_ok a1 h9).cp rfl _) : CP prg 30 [(aG a1)] [bG a1] = some (.tup [(.p (.lst 4 (x9_0.map eSet))), (i6 x9_1)])) (apc (lg a1.sorts eStr 1) (apc (((F15_ok x6_1 h10).cp rfl _) : CP prg 15 [(i6 x6_1)] [bG a1] = some (i6 x10)) (apc (((F15_ok x7_1 h11).cp rfl _) : CP prg 15 [(i6 x7_1)] [bG a1] = some (i6 x11)) (apc (((F15_ok x8_1 h12).cp rfl _) : CP prg 15 [(i6 x8_1)] [bG a1] = some (i6 x12)) (apc (((F15_ok x9_1 h13).cp rfl _) : CP prg 15 [(i6 x9_1)] [bG a1] = some (i6 x13)) (apc (cv h14) apn)))))))))))))) rfl (by kernel_rfl)
       ·
        refine bi h (fun h15 h => ?_) fun h15 h => ?_
        ·
         rw [← sj h]
         exact fpr (n := 30) [(16, .v (vb false)), (19, .v (i6 x3)), (20, .v (i6 x4)), (21, .d false), (26, .v (.tup [(.p (.lst 1 (x6_0.map eBool))), (i6 x6_1)])), (31, .v (.tup [(.p (.lst 1 (x7_0.map eBool))), (i6 x7_1)])), (36, .v (.tup [(.p (.lst 1 (x8_0.map eI64))), (i6 x8_1)])), (41, .v (.tup [(.p (.lst 4 (x9_0.map eSet))), (i6 x9_1)])), (46, .v (i6 (a1.sorts.length : Int))), (48, .v (i6 x10)), (50, .v (i6 x11)), (53, .v (i6 x12)), (56, .v (i6 x13)), (58, .d false), (61, .v (i6 (x6_0.length : Int))), (63, .d true)] (apc ((((F10_ok a1 h1).cp rfl _).trans (congrArg (fun z => some (vb z)) h2)) : CP prg 10 [(aG a1)] [bG a1] = some (vb false)) (apc (((F29_ok a1 h3).cp rfl _) : CP prg 29 [(aG a1)] [bG a1] = some (i6 x3)) (apc (((F15_ok x3 h4).cp rfl _) : CP prg 15 [(i6 x3)] [bG a1] = some (i6 x4)) (apc (cv h5) (apc (((F20_ok a1 h6).cp rfl _) : CP prg 20 [(aG a1)] [bG a1] = some (.tup [(.p (.lst 1 (x6_0.map eBool))), (i6 x6_1)])) (apc (((F22_ok a1 h7).cp rfl _) : CP prg 22 [(aG a1)] [bG a1] = some (.tup [(.p (.lst 1 (x7_0.map eBool))), (i6 x7_1)])) (apc (((F13_ok a1 h8).cp rfl _) : CP prg 13 [(aG a1)] [bG a1] = some (.tup [(.p (.lst 1 (x8_0.map eI64))), (i6 x8_1)])) (apc (((F30_ok a1 h9).cp rfl _) : CP prg 30 [(aG a1)] [bG a1] = some (.tup [(.p (.lst 4 (x9_0.map eSet))), (i6 x9_1)])) (apc (lg a1.sorts eStr 1) (apc (((F15_ok x6_1 h10).cp rfl _) : CP prg 15 [(i6 x6_1)] [bG a1] = some (i6 x10)) (apc (((F15_ok x7_1 h11).cp rfl _) : CP prg 15 [(i6 x7_1)] [bG a1] = some (i6 x11)) (apc (((F15_ok x8_1 h12).cp rfl _) : CP prg 15 [(i6 x8_1)] [bG a1] = some (i6 x12)) (apc (((F15_ok x9_1 h13).cp rfl _) : CP prg 15 [(i6 x9_1)] [bG a1] = some (i6 x13)) (apc (cv h14) (apc (lg x6_0 eBool 1) (apc (cv h15) apn)))))))))))))))) rfl (by kernel_rfl)
        ·
         refine bi h (fun h16 h => ?_) fun h16 h => ?_
         ·
          rw [← sj h]
          exact fpr (n := 30) [(16, .v (vb false)), (19, .v (i6 x3)), (20, .v (i6 x4)), (21, .d false), (26, .v (.tup [(.p (.lst 1 (x6_0.map eBool))), (i6 x6_1)])), (31, .v (.tup [(.p (.lst 1 (x7_0.map eBool))), (i6 x7_1)])), (36, .v (.tup [(.p (.lst 1 (x8_0.map eI64))), (i6 x8_1)])), (41, .v (.tup [(.p (.lst 4 (x9_0.map eSet))), (i6 x9_1)])), (46, .v (i6 (a1.sorts.length : Int))), (48, .v (i6 x10)), (50, .v (i6 x11)), (53, .v (i6 x12)), (56, .v (i6 x13)), (58, .d false), (61, .v (i6 (x6_0.length : Int))), (63, .d false), (67, .v (i6 (x7_0.length : Int))), (69, .d true)] (apc ((((F10_ok a1 h1).cp rfl _).trans (congrArg (fun z => some (vb z)) h2)) : CP prg 10 [(aG a1)] [bG a1] = some (vb false)) (apc (((F29_ok a1 h3).cp rfl _) : CP prg 29 [(aG a1)] [bG a1] = some (i6 x3)) (apc (((F15_ok x3 h4).cp rfl _) : CP prg 15 [(i6 x3)] [bG a1] = some (i6 x4)) (apc (cv h5) (apc (((F20_ok a1 h6).cp rfl _) : CP prg 20 [(aG a1)] [bG a1] = some (.tup [(.p (.lst 1 (x6_0.map eBool))), (i6 x6_1)])) (apc (((F22_ok a1 h7).cp rfl _) : CP prg 22 [(aG a1)] [bG a1] = some (.tup [(.p (.lst 1 (x7_0.map eBool))), (i6 x7_1)])) (apc (((F13_ok a1 h8).cp rfl _) : CP prg 13 [(aG a1)] [bG a1] = some (.tup [(.p (.lst 1 (x8_0.map eI64))), (i6 x8_1)])) (apc (((F30_ok a1 h9).cp rfl _) : CP prg 30 [(aG a1)] [bG a1] = some (.tup [(.p (.lst 4 (x9_0.map eSet))), (i6 x9_1)])) (apc (lg a1.sorts eStr 1) (apc (((F15_ok x6_1 h10).cp rfl _) : CP prg 15 [(i6 x6_1)] [bG a1] = some (i6 x10)) (apc (((F15_ok x7_1 h11).cp rfl _) : CP prg 15 [(i6 x7_1)] [bG a1] = some (i6 x11)) (apc (((F15_ok x8_1 h12).cp rfl _) : CP prg 15 [(i6 x8_1)] [bG a1] = some (i6 x12)) (apc (((F15_ok x9_1 h13).cp rfl _) : CP prg 15 [(i6 x9_1)] [bG a1] = some (i6 x13)) (apc (cv h14) (apc (lg x6_0 eBool 1) (apc (cv h15) (apc (lg x7_0 eBool 1) (apc (cv h16) apn)))))))))))))))))) rfl (by kernel_rfl)
         ·
          refine bi h (fun h17 h => ?_) fun h17 h => ?_
          ·
           rw [← sj h]
           exact fpr (n := 30) [(16, .v (vb false)), (19, .v (i6 x3)), (20, .v (i6 x4)), (21, .d false), (26, .v (.tup [(.p (.lst 1 (x6_0.map eBool))), (i6 x6_1)])), (31, .v (.tup [(.p (.lst 1 (x7_0.map eBool))), (i6 x7_1)])), (36, .v (.tup [(.p (.lst 1 (x8_0.map eI64))), (i6 x8_1)])), (41, .v (.tup [(.p (.lst 4 (x9_0.map eSet))), (i6 x9_1)])), (46, .v (i6 (a1.sorts.length : Int))), (48, .v (i6 x10)), (50, .v (i6 x11)), (53, .v (i6 x12)), (56, .v (i6 x13)), (58, .d false), (61, .v (i6 (x6_0.length : Int))), (63, .d false), (67, .v (i6 (x7_0.length : Int))), (69, .d false), (73, .v (i6 (x8_0.length : Int))), (75, .d true)] (apc ((((F10_ok a1 h1).cp rfl _).trans (congrArg (fun z => some (vb z)) h2)) : CP prg 10 [(aG a1)] [bG a1] = some (vb false)) (apc (((F29_ok a1 h3).cp rfl _) : CP prg 29 [(aG a1)] [bG a1] = some (i6 x3)) (apc (((F15_ok x3 h4).cp rfl _) : CP prg 15 [(i6 x3)] [bG a1] = some (i6 x4)) (apc (cv h5) (apc (((F20_ok a1 h6).cp rfl _) : CP prg 20 [(aG a1)] [bG a1] = some (.tup [(.p (.lst 1 (x6_0.map eBool))), (i6 x6_1)])) (apc (((F22_ok a1 h7).cp rfl _) : CP prg 22 [(aG a1)] [bG a1] = some (.tup [(.p (.lst 1 (x7_0.map eBool))), (i6 x7_1)])) (apc (((F13_ok a1 h8).cp rfl _) : CP prg 13 [(aG a1)] [bG a1] = some (.tup [(.p (.lst 1 (x8_0.map eI64))), (i6 x8_1)])) (apc (((F30_ok a1 h9).cp rfl _) : CP prg 30 [(aG a1)] [bG a1] = some (.tup [(.p (.lst 4 (x9_0.map eSet))), (i6 x9_1)])) (apc (lg a1.sorts eStr 1) (apc (((F15_ok x6_1 h10).cp rfl _) : CP prg 15 [(i6 x6_1)] [bG a1] = some (i6 x10)) (apc (((F15_ok x7_1 h11).cp rfl _) : CP prg 15 [(i6 x7_1)] [bG a1] = some (i6 x11)) (apc (((F15_ok x8_1 h12).cp rfl _) : CP prg 15 [(i6 x8_1)] [bG a1] = some (i6 x12)) (apc (((F15_ok x9_1 h13).cp rfl _) : CP prg 15 [(i6 x9_1)] [bG a1] = some (i6 x13)) (apc (cv h14) (apc (lg x6_0 eBool 1) (apc (cv h15) (apc (lg x7_0 eBool 1) (apc (cv h16) (apc (lg x8_0 eI64 1) (apc (cv h17) apn)))))))))))))))))))) rfl (by kernel_rfl)
          ·
           refine bi h (fun h18 h => ?_) fun h18 h => ?_
           ·
            rw [← sj h]
            exact fpr (n := 30) [(16, .v (vb false)), (19, .v (i6 x3)), (20, .v (i6 x4)), (21, .d false), (26, .v (.tup [(.p (.lst 1 (x6_0.map eBool))), (i6 x6_1)])), (31, .v (.tup [(.p (.lst 1 (x7_0.map eBool))), (i6 x7_1)])), (36, .v (.tup [(.p (.lst 1 (x8_0.map eI64))), (i6 x8_1)])), (41, .v (.tup [(.p (.lst 4 (x9_0.map eSet))), (i6 x9_1)])), (46, .v (i6 (a1.sorts.length : Int))), (48, .v (i6 x10)), (50, .v (i6 x11)), (53, .v (i6 x12)), (56, .v (i6 x13)), (58, .d false), (61, .v (i6 (x6_0.length : Int))), (63, .d false), (67, .v (i6 (x7_0.length : Int))), (69, .d false), (73, .v (i6 (x8_0.length : Int))), (75, .d false), (79, .v (i6 (x9_0.length : Int))), (81, .d true)] (apc ((((F10_ok a1 h1).cp rfl _).trans (congrArg (fun z => some (vb z)) h2)) : CP prg 10 [(aG a1)] [bG a1] = some (vb false)) (apc (((F29_ok a1 h3).cp rfl _) : CP prg 29 [(aG a1)] [bG a1] = some (i6 x3)) (apc (((F15_ok x3 h4).cp rfl _) : CP prg 15 [(i6 x3)] [bG a1] = some (i6 x4)) (apc (cv h5) (apc (((F20_ok a1 h6).cp rfl _) : CP prg 20 [(aG a1)] [bG a1] = some (.tup [(.p (.lst 1 (x6_0.map eBool))), (i6 x6_1)])) (apc (((F22_ok a1 h7).cp rfl _) : CP prg 22 [(aG a1)] [bG a1] = some (.tup [(.p (.lst 1 (x7_0.map eBool))), (i6 x7_1)])) (apc (((F13_ok a1 h8).cp rfl _) : CP prg 13 [(aG a1)] [bG a1] = some (.tup [(.p (.lst 1 (x8_0.map eI64))), (i6 x8_1)])) (apc (((F30_ok a1 h9).cp rfl _) : CP prg 30 [(aG a1)] [bG a1] = some (.tup [(.p (.lst 4 (x9_0.map eSet))), (i6 x9_1)])) (apc (lg a1.sorts eStr 1) (apc (((F15_ok x6_1 h10).cp rfl _) : CP prg 15 [(i6 x6_1)] [bG a1] = some (i6 x10)) (apc (((F15_ok x7_1 h11).cp rfl _) : CP prg 15 [(i6 x7_1)] [bG a1] = some (i6 x11)) (apc (((F15_ok x8_1 h12).cp rfl _) : CP prg 15 [(i6 x8_1)] [bG a1] = some (i6 x12)) (apc (((F15_ok x9_1 h13).cp rfl _) : CP prg 15 [(i6 x9_1)] [bG a1] = some (i6 x13)) (apc (cv h14) (apc (lg x6_0 eBool 1) (apc (cv h15) (apc (lg x7_0 eBool 1) (apc (cv h16) (apc (lg x8_0 eI64 1) (apc (cv h17) (apc (lg x9_0 eSet 4) (apc (cv h18) apn)))))))))))))))))))))) rfl (by kernel_rfl)
           ·
            refine bn h fun r19 h19 h => ?_
            cases r19 with
            | k0 =>
             obtain ⟨g19, y19, e19⟩ := L6_0_run x6_0 x7_0 x8_0 x9_0 (a1.sorts.length : Int) a1 0 _ h19
             rw [← sj h]
             exact fpr (n := 30) [(16, .v (vb false)), (19, .v (i6 x3)), (20, .v (i6 x4)), (21, .d false), (26, .v (.tup [(.p (.lst 1 (x6_0.map eBool))), (i6 x6_1)])), (31, .v (.tup [(.p (.lst 1 (x7_0.map eBool))), (i6 x7_1)])), (36, .v (.tup [(.p (.lst 1 (x8_0.map eI64))), (i6 x8_1)])), (41, .v (.tup [(.p (.lst 4 (x9_0.map eSet))), (i6 x9_1)])), (46, .v (i6 (a1.sorts.length : Int))), (48, .v (i6 x10)), (50, .v (i6 x11)), (53, .v (i6 x12)), (56, .v (i6 x13)), (58, .d false), (61, .v (i6 (x6_0.length : Int))), (63, .d false), (67, .v (i6 (x7_0.length : Int))), (69, .d false), (73, .v (i6 (x8_0.length : Int))), (75, .d false), (79, .v (i6 (x9_0.length : Int))), (81, .d false), (2000, .l .ret ⟨fr 159 g19 [(2, (vb false))], y19⟩), (6000, .d true)] (apc ((((F10_ok a1 h1).cp rfl _).trans (congrArg (fun z => some (vb z)) h2)) : CP prg 10 [(aG a1)] [bG a1] = some (vb false)) (apc (((F29_ok a1 h3).cp rfl _) : CP prg 29 [(aG a1)] [bG a1] = some (i6 x3)) (apc (((F15_ok x3 h4).cp rfl _) : CP prg 15 [(i6 x3)] [bG a1] = some (i6 x4)) (apc (cv h5) (apc (((F20_ok a1 h6).cp rfl _) : CP prg 20 [(aG a1)] [bG a1] = some (.tup [(.p (.lst 1 (x6_0.map eBool))), (i6 x6_1)])) (apc (((F22_ok a1 h7).cp rfl _) : CP prg 22 [(aG a1)] [bG a1] = some (.tup [(.p (.lst 1 (x7_0.map eBool))), (i6 x7_1)])) (apc (((F13_ok a1 h8).cp rfl _) : CP prg 13 [(aG a1)] [bG a1] = some (.tup [(.p (.lst 1 (x8_0.map eI64))), (i6 x8_1)])) (apc (((F30_ok a1 h9).cp rfl _) : CP prg 30 [(aG a1)] [bG a1] = some (.tup [(.p (.lst 4 (x9_0.map eSet))), (i6 x9_1)])) (apc (lg a1.sorts eStr 1) (apc (((F15_ok x6_1 h10).cp rfl _) : CP prg 15 [(i6 x6_1)] [bG a1] = some (i6 x10)) (apc (((F15_ok x7_1 h11).cp rfl _) : CP prg 15 [(i6 x7_1)] [bG a1] = some (i6 x11)) (apc (((F15_ok x8_1 h12).cp rfl _) : CP prg 15 [(i6 x8_1)] [bG a1] = some (i6 x12)) (apc (((F15_ok x9_1 h13).cp rfl _) : CP prg 15 [(i6 x9_1)] [bG a1] = some (i6 x13)) (apc (cv h14) (apc (lg x6_0 eBool 1) (apc (cv h15) (apc (lg x7_0 eBool 1) (apc (cv h16) (apc (lg x8_0 eI64 1) (apc (cv h17) (apc (lg x9_0 eSet 4) (apc (cv h18) (apc ((okT_of rfl (abl_cons rfl rfl)) : okT 1 [bG a1] = true) (apc (e19 : evH prg 1 [1, 3, 5, 7, 9, 11, 12] ir6_l0 (L6_0_s x6_0 x7_0 x8_0 x9_0 (a1.sorts.length : Int) a1 0) = some (.ret, ⟨fr 159 g19 [(2, (vb false))], y19⟩)) apn)))))))))))))))))))))))) rfl (by kernel_rfl)
            | k1 =>
             obtain ⟨g19, e19⟩ := L6_0_run x6_0 x7_0 x8_0 x9_0 (a1.sorts.length : Int) a1 0 _ h19
             refine bn h fun x20 h20 h => ?_
             rw [← sj h]
             exact fpr (n := 30) [(16, .v (vb false)), (19, .v (i6 x3)), (20, .v (i6 x4)), (21, .d false), (26, .v (.tup [(.p (.lst 1 (x6_0.map eBool))), (i6 x6_1)])), (31, .v (.tup [(.p (.lst 1 (x7_0.map eBool))), (i6 x7_1)])), (36, .v (.tup [(.p (.lst 1 (x8_0.map eI64))), (i6 x8_1)])), (41, .v (.tup [(.p (.lst 4 (x9_0.map eSet))), (i6 x9_1)])), (46, .v (i6 (a1.sorts.length : Int))), (48, .v (i6 x10)), (50, .v (i6 x11)), (53, .v (i6 x12)), (56, .v (i6 x13)), (58, .d false), (61, .v (i6 (x6_0.length : Int))), (63, .d false), (67, .v (i6 (x7_0.length : Int))), (69, .d false), (73, .v (i6 (x8_0.length : Int))), (75, .d false), (79, .v (i6 (x9_0.length : Int))), (81, .d false), (2000, .l (.brk 0) ⟨fr 159 g19 [(1, (.ptr 0 0)), (3, (.p (.lst 1 (x6_0.map eBool)))), (5, (.p (.lst 1 (x7_0.map eBool)))), (7, (.p (.lst 1 (x8_0.map eI64)))), (9, (.p (.lst 4 (x9_0.map eSet)))), (11, (i6 (a1.sorts.length : Int)))], [bG a1]⟩), (158, .v (vb x20)), (6000, .d true)] (apc ((((F10_ok a1 h1).cp rfl _).trans (congrArg (fun z => some (vb z)) h2)) : CP prg 10 [(aG a1)] [bG a1] = some (vb false)) (apc (((F29_ok a1 h3).cp rfl _) : CP prg 29 [(aG a1)] [bG a1] = some (i6 x3)) (apc (((F15_ok x3 h4).cp rfl _) : CP prg 15 [(i6 x3)] [bG a1] = some (i6 x4)) (apc (cv h5) (apc (((F20_ok a1 h6).cp rfl _) : CP prg 20 [(aG a1)] [bG a1] = some (.tup [(.p (.lst 1 (x6_0.map eBool))), (i6 x6_1)])) (apc (((F22_ok a1 h7).cp rfl _) : CP prg 22 [(aG a1)] [bG a1] = some (.tup [(.p (.lst 1 (x7_0.map eBool))), (i6 x7_1)])) (apc (((F13_ok a1 h8).cp rfl _) : CP prg 13 [(aG a1)] [bG a1] = some (.tup [(.p (.lst 1 (x8_0.map eI64))), (i6 x8_1)])) (apc (((F30_ok a1 h9).cp rfl _) : CP prg 30 [(aG a1)] [bG a1] = some (.tup [(.p (.lst 4 (x9_0.map eSet))), (i6 x9_1)])) (apc (lg a1.sorts eStr 1) (apc (((F15_ok x6_1 h10).cp rfl _) : CP prg 15 [(i6 x6_1)] [bG a1] = some (i6 x10)) (apc (((F15_ok x7_1 h11).cp rfl _) : CP prg 15 [(i6 x7_1)] [bG a1] = some (i6 x11)) (apc (((F15_ok x8_1 h12).cp rfl _) : CP prg 15 [(i6 x8_1)] [bG a1] = some (i6 x12)) (apc (((F15_ok x9_1 h13).cp rfl _) : CP prg 15 [(i6 x9_1)] [bG a1] = some (i6 x13)) (apc (cv h14) (apc (lg x6_0 eBool 1) (apc (cv h15) (apc (lg x7_0 eBool 1) (apc (cv h16) (apc (lg x8_0 eI64 1) (apc (cv h17) (apc (lg x9_0 eSet 4) (apc (cv h18) (apc ((okT_of rfl (abl_cons rfl rfl)) : okT 1 [bG a1] = true) (apc (e19 : evH prg 1 [1, 3, 5, 7, 9, 11, 12] ir6_l0 (L6_0_s x6_0 x7_0 x8_0 x9_0 (a1.sorts.length : Int) a1 0) = some ((.brk 0), ⟨fr 159 g19 [(1, (.ptr 0 0)), (3, (.p (.lst 1 (x6_0.map eBool)))), (5, (.p (.lst 1 (x7_0.map eBool)))), (7, (.p (.lst 1 (x8_0.map eI64)))), (9, (.p (.lst 4 (x9_0.map eSet)))), (11, (i6 (a1.sorts.length : Int)))], [bG a1]⟩)) (apc (((F11_ok  h20).cp rfl _) : CP prg 11 [] [bG a1] = some (vb x20)) apn))))))))))))))))))))))))) rfl (by kernel_rfl)
noncomputable def F41 (a1 : GramD) : Option Bool :=
  (bif (decide (a1.start ≥ 0)) then (some (decide (a1.start < (a1.sorts.length : Int)))) else (some false))
def F41_v (a1 : GramD) (x0 : Bool) : AV := (vb x0)
theorem F41_ok (a1 : GramD) {r : Bool} (h : F41 a1 = some r) : PR1 prg 41 [(aG a1), (i6 a1.start)] (F41_v a1 r) := by
 unfold F41 at h
 refine bi h (fun h1 h => ?_) fun h1 h => ?_
 ·
  rw [← sj h]
  exact fpr (n := 30) [(6, .d true), (11, .v (i6 (a1.sorts.length : Int)))] (apc (cv h1) (apc (lg a1.sorts eStr 1) apn)) rfl (by kernel_rfl)
 ·
  rw [← sj h]
  exact fpr (n := 30) [(6, .d false)] (apc (cv h1) apn) rfl (by kernel_rfl)
inductive E_L12_5 where
  | k0
  | k1
noncomputable def L12_5 (a1 : Int) (a2 : GramD) (v1 : Int) : Option (E_L12_5 ⊕ (Int)) :=
  (bif (decide (v1 < a1)) then ((getI a2.sorts v1).bind fun x2 => ((getI a2.sorts a1).bind fun x3 => (bif (x2.toList == x3.toList) then (some (.inl (.k0))) else (some (.inr ((IntKind.wrap .i64 (v1 + 1)))))))) else (some (.inl (.k1))))
def L12_5_s (a1 : Int) (a2 : GramD) (v1 : Int) : St := ⟨fr 160 ug [(1, (.ptr 0 0)), (3, (i6 a1)), (4, (i6 v1))], [bG a2]⟩
def L12_5_x (a1 : Int) (a2 : GramD) (e : E_L12_5) (r : Option (Out × St)) : Prop := match e with | .k0 => ∃ g y, r = some (.ret, ⟨fr 160 g [(2, (i6 160))], y⟩) | .k1 => ∃ g, r = some ((.brk 2), ⟨fr 160 g [(1, (.ptr 0 0)), (3, (i6 a1))], [bG a2]⟩)
theorem L12_5_ok (a1 : Int) (a2 : GramD) (v1 : Int) {r : E_L12_5 ⊕ (Int)} (h : L12_5 a1 a2 v1 = some r) : OkR (fun e => L12_5_x a1 a2 e (evH prg 1 [1, 3, 4] ir12_l5 (L12_5_s a1 a2 v1))) (fun s => evH prg 1 [1, 3, 4] ir12_l5 (L12_5_s a1 a2 v1) = evH prg 1 [1, 3, 4] ir12_l5 (L12_5_s a1 a2 s)) r := by
 unfold L12_5 at h
 refine bi h (fun h1 h => ?_) fun h1 h => ?_
 ·
  refine bn h fun x2 h2 h => ?_
  refine bn h fun x3 h3 h => ?_
  refine bi h (fun h4 h => ?_) fun h4 h => ?_
  ·
   rw [← sj h]
   exact xretY (n := 30) [(57, .d true), (63, .v (.ro [.val (.string x2)])), (68, .v (.ro [.val (.string x3)])), (70, .d true), (6000, .d true)] (apc (cv h1) (apc (ig eStr 1 .i64 h2) (apc (ig eStr 1 .i64 h3) (apc (cv h4) apn)))) (by kernel_rfl)
  ·
   rw [← sj h]
   exact rnd (n := 30) [(57, .d true), (63, .v (.ro [.val (.string x2)])), (68, .v (.ro [.val (.string x3)])), (70, .d false), (6000, .d true)] (apc (cv h1) (apc (ig eStr 1 .i64 h2) (apc (ig eStr 1 .i64 h3) (apc (cv h4) (apc ((okT_of rfl (abl_cons rfl rfl)) : okT 1 [bG a2] = true) apn))))) (by kernel_rfl)
 ·
  rw [← sj h]
  exact xbrk (n := 30) [(57, .d false), (6000, .d true)] (apc (cv h1) apn) (by kernel_rfl)
theorem L12_5_run (a1 : Int) (a2 : GramD) (s0 : Int) (e : E_L12_5) (h : runL (fun s => L12_5 a1 a2 s) s0 = some e) : L12_5_x a1 a2 e (evH prg 1 [1, 3, 4] ir12_l5 (L12_5_s a1 a2 s0)) := by
  have q := @loop_sound' (Int) E_L12_5 (fun s => L12_5 a1 a2 s) (fun s => evH prg 1 [1, 3, 4] ir12_l5 (L12_5_s a1 a2 s)) (L12_5_x a1 a2) (fun s r h => L12_5_ok a1 a2 s h) s0 e h
  exact q
inductive E_L12_6 where
  | k0
  | k1
noncomputable def L12_6 (a1 : GramD) (v1 : Int) : Option (E_L12_6 ⊕ (Int)) :=
  (bif (decide (v1 < (a1.sorts.length : Int))) then ((getI a1.sorts v1).bind fun x2 => (bif (x2.toList == (⟨([] : List UInt8).toArray⟩ : ByteArray).toList) then (some (.inl (.k0))) else (bif (decide ((x2.size : Int) > 1000)) then (some (.inl (.k0))) else ((runL (fun s => L12_5 v1 a1 s) 0).bind fun r5 => match r5 with | .k0 => (some (.inl (.k0))) | .k1 => (some (.inr ((IntKind.wrap .i64 (v1 + 1))))))))) else (some (.inl (.k1))))
def L12_6_s (a1 : GramD) (v1 : Int) : St := ⟨fr 160 ug [(1, (.ptr 0 0)), (3, (i6 v1))], [bG a1]⟩
def L12_6_x (a1 : GramD) (e : E_L12_6) (r : Option (Out × St)) : Prop := match e with | .k0 => ∃ g y, r = some (.ret, ⟨fr 160 g [(2, (i6 160))], y⟩) | .k1 => ∃ g, r = some ((.brk 0), ⟨fr 160 g [(1, (.ptr 0 0))], [bG a1]⟩)
theorem L12_6_ok (a1 : GramD) (v1 : Int) {r : E_L12_6 ⊕ (Int)} (h : L12_6 a1 v1 = some r) : OkR (fun e => L12_6_x a1 e (evH prg 1 [1, 3] ir12_l6 (L12_6_s a1 v1))) (fun s => evH prg 1 [1, 3] ir12_l6 (L12_6_s a1 v1) = evH prg 1 [1, 3] ir12_l6 (L12_6_s a1 s)) r := by
 unfold L12_6 at h
 refine bi h (fun h1 h => ?_) fun h1 h => ?_
 ·
  refine bn h fun x2 h2 h => ?_
  refine bi h (fun h3 h => ?_) fun h3 h => ?_
  ·
   rw [← sj h]
   exact xretY (n := 30) [(36, .v (i6 (a1.sorts.length : Int))), (37, .d true), (43, .v (.ro [.val (.string x2)])), (45, .d true), (6000, .d true)] (apc (lg a1.sorts eStr 1) (apc (cv h1) (apc (ig eStr 1 .i64 h2) (apc (cv h3) apn)))) (by kernel_rfl)
  ·
   refine bi h (fun h4 h => ?_) fun h4 h => ?_
   ·
    rw [← sj h]
    exact xretY (n := 30) [(36, .v (i6 (a1.sorts.length : Int))), (37, .d true), (43, .v (.ro [.val (.string x2)])), (45, .d false), (50, .v (.ro [.val (.string x2)])), (53, .d true), (6000, .d true)] (apc (lg a1.sorts eStr 1) (apc (cv h1) (apc (ig eStr 1 .i64 h2) (apc (cv h3) (apc (ig eStr 1 .i64 h2) (apc (cv h4) apn)))))) (by kernel_rfl)
   ·
    refine bn h fun r5 h5 h => ?_
    cases r5 with
    | k0 =>
     obtain ⟨g5, y5, e5⟩ := L12_5_run v1 a1 0 _ h5
     rw [← sj h]
     exact xretY (n := 30) [(36, .v (i6 (a1.sorts.length : Int))), (37, .d true), (43, .v (.ro [.val (.string x2)])), (45, .d false), (50, .v (.ro [.val (.string x2)])), (53, .d false), (2002, .l .ret ⟨fr 160 g5 [(2, (i6 160))], y5⟩), (6000, .d true)] (apc (lg a1.sorts eStr 1) (apc (cv h1) (apc (ig eStr 1 .i64 h2) (apc (cv h3) (apc (ig eStr 1 .i64 h2) (apc (cv h4) (apc ((okT_of rfl (abl_cons rfl rfl)) : okT 1 [bG a1] = true) (apc (e5 : evH prg 1 [1, 3, 4] ir12_l5 (L12_5_s v1 a1 0) = some (.ret, ⟨fr 160 g5 [(2, (i6 160))], y5⟩)) apn)))))))) (by kernel_rfl)
    | k1 =>
     obtain ⟨g5, e5⟩ := L12_5_run v1 a1 0 _ h5
     rw [← sj h]
     exact rnd (n := 30) [(36, .v (i6 (a1.sorts.length : Int))), (37, .d true), (43, .v (.ro [.val (.string x2)])), (45, .d false), (50, .v (.ro [.val (.string x2)])), (53, .d false), (2002, .l (.brk 2) ⟨fr 160 g5 [(1, (.ptr 0 0)), (3, (i6 v1))], [bG a1]⟩), (6000, .d true)] (apc (lg a1.sorts eStr 1) (apc (cv h1) (apc (ig eStr 1 .i64 h2) (apc (cv h3) (apc (ig eStr 1 .i64 h2) (apc (cv h4) (apc ((okT_of rfl (abl_cons rfl rfl)) : okT 1 [bG a1] = true) (apc (e5 : evH prg 1 [1, 3, 4] ir12_l5 (L12_5_s v1 a1 0) = some ((.brk 2), ⟨fr 160 g5 [(1, (.ptr 0 0)), (3, (i6 v1))], [bG a1]⟩)) (apc ((okT_of rfl (abl_cons rfl rfl)) : okT 1 [bG a1] = true) apn))))))))) (by kernel_rfl)
 ·
  rw [← sj h]
  exact xbrk (n := 30) [(36, .v (i6 (a1.sorts.length : Int))), (37, .d false), (6000, .d true)] (apc (lg a1.sorts eStr 1) (apc (cv h1) apn)) (by kernel_rfl)
theorem L12_6_run (a1 : GramD) (s0 : Int) (e : E_L12_6) (h : runL (fun s => L12_6 a1 s) s0 = some e) : L12_6_x a1 e (evH prg 1 [1, 3] ir12_l6 (L12_6_s a1 s0)) := by
  have q := @loop_sound' (Int) E_L12_6 (fun s => L12_6 a1 s) (fun s => evH prg 1 [1, 3] ir12_l6 (L12_6_s a1 s)) (L12_6_x a1) (fun s r h => L12_6_ok a1 s h) s0 e h
  exact q
noncomputable def F41_2 (a1 : GramD) (a2 : ProdD) : Option Bool :=
  (bif (decide (a2.left ≥ 0)) then (some (decide (a2.left < (a1.sorts.length : Int)))) else (some false))
def F41_2_v (a1 : GramD) (a2 : ProdD) (x0 : Bool) : AV := (vb x0)
theorem F41_2_ok (a1 : GramD) (a2 : ProdD) {r : Bool} (h : F41_2 a1 a2 = some r) : PR1 prg 41 [(aG a1), (i6 a2.left)] (F41_2_v a1 a2 r) := by
 unfold F41_2 at h
 refine bi h (fun h1 h => ?_) fun h1 h => ?_
 ·
  rw [← sj h]
  exact fpr (n := 30) [(6, .d true), (11, .v (i6 (a1.sorts.length : Int)))] (apc (cv h1) (apc (lg a1.sorts eStr 1) apn)) rfl (by kernel_rfl)
 ·
  rw [← sj h]
  exact fpr (n := 30) [(6, .d false)] (apc (cv h1) apn) rfl (by kernel_rfl)
noncomputable def F44 (a1 : SymD) : Option Bool :=
  (some ((IntKind.wrap .u64 ((BitVec.ofInt (IntKind.bits .u64) (IntKind.wrap .u64 ((BitVec.ofInt (IntKind.bits .u64) (IntKind.wrap .u64 ((BitVec.ofInt (IntKind.bits .u64) a1.a ||| BitVec.ofInt (IntKind.bits .u64) a1.b).toNat : Int)) ||| BitVec.ofInt (IntKind.bits .u64) a1.c).toNat : Int)) ||| BitVec.ofInt (IntKind.bits .u64) a1.d).toNat : Int)) == 0))
def F44_v (a1 : SymD) (x0 : Bool) : AV := (vb x0)
theorem F44_ok (a1 : SymD) {r : Bool} (h : F44 a1 = some r) : PR1 prg 44 [(.agg ((List.take 4 (List.drop 1 (eSym a1))).map .p))] (F44_v a1 r) := by
 unfold F44 at h
 rw [← sj h]
 exact fpr (n := 30) [] apn rfl (by kernel_rfl)
noncomputable def F41_3 (a1 : GramD) (a2 : SymD) : Option Bool :=
  (bif (decide (a2.sort ≥ 0)) then (some (decide (a2.sort < (a1.sorts.length : Int)))) else (some false))
def F41_3_v (a1 : GramD) (a2 : SymD) (x0 : Bool) : AV := (vb x0)
theorem F41_3_ok (a1 : GramD) (a2 : SymD) {r : Bool} (h : F41_3 a1 a2 = some r) : PR1 prg 41 [(aG a1), (i6 a2.sort)] (F41_3_v a1 a2 r) := by
 unfold F41_3 at h
 refine bi h (fun h1 h => ?_) fun h1 h => ?_
 ·
  rw [← sj h]
  exact fpr (n := 30) [(6, .d true), (11, .v (i6 (a1.sorts.length : Int)))] (apc (cv h1) (apc (lg a1.sorts eStr 1) apn)) rfl (by kernel_rfl)
 ·
  rw [← sj h]
  exact fpr (n := 30) [(6, .d false)] (apc (cv h1) apn) rfl (by kernel_rfl)
inductive E_L42_0 where
  | k0
  | k1
noncomputable def L42_0 (a1 : GramD) (a2 : ProdD) (v1 : Int) : Option (E_L42_0 ⊕ (Int)) :=
  (bif (decide (v1 < (a2.right.length : Int))) then ((getI a2.right v1).bind fun x2 => (bif (x2.kind == 0) then ((F44 x2).bind fun x4 => (bif x4 then (some (.inl (.k0))) else (bif (x2.sort != 0) then (some (.inl (.k0))) else (bif (x2.kind == 1) then ((F44 x2).bind fun x8 => (bif x8 then ((F41_3 a1 x2).bind fun x10 => (bif x10 then (bif (a2.role == 11) then (some (.inl (.k0))) else (bif (x2.kind != 0) then (bif (x2.kind != 1) then (some (.inl (.k0))) else (some (.inr ((IntKind.wrap .i64 (v1 + 1)))))) else (some (.inr ((IntKind.wrap .i64 (v1 + 1))))))) else (some (.inl (.k0))))) else (some (.inl (.k0))))) else (bif (x2.kind != 0) then (bif (x2.kind != 1) then (some (.inl (.k0))) else (some (.inr ((IntKind.wrap .i64 (v1 + 1)))))) else (some (.inr ((IntKind.wrap .i64 (v1 + 1)))))))))) else (bif (x2.kind == 1) then ((F44 x2).bind fun x5 => (bif x5 then ((F41_3 a1 x2).bind fun x7 => (bif x7 then (bif (a2.role == 11) then (some (.inl (.k0))) else (bif (x2.kind != 0) then (bif (x2.kind != 1) then (some (.inl (.k0))) else (some (.inr ((IntKind.wrap .i64 (v1 + 1)))))) else (some (.inr ((IntKind.wrap .i64 (v1 + 1))))))) else (some (.inl (.k0))))) else (some (.inl (.k0))))) else (bif (x2.kind != 0) then (bif (x2.kind != 1) then (some (.inl (.k0))) else (some (.inr ((IntKind.wrap .i64 (v1 + 1)))))) else (some (.inr ((IntKind.wrap .i64 (v1 + 1))))))))) else (some (.inl (.k1))))
def L42_0_s (a1 : GramD) (a2 : ProdD) (v1 : Int) : St := ⟨fr 111 ug [(2, (.ptr 0 0)), (3, (.ptr 1 0)), (5, (i6 v1))], [bG a1, bP a2]⟩
def L42_0_x (a1 : GramD) (a2 : ProdD) (e : E_L42_0) (r : Option (Out × St)) : Prop := match e with | .k0 => ∃ g y, r = some (.ret, ⟨fr 111 g [(4, (vb false))], y⟩) | .k1 => ∃ g, r = some ((.brk 0), ⟨fr 111 g [(2, (.ptr 0 0)), (3, (.ptr 1 0))], [bG a1, bP a2]⟩)
theorem L42_0_ok (a1 : GramD) (a2 : ProdD) (v1 : Int) {r : E_L42_0 ⊕ (Int)} (h : L42_0 a1 a2 v1 = some r) : OkR (fun e => L42_0_x a1 a2 e (evH prg 2 [2, 3, 5] ir42_l0 (L42_0_s a1 a2 v1))) (fun s => evH prg 2 [2, 3, 5] ir42_l0 (L42_0_s a1 a2 v1) = evH prg 2 [2, 3, 5] ir42_l0 (L42_0_s a1 a2 s)) r := by
 unfold L42_0 at h
 refine bi h (fun h1 h => ?_) fun h1 h => ?_
 ·
  refine bn h fun x2 h2 h => ?_
  refine bi h (fun h3 h => ?_) fun h3 h => ?_
  ·
   refine bn h fun x4 h4 h => ?_
   refine bi h (fun h5 h => ?_) fun h5 h => ?_
   ·
    rw [← sj h]
    exact xretY (n := 30) [(60, .v (i6 (a2.right.length : Int))), (61, .d true), (67, .v (.ro (eSym x2))), (71, .d true), (75, .v (vb true)), (6000, .d true)] (apc (lg a2.right eSym 6) (apc (cv h1) (apc (ig eSym 6 .i64 h2) (apc (cv h3) (apc ((((F44_ok x2 h4).cp rfl _).trans (congrArg (fun z => some (vb z)) h5)) : CP prg 44 [(.agg ((List.take 4 (List.drop 1 (eSym x2))).map .p))] [bG a1, bP a2, .cells 48 ((eSym x2).map .p)] = some (vb true)) apn))))) (by kernel_rfl)
   ·
    refine bi h (fun h6 h => ?_) fun h6 h => ?_
    ·
     rw [← sj h]
     exact xretY (n := 30) [(60, .v (i6 (a2.right.length : Int))), (61, .d true), (67, .v (.ro (eSym x2))), (71, .d true), (75, .v (vb false)), (79, .d true), (6000, .d true)] (apc (lg a2.right eSym 6) (apc (cv h1) (apc (ig eSym 6 .i64 h2) (apc (cv h3) (apc ((((F44_ok x2 h4).cp rfl _).trans (congrArg (fun z => some (vb z)) h5)) : CP prg 44 [(.agg ((List.take 4 (List.drop 1 (eSym x2))).map .p))] [bG a1, bP a2, .cells 48 ((eSym x2).map .p)] = some (vb false)) (apc (cv h6) apn)))))) (by kernel_rfl)
    ·
     refine bi h (fun h7 h => ?_) fun h7 h => ?_
     ·
      refine bn h fun x8 h8 h => ?_
      refine bi h (fun h9 h => ?_) fun h9 h => ?_
      ·
       refine bn h fun x10 h10 h => ?_
       refine bi h (fun h11 h => ?_) fun h11 h => ?_
       ·
        refine bi h (fun h12 h => ?_) fun h12 h => ?_
        ·
         rw [← sj h]
         exact xretY (n := 30) [(60, .v (i6 (a2.right.length : Int))), (61, .d true), (67, .v (.ro (eSym x2))), (71, .d true), (75, .v (vb false)), (79, .d false), (84, .d true), (88, .v (vb true)), (94, .v (vb true)), (100, .d true), (6000, .d true)] (apc (lg a2.right eSym 6) (apc (cv h1) (apc (ig eSym 6 .i64 h2) (apc (cv h3) (apc ((((F44_ok x2 h4).cp rfl _).trans (congrArg (fun z => some (vb z)) h5)) : CP prg 44 [(.agg ((List.take 4 (List.drop 1 (eSym x2))).map .p))] [bG a1, bP a2, .cells 48 ((eSym x2).map .p)] = some (vb false)) (apc (cv h6) (apc (cv h7) (apc ((((F44_ok x2 h8).cp rfl _).trans (congrArg (fun z => some (vb z)) h9)) : CP prg 44 [(.agg ((List.take 4 (List.drop 1 (eSym x2))).map .p))] [bG a1, bP a2, .cells 48 ((eSym x2).map .p)] = some (vb true)) (apc ((((F41_3_ok a1 x2 h10).cp rfl _).trans (congrArg (fun z => some (vb z)) h11)) : CP prg 41 [(aG a1), (i6 x2.sort)] [bG a1, bP a2, .cells 48 ((eSym x2).map .p)] = some (vb true)) (apc (cv h12) apn)))))))))) (by kernel_rfl)
        ·
         refine bi h (fun h13 h => ?_) fun h13 h => ?_
         ·
          refine bi h (fun h14 h => ?_) fun h14 h => ?_
          ·
           rw [← sj h]
           exact xretY (n := 30) [(60, .v (i6 (a2.right.length : Int))), (61, .d true), (67, .v (.ro (eSym x2))), (71, .d true), (75, .v (vb false)), (79, .d false), (84, .d true), (88, .v (vb true)), (94, .v (vb true)), (100, .d false), (105, .d true), (109, .d true), (6000, .d true)] (apc (lg a2.right eSym 6) (apc (cv h1) (apc (ig eSym 6 .i64 h2) (apc (cv h3) (apc ((((F44_ok x2 h4).cp rfl _).trans (congrArg (fun z => some (vb z)) h5)) : CP prg 44 [(.agg ((List.take 4 (List.drop 1 (eSym x2))).map .p))] [bG a1, bP a2, .cells 48 ((eSym x2).map .p)] = some (vb false)) (apc (cv h6) (apc (cv h7) (apc ((((F44_ok x2 h8).cp rfl _).trans (congrArg (fun z => some (vb z)) h9)) : CP prg 44 [(.agg ((List.take 4 (List.drop 1 (eSym x2))).map .p))] [bG a1, bP a2, .cells 48 ((eSym x2).map .p)] = some (vb true)) (apc ((((F41_3_ok a1 x2 h10).cp rfl _).trans (congrArg (fun z => some (vb z)) h11)) : CP prg 41 [(aG a1), (i6 x2.sort)] [bG a1, bP a2, .cells 48 ((eSym x2).map .p)] = some (vb true)) (apc (cv h12) (apc (cv h13) (apc (cv h14) apn)))))))))))) (by kernel_rfl)
          ·
           rw [← sj h]
           exact rnd (n := 30) [(60, .v (i6 (a2.right.length : Int))), (61, .d true), (67, .v (.ro (eSym x2))), (71, .d true), (75, .v (vb false)), (79, .d false), (84, .d true), (88, .v (vb true)), (94, .v (vb true)), (100, .d false), (105, .d true), (109, .d false), (6000, .d true)] (apc (lg a2.right eSym 6) (apc (cv h1) (apc (ig eSym 6 .i64 h2) (apc (cv h3) (apc ((((F44_ok x2 h4).cp rfl _).trans (congrArg (fun z => some (vb z)) h5)) : CP prg 44 [(.agg ((List.take 4 (List.drop 1 (eSym x2))).map .p))] [bG a1, bP a2, .cells 48 ((eSym x2).map .p)] = some (vb false)) (apc (cv h6) (apc (cv h7) (apc ((((F44_ok x2 h8).cp rfl _).trans (congrArg (fun z => some (vb z)) h9)) : CP prg 44 [(.agg ((List.take 4 (List.drop 1 (eSym x2))).map .p))] [bG a1, bP a2, .cells 48 ((eSym x2).map .p)] = some (vb true)) (apc ((((F41_3_ok a1 x2 h10).cp rfl _).trans (congrArg (fun z => some (vb z)) h11)) : CP prg 41 [(aG a1), (i6 x2.sort)] [bG a1, bP a2, .cells 48 ((eSym x2).map .p)] = some (vb true)) (apc (cv h12) (apc (cv h13) (apc (cv h14) (apc ((okT_of rfl (abl_cons rfl (abl_cons rfl rfl))) : okT 2 [bG a1, bP a2, .cells 48 ((eSym x2).map .p)] = true) apn))))))))))))) (by kernel_rfl)
         ·
          rw [← sj h]
          exact rnd (n := 30) [(60, .v (i6 (a2.right.length : Int))), (61, .d true), (67, .v (.ro (eSym x2))), (71, .d true), (75, .v (vb false)), (79, .d false), (84, .d true), (88, .v (vb true)), (94, .v (vb true)), (100, .d false), (105, .d false), (6000, .d true)] (apc (lg a2.right eSym 6) (apc (cv h1) (apc (ig eSym 6 .i64 h2) (apc (cv h3) (apc ((((F44_ok x2 h4).cp rfl _).trans (congrArg (fun z => some (vb z)) h5)) : CP prg 44 [(.agg ((List.take 4 (List.drop 1 (eSym x2))).map .p))] [bG a1, bP a2, .cells 48 ((eSym x2).map .p)] = some (vb false)) (apc (cv h6) (apc (cv h7) (apc ((((F44_ok x2 h8).cp rfl _).trans (congrArg (fun z => some (vb z)) h9)) : CP prg 44 [(.agg ((List.take 4 (List.drop 1 (eSym x2))).map .p))] [bG a1, bP a2, .cells 48 ((eSym x2).map .p)] = some (vb true)) (apc ((((F41_3_ok a1 x2 h10).cp rfl _).trans (congrArg (fun z => some (vb z)) h11)) : CP prg 41 [(aG a1), (i6 x2.sort)] [bG a1, bP a2, .cells 48 ((eSym x2).map .p)] = some (vb true)) (apc (cv h12) (apc (cv h13) (apc ((okT_of rfl (abl_cons rfl (abl_cons rfl rfl))) : okT 2 [bG a1, bP a2, .cells 48 ((eSym x2).map .p)] = true) apn)))))))))))) (by kernel_rfl)
       ·
        rw [← sj h]
        exact xretY (n := 30) [(60, .v (i6 (a2.right.length : Int))), (61, .d true), (67, .v (.ro (eSym x2))), (71, .d true), (75, .v (vb false)), (79, .d false), (84, .d true), (88, .v (vb true)), (94, .v (vb false)), (6000, .d true)] (apc (lg a2.right eSym 6) (apc (cv h1) (apc (ig eSym 6 .i64 h2) (apc (cv h3) (apc ((((F44_ok x2 h4).cp rfl _).trans (congrArg (fun z => some (vb z)) h5)) : CP prg 44 [(.agg ((List.take 4 (List.drop 1 (eSym x2))).map .p))] [bG a1, bP a2, .cells 48 ((eSym x2).map .p)] = some (vb false)) (apc (cv h6) (apc (cv h7) (apc ((((F44_ok x2 h8).cp rfl _).trans (congrArg (fun z => some (vb z)) h9)) : CP prg 44 [(.agg ((List.take 4 (List.drop 1 (eSym x2))).map .p))] [bG a1, bP a2, .cells 48 ((eSym x2).map .p)] = some (vb true)) (apc ((((F41_3_ok a1 x2 h10).cp rfl _).trans (congrArg (fun z => some (vb z)) h11)) : CP prg 41 [(aG a1), (i6 x2.sort)] [bG a1, bP a2, .cells 48 ((eSym x2).map .p)] = some (vb false)) apn))))))))) (by kernel_rfl)
      ·
       rw [← sj h]
       exact xretY (n := 30) [(60, .v (i6 (a2.right.length : Int))), (61, .d true), (67, .v (.ro (eSym x2))), (71, .d true), (75, .v (vb false)), (79, .d false), (84, .d true), (88, .v (vb false)), (6000, .d true)] (apc (lg a2.right eSym 6) (apc (cv h1) (apc (ig eSym 6 .i64 h2) (apc (cv h3) (apc ((((F44_ok x2 h4).cp rfl _).trans (congrArg (fun z => some (vb z)) h5)) : CP prg 44 [(.agg ((List.take 4 (List.drop 1 (eSym x2))).map .p))] [bG a1, bP a2, .cells 48 ((eSym x2).map .p)] = some (vb false)) (apc (cv h6) (apc (cv h7) (apc ((((F44_ok x2 h8).cp rfl _).trans (congrArg (fun z => some (vb z)) h9)) : CP prg 44 [(.agg ((List.take 4 (List.drop 1 (eSym x2))).map .p))] [bG a1, bP a2, .cells 48 ((eSym x2).map .p)] = some (vb false)) apn)))))))) (by kernel_rfl)
     ·
      refine bi h (fun h8 h => ?_) fun h8 h => ?_
      ·
       refine bi h (fun h9 h => ?_) fun h9 h => ?_
       ·
        rw [← sj h]
        exact xretY (n := 30) [(60, .v (i6 (a2.right.length : Int))), (61, .d true), (67, .v (.ro (eSym x2))), (71, .d true), (75, .v (vb false)), (79, .d false), (84, .d false), (105, .d true), (109, .d true), (6000, .d true)] (apc (lg a2.right eSym 6) (apc (cv h1) (apc (ig eSym 6 .i64 h2) (apc (cv h3) (apc ((((F44_ok x2 h4).cp rfl _).trans (congrArg (fun z => some (vb z)) h5)) : CP prg 44 [(.agg ((List.take 4 (List.drop 1 (eSym x2))).map .p))] [bG a1, bP a2, .cells 48 ((eSym x2).map .p)] = some (vb false)) (apc (cv h6) (apc (cv h7) (apc (cv h8) (apc (cv h9) apn))))))))) (by kernel_rfl)
       ·
        rw [← sj h]
        exact rnd (n := 30) [(60, .v (i6 (a2.right.length : Int))), (61, .d true), (67, .v (.ro (eSym x2))), (71, .d true), (75, .v (vb false)), (79, .d false), (84, .d false), (105, .d true), (109, .d false), (6000, .d true)] (apc (lg a2.right eSym 6) (apc (cv h1) (apc (ig eSym 6 .i64 h2) (apc (cv h3) (apc ((((F44_ok x2 h4).cp rfl _).trans (congrArg (fun z => some (vb z)) h5)) : CP prg 44 [(.agg ((List.take 4 (List.drop 1 (eSym x2))).map .p))] [bG a1, bP a2, .cells 48 ((eSym x2).map .p)] = some (vb false)) (apc (cv h6) (apc (cv h7) (apc (cv h8) (apc (cv h9) (apc ((okT_of rfl (abl_cons rfl (abl_cons rfl rfl))) : okT 2 [bG a1, bP a2, .cells 48 ((eSym x2).map .p)] = true) apn)))))))))) (by kernel_rfl)
      ·
       rw [← sj h]
       exact rnd (n := 30) [(60, .v (i6 (a2.right.length : Int))), (61, .d true), (67, .v (.ro (eSym x2))), (71, .d true), (75, .v (vb false)), (79, .d false), (84, .d false), (105, .d false), (6000, .d true)] (apc (lg a2.right eSym 6) (apc (cv h1) (apc (ig eSym 6 .i64 h2) (apc (cv h3) (apc ((((F44_ok x2 h4).cp rfl _).trans (congrArg (fun z => some (vb z)) h5)) : CP prg 44 [(.agg ((List.take 4 (List.drop 1 (eSym x2))).map .p))] [bG a1, bP a2, .cells 48 ((eSym x2).map .p)] = some (vb false)) (apc (cv h6) (apc (cv h7) (apc (cv h8) (apc ((okT_of rfl (abl_cons rfl (abl_cons rfl rfl))) : okT 2 [bG a1, bP a2, .cells 48 ((eSym x2).map .p)] = true) apn))))))))) (by kernel_rfl)
  ·
   refine bi h (fun h4 h => ?_) fun h4 h => ?_
   ·
    refine bn h fun x5 h5 h => ?_
    refine bi h (fun h6 h => ?_) fun h6 h => ?_
    ·
     refine bn h fun x7 h7 h => ?_
     refine bi h (fun h8 h => ?_) fun h8 h => ?_
     ·
      refine bi h (fun h9 h => ?_) fun h9 h => ?_
      ·
       rw [← sj h]
       exact xretY (n := 30) [(60, .v (i6 (a2.right.length : Int))), (61, .d true), (67, .v (.ro (eSym x2))), (71, .d false), (84, .d true), (88, .v (vb true)), (94, .v (vb true)), (100, .d true), (6000, .d true)] (apc (lg a2.right eSym 6) (apc (cv h1) (apc (ig eSym 6 .i64 h2) (apc (cv h3) (apc (cv h4) (apc ((((F44_ok x2 h5).cp rfl _).trans (congrArg (fun z => some (vb z)) h6)) : CP prg 44 [(.agg ((List.take 4 (List.drop 1 (eSym x2))).map .p))] [bG a1, bP a2, .cells 48 ((eSym x2).map .p)] = some (vb true)) (apc ((((F41_3_ok a1 x2 h7).cp rfl _).trans (congrArg (fun z => some (vb z)) h8)) : CP prg 41 [(aG a1), (i6 x2.sort)] [bG a1, bP a2, .cells 48 ((eSym x2).map .p)] = some (vb true)) (apc (cv h9) apn)))))))) (by kernel_rfl)
      ·
       refine bi h (fun h10 h => ?_) fun h10 h => ?_
       ·
        refine bi h (fun h11 h => ?_) fun h11 h => ?_
        ·
         rw [← sj h]
         exact xretY (n := 30) [(60, .v (i6 (a2.right.length : Int))), (61, .d true), (67, .v (.ro (eSym x2))), (71, .d false), (84, .d true), (88, .v (vb true)), (94, .v (vb true)), (100, .d false), (105, .d true), (109, .d true), (6000, .d true)] (apc (lg a2.right eSym 6) (apc (cv h1) (apc (ig eSym 6 .i64 h2) (apc (cv h3) (apc (cv h4) (apc ((((F44_ok x2 h5).cp rfl _).trans (congrArg (fun z => some (vb z)) h6)) : CP prg 44 [(.agg ((List.take 4 (List.drop 1 (eSym x2))).map .p))] [bG a1, bP a2, .cells 48 ((eSym x2).map .p)] = some (vb true)) (apc ((((F41_3_ok a1 x2 h7).cp rfl _).trans (congrArg (fun z => some (vb z)) h8)) : CP prg 41 [(aG a1), (i6 x2.sort)] [bG a1, bP a2, .cells 48 ((eSym x2).map .p)] = some (vb true)) (apc (cv h9) (apc (cv h10) (apc (cv h11) apn)))))))))) (by kernel_rfl)
        ·
         rw [← sj h]
         exact rnd (n := 30) [(60, .v (i6 (a2.right.length : Int))), (61, .d true), (67, .v (.ro (eSym x2))), (71, .d false), (84, .d true), (88, .v (vb true)), (94, .v (vb true)), (100, .d false), (105, .d true), (109, .d false), (6000, .d true)] (apc (lg a2.right eSym 6) (apc (cv h1) (apc (ig eSym 6 .i64 h2) (apc (cv h3) (apc (cv h4) (apc ((((F44_ok x2 h5).cp rfl _).trans (congrArg (fun z => some (vb z)) h6)) : CP prg 44 [(.agg ((List.take 4 (List.drop 1 (eSym x2))).map .p))] [bG a1, bP a2, .cells 48 ((eSym x2).map .p)] = some (vb true)) (apc ((((F41_3_ok a1 x2 h7).cp rfl _).trans (congrArg (fun z => some (vb z)) h8)) : CP prg 41 [(aG a1), (i6 x2.sort)] [bG a1, bP a2, .cells 48 ((eSym x2).map .p)] = some (vb true)) (apc (cv h9) (apc (cv h10) (apc (cv h11) (apc ((okT_of rfl (abl_cons rfl (abl_cons rfl rfl))) : okT 2 [bG a1, bP a2, .cells 48 ((eSym x2).map .p)] = true) apn))))))))))) (by kernel_rfl)
       ·
        rw [← sj h]
        exact rnd (n := 30) [(60, .v (i6 (a2.right.length : Int))), (61, .d true), (67, .v (.ro (eSym x2))), (71, .d false), (84, .d true), (88, .v (vb true)), (94, .v (vb true)), (100, .d false), (105, .d false), (6000, .d true)] (apc (lg a2.right eSym 6) (apc (cv h1) (apc (ig eSym 6 .i64 h2) (apc (cv h3) (apc (cv h4) (apc ((((F44_ok x2 h5).cp rfl _).trans (congrArg (fun z => some (vb z)) h6)) : CP prg 44 [(.agg ((List.take 4 (List.drop 1 (eSym x2))).map .p))] [bG a1, bP a2, .cells 48 ((eSym x2).map .p)] = some (vb true)) (apc ((((F41_3_ok a1 x2 h7).cp rfl _).trans (congrArg (fun z => some (vb z)) h8)) : CP prg 41 [(aG a1), (i6 x2.sort)] [bG a1, bP a2, .cells 48 ((eSym x2).map .p)] = some (vb true)) (apc (cv h9) (apc (cv h10) (apc ((okT_of rfl (abl_cons rfl (abl_cons rfl rfl))) : okT 2 [bG a1, bP a2, .cells 48 ((eSym x2).map .p)] = true) apn)))))))))) (by kernel_rfl)
     ·
      rw [← sj h]
      exact xretY (n := 30) [(60, .v (i6 (a2.right.length : Int))), (61, .d true), (67, .v (.ro (eSym x2))), (71, .d false), (84, .d true), (88, .v (vb true)), (94, .v (vb false)), (6000, .d true)] (apc (lg a2.right eSym 6) (apc (cv h1) (apc (ig eSym 6 .i64 h2) (apc (cv h3) (apc (cv h4) (apc ((((F44_ok x2 h5).cp rfl _).trans (congrArg (fun z => some (vb z)) h6)) : CP prg 44 [(.agg ((List.take 4 (List.drop 1 (eSym x2))).map .p))] [bG a1, bP a2, .cells 48 ((eSym x2).map .p)] = some (vb true)) (apc ((((F41_3_ok a1 x2 h7).cp rfl _).trans (congrArg (fun z => some (vb z)) h8)) : CP prg 41 [(aG a1), (i6 x2.sort)] [bG a1, bP a2, .cells 48 ((eSym x2).map .p)] = some (vb false)) apn))))))) (by kernel_rfl)
    ·
     rw [← sj h]
     exact xretY (n := 30) [(60, .v (i6 (a2.right.length : Int))), (61, .d true), (67, .v (.ro (eSym x2))), (71, .d false), (84, .d true), (88, .v (vb false)), (6000, .d true)] (apc (lg a2.right eSym 6) (apc (cv h1) (apc (ig eSym 6 .i64 h2) (apc (cv h3) (apc (cv h4) (apc ((((F44_ok x2 h5).cp rfl _).trans (congrArg (fun z => some (vb z)) h6)) : CP prg 44 [(.agg ((List.take 4 (List.drop 1 (eSym x2))).map .p))] [bG a1, bP a2, .cells 48 ((eSym x2).map .p)] = some (vb false)) apn)))))) (by kernel_rfl)
   ·
    refine bi h (fun h5 h => ?_) fun h5 h => ?_
    ·
     refine bi h (fun h6 h => ?_) fun h6 h => ?_
     ·
      rw [← sj h]
      exact xretY (n := 30) [(60, .v (i6 (a2.right.length : Int))), (61, .d true), (67, .v (.ro (eSym x2))), (71, .d false), (84, .d false), (105, .d true), (109, .d true), (6000, .d true)] (apc (lg a2.right eSym 6) (apc (cv h1) (apc (ig eSym 6 .i64 h2) (apc (cv h3) (apc (cv h4) (apc (cv h5) (apc (cv h6) apn))))))) (by kernel_rfl)
     ·
      rw [← sj h]
      exact rnd (n := 30) [(60, .v (i6 (a2.right.length : Int))), (61, .d true), (67, .v (.ro (eSym x2))), (71, .d false), (84, .d false), (105, .d true), (109, .d false), (6000, .d true)] (apc (lg a2.right eSym 6) (apc (cv h1) (apc (ig eSym 6 .i64 h2) (apc (cv h3) (apc (cv h4) (apc (cv h5) (apc (cv h6) (apc ((okT_of rfl (abl_cons rfl (abl_cons rfl rfl))) : okT 2 [bG a1, bP a2, .cells 48 ((eSym x2).map .p)] = true) apn)))))))) (by kernel_rfl)
    ·
     rw [← sj h]
     exact rnd (n := 30) [(60, .v (i6 (a2.right.length : Int))), (61, .d true), (67, .v (.ro (eSym x2))), (71, .d false), (84, .d false), (105, .d false), (6000, .d true)] (apc (lg a2.right eSym 6) (apc (cv h1) (apc (ig eSym 6 .i64 h2) (apc (cv h3) (apc (cv h4) (apc (cv h5) (apc ((okT_of rfl (abl_cons rfl (abl_cons rfl rfl))) : okT 2 [bG a1, bP a2, .cells 48 ((eSym x2).map .p)] = true) apn))))))) (by kernel_rfl)
 ·
  rw [← sj h]
  exact xbrk (n := 30) [(60, .v (i6 (a2.right.length : Int))), (61, .d false), (6000, .d true)] (apc (lg a2.right eSym 6) (apc (cv h1) apn)) (by kernel_rfl)
theorem L42_0_run (a1 : GramD) (a2 : ProdD) (s0 : Int) (e : E_L42_0) (h : runL (fun s => L42_0 a1 a2 s) s0 = some e) : L42_0_x a1 a2 e (evH prg 2 [2, 3, 5] ir42_l0 (L42_0_s a1 a2 s0)) := by
  have q := @loop_sound' (Int) E_L42_0 (fun s => L42_0 a1 a2 s) (fun s => evH prg 2 [2, 3, 5] ir42_l0 (L42_0_s a1 a2 s)) (L42_0_x a1 a2) (fun s r h => L42_0_ok a1 a2 s h) s0 e h
  exact q
noncomputable def F42 (a1 : GramD) (a2 : ProdD) : Option Bool :=
  ((F41_2 a1 a2).bind fun x1 => (bif x1 then (bif (decide ((a2.right.length : Int) > 30)) then (some false) else (bif (decide (a2.role < 0)) then (some false) else (bif (decide (a2.role > 11)) then (some false) else (bif (decide (a2.frm < (-1))) then (some false) else (bif (decide ((a2.cons.size : Int) > 64)) then (some false) else (bif (!(a2.cons.toList == (⟨([] : List UInt8).toArray⟩ : ByteArray).toList)) then (bif (a2.role != 0) then (some false) else (bif a2.prefer then (bif a2.avoid then (some false) else ((runL (fun s => L42_0 a1 a2 s) 0).bind fun r12 => match r12 with | .k0 => (some false) | .k1 => (some true))) else ((runL (fun s => L42_0 a1 a2 s) 0).bind fun r11 => match r11 with | .k0 => (some false) | .k1 => (some true)))) else (bif a2.prefer then (bif a2.avoid then (some false) else ((runL (fun s => L42_0 a1 a2 s) 0).bind fun r11 => match r11 with | .k0 => (some false) | .k1 => (some true))) else ((runL (fun s => L42_0 a1 a2 s) 0).bind fun r10 => match r10 with | .k0 => (some false) | .k1 => (some true))))))))) else (some false)))
def F42_v (a1 : GramD) (a2 : ProdD) (x0 : Bool) : AV := (vb x0)
theorem F42_ok (a1 : GramD) (a2 : ProdD) {r : Bool} (h : F42 a1 a2 = some r) : PR1 prg 42 [(aG a1), (aP a2)] (F42_v a1 a2 r) := by
 unfold F42 at h
 refine bn h fun x1 h1 h => ?_
 refine bi h (fun h2 h => ?_) fun h2 h => ?_
 ·
  refine bi h (fun h3 h => ?_) fun h3 h => ?_
  ·
   rw [← sj h]
   exact fpr (n := 30) [(10, .v (vb true)), (15, .v (i6 (a2.right.length : Int))), (16, .d true)] (apc ((((F41_2_ok a1 a2 h1).cp rfl _).trans (congrArg (fun z => some (vb z)) h2)) : CP prg 41 [(aG a1), (i6 a2.left)] [bG a1, bP a2] = some (vb true)) (apc (lg a2.right eSym 6) (apc (cv h3) apn))) rfl (by kernel_rfl)
  ·
   refine bi h (fun h4 h => ?_) fun h4 h => ?_
   ·
    rw [← sj h]
    exact fpr (n := 30) [(10, .v (vb true)), (15, .v (i6 (a2.right.length : Int))), (16, .d false), (21, .d true)] (apc ((((F41_2_ok a1 a2 h1).cp rfl _).trans (congrArg (fun z => some (vb z)) h2)) : CP prg 41 [(aG a1), (i6 a2.left)] [bG a1, bP a2] = some (vb true)) (apc (lg a2.right eSym 6) (apc (cv h3) (apc (cv h4) apn)))) rfl (by kernel_rfl)
   ·
    refine bi h (fun h5 h => ?_) fun h5 h => ?_
    ·
     rw [← sj h]
     exact fpr (n := 30) [(10, .v (vb true)), (15, .v (i6 (a2.right.length : Int))), (16, .d false), (21, .d false), (26, .d true)] (apc ((((F41_2_ok a1 a2 h1).cp rfl _).trans (congrArg (fun z => some (vb z)) h2)) : CP prg 41 [(aG a1), (i6 a2.left)] [bG a1, bP a2] = some (vb true)) (apc (lg a2.right eSym 6) (apc (cv h3) (apc (cv h4) (apc (cv h5) apn))))) rfl (by kernel_rfl)
    ·
     refine bi h (fun h6 h => ?_) fun h6 h => ?_
     ·
      rw [← sj h]
      exact fpr (n := 30) [(10, .v (vb true)), (15, .v (i6 (a2.right.length : Int))), (16, .d false), (21, .d false), (26, .d false), (31, .d true)] (apc ((((F41_2_ok a1 a2 h1).cp rfl _).trans (congrArg (fun z => some (vb z)) h2)) : CP prg 41 [(aG a1), (i6 a2.left)] [bG a1, bP a2] = some (vb true)) (apc (lg a2.right eSym 6) (apc (cv h3) (apc (cv h4) (apc (cv h5) (apc (cv h6) apn)))))) rfl (by kernel_rfl)
     ·
      refine bi h (fun h7 h => ?_) fun h7 h => ?_
      ·
       rw [← sj h]
       exact fpr (n := 30) [(10, .v (vb true)), (15, .v (i6 (a2.right.length : Int))), (16, .d false), (21, .d false), (26, .d false), (31, .d false), (37, .d true)] (apc ((((F41_2_ok a1 a2 h1).cp rfl _).trans (congrArg (fun z => some (vb z)) h2)) : CP prg 41 [(aG a1), (i6 a2.left)] [bG a1, bP a2] = some (vb true)) (apc (lg a2.right eSym 6) (apc (cv h3) (apc (cv h4) (apc (cv h5) (apc (cv h6) (apc (cv h7) apn))))))) rfl (by kernel_rfl)
      ·
       refine bi h (fun h8 h => ?_) fun h8 h => ?_
       ·
        refine bi h (fun h9 h => ?_) fun h9 h => ?_
        ·
         rw [← sj h]
         exact fpr (n := 30) [(10, .v (vb true)), (15, .v (i6 (a2.right.length : Int))), (16, .d false), (21, .d false), (26, .d false), (31, .d false), (37, .d false), (42, .d true), (46, .d true)] (apc ((((F41_2_ok a1 a2 h1).cp rfl _).trans (congrArg (fun z => some (vb z)) h2)) : CP prg 41 [(aG a1), (i6 a2.left)] [bG a1, bP a2] = some (vb true)) (apc (lg a2.right eSym 6) (apc (cv h3) (apc (cv h4) (apc (cv h5) (apc (cv h6) (apc (cv h7) (apc (cv h8) (apc (cv h9) apn))))))))) rfl (by kernel_rfl)
        ·
         refine bi h (fun h10 h => ?_) fun h10 h => ?_
         ·
          refine bi h (fun h11 h => ?_) fun h11 h => ?_
          ·
           rw [← sj h]
           exact fpr (n := 30) [(10, .v (vb true)), (15, .v (i6 (a2.right.length : Int))), (16, .d false), (21, .d false), (26, .d false), (31, .d false), (37, .d false), (42, .d true), (46, .d false), (51, .d true), (54, .d true)] (apc ((((F41_2_ok a1 a2 h1).cp rfl _).trans (congrArg (fun z => some (vb z)) h2)) : CP prg 41 [(aG a1), (i6 a2.left)] [bG a1, bP a2] = some (vb true)) (apc (lg a2.right eSym 6) (apc (cv h3) (apc (cv h4) (apc (cv h5) (apc (cv h6) (apc (cv h7) (apc (cv h8) (apc (cv h9) (apc (cv h10) (apc (cv h11) apn))))))))))) rfl (by kernel_rfl)
          ·
           refine bn h fun r12 h12 h => ?_
           cases r12 with
           | k0 =>
            obtain ⟨g12, y12, e12⟩ := L42_0_run a1 a2 0 _ h12
            rw [← sj h]
            exact fpr (n := 30) [(10, .v (vb true)), (15, .v (i6 (a2.right.length : Int))), (16, .d false), (21, .d false), (26, .d false), (31, .d false), (37, .d false), (42, .d true), (46, .d false), (51, .d true), (54, .d false), (2000, .l .ret ⟨fr 111 g12 [(4, (vb false))], y12⟩), (6000, .d true)] (apc ((((F41_2_ok a1 a2 h1).cp rfl _).trans (congrArg (fun z => some (vb z)) h2)) : CP prg 41 [(aG a1), (i6 a2.left)] [bG a1, bP a2] = some (vb true)) (apc (lg a2.right eSym 6) (apc (cv h3) (apc (cv h4) (apc (cv h5) (apc (cv h6) (apc (cv h7) (apc (cv h8) (apc (cv h9) (apc (cv h10) (apc (cv h11) (apc ((okT_of rfl (abl_cons rfl (abl_cons rfl rfl))) : okT 2 [bG a1, bP a2] = true) (apc (e12 : evH prg 2 [2, 3, 5] ir42_l0 (L42_0_s a1 a2 0) = some (.ret, ⟨fr 111 g12 [(4, (vb false))], y12⟩)) apn))))))))))))) rfl (by kernel_rfl)
           | k1 =>
            obtain ⟨g12, e12⟩ := L42_0_run a1 a2 0 _ h12
            rw [← sj h]
            exact fpr (n := 30) [(10, .v (vb true)), (15, .v (i6 (a2.right.length : Int))), (16, .d false), (21, .d false), (26, .d false), (31, .d false), (37, .d false), (42, .d true), (46, .d false), (51, .d true), (54, .d false), (2000, .l (.brk 0) ⟨fr 111 g12 [(2, (.ptr 0 0)), (3, (.ptr 1 0))], [bG a1, bP a2]⟩), (6000, .d true)] (apc ((((F41_2_ok a1 a2 h1).cp rfl _).trans (congrArg (fun z => some (vb z)) h2)) : CP prg 41 [(aG a1), (i6 a2.left)] [bG a1, bP a2] = some (vb true)) (apc (lg a2.right eSym 6) (apc (cv h3) (apc (cv h4) (apc (cv h5) (apc (cv h6) (apc (cv h7) (apc (cv h8) (apc (cv h9) (apc (cv h10) (apc (cv h11) (apc ((okT_of rfl (abl_cons rfl (abl_cons rfl rfl))) : okT 2 [bG a1, bP a2] = true) (apc (e12 : evH prg 2 [2, 3, 5] ir42_l0 (L42_0_s a1 a2 0) = some ((.brk 0), ⟨fr 111 g12 [(2, (.ptr 0 0)), (3, (.ptr 1 0))], [bG a1, bP a2]⟩)) apn))))))))))))) rfl (by kernel_rfl)
         ·
          refine bn h fun r11 h11 h => ?_
          cases r11 with
          | k0 =>
           obtain ⟨g11, y11, e11⟩ := L42_0_run a1 a2 0 _ h11
           rw [← sj h]
           exact fpr (n := 30) [(10, .v (vb true)), (15, .v (i6 (a2.right.length : Int))), (16, .d false), (21, .d false), (26, .d false), (31, .d false), (37, .d false), (42, .d true), (46, .d false), (51, .d false), (2000, .l .ret ⟨fr 111 g11 [(4, (vb false))], y11⟩), (6000, .d true)] (apc ((((F41_2_ok a1 a2 h1).cp rfl _).trans (congrArg (fun z => some (vb z)) h2)) : CP prg 41 [(aG a1), (i6 a2.left)] [bG a1, bP a2] = some (vb true)) (apc (lg a2.right eSym 6) (apc (cv h3) (apc (cv h4) (apc (cv h5) (apc (cv h6) (apc (cv h7) (apc (cv h8) (apc (cv h9) (apc (cv h10) (apc ((okT_of rfl (abl_cons rfl (abl_cons rfl rfl))) : okT 2 [bG a1, bP a2] = true) (apc (e11 : evH prg 2 [2, 3, 5] ir42_l0 (L42_0_s a1 a2 0) = some (.ret, ⟨fr 111 g11 [(4, (vb false))], y11⟩)) apn)))))))))))) rfl (by kernel_rfl)
          | k1 =>
           obtain ⟨g11, e11⟩ := L42_0_run a1 a2 0 _ h11
           rw [← sj h]
           exact fpr (n := 30) [(10, .v (vb true)), (15, .v (i6 (a2.right.length : Int))), (16, .d false), (21, .d false), (26, .d false), (31, .d false), (37, .d false), (42, .d true), (46, .d false), (51, .d false), (2000, .l (.brk 0) ⟨fr 111 g11 [(2, (.ptr 0 0)), (3, (.ptr 1 0))], [bG a1, bP a2]⟩), (6000, .d true)] (apc ((((F41_2_ok a1 a2 h1).cp rfl _).trans (congrArg (fun z => some (vb z)) h2)) : CP prg 41 [(aG a1), (i6 a2.left)] [bG a1, bP a2] = some (vb true)) (apc (lg a2.right eSym 6) (apc (cv h3) (apc (cv h4) (apc (cv h5) (apc (cv h6) (apc (cv h7) (apc (cv h8) (apc (cv h9) (apc (cv h10) (apc ((okT_of rfl (abl_cons rfl (abl_cons rfl rfl))) : okT 2 [bG a1, bP a2] = true) (apc (e11 : evH prg 2 [2, 3, 5] ir42_l0 (L42_0_s a1 a2 0) = some ((.brk 0), ⟨fr 111 g11 [(2, (.ptr 0 0)), (3, (.ptr 1 0))], [bG a1, bP a2]⟩)) apn)))))))))))) rfl (by kernel_rfl)
       ·
        refine bi h (fun h9 h => ?_) fun h9 h => ?_
        ·
         refine bi h (fun h10 h => ?_) fun h10 h => ?_
         ·
          rw [← sj h]
          exact fpr (n := 30) [(10, .v (vb true)), (15, .v (i6 (a2.right.length : Int))), (16, .d false), (21, .d false), (26, .d false), (31, .d false), (37, .d false), (42, .d false), (51, .d true), (54, .d true)] (apc ((((F41_2_ok a1 a2 h1).cp rfl _).trans (congrArg (fun z => some (vb z)) h2)) : CP prg 41 [(aG a1), (i6 a2.left)] [bG a1, bP a2] = some (vb true)) (apc (lg a2.right eSym 6) (apc (cv h3) (apc (cv h4) (apc (cv h5) (apc (cv h6) (apc (cv h7) (apc (cv h8) (apc (cv h9) (apc (cv h10) apn)))))))))) rfl (by kernel_rfl)
         ·
          refine bn h fun r11 h11 h => ?_
          cases r11 with
          | k0 =>
           obtain ⟨g11, y11, e11⟩ := L42_0_run a1 a2 0 _ h11
           rw [← sj h]
           exact fpr (n := 30) [(10, .v (vb true)), (15, .v (i6 (a2.right.length : Int))), (16, .d false), (21, .d false), (26, .d false), (31, .d false), (37, .d false), (42, .d false), (51, .d true), (54, .d false), (2000, .l .ret ⟨fr 111 g11 [(4, (vb false))], y11⟩), (6000, .d true)] (apc ((((F41_2_ok a1 a2 h1).cp rfl _).trans (congrArg (fun z => some (vb z)) h2)) : CP prg 41 [(aG a1), (i6 a2.left)] [bG a1, bP a2] = some (vb true)) (apc (lg a2.right eSym 6) (apc (cv h3) (apc (cv h4) (apc (cv h5) (apc (cv h6) (apc (cv h7) (apc (cv h8) (apc (cv h9) (apc (cv h10) (apc ((okT_of rfl (abl_cons rfl (abl_cons rfl rfl))) : okT 2 [bG a1, bP a2] = true) (apc (e11 : evH prg 2 [2, 3, 5] ir42_l0 (L42_0_s a1 a2 0) = some (.ret, ⟨fr 111 g11 [(4, (vb false))], y11⟩)) apn)))))))))))) rfl (by kernel_rfl)
          | k1 =>
           obtain ⟨g11, e11⟩ := L42_0_run a1 a2 0 _ h11
           rw [← sj h]
           exact fpr (n := 30) [(10, .v (vb true)), (15, .v (i6 (a2.right.length : Int))), (16, .d false), (21, .d false), (26, .d false), (31, .d false), (37, .d false), (42, .d false), (51, .d true), (54, .d false), (2000, .l (.brk 0) ⟨fr 111 g11 [(2, (.ptr 0 0)), (3, (.ptr 1 0))], [bG a1, bP a2]⟩), (6000, .d true)] (apc ((((F41_2_ok a1 a2 h1).cp rfl _).trans (congrArg (fun z => some (vb z)) h2)) : CP prg 41 [(aG a1), (i6 a2.left)] [bG a1, bP a2] = some (vb true)) (apc (lg a2.right eSym 6) (apc (cv h3) (apc (cv h4) (apc (cv h5) (apc (cv h6) (apc (cv h7) (apc (cv h8) (apc (cv h9) (apc (cv h10) (apc ((okT_of rfl (abl_cons rfl (abl_cons rfl rfl))) : okT 2 [bG a1, bP a2] = true) (apc (e11 : evH prg 2 [2, 3, 5] ir42_l0 (L42_0_s a1 a2 0) = some ((.brk 0), ⟨fr 111 g11 [(2, (.ptr 0 0)), (3, (.ptr 1 0))], [bG a1, bP a2]⟩)) apn)))))))))))) rfl (by kernel_rfl)
        ·
         refine bn h fun r10 h10 h => ?_
         cases r10 with
         | k0 =>
          obtain ⟨g10, y10, e10⟩ := L42_0_run a1 a2 0 _ h10
          rw [← sj h]
          exact fpr (n := 30) [(10, .v (vb true)), (15, .v (i6 (a2.right.length : Int))), (16, .d false), (21, .d false), (26, .d false), (31, .d false), (37, .d false), (42, .d false), (51, .d false), (2000, .l .ret ⟨fr 111 g10 [(4, (vb false))], y10⟩), (6000, .d true)] (apc ((((F41_2_ok a1 a2 h1).cp rfl _).trans (congrArg (fun z => some (vb z)) h2)) : CP prg 41 [(aG a1), (i6 a2.left)] [bG a1, bP a2] = some (vb true)) (apc (lg a2.right eSym 6) (apc (cv h3) (apc (cv h4) (apc (cv h5) (apc (cv h6) (apc (cv h7) (apc (cv h8) (apc (cv h9) (apc ((okT_of rfl (abl_cons rfl (abl_cons rfl rfl))) : okT 2 [bG a1, bP a2] = true) (apc (e10 : evH prg 2 [2, 3, 5] ir42_l0 (L42_0_s a1 a2 0) = some (.ret, ⟨fr 111 g10 [(4, (vb false))], y10⟩)) apn))))))))))) rfl (by kernel_rfl)
         | k1 =>
          obtain ⟨g10, e10⟩ := L42_0_run a1 a2 0 _ h10
          rw [← sj h]
          exact fpr (n := 30) [(10, .v (vb true)), (15, .v (i6 (a2.right.length : Int))), (16, .d false), (21, .d false), (26, .d false), (31, .d false), (37, .d false), (42, .d false), (51, .d false), (2000, .l (.brk 0) ⟨fr 111 g10 [(2, (.ptr 0 0)), (3, (.ptr 1 0))], [bG a1, bP a2]⟩), (6000, .d true)] (apc ((((F41_2_ok a1 a2 h1).cp rfl _).trans (congrArg (fun z => some (vb z)) h2)) : CP prg 41 [(aG a1), (i6 a2.left)] [bG a1, bP a2] = some (vb true)) (apc (lg a2.right eSym 6) (apc (cv h3) (apc (cv h4) (apc (cv h5) (apc (cv h6) (apc (cv h7) (apc (cv h8) (apc (cv h9) (apc ((okT_of rfl (abl_cons rfl (abl_cons rfl rfl))) : okT 2 [bG a1, bP a2] = true) (apc (e10 : evH prg 2 [2, 3, 5] ir42_l0 (L42_0_s a1 a2 0) = some ((.brk 0), ⟨fr 111 g10 [(2, (.ptr 0 0)), (3, (.ptr 1 0))], [bG a1, bP a2]⟩)) apn))))))))))) rfl (by kernel_rfl)
 ·
  rw [← sj h]
  exact fpr (n := 30) [(10, .v (vb false))] (apc ((((F41_2_ok a1 a2 h1).cp rfl _).trans (congrArg (fun z => some (vb z)) h2)) : CP prg 41 [(aG a1), (i6 a2.left)] [bG a1, bP a2] = some (vb false)) apn) rfl (by kernel_rfl)
inductive E_L12_4 where
  | k0
  | k1
noncomputable def L12_4 (a1 : GramD) (v1 : Int) : Option (E_L12_4 ⊕ (Int)) :=
  (bif (decide (v1 < (a1.prods.length : Int))) then ((getI a1.prods v1).bind fun x2 => ((F42 a1 x2).bind fun x3 => (bif x3 then (some (.inr ((IntKind.wrap .i64 (v1 + 1))))) else (some (.inl (.k0)))))) else (some (.inl (.k1))))
def L12_4_s (a1 : GramD) (v1 : Int) : St := ⟨fr 160 ug [(1, (.ptr 0 0)), (5, (i6 v1))], [bG a1]⟩
def L12_4_x (a1 : GramD) (e : E_L12_4) (r : Option (Out × St)) : Prop := match e with | .k0 => ∃ g y, r = some (.ret, ⟨fr 160 g [(2, (i6 160))], y⟩) | .k1 => ∃ g, r = some ((.brk 4), ⟨fr 160 g [(1, (.ptr 0 0))], [bG a1]⟩)
theorem L12_4_ok (a1 : GramD) (v1 : Int) {r : E_L12_4 ⊕ (Int)} (h : L12_4 a1 v1 = some r) : OkR (fun e => L12_4_x a1 e (evH prg 1 [1, 5] ir12_l4 (L12_4_s a1 v1))) (fun s => evH prg 1 [1, 5] ir12_l4 (L12_4_s a1 v1) = evH prg 1 [1, 5] ir12_l4 (L12_4_s a1 s)) r := by
 unfold L12_4 at h
 refine bi h (fun h1 h => ?_) fun h1 h => ?_
 ·
  refine bn h fun x2 h2 h => ?_
  refine bn h fun x3 h3 h => ?_
  refine bi h (fun h4 h => ?_) fun h4 h => ?_
  ·
   rw [← sj h]
   exact rnd (n := 30) [(74, .v (i6 (a1.prods.length : Int))), (75, .d true), (82, .v (.ro (eProd x2))), (84, .v (vb true)), (6000, .d true)] (apc (lg a1.prods eProd 7) (apc (cv h1) (apc (ig eProd 7 .i64 h2) (apc ((((F42_ok a1 x2 h3).cp rfl _).trans (congrArg (fun z => some (vb z)) h4)) : CP prg 42 [(aG a1), (aP x2)] [bG a1] = some (vb true)) (apc ((okT_of rfl (abl_cons rfl rfl)) : okT 1 [bG a1] = true) apn))))) (by kernel_rfl)
  ·
   rw [← sj h]
   exact xretY (n := 30) [(74, .v (i6 (a1.prods.length : Int))), (75, .d true), (82, .v (.ro (eProd x2))), (84, .v (vb false)), (6000, .d true)] (apc (lg a1.prods eProd 7) (apc (cv h1) (apc (ig eProd 7 .i64 h2) (apc ((((F42_ok a1 x2 h3).cp rfl _).trans (congrArg (fun z => some (vb z)) h4)) : CP prg 42 [(aG a1), (aP x2)] [bG a1] = some (vb false)) apn)))) (by kernel_rfl)
 ·
  rw [← sj h]
  exact xbrk (n := 30) [(74, .v (i6 (a1.prods.length : Int))), (75, .d false), (6000, .d true)] (apc (lg a1.prods eProd 7) (apc (cv h1) apn)) (by kernel_rfl)
theorem L12_4_run (a1 : GramD) (s0 : Int) (e : E_L12_4) (h : runL (fun s => L12_4 a1 s) s0 = some e) : L12_4_x a1 e (evH prg 1 [1, 5] ir12_l4 (L12_4_s a1 s0)) := by
  have q := @loop_sound' (Int) E_L12_4 (fun s => L12_4 a1 s) (fun s => evH prg 1 [1, 5] ir12_l4 (L12_4_s a1 s)) (L12_4_x a1) (fun s r h => L12_4_ok a1 s h) s0 e h
  exact q
noncomputable def F43 (a1 : GramD) (a2 : ForbD) : Option Bool :=
  (bif (decide (a2.parent < 0)) then (some false) else (bif (decide (a2.parent ≥ (a1.prods.length : Int))) then (some false) else (bif (decide (a2.child < 0)) then (some false) else (bif (decide (a2.child ≥ (a1.prods.length : Int))) then (some false) else ((getI a1.prods a2.parent).bind fun x5 => (bif (x5.role == 11) then (some false) else ((getI a1.prods a2.child).bind fun x7 => (bif (x7.role == 11) then (some false) else (bif (decide (a2.at_ < 1)) then (some false) else (bif (decide (a2.at_ > (x5.right.length : Int))) then (some false) else ((getI x5.right (IntKind.wrap .i64 (a2.at_ - 1))).bind fun x11 => (bif (x11.kind == 1) then (some (x11.sort == x7.left)) else (some false)))))))))))))
def F43_v (a1 : GramD) (a2 : ForbD) (x0 : Bool) : AV := (vb x0)
theorem F43_ok (a1 : GramD) (a2 : ForbD) {r : Bool} (h : F43 a1 a2 = some r) : PR1 prg 43 [(aG a1), (.agg ((eForb a2).map .p))] (F43_v a1 a2 r) := by
 unfold F43 at h
 refine bi h (fun h1 h => ?_) fun h1 h => ?_
 ·
  rw [← sj h]
  exact fpr (n := 30) [(8, .d true)] (apc (cv h1) apn) rfl (by kernel_rfl)
 ·
  refine bi h (fun h2 h => ?_) fun h2 h => ?_
  ·
   rw [← sj h]
   exact fpr (n := 30) [(8, .d false), (14, .v (i6 (a1.prods.length : Int))), (15, .d true)] (apc (cv h1) (apc (lg a1.prods eProd 7) (apc (cv h2) apn))) rfl (by kernel_rfl)
  ·
   refine bi h (fun h3 h => ?_) fun h3 h => ?_
   ·
    rw [← sj h]
    exact fpr (n := 30) [(8, .d false), (14, .v (i6 (a1.prods.length : Int))), (15, .d false), (20, .d true)] (apc (cv h1) (apc (lg a1.prods eProd 7) (apc (cv h2) (apc (cv h3) apn)))) rfl (by kernel_rfl)
   ·
    refine bi h (fun h4 h => ?_) fun h4 h => ?_
    ·
     rw [← sj h]
     exact fpr (n := 30) [(8, .d false), (14, .v (i6 (a1.prods.length : Int))), (15, .d false), (20, .d false), (27, .v (i6 (a1.prods.length : Int))), (28, .d true)] (apc (cv h1) (apc (lg a1.prods eProd 7) (apc (cv h2) (apc (cv h3) (apc (lg a1.prods eProd 7) (apc (cv h4) apn)))))) rfl (by kernel_rfl)
    ·
     refine bn h fun x5 h5 h => ?_
     refine bi h (fun h6 h => ?_) fun h6 h => ?_
     ·
      rw [← sj h]
      exact fpr (n := 30) [(8, .d false), (14, .v (i6 (a1.prods.length : Int))), (15, .d false), (20, .d false), (27, .v (i6 (a1.prods.length : Int))), (28, .d false), (35, .v (.ro (eProd x5))), (38, .d true)] (apc (cv h1) (apc (lg a1.prods eProd 7) (apc (cv h2) (apc (cv h3) (apc (lg a1.prods eProd 7) (apc (cv h4) (apc (ig eProd 7 .i64 h5) (apc (cv h6) apn)))))))) rfl (by kernel_rfl)
     ·
      refine bn h fun x7 h7 h => ?_
      refine bi h (fun h8 h => ?_) fun h8 h => ?_
      ·
       rw [← sj h]
       exact fpr (n := 30) [(8, .d false), (14, .v (i6 (a1.prods.length : Int))), (15, .d false), (20, .d false), (27, .v (i6 (a1.prods.length : Int))), (28, .d false), (35, .v (.ro (eProd x5))), (38, .d false), (45, .v (.ro (eProd x7))), (48, .d true)] (apc (cv h1) (apc (lg a1.prods eProd 7) (apc (cv h2) (apc (cv h3) (apc (lg a1.prods eProd 7) (apc (cv h4) (apc (ig eProd 7 .i64 h5) (apc (cv h6) (apc (ig eProd 7 .i64 h7) (apc (cv h8) apn)))))))))) rfl (by kernel_rfl)
      ·
       refine bi h (fun h9 h => ?_) fun h9 h => ?_
       ·
        rw [← sj h]
        exact fpr (n := 30) [(8, .d false), (14, .v (i6 (a1.prods.length : Int))), (15, .d false), (20, .d false), (27, .v (i6 (a1.prods.length : Int))), (28, .d false), (35, .v (.ro (eProd x5))), (38, .d false), (45, .v (.ro (eProd x7))), (48, .d false), (52, .d true)] (apc (cv h1) (apc (lg a1.prods eProd 7) (apc (cv h2) (apc (cv h3) (apc (lg a1.prods eProd 7) (apc (cv h4) (apc (ig eProd 7 .i64 h5) (apc (cv h6) (apc (ig eProd 7 .i64 h7) (apc (cv h8) (apc (cv h9) apn))))))))))) rfl (by kernel_rfl)
       ·
        refine bi h (fun h10 h => ?_) fun h10 h => ?_
        ·
         rw [← sj h]
         exact fpr (n := 30) [(8, .d false), (14, .v (i6 (a1.prods.length : Int))), (15, .d false), (20, .d false), (27, .v (i6 (a1.prods.length : Int))), (28, .d false), (35, .v (.ro (eProd x5))), (38, .d false), (45, .v (.ro (eProd x7))), (48, .d false), (52, .d false), (60, .v (.ro (eProd x5))), (63, .v (i6 (x5.right.length : Int))), (64, .d true)] (apc (cv h1) (apc (lg a1.prods eProd 7) (apc (cv h2) (apc (cv h3) (apc (lg a1.prods eProd 7) (apc (cv h4) (apc (ig eProd 7 .i64 h5) (apc (cv h6) (apc (ig eProd 7 .i64 h7) (apc (cv h8) (apc (cv h9) (apc (ig eProd 7 .i64 h5) (apc (lg x5.right eSym 6) (apc (cv h10) apn)))))))))))))) rfl (by kernel_rfl)
        ·
         refine bn h fun x11 h11 h => ?_
         refine bi h (fun h12 h => ?_) fun h12 h => ?_
         ·
          rw [← sj h]
          exact fpr (n := 30) [(8, .d false), (14, .v (i6 (a1.prods.length : Int))), (15, .d false), (20, .d false), (27, .v (i6 (a1.prods.length : Int))), (28, .d false), (35, .v (.ro (eProd x5))), (38, .d false), (45, .v (.ro (eProd x7))), (48, .d false), (52, .d false), (60, .v (.ro (eProd x5))), (63, .v (i6 (x5.right.length : Int))), (64, .d false), (70, .v (.ro (eProd x5))), (76, .v (.ro (eSym x11))), (80, .d true), (88, .v (.ro (eProd x7)))] (apc (cv h1) (apc (lg a1.prods eProd 7) (apc (cv h2) (apc (cv h3) (apc (lg a1.prods eProd 7) (apc (cv h4) (apc (ig eProd 7 .i64 h5) (apc (cv h6) (apc (ig eProd 7 .i64 h7) (apc (cv h8) (apc (cv h9) (apc (ig eProd 7 .i64 h5) (apc (lg x5.right eSym 6) (apc (cv h10) (apc (ig eProd 7 .i64 h5) (apc (ig eSym 6 .i64 h11) (apc (cv h12) (apc (ig eProd 7 .i64 h7) apn)))))))))))))))))) rfl (by kernel_rfl)
         ·
          rw [← sj h]
          exact fpr (n := 30) [(8, .d false), (14, .v (i6 (a1.prods.length : Int))), (15, .d false), (20, .d false), (27, .v (i6 (a1.prods.length : Int))), (28, .d false), (35, .v (.ro (eProd x5))), (38, .d false), (45, .v (.ro (eProd x7))), (48, .d false), (52, .d false), (60, .v (.ro (eProd x5))), (63, .v (i6 (x5.right.length : Int))), (64, .d false), (70, .v (.ro (eProd x5))), (76, .v (.ro (eSym x11))), (80, .d false)] (apc (cv h1) (apc (lg a1.prods eProd 7) (apc (cv h2) (apc (cv h3) (apc (lg a1.prods eProd 7) (apc (cv h4) (apc (ig eProd 7 .i64 h5) (apc (cv h6) (apc (ig eProd 7 .i64 h7) (apc (cv h8) (apc (cv h9) (apc (ig eProd 7 .i64 h5) (apc (lg x5.right eSym 6) (apc (cv h10) (apc (ig eProd 7 .i64 h5) (apc (ig eSym 6 .i64 h11) (apc (cv h12) apn))))))))))))))))) rfl (by kernel_rfl)
inductive E_L12_2 where
  | k0
  | k1
noncomputable def L12_2 (a1 : Int) (a2 : GramD) (v1 : Int) : Option (E_L12_2 ⊕ (Int)) :=
  (bif (decide (v1 < a1)) then ((getI a2.forbid v1).bind fun x2 => ((getI a2.forbid a1).bind fun x3 => (bif ((x2.parent == x3.parent) && ((x2.at_ == x3.at_) && ((x2.child == x3.child) && true))) then (some (.inl (.k0))) else (some (.inr ((IntKind.wrap .i64 (v1 + 1)))))))) else (some (.inl (.k1))))
def L12_2_s (a1 : Int) (a2 : GramD) (v1 : Int) : St := ⟨fr 160 ug [(1, (.ptr 0 0)), (6, (i6 a1)), (7, (i6 v1))], [bG a2]⟩
def L12_2_x (a1 : Int) (a2 : GramD) (e : E_L12_2) (r : Option (Out × St)) : Prop := match e with | .k0 => ∃ g y, r = some (.ret, ⟨fr 160 g [(2, (i6 160))], y⟩) | .k1 => ∃ g, r = some ((.brk 8), ⟨fr 160 g [(1, (.ptr 0 0)), (6, (i6 a1))], [bG a2]⟩)
theorem L12_2_ok (a1 : Int) (a2 : GramD) (v1 : Int) {r : E_L12_2 ⊕ (Int)} (h : L12_2 a1 a2 v1 = some r) : OkR (fun e => L12_2_x a1 a2 e (evH prg 1 [1, 6, 7] ir12_l2 (L12_2_s a1 a2 v1))) (fun s => evH prg 1 [1, 6, 7] ir12_l2 (L12_2_s a1 a2 v1) = evH prg 1 [1, 6, 7] ir12_l2 (L12_2_s a1 a2 s)) r := by
 unfold L12_2 at h
 refine bi h (fun h1 h => ?_) fun h1 h => ?_
 ·
  refine bn h fun x2 h2 h => ?_
  refine bn h fun x3 h3 h => ?_
  refine bi h (fun h4 h => ?_) fun h4 h => ?_
  ·
   rw [← sj h]
   exact xretY (n := 30) [(103, .d true), (109, .v (.ro (eForb x2))), (114, .v (.ro (eForb x3))), (116, .d true), (6000, .d true)] (apc (cv h1) (apc (ig eForb 3 .i64 h2) (apc (ig eForb 3 .i64 h3) (apc (cv h4) apn)))) (by kernel_rfl)
  ·
   rw [← sj h]
   exact rnd (n := 30) [(103, .d true), (109, .v (.ro (eForb x2))), (114, .v (.ro (eForb x3))), (116, .d false), (6000, .d true)] (apc (cv h1) (apc (ig eForb 3 .i64 h2) (apc (ig eForb 3 .i64 h3) (apc (cv h4) (apc ((okT_of rfl (abl_cons rfl rfl)) : okT 1 [bG a2] = true) apn))))) (by kernel_rfl)
 ·
  rw [← sj h]
  exact xbrk (n := 30) [(103, .d false), (6000, .d true)] (apc (cv h1) apn) (by kernel_rfl)
theorem L12_2_run (a1 : Int) (a2 : GramD) (s0 : Int) (e : E_L12_2) (h : runL (fun s => L12_2 a1 a2 s) s0 = some e) : L12_2_x a1 a2 e (evH prg 1 [1, 6, 7] ir12_l2 (L12_2_s a1 a2 s0)) := by
  have q := @loop_sound' (Int) E_L12_2 (fun s => L12_2 a1 a2 s) (fun s => evH prg 1 [1, 6, 7] ir12_l2 (L12_2_s a1 a2 s)) (L12_2_x a1 a2) (fun s r h => L12_2_ok a1 a2 s h) s0 e h
  exact q
inductive E_L12_3 where
  | k0
  | k1
noncomputable def L12_3 (a1 : GramD) (v1 : Int) : Option (E_L12_3 ⊕ (Int)) :=
  (bif (decide (v1 < (a1.forbid.length : Int))) then ((getI a1.forbid v1).bind fun x2 => ((F43 a1 x2).bind fun x3 => (bif x3 then ((runL (fun s => L12_2 v1 a1 s) 0).bind fun r5 => match r5 with | .k0 => (some (.inl (.k0))) | .k1 => (some (.inr ((IntKind.wrap .i64 (v1 + 1)))))) else (some (.inl (.k0)))))) else (some (.inl (.k1))))
def L12_3_s (a1 : GramD) (v1 : Int) : St := ⟨fr 160 ug [(1, (.ptr 0 0)), (6, (i6 v1))], [bG a1]⟩
def L12_3_x (a1 : GramD) (e : E_L12_3) (r : Option (Out × St)) : Prop := match e with | .k0 => ∃ g y, r = some (.ret, ⟨fr 160 g [(2, (i6 160))], y⟩) | .k1 => ∃ g, r = some ((.brk 6), ⟨fr 160 g [(1, (.ptr 0 0))], [bG a1]⟩)
theorem L12_3_ok (a1 : GramD) (v1 : Int) {r : E_L12_3 ⊕ (Int)} (h : L12_3 a1 v1 = some r) : OkR (fun e => L12_3_x a1 e (evH prg 1 [1, 6] ir12_l3 (L12_3_s a1 v1))) (fun s => evH prg 1 [1, 6] ir12_l3 (L12_3_s a1 v1) = evH prg 1 [1, 6] ir12_l3 (L12_3_s a1 s)) r := by
 unfold L12_3 at h
 refine bi h (fun h1 h => ?_) fun h1 h => ?_
 ·
  refine bn h fun x2 h2 h => ?_
  refine bn h fun x3 h3 h => ?_
  refine bi h (fun h4 h => ?_) fun h4 h => ?_
  ·
   refine bn h fun r5 h5 h => ?_
   cases r5 with
   | k0 =>
    obtain ⟨g5, y5, e5⟩ := L12_2_run v1 a1 0 _ h5
    rw [← sj h]
    exact xretY (n := 30) [(89, .v (i6 (a1.forbid.length : Int))), (90, .d true), (97, .v (.ro (eForb x2))), (99, .v (vb true)), (2008, .l .ret ⟨fr 160 g5 [(2, (i6 160))], y5⟩), (6000, .d true)] (apc (lg a1.forbid eForb 3) (apc (cv h1) (apc (ig eForb 3 .i64 h2) (apc ((((F43_ok a1 x2 h3).cp rfl _).trans (congrArg (fun z => some (vb z)) h4)) : CP prg 43 [(aG a1), (.agg ((eForb x2).map .p))] [bG a1] = some (vb true)) (apc ((okT_of rfl (abl_cons rfl rfl)) : okT 1 [bG a1] = true) (apc (e5 : evH prg 1 [1, 6, 7] ir12_l2 (L12_2_s v1 a1 0) = some (.ret, ⟨fr 160 g5 [(2, (i6 160))], y5⟩)) apn)))))) (by kernel_rfl)
   | k1 =>
    obtain ⟨g5, e5⟩ := L12_2_run v1 a1 0 _ h5
    rw [← sj h]
    exact rnd (n := 30) [(89, .v (i6 (a1.forbid.length : Int))), (90, .d true), (97, .v (.ro (eForb x2))), (99, .v (vb true)), (2008, .l (.brk 8) ⟨fr 160 g5 [(1, (.ptr 0 0)), (6, (i6 v1))], [bG a1]⟩), (6000, .d true)] (apc (lg a1.forbid eForb 3) (apc (cv h1) (apc (ig eForb 3 .i64 h2) (apc ((((F43_ok a1 x2 h3).cp rfl _).trans (congrArg (fun z => some (vb z)) h4)) : CP prg 43 [(aG a1), (.agg ((eForb x2).map .p))] [bG a1] = some (vb true)) (apc ((okT_of rfl (abl_cons rfl rfl)) : okT 1 [bG a1] = true) (apc (e5 : evH prg 1 [1, 6, 7] ir12_l2 (L12_2_s v1 a1 0) = some ((.brk 8), ⟨fr 160 g5 [(1, (.ptr 0 0)), (6, (i6 v1))], [bG a1]⟩)) (apc ((okT_of rfl (abl_cons rfl rfl)) : okT 1 [bG a1] = true) apn))))))) (by kernel_rfl)
  ·
   rw [← sj h]
   exact xretY (n := 30) [(89, .v (i6 (a1.forbid.length : Int))), (90, .d true), (97, .v (.ro (eForb x2))), (99, .v (vb false)), (6000, .d true)] (apc (lg a1.forbid eForb 3) (apc (cv h1) (apc (ig eForb 3 .i64 h2) (apc ((((F43_ok a1 x2 h3).cp rfl _).trans (congrArg (fun z => some (vb z)) h4)) : CP prg 43 [(aG a1), (.agg ((eForb x2).map .p))] [bG a1] = some (vb false)) apn)))) (by kernel_rfl)
 ·
  rw [← sj h]
  exact xbrk (n := 30) [(89, .v (i6 (a1.forbid.length : Int))), (90, .d false), (6000, .d true)] (apc (lg a1.forbid eForb 3) (apc (cv h1) apn)) (by kernel_rfl)
theorem L12_3_run (a1 : GramD) (s0 : Int) (e : E_L12_3) (h : runL (fun s => L12_3 a1 s) s0 = some e) : L12_3_x a1 e (evH prg 1 [1, 6] ir12_l3 (L12_3_s a1 s0)) := by
  have q := @loop_sound' (Int) E_L12_3 (fun s => L12_3 a1 s) (fun s => evH prg 1 [1, 6] ir12_l3 (L12_3_s a1 s)) (L12_3_x a1) (fun s r h => L12_3_ok a1 s h) s0 e h
  exact q
noncomputable def F41_4 (a1 : GramD) (a2 : FollD) : Option Bool :=
  (bif (decide (a2.sort ≥ 0)) then (some (decide (a2.sort < (a1.sorts.length : Int)))) else (some false))
def F41_4_v (a1 : GramD) (a2 : FollD) (x0 : Bool) : AV := (vb x0)
theorem F41_4_ok (a1 : GramD) (a2 : FollD) {r : Bool} (h : F41_4 a1 a2 = some r) : PR1 prg 41 [(aG a1), (i6 a2.sort)] (F41_4_v a1 a2 r) := by
 unfold F41_4 at h
 refine bi h (fun h1 h => ?_) fun h1 h => ?_
 ·
  rw [← sj h]
  exact fpr (n := 30) [(6, .d true), (11, .v (i6 (a1.sorts.length : Int)))] (apc (cv h1) (apc (lg a1.sorts eStr 1) apn)) rfl (by kernel_rfl)
 ·
  rw [← sj h]
  exact fpr (n := 30) [(6, .d false)] (apc (cv h1) apn) rfl (by kernel_rfl)
noncomputable def F44_2 (a1 : FollD) : Option Bool :=
  (some ((IntKind.wrap .u64 ((BitVec.ofInt (IntKind.bits .u64) (IntKind.wrap .u64 ((BitVec.ofInt (IntKind.bits .u64) (IntKind.wrap .u64 ((BitVec.ofInt (IntKind.bits .u64) a1.a ||| BitVec.ofInt (IntKind.bits .u64) a1.b).toNat : Int)) ||| BitVec.ofInt (IntKind.bits .u64) a1.c).toNat : Int)) ||| BitVec.ofInt (IntKind.bits .u64) a1.d).toNat : Int)) == 0))
def F44_2_v (a1 : FollD) (x0 : Bool) : AV := (vb x0)
theorem F44_2_ok (a1 : FollD) {r : Bool} (h : F44_2 a1 = some r) : PR1 prg 44 [(.agg ((List.drop 1 (eFoll a1)).map .p))] (F44_2_v a1 r) := by
 unfold F44_2 at h
 rw [← sj h]
 exact fpr (n := 30) [] apn rfl (by kernel_rfl)
inductive E_L12_0 where
  | k0
  | k1
noncomputable def L12_0 (a1 : Int) (a2 : GramD) (v1 : Int) : Option (E_L12_0 ⊕ (Int)) :=
  (bif (decide (v1 < a1)) then ((getI a2.follow v1).bind fun x2 => ((getI a2.follow a1).bind fun x3 => (bif (x2.sort == x3.sort) then (some (.inl (.k0))) else (some (.inr ((IntKind.wrap .i64 (v1 + 1)))))))) else (some (.inl (.k1))))
def L12_0_s (a1 : Int) (a2 : GramD) (v1 : Int) : St := ⟨fr 160 ug [(1, (.ptr 0 0)), (8, (i6 a1)), (9, (i6 v1))], [bG a2]⟩
def L12_0_x (a1 : Int) (a2 : GramD) (e : E_L12_0) (r : Option (Out × St)) : Prop := match e with | .k0 => ∃ g y, r = some (.ret, ⟨fr 160 g [(2, (i6 160))], y⟩) | .k1 => ∃ g, r = some ((.brk 12), ⟨fr 160 g [(1, (.ptr 0 0)), (8, (i6 a1))], [bG a2]⟩)
theorem L12_0_ok (a1 : Int) (a2 : GramD) (v1 : Int) {r : E_L12_0 ⊕ (Int)} (h : L12_0 a1 a2 v1 = some r) : OkR (fun e => L12_0_x a1 a2 e (evH prg 1 [1, 8, 9] ir12_l0 (L12_0_s a1 a2 v1))) (fun s => evH prg 1 [1, 8, 9] ir12_l0 (L12_0_s a1 a2 v1) = evH prg 1 [1, 8, 9] ir12_l0 (L12_0_s a1 a2 s)) r := by
 unfold L12_0 at h
 refine bi h (fun h1 h => ?_) fun h1 h => ?_
 ·
  refine bn h fun x2 h2 h => ?_
  refine bn h fun x3 h3 h => ?_
  refine bi h (fun h4 h => ?_) fun h4 h => ?_
  ·
   rw [← sj h]
   exact xretY (n := 30) [(144, .d true), (150, .v (.ro (eFoll x2))), (156, .v (.ro (eFoll x3))), (159, .d true), (6000, .d true)] (apc (cv h1) (apc (ig eFoll 5 .i64 h2) (apc (ig eFoll 5 .i64 h3) (apc (cv h4) apn)))) (by kernel_rfl)
  ·
   rw [← sj h]
   exact rnd (n := 30) [(144, .d true), (150, .v (.ro (eFoll x2))), (156, .v (.ro (eFoll x3))), (159, .d false), (6000, .d true)] (apc (cv h1) (apc (ig eFoll 5 .i64 h2) (apc (ig eFoll 5 .i64 h3) (apc (cv h4) (apc ((okT_of rfl (abl_cons rfl rfl)) : okT 1 [bG a2] = true) apn))))) (by kernel_rfl)
 ·
  rw [← sj h]
  exact xbrk (n := 30) [(144, .d false), (6000, .d true)] (apc (cv h1) apn) (by kernel_rfl)
theorem L12_0_run (a1 : Int) (a2 : GramD) (s0 : Int) (e : E_L12_0) (h : runL (fun s => L12_0 a1 a2 s) s0 = some e) : L12_0_x a1 a2 e (evH prg 1 [1, 8, 9] ir12_l0 (L12_0_s a1 a2 s0)) := by
  have q := @loop_sound' (Int) E_L12_0 (fun s => L12_0 a1 a2 s) (fun s => evH prg 1 [1, 8, 9] ir12_l0 (L12_0_s a1 a2 s)) (L12_0_x a1 a2) (fun s r h => L12_0_ok a1 a2 s h) s0 e h
  exact q
inductive E_L12_1 where
  | k0
  | k1
noncomputable def L12_1 (a1 : GramD) (v1 : Int) : Option (E_L12_1 ⊕ (Int)) :=
  (bif (decide (v1 < (a1.follow.length : Int))) then ((getI a1.follow v1).bind fun x2 => ((F41_4 a1 x2).bind fun x3 => (bif x3 then ((F44_2 x2).bind fun x5 => (bif x5 then (some (.inl (.k0))) else ((runL (fun s => L12_0 v1 a1 s) 0).bind fun r7 => match r7 with | .k0 => (some (.inl (.k0))) | .k1 => (some (.inr ((IntKind.wrap .i64 (v1 + 1)))))))) else (some (.inl (.k0)))))) else (some (.inl (.k1))))
def L12_1_s (a1 : GramD) (v1 : Int) : St := ⟨fr 160 ug [(1, (.ptr 0 0)), (8, (i6 v1))], [bG a1]⟩
def L12_1_x (a1 : GramD) (e : E_L12_1) (r : Option (Out × St)) : Prop := match e with | .k0 => ∃ g y, r = some (.ret, ⟨fr 160 g [(2, (i6 160))], y⟩) | .k1 => ∃ g, r = some ((.brk 10), ⟨fr 160 g [(1, (.ptr 0 0))], [bG a1]⟩)
theorem L12_1_ok (a1 : GramD) (v1 : Int) {r : E_L12_1 ⊕ (Int)} (h : L12_1 a1 v1 = some r) : OkR (fun e => L12_1_x a1 e (evH prg 1 [1, 8] ir12_l1 (L12_1_s a1 v1))) (fun s => evH prg 1 [1, 8] ir12_l1 (L12_1_s a1 v1) = evH prg 1 [1, 8] ir12_l1 (L12_1_s a1 s)) r := by
 unfold L12_1 at h
 refine bi h (fun h1 h => ?_) fun h1 h => ?_
 ·
  refine bn h fun x2 h2 h => ?_
  refine bn h fun x3 h3 h => ?_
  refine bi h (fun h4 h => ?_) fun h4 h => ?_
  ·
   refine bn h fun x5 h5 h => ?_
   refine bi h (fun h6 h => ?_) fun h6 h => ?_
   ·
    rw [← sj h]
    exact xretY (n := 30) [(120, .v (i6 (a1.follow.length : Int))), (121, .d true), (128, .v (.ro (eFoll x2))), (131, .v (vb true)), (137, .v (.ro (eFoll x2))), (140, .v (vb true)), (6000, .d true)] (apc (lg a1.follow eFoll 5) (apc (cv h1) (apc (ig eFoll 5 .i64 h2) (apc ((((F41_4_ok a1 x2 h3).cp rfl _).trans (congrArg (fun z => some (vb z)) h4)) : CP prg 41 [(aG a1), (i6 x2.sort)] [bG a1] = some (vb true)) (apc (ig eFoll 5 .i64 h2) (apc ((((F44_2_ok x2 h5).cp rfl _).trans (congrArg (fun z => some (vb z)) h6)) : CP prg 44 [(.agg ((List.drop 1 (eFoll x2)).map .p))] [bG a1] = some (vb true)) apn)))))) (by kernel_rfl)
   ·
    refine bn h fun r7 h7 h => ?_
    cases r7 with
    | k0 =>
     obtain ⟨g7, y7, e7⟩ := L12_0_run v1 a1 0 _ h7
     rw [← sj h]
     exact xretY (n := 30) [(120, .v (i6 (a1.follow.length : Int))), (121, .d true), (128, .v (.ro (eFoll x2))), (131, .v (vb true)), (137, .v (.ro (eFoll x2))), (140, .v (vb false)), (2012, .l .ret ⟨fr 160 g7 [(2, (i6 160))], y7⟩), (6000, .d true)] (apc (lg a1.follow eFoll 5) (apc (cv h1) (apc (ig eFoll 5 .i64 h2) (apc ((((F41_4_ok a1 x2 h3).cp rfl _).trans (congrArg (fun z => some (vb z)) h4)) : CP prg 41 [(aG a1), (i6 x2.sort)] [bG a1] = some (vb true)) (apc (ig eFoll 5 .i64 h2) (apc ((((F44_2_ok x2 h5).cp rfl _).trans (congrArg (fun z => some (vb z)) h6)) : CP prg 44 [(.agg ((List.drop 1 (eFoll x2)).map .p))] [bG a1] = some (vb false)) (apc ((okT_of rfl (abl_cons rfl rfl)) : okT 1 [bG a1] = true) (apc (e7 : evH prg 1 [1, 8, 9] ir12_l0 (L12_0_s v1 a1 0) = some (.ret, ⟨fr 160 g7 [(2, (i6 160))], y7⟩)) apn)))))))) (by kernel_rfl)
    | k1 =>
     obtain ⟨g7, e7⟩ := L12_0_run v1 a1 0 _ h7
     rw [← sj h]
     exact rnd (n := 30) [(120, .v (i6 (a1.follow.length : Int))), (121, .d true), (128, .v (.ro (eFoll x2))), (131, .v (vb true)), (137, .v (.ro (eFoll x2))), (140, .v (vb false)), (2012, .l (.brk 12) ⟨fr 160 g7 [(1, (.ptr 0 0)), (8, (i6 v1))], [bG a1]⟩), (6000, .d true)] (apc (lg a1.follow eFoll 5) (apc (cv h1) (apc (ig eFoll 5 .i64 h2) (apc ((((F41_4_ok a1 x2 h3).cp rfl _).trans (congrArg (fun z => some (vb z)) h4)) : CP prg 41 [(aG a1), (i6 x2.sort)] [bG a1] = some (vb true)) (apc (ig eFoll 5 .i64 h2) (apc ((((F44_2_ok x2 h5).cp rfl _).trans (congrArg (fun z => some (vb z)) h6)) : CP prg 44 [(.agg ((List.drop 1 (eFoll x2)).map .p))] [bG a1] = some (vb false)) (apc ((okT_of rfl (abl_cons rfl rfl)) : okT 1 [bG a1] = true) (apc (e7 : evH prg 1 [1, 8, 9] ir12_l0 (L12_0_s v1 a1 0) = some ((.brk 12), ⟨fr 160 g7 [(1, (.ptr 0 0)), (8, (i6 v1))], [bG a1]⟩)) (apc ((okT_of rfl (abl_cons rfl rfl)) : okT 1 [bG a1] = true) apn))))))))) (by kernel_rfl)
  ·
   rw [← sj h]
   exact xretY (n := 30) [(120, .v (i6 (a1.follow.length : Int))), (121, .d true), (128, .v (.ro (eFoll x2))), (131, .v (vb false)), (6000, .d true)] (apc (lg a1.follow eFoll 5) (apc (cv h1) (apc (ig eFoll 5 .i64 h2) (apc ((((F41_4_ok a1 x2 h3).cp rfl _).trans (congrArg (fun z => some (vb z)) h4)) : CP prg 41 [(aG a1), (i6 x2.sort)] [bG a1] = some (vb false)) apn)))) (by kernel_rfl)
 ·
  rw [← sj h]
  exact xbrk (n := 30) [(120, .v (i6 (a1.follow.length : Int))), (121, .d false), (6000, .d true)] (apc (lg a1.follow eFoll 5) (apc (cv h1) apn)) (by kernel_rfl)
theorem L12_1_run (a1 : GramD) (s0 : Int) (e : E_L12_1) (h : runL (fun s => L12_1 a1 s) s0 = some e) : L12_1_x a1 e (evH prg 1 [1, 8] ir12_l1 (L12_1_s a1 s0)) := by
  have q := @loop_sound' (Int) E_L12_1 (fun s => L12_1 a1 s) (fun s => evH prg 1 [1, 8] ir12_l1 (L12_1_s a1 s)) (L12_1_x a1) (fun s r h => L12_1_ok a1 s h) s0 e h
  exact q
noncomputable def F12 (a1 : GramD) : Option Int :=
  (bif (decide ((a1.sorts.length : Int) < 1)) then (some 160) else (bif (decide ((a1.sorts.length : Int) > 1000)) then (some 160) else (bif (decide ((a1.prods.length : Int) > 1000)) then (some 160) else ((F41 a1).bind fun x4 => (bif x4 then ((runL (fun s => L12_6 a1 s) 0).bind fun r6 => match r6 with | .k0 => (some 160) | .k1 => ((runL (fun s => L12_4 a1 s) 0).bind fun r7 => match r7 with | .k0 => (some 160) | .k1 => ((runL (fun s => L12_3 a1 s) 0).bind fun r8 => match r8 with | .k0 => (some 160) | .k1 => ((runL (fun s => L12_1 a1 s) 0).bind fun r9 => match r9 with | .k0 => (some 160) | .k1 => (some 0))))) else (some 160))))))
def F12_v (a1 : GramD) (x0 : Int) : AV := (i6 x0)
theorem F12_ok (a1 : GramD) {r : Int} (h : F12 a1 = some r) : PR1 prg 12 [(aG a1)] (F12_v a1 r) := by
 unfold F12 at h
 refine bi h (fun h1 h => ?_) fun h1 h => ?_
 ·
  rw [← sj h]
  exact fpr (n := 30) [(12, .v (i6 (a1.sorts.length : Int))), (13, .d true)] (apc (lg a1.sorts eStr 1) (apc (cv h1) apn)) rfl (by kernel_rfl)
 ·
  refine bi h (fun h2 h => ?_) fun h2 h => ?_
  ·
   rw [← sj h]
   exact fpr (n := 30) [(12, .v (i6 (a1.sorts.length : Int))), (13, .d false), (17, .v (i6 (a1.sorts.length : Int))), (18, .d true)] (apc (lg a1.sorts eStr 1) (apc (cv h1) (apc (lg a1.sorts eStr 1) (apc (cv h2) apn)))) rfl (by kernel_rfl)
  ·
   refine bi h (fun h3 h => ?_) fun h3 h => ?_
   ·
    rw [← sj h]
    exact fpr (n := 30) [(12, .v (i6 (a1.sorts.length : Int))), (13, .d false), (17, .v (i6 (a1.sorts.length : Int))), (18, .d false), (23, .v (i6 (a1.prods.length : Int))), (24, .d true)] (apc (lg a1.sorts eStr 1) (apc (cv h1) (apc (lg a1.sorts eStr 1) (apc (cv h2) (apc (lg a1.prods eProd 7) (apc (cv h3) apn)))))) rfl (by kernel_rfl)
   ·
    refine bn h fun x4 h4 h => ?_
    refine bi h (fun h5 h => ?_) fun h5 h => ?_
    ·
     refine bn h fun r6 h6 h => ?_
     cases r6 with
     | k0 =>
      obtain ⟨g6, y6, e6⟩ := L12_6_run a1 0 _ h6
      rw [← sj h]
      exact fpr (n := 30) [(12, .v (i6 (a1.sorts.length : Int))), (13, .d false), (17, .v (i6 (a1.sorts.length : Int))), (18, .d false), (23, .v (i6 (a1.prods.length : Int))), (24, .d false), (30, .v (vb true)), (2000, .l .ret ⟨fr 160 g6 [(2, (i6 160))], y6⟩), (6000, .d true)] (apc (lg a1.sorts eStr 1) (apc (cv h1) (apc (lg a1.sorts eStr 1) (apc (cv h2) (apc (lg a1.prods eProd 7) (apc (cv h3) (apc ((((F41_ok a1 h4).cp rfl _).trans (congrArg (fun z => some (vb z)) h5)) : CP prg 41 [(aG a1), (i6 a1.start)] [bG a1] = some (vb true)) (apc ((okT_of rfl (abl_cons rfl rfl)) : okT 1 [bG a1] = true) (apc (e6 : evH prg 1 [1, 3] ir12_l6 (L12_6_s a1 0) = some (.ret, ⟨fr 160 g6 [(2, (i6 160))], y6⟩)) apn))))))))) rfl (by kernel_rfl)
     | k1 =>
      obtain ⟨g6, e6⟩ := L12_6_run a1 0 _ h6
      refine bn h fun r7 h7 h => ?_
      cases r7 with
      | k0 =>
       obtain ⟨g7, y7, e7⟩ := L12_4_run a1 0 _ h7
       rw [← sj h]
       exact fpr (n := 30) [(12, .v (i6 (a1.sorts.length : Int))), (13, .d false), (17, .v (i6 (a1.sorts.length : Int))), (18, .d false), (23, .v (i6 (a1.prods.length : Int))), (24, .d false), (30, .v (vb true)), (2000, .l (.brk 0) ⟨fr 160 g6 [(1, (.ptr 0 0))], [bG a1]⟩), (2004, .l .ret ⟨fr 160 g7 [(2, (i6 160))], y7⟩), (6000, .d true)] (apc (lg a1.sorts eStr 1) (apc (cv h1) (apc (lg a1.sorts eStr 1) (apc (cv h2) (apc (lg a1.prods eProd 7) (apc (cv h3) (apc ((((F41_ok a1 h4).cp rfl _).trans (congrArg (fun z => some (vb z)) h5)) : CP prg 41 [(aG a1), (i6 a1.start)] [bG a1] = some (vb true)) (apc ((okT_of rfl (abl_cons rfl rfl)) : okT 1 [bG a1] = true) (apc (e6 : evH prg 1 [1, 3] ir12_l6 (L12_6_s a1 0) = some ((.brk 0), ⟨fr 160 g6 [(1, (.ptr 0 0))], [bG a1]⟩)) (apc ((okT_of rfl (abl_cons rfl rfl)) : okT 1 [bG a1] = true) (apc (e7 : evH prg 1 [1, 5] ir12_l4 (L12_4_s a1 0) = some (.ret, ⟨fr 160 g7 [(2, (i6 160))], y7⟩)) apn))))))))))) rfl (by kernel_rfl)
      | k1 =>
       obtain ⟨g7, e7⟩ := L12_4_run a1 0 _ h7
       refine bn h fun r8 h8 h => ?_
       cases r8 with
       | k0 =>
        obtain ⟨g8, y8, e8⟩ := L12_3_run a1 0 _ h8
        rw [← sj h]
        exact fpr (n := 30) [(12, .v (i6 (a1.sorts.length : Int))), (13, .d false), (17, .v (i6 (a1.sorts.length : Int))), (18, .d false), (23, .v (i6 (a1.prods.length : Int))), (24, .d false), (30, .v (vb true)), (2000, .l (.brk 0) ⟨fr 160 g6 [(1, (.ptr 0 0))], [bG a1]⟩), (2004, .l (.brk 4) ⟨fr 160 g7 [(1, (.ptr 0 0))], [bG a1]⟩), (2006, .l .ret ⟨fr 160 g8 [(2, (i6 160))], y8⟩), (6000, .d true)] (apc (lg a1.sorts eStr 1) (apc (cv h1) (apc (lg a1.sorts eStr 1) (apc (cv h2) (apc (lg a1.prods eProd 7) (apc (cv h3) (apc ((((F41_ok a1 h4).cp rfl _).trans (congrArg (fun z => some (vb z)) h5)) : CP prg 41 [(aG a1), (i6 a1.start)] [bG a1] = some (vb true)) (apc ((okT_of rfl (abl_cons rfl rfl)) : okT 1 [bG a1] = true) (apc (e6 : evH prg 1 [1, 3] ir12_l6 (L12_6_s a1 0) = some ((.brk 0), ⟨fr 160 g6 [(1, (.ptr 0 0))], [bG a1]⟩)) (apc ((okT_of rfl (abl_cons rfl rfl)) : okT 1 [bG a1] = true) (apc (e7 : evH prg 1 [1, 5] ir12_l4 (L12_4_s a1 0) = some ((.brk 4), ⟨fr 160 g7 [(1, (.ptr 0 0))], [bG a1]⟩)) (apc ((okT_of rfl (abl_cons rfl rfl)) : okT 1 [bG a1] = true) (apc (e8 : evH prg 1 [1, 6] ir12_l3 (L12_3_s a1 0) = some (.ret, ⟨fr 160 g8 [(2, (i6 160))], y8⟩)) apn))))))))))))) rfl (by kernel_rfl)
       | k1 =>
        obtain ⟨g8, e8⟩ := L12_3_run a1 0 _ h8
        refine bn h fun r9 h9 h => ?_
        cases r9 with
        | k0 =>
         obtain ⟨g9, y9, e9⟩ := L12_1_run a1 0 _ h9
         rw [← sj h]
         exact fpr (n := 30) [(12, .v (i6 (a1.sorts.length : Int))), (13, .d false), (17, .v (i6 (a1.sorts.length : Int))), (18, .d false), (23, .v (i6 (a1.prods.length : Int))), (24, .d false), (30, .v (vb true)), (2000, .l (.brk 0) ⟨fr 160 g6 [(1, (.ptr 0 0))], [bG a1]⟩), (2004, .l (.brk 4) ⟨fr 160 g7 [(1, (.ptr 0 0))], [bG a1]⟩), (2006, .l (.brk 6) ⟨fr 160 g8 [(1, (.ptr 0 0))], [bG a1]⟩), (2010, .l .ret ⟨fr 160 g9 [(2, (i6 160))], y9⟩), (6000, .d true)] (apc (lg a1.sorts eStr 1) (apc (cv h1) (apc (lg a1.sorts eStr 1) (apc (cv h2) (apc (lg a1.prods eProd 7) (apc (cv h3) (apc ((((F41_ok a1 h4).cp rfl _).trans (congrArg (fun z => some (vb z)) h5)) : CP prg 41 [(aG a1), (i6 a1.start)] [bG a1] = some (vb true)) (apc ((okT_of rfl (abl_cons rfl rfl)) : okT 1 [bG a1] = true) (apc (e6 : evH prg 1 [1, 3] ir12_l6 (L12_6_s a1 0) = some ((.brk 0), ⟨fr 160 g6 [(1, (.ptr 0 0))], [bG a1]⟩)) (apc ((okT_of rfl (abl_cons rfl rfl)) : okT 1 [bG a1] = true) (apc (e7 : evH prg 1 [1, 5] ir12_l4 (L12_4_s a1 0) = some ((.brk 4), ⟨fr 160 g7 [(1, (.ptr 0 0))], [bG a1]⟩)) (apc ((okT_of rfl (abl_cons rfl rfl)) : okT 1 [bG a1] = true) (apc (e8 : evH prg 1 [1, 6] ir12_l3 (L12_3_s a1 0) = some ((.brk 6), ⟨fr 160 g8 [(1, (.ptr 0 0))], [bG a1]⟩)) (apc ((okT_of rfl (abl_cons rfl rfl)) : okT 1 [bG a1] = true) (apc (e9 : evH prg 1 [1, 8] ir12_l1 (L12_1_s a1 0) = some (.ret, ⟨fr 160 g9 [(2, (i6 160))], y9⟩)) apn))))))))))))))) rfl (by kernel_rfl)
        | k1 =>
         obtain ⟨g9, e9⟩ := L12_1_run a1 0 _ h9
         rw [← sj h]
         exact fpr (n := 30) [(12, .v (i6 (a1.sorts.length : Int))), (13, .d false), (17, .v (i6 (a1.sorts.length : Int))), (18, .d false), (23, .v (i6 (a1.prods.length : Int))), (24, .d false), (30, .v (vb true)), (2000, .l (.brk 0) ⟨fr 160 g6 [(1, (.ptr 0 0))], [bG a1]⟩), (2004, .l (.brk 4) ⟨fr 160 g7 [(1, (.ptr 0 0))], [bG a1]⟩), (2006, .l (.brk 6) ⟨fr 160 g8 [(1, (.ptr 0 0))], [bG a1]⟩), (2010, .l (.brk 10) ⟨fr 160 g9 [(1, (.ptr 0 0))], [bG a1]⟩), (6000, .d true)] (apc (lg a1.sorts eStr 1) (apc (cv h1) (apc (lg a1.sorts eStr 1) (apc (cv h2) (apc (lg a1.prods eProd 7) (apc (cv h3) (apc ((((F41_ok a1 h4).cp rfl _).trans (congrArg (fun z => some (vb z)) h5)) : CP prg 41 [(aG a1), (i6 a1.start)] [bG a1] = some (vb true)) (apc ((okT_of rfl (abl_cons rfl rfl)) : okT 1 [bG a1] = true) (apc (e6 : evH prg 1 [1, 3] ir12_l6 (L12_6_s a1 0) = some ((.brk 0), ⟨fr 160 g6 [(1, (.ptr 0 0))], [bG a1]⟩)) (apc ((okT_of rfl (abl_cons rfl rfl)) : okT 1 [bG a1] = true) (apc (e7 : evH prg 1 [1, 5] ir12_l4 (L12_4_s a1 0) = some ((.brk 4), ⟨fr 160 g7 [(1, (.ptr 0 0))], [bG a1]⟩)) (apc ((okT_of rfl (abl_cons rfl rfl)) : okT 1 [bG a1] = true) (apc (e8 : evH prg 1 [1, 6] ir12_l3 (L12_3_s a1 0) = some ((.brk 6), ⟨fr 160 g8 [(1, (.ptr 0 0))], [bG a1]⟩)) (apc ((okT_of rfl (abl_cons rfl rfl)) : okT 1 [bG a1] = true) (apc (e9 : evH prg 1 [1, 8] ir12_l1 (L12_1_s a1 0) = some ((.brk 10), ⟨fr 160 g9 [(1, (.ptr 0 0))], [bG a1]⟩)) apn))))))))))))))) rfl (by kernel_rfl)
    ·
     rw [← sj h]
     exact fpr (n := 30) [(12, .v (i6 (a1.sorts.length : Int))), (13, .d false), (17, .v (i6 (a1.sorts.length : Int))), (18, .d false), (23, .v (i6 (a1.prods.length : Int))), (24, .d false), (30, .v (vb false))] (apc (lg a1.sorts eStr 1) (apc (cv h1) (apc (lg a1.sorts eStr 1) (apc (cv h2) (apc (lg a1.prods eProd 7) (apc (cv h3) (apc ((((F41_ok a1 h4).cp rfl _).trans (congrArg (fun z => some (vb z)) h5)) : CP prg 41 [(aG a1), (i6 a1.start)] [bG a1] = some (vb false)) apn))))))) rfl (by kernel_rfl)
inductive E_L16_2 where
  | k0 (x0 : List Int)
noncomputable def L16_2 (a1 : Nat) (v1 : Int) (v2 : List Int) : Option (E_L16_2 ⊕ (Int × (List Int))) :=
  (bif (decide (v1 < ((a1 : Nat) : Int))) then ((ixN a1 v1).bind fun x2 => ((v2[x2]?).bind fun x3 => (some (.inr ((IntKind.wrap .i64 (v1 + 1)), (v2.set x2 (-1))))))) else (some (.inl (.k0 v2))))
def L16_2_s (a1 : Nat) (a2 : GramD) (v1 : Int) (v2 : List Int) : St := ⟨fr 67 ug [(1, (.ptr 0 0)), (3, (.sl 2 0 1 0 a1)), (4, (i6 v1))], [bG a2, bI [], bI v2]⟩
def L16_2_x (a1 : Nat) (a2 : GramD) (e : E_L16_2) (r : Option (Out × St)) : Prop := match e with | .k0 x0 => ∃ g, r = some ((.brk 0), ⟨fr 67 g [(1, (.ptr 0 0)), (3, (.sl 2 0 1 0 a1))], [bG a2, bI [], bI x0]⟩)
theorem L16_2_ok (a1 : Nat) (a2 : GramD) (v1 : Int) (v2 : List Int) {r : E_L16_2 ⊕ (Int × (List Int))} (h : L16_2 a1 v1 v2 = some r) : OkR (fun e => L16_2_x a1 a2 e (evH prg 3 [1, 3, 4] ir16_l2 (L16_2_s a1 a2 v1 v2))) (fun s => evH prg 3 [1, 3, 4] ir16_l2 (L16_2_s a1 a2 v1 v2) = evH prg 3 [1, 3, 4] ir16_l2 (L16_2_s a1 a2 s.1 s.2)) r := by
 unfold L16_2 at h
 refine bi h (fun h1 h => ?_) fun h1 h => ?_
 ·
  refine bn h fun x2 h2 h => ?_
  refine bn h fun x3 h3 h => ?_
  rw [← sj h]
  exact rnd (n := 30) [(16, .d true), (21, .v (.rp 2 0 1 x2 0)), (1021, .r ud [bG a2, bI [], .row 3 1 0 (ra eI64 (v2.set x2 (-1)))]), (6000, .d true)] (apc (cv h1) (apc ((idx_sl h2) : idxA 1 (.sl 2 0 1 0 a1) (i6 v1) = some (.rp 2 0 1 x2 0)) (apc (⟨st_row (v' := (-1)) rfl h3 rfl rfl (Nat.le_of_ble_eq_true rfl) rfl, rfl⟩ : stA [bG a2, bI [], bI v2] 1 (.rp 2 0 1 x2 0) (i6 (-1)) = some [bG a2, bI [], .row 3 1 0 (ra eI64 (v2.set x2 (-1)))] ∧ ud = ud) (apc ((okT_of rfl (abl_cons rfl (abl_cons abl_row (abl_cons abl_row rfl)))) : okT 3 [bG a2, bI [], .row 3 1 0 (ra eI64 (v2.set x2 (-1)))] = true) apn)))) (by kernel_rfl)
 ·
  rw [← sj h]
  exact xbrk (n := 30) [(16, .d false), (6000, .d true)] (apc (cv h1) apn) (by kernel_rfl)
theorem L16_2_run (a1 : Nat) (a2 : GramD) (s0 : Int × (List Int)) (e : E_L16_2) (h : runL (fun s => L16_2 a1 s.1 s.2) s0 = some e) : L16_2_x a1 a2 e (evH prg 3 [1, 3, 4] ir16_l2 (L16_2_s a1 a2 s0.1 s0.2)) := by
  have q := @loop_sound' (Int × (List Int)) E_L16_2 (fun s => L16_2 a1 s.1 s.2) (fun s => evH prg 3 [1, 3, 4] ir16_l2 (L16_2_s a1 a2 s.1 s.2)) (L16_2_x a1 a2) (fun s r h => L16_2_ok a1 a2 s.1 s.2 h) s0 e h
  exact q
inductive E_L50_0 where
  | k0
  | k1 (x0 : Int)
noncomputable def L50_0 (a1 : List Int) (a2 : ProdD) (v1 : Int) (v2 : Int) : Option (E_L50_0 ⊕ (Int × Int)) :=
  (bif (decide (v2 < (a2.right.length : Int))) then ((getI a2.right v2).bind fun x2 => (bif (x2.kind == 1) then ((getI a1 x2.sort).bind fun x4 => (bif (decide (x4 < 0)) then (some (.inl (.k0))) else (some (.inr ((if 1048577 < (IntKind.wrap .i64 (v1 + x4)) then 1048577 else (IntKind.wrap .i64 (v1 + x4))), (IntKind.wrap .i64 (v2 + 1))))))) else (some (.inr ((if 1048577 < (IntKind.wrap .i64 (v1 + 1)) then 1048577 else (IntKind.wrap .i64 (v1 + 1))), (IntKind.wrap .i64 (v2 + 1))))))) else (some (.inl (.k1 v1))))
def L50_0_s (a1 : List Int) (a2 : ProdD) (v1 : Int) (v2 : Int) : St := ⟨fr 38 ug [(1, (.p (.lst 1 (a1.map eI64)))), (2, (.ptr 0 0)), (5, (i6 v1)), (6, (i6 v2))], [bP a2]⟩
def L50_0_x (a1 : List Int) (a2 : ProdD) (e : E_L50_0) (r : Option (Out × St)) : Prop := match e with | .k0 => ∃ g y, r = some (.ret, ⟨fr 38 g [(4, (i6 (-1)))], y⟩) | .k1 x0 => ∃ g, r = some ((.brk 0), ⟨fr 38 g [(5, (i6 x0))], [bP a2]⟩)
theorem L50_0_ok (a1 : List Int) (a2 : ProdD) (v1 : Int) (v2 : Int) {r : E_L50_0 ⊕ (Int × Int)} (h : L50_0 a1 a2 v1 v2 = some r) : OkR (fun e => L50_0_x a1 a2 e (evH prg 1 [1, 2, 5, 6] ir50_l0 (L50_0_s a1 a2 v1 v2))) (fun s => evH prg 1 [1, 2, 5, 6] ir50_l0 (L50_0_s a1 a2 v1 v2) = evH prg 1 [1, 2, 5, 6] ir50_l0 (L50_0_s a1 a2 s.1 s.2)) r := by
 unfold L50_0 at h
 refine bi h (fun h1 h => ?_) fun h1 h => ?_
 ·
  refine bn h fun x2 h2 h => ?_
  refine bi h (fun h3 h => ?_) fun h3 h => ?_
  ·
   refine bn h fun x4 h4 h => ?_
   refine bi h (fun h5 h => ?_) fun h5 h => ?_
   ·
    rw [← sj h]
    exact xretY (n := 30) [(11, .v (i6 (a2.right.length : Int))), (12, .d true), (18, .v (.ro (eSym x2))), (21, .d true), (26, .v (.ro (eSym x2))), (29, .v (.ro [.val (.int .i64 x4)])), (32, .d true), (6000, .d true)] (apc (lg a2.right eSym 6) (apc (cv h1) (apc (ig eSym 6 .i64 h2) (apc (cv h3) (apc (ig eSym 6 .i64 h2) (apc (ig eI64 1 .i64 h4) (apc (cv h5) apn))))))) (by kernel_rfl)
   ·
    rw [← sj h]
    exact rnd (n := 30) [(11, .v (i6 (a2.right.length : Int))), (12, .d true), (18, .v (.ro (eSym x2))), (21, .d true), (26, .v (.ro (eSym x2))), (29, .v (.ro [.val (.int .i64 x4)])), (32, .d false), (6000, .d true)] (apc (lg a2.right eSym 6) (apc (cv h1) (apc (ig eSym 6 .i64 h2) (apc (cv h3) (apc (ig eSym 6 .i64 h2) (apc (ig eI64 1 .i64 h4) (apc (cv h5) (apc ((okT_of rfl (abl_cons rfl rfl)) : okT 1 [bP a2] = true) apn)))))))) (by kernel_rfl)
  ·
   rw [← sj h]
   exact rnd (n := 30) [(11, .v (i6 (a2.right.length : Int))), (12, .d true), (18, .v (.ro (eSym x2))), (21, .d false), (6000, .d true)] (apc (lg a2.right eSym 6) (apc (cv h1) (apc (ig eSym 6 .i64 h2) (apc (cv h3) (apc ((okT_of rfl (abl_cons rfl rfl)) : okT 1 [bP a2] = true) apn))))) (by kernel_rfl)
 ·
  rw [← sj h]
  exact xbrk (n := 30) [(11, .v (i6 (a2.right.length : Int))), (12, .d false), (6000, .d true)] (apc (lg a2.right eSym 6) (apc (cv h1) apn)) (by kernel_rfl)
theorem L50_0_run (a1 : List Int) (a2 : ProdD) (s0 : Int × Int) (e : E_L50_0) (h : runL (fun s => L50_0 a1 a2 s.1 s.2) s0 = some e) : L50_0_x a1 a2 e (evH prg 1 [1, 2, 5, 6] ir50_l0 (L50_0_s a1 a2 s0.1 s0.2)) := by
  have q := @loop_sound' (Int × Int) E_L50_0 (fun s => L50_0 a1 a2 s.1 s.2) (fun s => evH prg 1 [1, 2, 5, 6] ir50_l0 (L50_0_s a1 a2 s.1 s.2)) (L50_0_x a1 a2) (fun s r h => L50_0_ok a1 a2 s.1 s.2 h) s0 e h
  exact q
noncomputable def F50 (a1 : ProdD) (a2 : List Int) : Option Int :=
  ((runL (fun s => L50_0 a2 a1 s.1 s.2) (0, 0)).bind fun r1 => match r1 with | .k0 => (some (-1)) | .k1 x1_0 => (some x1_0))
def F50_v (a1 : ProdD) (a2 : List Int) (x0 : Int) : AV := (i6 x0)
theorem F50_ok (a1 : ProdD) (a2 : List Int) {r : Int} (h : F50 a1 a2 = some r) : PR1 prg 50 [(aP a1), (.p (.lst 1 (a2.map eI64)))] (F50_v a1 a2 r) := by
 unfold F50 at h
 refine bn h fun r1 h1 h => ?_
 cases r1 with
 | k0 =>
  obtain ⟨g1, y1, e1⟩ := L50_0_run a2 a1 (0, 0) _ h1
  rw [← sj h]
  exact fpr (n := 30) [(2000, .l .ret ⟨fr 38 g1 [(4, (i6 (-1)))], y1⟩), (6000, .d true)] (apc ((okT_of rfl (abl_cons rfl rfl)) : okT 1 [bP a1] = true) (apc (e1 : evH prg 1 [1, 2, 5, 6] ir50_l0 (L50_0_s a2 a1 0 0) = some (.ret, ⟨fr 38 g1 [(4, (i6 (-1)))], y1⟩)) apn)) rfl (by kernel_rfl)
 | k1 x1_0 =>
  obtain ⟨g1, e1⟩ := L50_0_run a2 a1 (0, 0) _ h1
  rw [← sj h]
  exact fpr (n := 30) [(2000, .l (.brk 0) ⟨fr 38 g1 [(5, (i6 x1_0))], [bP a1]⟩), (6000, .d true)] (apc ((okT_of rfl (abl_cons rfl rfl)) : okT 1 [bP a1] = true) (apc (e1 : evH prg 1 [1, 2, 5, 6] ir50_l0 (L50_0_s a2 a1 0 0) = some ((.brk 0), ⟨fr 38 g1 [(5, (i6 x1_0))], [bP a1]⟩)) apn)) rfl (by kernel_rfl)
noncomputable def F51 (a1 : ProdD) : Option Bool :=
  (some (a1.role != 11))
def F51_v (a1 : ProdD) (x0 : Bool) : AV := (vb x0)
theorem F51_ok (a1 : ProdD) {r : Bool} (h : F51 a1 = some r) : PR1 prg 51 [(aP a1)] (F51_v a1 r) := by
 unfold F51 at h
 rw [← sj h]
 exact fpr (n := 30) [] apn rfl (by kernel_rfl)
end Go.Proofs.Tryd
