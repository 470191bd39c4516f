/- Decompiled by a program: functions as plain data see them, part 2. -/
import Derived.Test.YtefidjmkfefilaaDoorS15
namespace Go.Proofs.Tryd
set_option linter.unusedSimpArgs false
set_option linter.unusedVariables false
open Go Go.Vs
inductive E_L46_0 where
  | k0 (x0 : Bool) (x1 : List Int) (x2 : List Bool)
noncomputable def L46_0 (a1 : GramD) (a2 : Int) (a5 : Nat) (v1 : Bool) (v2 : Int) (v3 : List Int) (v4 : List Bool) : Option (E_L46_0 ⊕ (Bool × Int × (List Int) × (List Bool))) :=
  (bif (decide (v2 < a2)) then ((getI a1.prods v2).bind fun x2 => ((F54 x2).bind fun x3 => (bif x3 then ((F69 x2 v3 v4 a5).bind fun r5 => match r5 with | .k0 x5_0 x5_1 x5_2 => (bif x5_0 then (some (.inr (true, (IntKind.wrap .i64 (v2 + 1)), x5_1, x5_2))) else (some (.inr (v1, (IntKind.wrap .i64 (v2 + 1)), x5_1, x5_2))))) else (some (.inr (v1, (IntKind.wrap .i64 (v2 + 1)), v3, v4)))))) else (some (.inl (.k0 v1 v3 v4))))
def L46_0_s (a1 : GramD) (a2 : Int) (a5 : Nat) (v1 : Bool) (v2 : Int) (v3 : List Int) (v4 : List Bool) : St := ⟨fr 27 ug [(0, (.ptr 3 0)), (1, (.fn 69 [(.ptr 4 0)])), (4, (vb v1)), (11, (.p (.lst 7 (a1.prods.map eProd)))), (12, (i6 a2)), (13, (i6 v2))], [bG a1, bI v3, bB v4, .cells 93 (ap (eGram a1) [(.sl 1 0 1 0 a5), (.sl 2 0 1 0 a5)]), .cells 89 [(.ptr 3 0)]]⟩
def L46_0_x (a1 : GramD) (a2 : Int) (a5 : Nat) (e : E_L46_0) (r : Option (Out × St)) : Prop := match e with | .k0 x0 x1 x2 => ∃ g, r = some ((.brk 2), ⟨fr 27 g [(0, (.ptr 3 0)), (1, (.fn 69 [(.ptr 4 0)])), (4, (vb x0)), (11, (.p (.lst 7 (a1.prods.map eProd))))], [bG a1, bI x1, bB x2, .cells 93 (ap (eGram a1) [(.sl 1 0 1 0 a5), (.sl 2 0 1 0 a5)]), .cells 89 [(.ptr 3 0)]]⟩)
theorem L46_0_ok (a1 : GramD) (a2 : Int) (a5 : Nat) (v1 : Bool) (v2 : Int) (v3 : List Int) (v4 : List Bool) {r : E_L46_0 ⊕ (Bool × Int × (List Int) × (List Bool))} (h : L46_0 a1 a2 a5 v1 v2 v3 v4 = some r) : OkR (fun e => L46_0_x a1 a2 a5 e (evH prg 5 [0, 1, 4, 11, 12, 13] ir46_l0 (L46_0_s a1 a2 a5 v1 v2 v3 v4))) (fun s => evH prg 5 [0, 1, 4, 11, 12, 13] ir46_l0 (L46_0_s a1 a2 a5 v1 v2 v3 v4) = evH prg 5 [0, 1, 4, 11, 12, 13] ir46_l0 (L46_0_s a1 a2 a5 s.1 s.2.1 s.2.2.1 s.2.2.2)) r := by
 unfold L46_0 at h
 refine bi h (fun h1 h => ?_) fun h1 h => ?_
 ·
  refine bn h fun x2 h2 h => ?_
  refine bn h fun x3 h3 h => ?_
  refine bi h (fun h4 h => ?_) fun h4 h => ?_
  ·
   refine bn h fun r5 h5 h => ?_
   cases r5 with
   | k0 x5_0 x5_1 x5_2 =>
    refine bi h (fun h6 h => ?_) fun h6 h => ?_
    ·
     rw [← sj h]
     exact rnd (n := 30) [(14, .d true), (15, .v (.ro (eProd x2))), (18, .v (vb true)), (22, .r (vb true) [bG a1, bI x5_1, bB x5_2, .cells 93 (ap (eGram a1) [(.sl 1 0 1 0 a5), (.sl 2 0 1 0 a5)]), .cells 89 [(.ptr 3 0)], .row 48 6 0 (ra eSym []), bP x2, bP x2]), (6000, .d true)] (apc (cv h1) (apc (ig eProd 7 .i64 h2) (apc ((((F54_ok x2 h3).cp rfl _).trans (congrArg (fun z => some (vb z)) h4)) : CP prg 54 [(aP x2)] [bG a1, bI v3, bB v4, .cells 93 (ap (eGram a1) [(.sl 1 0 1 0 a5), (.sl 2 0 1 0 a5)]), .cells 89 [(.ptr 3 0)], .row 48 6 0 (ra eSym []), bP x2] = some (vb true)) (apc (((F69_ok x2 a1 v3 v4 a5 h5).trans (congrArg (fun z => some (vb z, ([bG a1, bI x5_1, bB x5_2, .cells 93 (ap (eGram a1) [(.sl 1 0 1 0 a5), (.sl 2 0 1 0 a5)]), .cells 89 [(.ptr 3 0)], .row 48 6 0 (ra eSym []), bP x2, bP x2] : List AB))) h6)) : CS prg 69 [(aP x2), (.ptr 4 0)] [bG a1, bI v3, bB v4, .cells 93 (ap (eGram a1) [(.sl 1 0 1 0 a5), (.sl 2 0 1 0 a5)]), .cells 89 [(.ptr 3 0)], .row 48 6 0 (ra eSym []), bP x2] = some (vb true, [bG a1, bI x5_1, bB x5_2, .cells 93 (ap (eGram a1) [(.sl 1 0 1 0 a5), (.sl 2 0 1 0 a5)]), .cells 89 [(.ptr 3 0)], .row 48 6 0 (ra eSym []), bP x2, bP x2])) (apc ((okT_of rfl (abl_cons rfl (abl_cons abl_row (abl_cons abl_row (abl_cons rfl (abl_cons rfl rfl)))))) : okT 5 [bG a1, bI x5_1, bB x5_2, .cells 93 (ap (eGram a1) [(.sl 1 0 1 0 a5), (.sl 2 0 1 0 a5)]), .cells 89 [(.ptr 3 0)], .row 48 6 0 (ra eSym []), bP x2, bP x2] = true) apn))))) (by kernel_rfl)
    ·
     rw [← sj h]
     exact rnd (n := 30) [(14, .d true), (15, .v (.ro (eProd x2))), (18, .v (vb true)), (22, .r (vb false) [bG a1, bI x5_1, bB x5_2, .cells 93 (ap (eGram a1) [(.sl 1 0 1 0 a5), (.sl 2 0 1 0 a5)]), .cells 89 [(.ptr 3 0)], .row 48 6 0 (ra eSym []), bP x2, bP x2]), (6000, .d true)] (apc (cv h1) (apc (ig eProd 7 .i64 h2) (apc ((((F54_ok x2 h3).cp rfl _).trans (congrArg (fun z => some (vb z)) h4)) : CP prg 54 [(aP x2)] [bG a1, bI v3, bB v4, .cells 93 (ap (eGram a1) [(.sl 1 0 1 0 a5), (.sl 2 0 1 0 a5)]), .cells 89 [(.ptr 3 0)], .row 48 6 0 (ra eSym []), bP x2] = some (vb true)) (apc (((F69_ok x2 a1 v3 v4 a5 h5).trans (congrArg (fun z => some (vb z, ([bG a1, bI x5_1, bB x5_2, .cells 93 (ap (eGram a1) [(.sl 1 0 1 0 a5), (.sl 2 0 1 0 a5)]), .cells 89 [(.ptr 3 0)], .row 48 6 0 (ra eSym []), bP x2, bP x2] : List AB))) h6)) : CS prg 69 [(aP x2), (.ptr 4 0)] [bG a1, bI v3, bB v4, .cells 93 (ap (eGram a1) [(.sl 1 0 1 0 a5), (.sl 2 0 1 0 a5)]), .cells 89 [(.ptr 3 0)], .row 48 6 0 (ra eSym []), bP x2] = some (vb false, [bG a1, bI x5_1, bB x5_2, .cells 93 (ap (eGram a1) [(.sl 1 0 1 0 a5), (.sl 2 0 1 0 a5)]), .cells 89 [(.ptr 3 0)], .row 48 6 0 (ra eSym []), bP x2, bP x2])) (apc ((okT_of rfl (abl_cons rfl (abl_cons abl_row (abl_cons abl_row (abl_cons rfl (abl_cons rfl rfl)))))) : okT 5 [bG a1, bI x5_1, bB x5_2, .cells 93 (ap (eGram a1) [(.sl 1 0 1 0 a5), (.sl 2 0 1 0 a5)]), .cells 89 [(.ptr 3 0)], .row 48 6 0 (ra eSym []), bP x2, bP x2] = true) apn))))) (by kernel_rfl)
  ·
   rw [← sj h]
   exact rnd (n := 30) [(14, .d true), (15, .v (.ro (eProd x2))), (18, .v (vb false)), (6000, .d true)] (apc (cv h1) (apc (ig eProd 7 .i64 h2) (apc ((((F54_ok x2 h3).cp rfl _).trans (congrArg (fun z => some (vb z)) h4)) : CP prg 54 [(aP x2)] [bG a1, bI v3, bB v4, .cells 93 (ap (eGram a1) [(.sl 1 0 1 0 a5), (.sl 2 0 1 0 a5)]), .cells 89 [(.ptr 3 0)], .row 48 6 0 (ra eSym []), bP x2] = some (vb false)) (apc ((okT_of rfl (abl_cons rfl (abl_cons abl_row (abl_cons abl_row (abl_cons rfl (abl_cons rfl rfl)))))) : okT 5 [bG a1, bI v3, bB v4, .cells 93 (ap (eGram a1) [(.sl 1 0 1 0 a5), (.sl 2 0 1 0 a5)]), .cells 89 [(.ptr 3 0)], .row 48 6 0 (ra eSym []), bP x2] = true) apn)))) (by kernel_rfl)
 ·
  rw [← sj h]
  exact xbrk (n := 30) [(14, .d false), (6000, .d true)] (apc (cv h1) apn) (by kernel_rfl)
theorem L46_0_run (a1 : GramD) (a2 : Int) (a5 : Nat) (s0 : Bool × Int × (List Int) × (List Bool)) (e : E_L46_0) (h : runL (fun s => L46_0 a1 a2 a5 s.1 s.2.1 s.2.2.1 s.2.2.2) s0 = some e) : L46_0_x a1 a2 a5 e (evH prg 5 [0, 1, 4, 11, 12, 13] ir46_l0 (L46_0_s a1 a2 a5 s0.1 s0.2.1 s0.2.2.1 s0.2.2.2)) := by
  have q := @loop_sound' (Bool × Int × (List Int) × (List Bool)) E_L46_0 (fun s => L46_0 a1 a2 a5 s.1 s.2.1 s.2.2.1 s.2.2.2) (fun s => evH prg 5 [0, 1, 4, 11, 12, 13] ir46_l0 (L46_0_s a1 a2 a5 s.1 s.2.1 s.2.2.1 s.2.2.2)) (L46_0_x a1 a2 a5) (fun s r h => L46_0_ok a1 a2 a5 s.1 s.2.1 s.2.2.1 s.2.2.2 h) s0 e h
  exact q
inductive E_L46_1 where
  | k0 (x0 : List Int) (x1 : List Bool)
noncomputable def L46_1 (a1 : GramD) (a4 : Nat) (v1 : List Int) (v2 : List Bool) : Option (E_L46_1 ⊕ ((List Int) × (List Bool))) :=
  ((runL (fun s => L46_0 a1 (a1.prods.length : Int) a4 s.1 s.2.1 s.2.2.1 s.2.2.2) (false, 0, v1, v2)).bind fun r1 => match r1 with | .k0 x1_0 x1_1 x1_2 => (bif x1_0 then (some (.inr (x1_1, x1_2))) else (some (.inl (.k0 x1_1 x1_2)))))
def L46_1_s (a1 : GramD) (a4 : Nat) (v1 : List Int) (v2 : List Bool) : St := ⟨fr 27 ug [(0, (.ptr 3 0)), (1, (.fn 69 [(.ptr 4 0)]))], [bG a1, bI v1, bB v2, .cells 93 (ap (eGram a1) [(.sl 1 0 1 0 a4), (.sl 2 0 1 0 a4)]), .cells 89 [(.ptr 3 0)]]⟩
def L46_1_x (a1 : GramD) (a4 : Nat) (e : E_L46_1) (r : Option (Out × St)) : Prop := match e with | .k0 x0 x1 => ∃ g, r = some ((.brk 0), ⟨fr 27 g [], [bG a1, bI x0, bB x1, .cells 93 (ap (eGram a1) [(.sl 1 0 1 0 a4), (.sl 2 0 1 0 a4)]), .cells 89 [(.ptr 3 0)]]⟩)
theorem L46_1_ok (a1 : GramD) (a4 : Nat) (v1 : List Int) (v2 : List Bool) {r : E_L46_1 ⊕ ((List Int) × (List Bool))} (h : L46_1 a1 a4 v1 v2 = some r) : OkR (fun e => L46_1_x a1 a4 e (evH prg 5 [0, 1] ir46_l1 (L46_1_s a1 a4 v1 v2))) (fun s => evH prg 5 [0, 1] ir46_l1 (L46_1_s a1 a4 v1 v2) = evH prg 5 [0, 1] ir46_l1 (L46_1_s a1 a4 s.1 s.2)) r := by
 unfold L46_1 at h
 refine bn h fun r1 h1 h => ?_
 cases r1 with
 | k0 x1_0 x1_1 x1_2 =>
  obtain ⟨g1, e1⟩ := L46_0_run a1 (a1.prods.length : Int) a4 (false, 0, v1, v2) _ h1
  refine bi h (fun h2 h => ?_) fun h2 h => ?_
  ·
   rw [← sj h]
   exact rnd (n := 30) [(12, .v (i6 (a1.prods.length : Int))), (2002, .l (.brk 2) ⟨fr 27 g1 [(0, (.ptr 3 0)), (1, (.fn 69 [(.ptr 4 0)])), (4, (vb x1_0)), (11, (.p (.lst 7 (a1.prods.map eProd))))], [bG a1, bI x1_1, bB x1_2, .cells 93 (ap (eGram a1) [(.sl 1 0 1 0 a4), (.sl 2 0 1 0 a4)]), .cells 89 [(.ptr 3 0)]]⟩), (25, .d true), (6000, .d true)] (apc (lg a1.prods eProd 7) (apc ((okT_of rfl (abl_cons rfl (abl_cons abl_row (abl_cons abl_row (abl_cons rfl (abl_cons rfl rfl)))))) : okT 5 [bG a1, bI v1, bB v2, .cells 93 (ap (eGram a1) [(.sl 1 0 1 0 a4), (.sl 2 0 1 0 a4)]), .cells 89 [(.ptr 3 0)]] = true) (apc (e1 : evH prg 5 [0, 1, 4, 11, 12, 13] ir46_l0 (L46_0_s a1 (a1.prods.length : Int) a4 false 0 v1 v2) = some ((.brk 2), ⟨fr 27 g1 [(0, (.ptr 3 0)), (1, (.fn 69 [(.ptr 4 0)])), (4, (vb x1_0)), (11, (.p (.lst 7 (a1.prods.map eProd))))], [bG a1, bI x1_1, bB x1_2, .cells 93 (ap (eGram a1) [(.sl 1 0 1 0 a4), (.sl 2 0 1 0 a4)]), .cells 89 [(.ptr 3 0)]]⟩)) (apc (cv h2) (apc ((okT_of rfl (abl_cons rfl (abl_cons abl_row (abl_cons abl_row (abl_cons rfl (abl_cons rfl rfl)))))) : okT 5 [bG a1, bI x1_1, bB x1_2, .cells 93 (ap (eGram a1) [(.sl 1 0 1 0 a4), (.sl 2 0 1 0 a4)]), .cells 89 [(.ptr 3 0)]] = true) apn))))) (by kernel_rfl)
  ·
   rw [← sj h]
   exact xbrk (n := 30) [(12, .v (i6 (a1.prods.length : Int))), (2002, .l (.brk 2) ⟨fr 27 g1 [(0, (.ptr 3 0)), (1, (.fn 69 [(.ptr 4 0)])), (4, (vb x1_0)), (11, (.p (.lst 7 (a1.prods.map eProd))))], [bG a1, bI x1_1, bB x1_2, .cells 93 (ap (eGram a1) [(.sl 1 0 1 0 a4), (.sl 2 0 1 0 a4)]), .cells 89 [(.ptr 3 0)]]⟩), (25, .d false), (6000, .d true)] (apc (lg a1.prods eProd 7) (apc ((okT_of rfl (abl_cons rfl (abl_cons abl_row (abl_cons abl_row (abl_cons rfl (abl_cons rfl rfl)))))) : okT 5 [bG a1, bI v1, bB v2, .cells 93 (ap (eGram a1) [(.sl 1 0 1 0 a4), (.sl 2 0 1 0 a4)]), .cells 89 [(.ptr 3 0)]] = true) (apc (e1 : evH prg 5 [0, 1, 4, 11, 12, 13] ir46_l0 (L46_0_s a1 (a1.prods.length : Int) a4 false 0 v1 v2) = some ((.brk 2), ⟨fr 27 g1 [(0, (.ptr 3 0)), (1, (.fn 69 [(.ptr 4 0)])), (4, (vb x1_0)), (11, (.p (.lst 7 (a1.prods.map eProd))))], [bG a1, bI x1_1, bB x1_2, .cells 93 (ap (eGram a1) [(.sl 1 0 1 0 a4), (.sl 2 0 1 0 a4)]), .cells 89 [(.ptr 3 0)]]⟩)) (apc (cv h2) apn)))) (by kernel_rfl)
theorem L46_1_run (a1 : GramD) (a4 : Nat) (s0 : (List Int) × (List Bool)) (e : E_L46_1) (h : runL (fun s => L46_1 a1 a4 s.1 s.2) s0 = some e) : L46_1_x a1 a4 e (evH prg 5 [0, 1] ir46_l1 (L46_1_s a1 a4 s0.1 s0.2)) := by
  have q := @loop_sound' ((List Int) × (List Bool)) E_L46_1 (fun s => L46_1 a1 a4 s.1 s.2) (fun s => evH prg 5 [0, 1] ir46_l1 (L46_1_s a1 a4 s.1 s.2)) (L46_1_x a1 a4) (fun s r h => L46_1_ok a1 a4 s.1 s.2 h) s0 e h
  exact q
inductive R_F46 where
  | k0 (x0 : List Int) (x1 : List Bool)
noncomputable def F46 (a1 : GramD) (a2 : List Int) (a3 : List Bool) (a4 : Nat) : Option R_F46 :=
  ((runL (fun s => L46_1 a1 a4 s.1 s.2) (a2, a3)).bind fun r1 => match r1 with | .k0 x1_0 x1_1 => (some (.k0 x1_0 x1_1)))
def F46_v (a1 : GramD) (a2 : List Int) (a3 : List Bool) (a4 : Nat) (r : R_F46) : AV := match r with | .k0 x0 x1 => (.tup [])
def F46_h (a1 : GramD) (a2 : List Int) (a3 : List Bool) (a4 : Nat) (r : R_F46) : List AB := match r with | .k0 x0 x1 => [bG a1, bI x0, bB x1, .cells 93 (ap (eGram a1) [(.sl 1 0 1 0 a4), (.sl 2 0 1 0 a4)]), .cells 89 [(.ptr 3 0)]]
theorem F46_ok (a1 : GramD) (a2 : List Int) (a3 : List Bool) (a4 : Nat) {r : R_F46} (h : F46 a1 a2 a3 a4 = some r) : CS prg 46 [(.ptr 3 0), (.fn 69 [(.ptr 4 0)])] [bG a1, bI a2, bB a3, .cells 93 (ap (eGram a1) [(.sl 1 0 1 0 a4), (.sl 2 0 1 0 a4)]), .cells 89 [(.ptr 3 0)]] = some (F46_v a1 a2 a3 a4 r, F46_h a1 a2 a3 a4 r) := by
 unfold F46 at h
 refine bn h fun r1 h1 h => ?_
 cases r1 with
 | k0 x1_0 x1_1 =>
  obtain ⟨g1, e1⟩ := L46_1_run a1 a4 (a2, a3) _ h1
  rw [← sj h]
  exact fcs (n := 30) [(2000, .l (.brk 0) ⟨fr 27 g1 [], [bG a1, bI x1_0, bB x1_1, .cells 93 (ap (eGram a1) [(.sl 1 0 1 0 a4), (.sl 2 0 1 0 a4)]), .cells 89 [(.ptr 3 0)]]⟩), (6000, .d true)] (apc ((okT_of rfl (abl_cons rfl (abl_cons abl_row (abl_cons abl_row (abl_cons rfl (abl_cons rfl rfl)))))) : okT 5 [bG a1, bI a2, bB a3, .cells 93 (ap (eGram a1) [(.sl 1 0 1 0 a4), (.sl 2 0 1 0 a4)]), .cells 89 [(.ptr 3 0)]] = true) (apc (e1 : evH prg 5 [0, 1] ir46_l1 (L46_1_s a1 a4 a2 a3) = some ((.brk 0), ⟨fr 27 g1 [], [bG a1, bI x1_0, bB x1_1, .cells 93 (ap (eGram a1) [(.sl 1 0 1 0 a4), (.sl 2 0 1 0 a4)]), .cells 89 [(.ptr 3 0)]]⟩)) apn)) (by kernel_rfl)
inductive R_F45 where
  | k0 (x0 : Int)
  | k1 (x0 : List ByteArray) (x1 : List ProdD) (x2 : Int) (x3 : List ForbD) (x4 : List FollD) (x5 : List Int) (x6 : List Bool)
noncomputable def F45 (a1 : GramD) : Option R_F45 :=
  ((F29 a1).bind fun x1 => (bif (x1 != 0) then (some (.k0 x1)) else (bif (mkOk (a1.sorts.length : Int) 8) then (bif (mkOk (a1.sorts.length : Int) 1) then ((runL (fun s => L45_0 (((Int.toNat (a1.sorts.length : Int)) : Nat) : Int) (Int.toNat (a1.sorts.length : Int)) s.1 s.2) (0, (List.replicate (Int.toNat (a1.sorts.length : Int)) 0))).bind fun r5 => match r5 with | .k0 x5_0 => ((F46 a1 x5_0 (List.replicate (Int.toNat (a1.sorts.length : Int)) false) (Int.toNat (a1.sorts.length : Int))).bind fun r6 => match r6 with | .k0 x6_0 x6_1 => (bif (decide ((Int.toNat (a1.sorts.length : Int)) ≤ x6_0.length)) then (bif (decide ((Int.toNat (a1.sorts.length : Int)) ≤ x6_1.length)) then (some (.k1 a1.sorts a1.prods a1.start a1.forbid a1.follow (x6_0.take (Int.toNat (a1.sorts.length : Int))) (x6_1.take (Int.toNat (a1.sorts.length : Int))))) else none) else none))) else none) else none)))
def F45_v (a1 : GramD) (r : R_F45) : AV := match r with | .k0 x0 => (.tup [(.p (.val (.pointer .none))), (i6 x0)]) | .k1 x0 x1 x2 x3 x4 x5 x6 => (.tup [(.ro [.lst 1 (x0.map eStr), .lst 7 (x1.map eProd), .val (.int .i64 x2), .lst 3 (x3.map eForb), .lst 5 (x4.map eFoll), .lst 1 (x5.map eI64), .lst 1 (x6.map eBool)]), (i6 0)])
theorem F45_ok (a1 : GramD) {r : R_F45} (h : F45 a1 = some r) : PR1 prg 45 [(aG a1)] (F45_v a1 r) := by
 unfold F45 at h
 refine bn h fun x1 h1 h => ?_
 refine bi h (fun h2 h => ?_) fun h2 h => ?_
 ·
  rw [← sj h]
  exact fpr (n := 30) [(8, .v (i6 x1)), (10, .d true)] (apc (((F29_ok a1 h1).cp rfl _) : CP prg 29 [(aG a1)] [bG a1] = some (i6 x1)) (apc (cv h2) apn)) rfl (by kernel_rfl)
 ·
  refine bi h (fun h3 h => ?_) fun h3 h => ?_
  ·
   refine bi h (fun h4 h => ?_) fun h4 h => ?_
   ·
    refine bn h fun r5 h5 h => ?_
    cases r5 with
    | k0 x5_0 =>
     obtain ⟨g5, e5⟩ := L45_0_run (((Int.toNat (a1.sorts.length : Int)) : Nat) : Int) a1 (List.replicate (Int.toNat (a1.sorts.length : Int)) false) (Int.toNat (a1.sorts.length : Int)) (0, (List.replicate (Int.toNat (a1.sorts.length : Int)) 0)) _ h5
     refine bn h fun r6 h6 h => ?_
     cases r6 with
     | k0 x6_0 x6_1 =>
      refine bi h (fun h7 h => ?_) fun h7 h => ?_
      ·
       refine bi h (fun h8 h => ?_) fun h8 h => ?_
       ·
        rw [← sj h]
        exact fpo (n := 30) (v := (.tup [(.ptr 3 0), (i6 0)])) (h' := [bG a1, bI x6_0, bB x6_1, .cells 93 (ap (eGram a1) [(.sl 1 0 1 0 (Int.toNat (a1.sorts.length : Int))), (.sl 2 0 1 0 (Int.toNat (a1.sorts.length : Int)))]), .cells 89 [(.ptr 3 0)]]) [(8, .v (i6 x1)), (10, .d false), (15, .v (i6 (a1.sorts.length : Int))), (16, .r (.sl 1 0 1 0 (Int.toNat (a1.sorts.length : Int))) [.row 3 1 0 (ra eI64 (List.replicate (Int.toNat (a1.sorts.length : Int)) 0))]), (19, .v (i6 (a1.sorts.length : Int))), (20, .r (.sl 2 0 1 0 (Int.toNat (a1.sorts.length : Int))) [.row 4 1 0 (ra eBool (List.replicate (Int.toNat (a1.sorts.length : Int)) false))]), (2000, .l (.brk 0) ⟨fr 42 g5 [(5, (.ptr 4 0))], [bG a1, bI x5_0, .row 4 1 0 (ra eBool (List.replicate (Int.toNat (a1.sorts.length : Int)) false)), .cells 93 (ap (eGram a1) [(.sl 1 0 1 0 (Int.toNat (a1.sorts.length : Int))), (.sl 2 0 1 0 (Int.toNat (a1.sorts.length : Int)))]), .cells 89 [(.ptr 3 0)]]⟩), (40, .r (.tup []) [bG a1, bI x6_0, bB x6_1, .cells 93 (ap (eGram a1) [(.sl 1 0 1 0 (Int.toNat (a1.sorts.length : Int))), (.sl 2 0 1 0 (Int.toNat (a1.sorts.length : Int)))]), .cells 89 [(.ptr 3 0)]]), (6000, .d true)] (apc (((F29_ok a1 h1).cp rfl _) : CP prg 29 [(aG a1)] [bG a1] = some (i6 x1)) (apc (cv h2) (apc (lg a1.sorts eStr 1) (apc ((mk_row (e := eI64) (z := 0) h3 rfl) : mkA 3 1 8 [.val (.int .i64 0)] (i6 (a1.sorts.length : Int)) (i6 (a1.sorts.length : Int)) 1 = some ((.sl 1 0 1 0 (Int.toNat (a1.sorts.length : Int))), .row 3 1 0 (ra eI64 (List.replicate (Int.toNat (a1.sorts.length : Int)) 0)))) (apc (lg a1.sorts eStr 1) (apc ((mk_row (e := eBool) (z := false) h4 rfl) : mkA 4 1 1 [.val (.bool false)] (i6 (a1.sorts.length : Int)) (i6 (a1.sorts.length : Int)) 2 = some ((.sl 2 0 1 0 (Int.toNat (a1.sorts.length : Int))), .row 4 1 0 (ra eBool (List.replicate (Int.toNat (a1.sorts.length : Int)) false)))) (apc ((okT_of rfl (abl_cons rfl (abl_cons abl_row (abl_cons abl_row (abl_cons rfl (abl_cons rfl rfl)))))) : okT 5 [bG a1, .row 3 1 0 (ra eI64 (List.replicate (Int.toNat (a1.sorts.length : Int)) 0)), .row 4 1 0 (ra eBool (List.replicate (Int.toNat (a1.sorts.length : Int)) false)), .cells 93 (ap (eGram a1) [(.sl 1 0 1 0 (Int.toNat (a1.sorts.length : Int))), (.sl 2 0 1 0 (Int.toNat (a1.sorts.length : Int)))]), .cells 89 [(.ptr 3 0)]] = true) (apc (e5 : evH prg 5 [5, 27, 28] ir45_l0 (L45_0_s (((Int.toNat (a1.sorts.length : Int)) : Nat) : Int) a1 (List.replicate (Int.toNat (a1.sorts.length : Int)) false) (Int.toNat (a1.sorts.length : Int)) 0 (List.replicate (Int.toNat (a1.sorts.length : Int)) 0)) = some ((.brk 0), ⟨fr 42 g5 [(5, (.ptr 4 0))], [bG a1, bI x5_0, .row 4 1 0 (ra eBool (List.replicate (Int.toNat (a1.sorts.length : Int)) false)), .cells 93 (ap (eGram a1) [(.sl 1 0 1 0 (Int.toNat (a1.sorts.length : Int))), (.sl 2 0 1 0 (Int.toNat (a1.sorts.length : Int)))]), .cells 89 [(.ptr 3 0)]]⟩)) (apc ((F46_ok a1 x5_0 (List.replicate (Int.toNat (a1.sorts.length : Int)) false) (Int.toNat (a1.sorts.length : Int)) h6) : CS prg 46 [(.ptr 3 0), (.fn 69 [(.ptr 4 0)])] [bG a1, bI x5_0, .row 4 1 0 (ra eBool (List.replicate (Int.toNat (a1.sorts.length : Int)) false)), .cells 93 (ap (eGram a1) [(.sl 1 0 1 0 (Int.toNat (a1.sorts.length : Int))), (.sl 2 0 1 0 (Int.toNat (a1.sorts.length : Int)))]), .cells 89 [(.ptr 3 0)]] = some ((.tup []), [bG a1, bI x6_0, bB x6_1, .cells 93 (ap (eGram a1) [(.sl 1 0 1 0 (Int.toNat (a1.sorts.length : Int))), (.sl 2 0 1 0 (Int.toNat (a1.sorts.length : Int)))]), .cells 89 [(.ptr 3 0)]])) apn))))))))) (purA_tup (purAs_cons (purA_ptr rfl (mapO_con rfl (mapO_con rfl (mapO_con rfl (mapO_con rfl (mapO_con rfl (mapO_con (purP_sl rfl h7) (mapO_con (purP_sl rfl h8) rfl)))))))) (purAs_cons rfl purAs_nil))) (by kernel_rfl)
       ·
        cases h
      ·
       cases h
   ·
    cases h
  ·
   cases h
inductive E_L20_0 where
  | k0 (x0 : List Bool)
noncomputable def L20_0 (a1 : Nat) (a2 : List Int) (a3 : Int) (v1 : Int) (v2 : List Bool) : Option (E_L20_0 ⊕ (Int × (List Bool))) :=
  (bif (decide (v1 < a3)) then ((getI a2 v1).bind fun x2 => ((ixN a1 v1).bind fun x3 => ((v2[x3]?).bind fun x4 => (some (.inr ((IntKind.wrap .i64 (v1 + 1)), (v2.set x3 (decide (x2 ≥ 0))))))))) else (some (.inl (.k0 v2))))
def L20_0_s (a1 : Nat) (a2 : List Int) (a3 : Int) (a4 : GramD) (v1 : Int) (v2 : List Bool) : St := ⟨fr 38 ug [(6, (.sl 2 0 1 0 a1)), (24, (.p (.lst 1 (a2.map eI64)))), (25, (i6 a3)), (26, (i6 v1))], [bG a4, bB [], bB v2]⟩
def L20_0_x (a1 : Nat) (a2 : List Int) (a3 : Int) (a4 : GramD) (e : E_L20_0) (r : Option (Out × St)) : Prop := match e with | .k0 x0 => ∃ g, r = some ((.brk 0), ⟨fr 38 g [(6, (.sl 2 0 1 0 a1)), (24, (.p (.lst 1 (a2.map eI64))))], [bG a4, bB [], bB x0]⟩)
theorem L20_0_ok (a1 : Nat) (a2 : List Int) (a3 : Int) (a4 : GramD) (v1 : Int) (v2 : List Bool) {r : E_L20_0 ⊕ (Int × (List Bool))} (h : L20_0 a1 a2 a3 v1 v2 = some r) : OkR (fun e => L20_0_x a1 a2 a3 a4 e (evH prg 3 [6, 24, 25, 26] ir20_l0 (L20_0_s a1 a2 a3 a4 v1 v2))) (fun s => evH prg 3 [6, 24, 25, 26] ir20_l0 (L20_0_s a1 a2 a3 a4 v1 v2) = evH prg 3 [6, 24, 25, 26] ir20_l0 (L20_0_s a1 a2 a3 a4 s.1 s.2)) r := by
 unfold L20_0 at h
 refine bi h (fun h1 h => ?_) fun h1 h => ?_
 ·
  refine bn h fun x2 h2 h => ?_
  refine bn h fun x3 h3 h => ?_
  refine bn h fun x4 h4 h => ?_
  rw [← sj h]
  exact rnd (n := 30) [(27, .d true), (29, .v (.ro [.val (.int .i64 x2)])), (35, .v (.rp 2 0 1 x3 0)), (1035, .r ud [bG a4, bB [], .row 4 1 0 (ra eBool (v2.set x3 (decide (x2 ≥ 0))))]), (6000, .d true)] (apc (cv h1) (apc (ig eI64 1 .i64 h2) (apc ((idx_sl h3) : idxA 1 (.sl 2 0 1 0 a1) (i6 v1) = some (.rp 2 0 1 x3 0)) (apc (⟨st_row (v' := (decide (x2 ≥ 0))) rfl h4 rfl rfl (Nat.le_of_ble_eq_true rfl) rfl, rfl⟩ : stA [bG a4, bB [], bB v2] 1 (.rp 2 0 1 x3 0) (vb (decide (x2 ≥ 0))) = some [bG a4, bB [], .row 4 1 0 (ra eBool (v2.set x3 (decide (x2 ≥ 0))))] ∧ ud = ud) (apc ((okT_of rfl (abl_cons rfl (abl_cons abl_row (abl_cons abl_row rfl)))) : okT 3 [bG a4, bB [], .row 4 1 0 (ra eBool (v2.set x3 (decide (x2 ≥ 0))))] = true) apn))))) (by kernel_rfl)
 ·
  rw [← sj h]
  exact xbrk (n := 30) [(27, .d false), (6000, .d true)] (apc (cv h1) apn) (by kernel_rfl)
theorem L20_0_run (a1 : Nat) (a2 : List Int) (a3 : Int) (a4 : GramD) (s0 : Int × (List Bool)) (e : E_L20_0) (h : runL (fun s => L20_0 a1 a2 a3 s.1 s.2) s0 = some e) : L20_0_x a1 a2 a3 a4 e (evH prg 3 [6, 24, 25, 26] ir20_l0 (L20_0_s a1 a2 a3 a4 s0.1 s0.2)) := by
  have q := @loop_sound' (Int × (List Bool)) E_L20_0 (fun s => L20_0 a1 a2 a3 s.1 s.2) (fun s => evH prg 3 [6, 24, 25, 26] ir20_l0 (L20_0_s a1 a2 a3 a4 s.1 s.2)) (L20_0_x a1 a2 a3 a4) (fun s r h => L20_0_ok a1 a2 a3 a4 s.1 s.2 h) s0 e h
  exact q
inductive R_F20 where
  | k0 (x0 : List Bool) (x1 : Int)
noncomputable def F20 (a1 : GramD) : Option R_F20 :=
  ((F45 a1).bind fun r1 => match r1 with | .k0 x1_0 => (bif (x1_0 != 0) then (some (.k0 ([]) x1_0)) else (bif (mkOk (a1.sorts.length : Int) 1) then none else none)) | .k1 x1_0 x1_1 x1_2 x1_3 x1_4 x1_5 x1_6 => (bif (mkOk (a1.sorts.length : Int) 1) then ((runL (fun s => L20_0 (Int.toNat (a1.sorts.length : Int)) x1_5 (x1_5.length : Int) s.1 s.2) (0, (List.replicate (Int.toNat (a1.sorts.length : Int)) false))).bind fun r3 => match r3 with | .k0 x3_0 => (bif (decide ((Int.toNat (a1.sorts.length : Int)) ≤ x3_0.length)) then (some (.k0 (x3_0.take (Int.toNat (a1.sorts.length : Int))) 0)) else none)) else none))
def F20_v (a1 : GramD) (r : R_F20) : AV := match r with | .k0 x0 x1 => (.tup [(.p (.lst 1 (x0.map eBool))), (i6 x1)])
theorem F20_ok (a1 : GramD) {r : R_F20} (h : F20 a1 = some r) : PR1 prg 20 [(aG a1)] (F20_v a1 r) := by
 unfold F20 at h
 refine bn h fun r1 h1 h => ?_
 cases r1 with
 | k0 x1_0 =>
  refine bi h (fun h2 h => ?_) fun h2 h => ?_
  ·
   rw [← sj h]
   exact fpo (n := 30) (v := (.tup [(.sl 2 0 1 0 0), (i6 x1_0)])) (h' := [bG a1, bB [], bB []]) [(11, .v (.tup [(.p (.val (.pointer .none))), (i6 x1_0)])), (15, .d true)] (apc (((F45_ok a1 h1).cp rfl _) : CP prg 45 [(aG a1)] [bG a1, bB []] = some (.tup [(.p (.val (.pointer .none))), (i6 x1_0)])) (apc (cv h2) apn)) (purA_tup (purAs_cons (purA_sl (xs := []) rfl rfl) (purAs_cons rfl purAs_nil))) (by kernel_rfl)
  ·
   refine bi h (fun h3 h => ?_) fun h3 h => ?_
   ·
    cases h
   ·
    cases h
 | k1 x1_0 x1_1 x1_2 x1_3 x1_4 x1_5 x1_6 =>
  refine bi h (fun h2 h => ?_) fun h2 h => ?_
  ·
   refine bn h fun r3 h3 h => ?_
   cases r3 with
   | k0 x3_0 =>
    obtain ⟨g3, e3⟩ := L20_0_run (Int.toNat (a1.sorts.length : Int)) x1_5 (x1_5.length : Int) a1 (0, (List.replicate (Int.toNat (a1.sorts.length : Int)) false)) _ h3
    refine bi h (fun h4 h => ?_) fun h4 h => ?_
    ·
     rw [← sj h]
     exact fpo (n := 30) (v := (.tup [(.sl 2 0 1 0 (Int.toNat (a1.sorts.length : Int))), (i6 0)])) (h' := [bG a1, bB [], bB x3_0]) [(11, .v (.tup [(.ro [.lst 1 (x1_0.map eStr), .lst 7 (x1_1.map eProd), .val (.int .i64 x1_2), .lst 3 (x1_3.map eForb), .lst 5 (x1_4.map eFoll), .lst 1 (x1_5.map eI64), .lst 1 (x1_6.map eBool)]), (i6 0)])), (19, .v (i6 (a1.sorts.length : Int))), (20, .r (.sl 2 0 1 0 (Int.toNat (a1.sorts.length : Int))) [bG a1, bB [], .row 4 1 0 (ra eBool (List.replicate (Int.toNat (a1.sorts.length : Int)) false))]), (25, .v (i6 (x1_5.length : Int))), (2000, .l (.brk 0) ⟨fr 38 g3 [(6, (.sl 2 0 1 0 (Int.toNat (a1.sorts.length : Int)))), (24, (.p (.lst 1 (x1_5.map eI64))))], [bG a1, bB [], bB x3_0]⟩), (6000, .d true)] (apc (((F45_ok a1 h1).cp rfl _) : CP prg 45 [(aG a1)] [bG a1, bB []] = some (.tup [(.ro [.lst 1 (x1_0.map eStr), .lst 7 (x1_1.map eProd), .val (.int .i64 x1_2), .lst 3 (x1_3.map eForb), .lst 5 (x1_4.map eFoll), .lst 1 (x1_5.map eI64), .lst 1 (x1_6.map eBool)]), (i6 0)])) (apc (lg a1.sorts eStr 1) (apc ((mk_row' (h := [bG a1, bB []]) (e := eBool) (z := false) h2 rfl) : (mkA 4 1 1 [.val (.bool false)] (i6 (a1.sorts.length : Int)) (i6 (a1.sorts.length : Int)) 2).map (fun x => (x.1, [bG a1, bB []] ++ [x.2])) = some ((.sl 2 0 1 0 (Int.toNat (a1.sorts.length : Int))), [bG a1, bB [], .row 4 1 0 (ra eBool (List.replicate (Int.toNat (a1.sorts.length : Int)) false))])) (apc (lg x1_5 eI64 1) (apc ((okT_of rfl (abl_cons rfl (abl_cons abl_row (abl_cons abl_row rfl)))) : okT 3 [bG a1, bB [], .row 4 1 0 (ra eBool (List.replicate (Int.toNat (a1.sorts.length : Int)) false))] = true) (apc (e3 : evH prg 3 [6, 24, 25, 26] ir20_l0 (L20_0_s (Int.toNat (a1.sorts.length : Int)) x1_5 (x1_5.length : Int) a1 0 (List.replicate (Int.toNat (a1.sorts.length : Int)) false)) = some ((.brk 0), ⟨fr 38 g3 [(6, (.sl 2 0 1 0 (Int.toNat (a1.sorts.length : Int)))), (24, (.p (.lst 1 (x1_5.map eI64))))], [bG a1, bB [], bB x3_0]⟩)) apn)))))) (purA_tup (purAs_cons (purA_sl rfl h4) (purAs_cons rfl purAs_nil))) (by kernel_rfl)
    ·
     cases h
  ·
   cases h
inductive R_F53 where
  | nil
noncomputable def F53 : Option R_F53 :=
  none
def F53_v (r : R_F53) : AV := match r with | .nil => .und
theorem F53_ok {r : R_F53} (h : F53 = some r) : PR1 prg 53 [(.p (.val (.pointer .none))), (.fn 54 [])] (F53_v r) := by
 unfold F53 at h
 cases h
noncomputable def F54_2 (a1 : ProdD) : Option Bool :=
  (some (a1.role != 11))
def F54_2_v (a1 : ProdD) (a2 : List Bool) (a3 : Nat) (a4 : SymD) (x0 : Bool) : AV := (vb x0)
def F54_2_h (a1 : ProdD) (a2 : List Bool) (a3 : Nat) (a4 : SymD) (x0 : Bool) : List AB := [.cells 100 [(.fn 54 [])], bB [], bB a2, bB [], .cells 56 [(.sl 2 0 1 0 a3)], .row 48 6 0 (ra eSym []), bP a1, bP a1, .cells 48 ((eSym a4).map .p), bP a1]
theorem F54_2_ok (a1 : ProdD) (a2 : List Bool) (a3 : Nat) (a4 : SymD) {r : Bool} (h : F54_2 a1 = some r) : CS prg 54 [(aP a1)] [.cells 100 [(.fn 54 [])], bB [], bB a2, bB [], .cells 56 [(.sl 2 0 1 0 a3)], .row 48 6 0 (ra eSym []), bP a1, bP a1, .cells 48 ((eSym a4).map .p)] = some (F54_2_v a1 a2 a3 a4 r, F54_2_h a1 a2 a3 a4 r) := by
 unfold F54_2 at h
 rw [← sj h]
 exact fcs (n := 30) [] apn (by kernel_rfl)
inductive E_L72_0 where
  | k0 (x0 : Bool) (x1 : List Bool)
noncomputable def L72_0 (a1 : ProdD) (a2 : Int) (a4 : Nat) (v1 : Bool) (v2 : Int) (v3 : List Bool) : Option (E_L72_0 ⊕ (Bool × Int × (List Bool))) :=
  (bif (decide (v2 < a2)) then ((getI a1.right v2).bind fun x2 => (bif (x2.kind == 1) then ((ixN a4 a1.left).bind fun x4 => ((v3[x4]?).bind fun x5 => (bif x5 then ((F54_2 a1).bind fun x7 => (bif x7 then ((ixN a4 x2.sort).bind fun x9 => ((v3[x9]?).bind fun x10 => (bif x10 then (some (.inr (v1, (IntKind.wrap .i64 (v2 + 1)), v3))) else (some (.inr (true, (IntKind.wrap .i64 (v2 + 1)), (v3.set x9 true))))))) else (some (.inr (v1, (IntKind.wrap .i64 (v2 + 1)), v3))))) else (some (.inr (v1, (IntKind.wrap .i64 (v2 + 1)), v3)))))) else (some (.inr (v1, (IntKind.wrap .i64 (v2 + 1)), v3))))) else (some (.inl (.k0 v1 v3))))
def L72_0_s (a1 : ProdD) (a2 : Int) (a4 : Nat) (v1 : Bool) (v2 : Int) (v3 : List Bool) : St := ⟨fr 44 ug [(1, (.ptr 4 0)), (2, (.ptr 0 0)), (3, (.ptr 7 0)), (5, (vb v1)), (9, (.p (.lst 6 (a1.right.map eSym)))), (10, (i6 a2)), (11, (i6 v2))], [.cells 100 [(.fn 54 [])], bB [], bB v3, bB [], .cells 56 [(.sl 2 0 1 0 a4)], .row 48 6 0 (ra eSym []), bP a1, bP a1]⟩
def L72_0_x (a1 : ProdD) (a2 : Int) (a4 : Nat) (e : E_L72_0) (r : Option (Out × St)) : Prop := match e with | .k0 x0 x1 => ∃ g, r = some ((.brk 0), ⟨fr 44 g [(3, (.ptr 7 0)), (5, (vb x0)), (9, (.p (.lst 6 (a1.right.map eSym))))], [.cells 100 [(.fn 54 [])], bB [], bB x1, bB [], .cells 56 [(.sl 2 0 1 0 a4)], .row 48 6 0 (ra eSym []), bP a1, bP a1]⟩)
theorem L72_0_ok (a1 : ProdD) (a2 : Int) (a4 : Nat) (v1 : Bool) (v2 : Int) (v3 : List Bool) {r : E_L72_0 ⊕ (Bool × Int × (List Bool))} (h : L72_0 a1 a2 a4 v1 v2 v3 = some r) : OkR (fun e => L72_0_x a1 a2 a4 e (evH prg 8 [1, 2, 3, 5, 9, 10, 11] ir72_l0 (L72_0_s a1 a2 a4 v1 v2 v3))) (fun s => evH prg 8 [1, 2, 3, 5, 9, 10, 11] ir72_l0 (L72_0_s a1 a2 a4 v1 v2 v3) = evH prg 8 [1, 2, 3, 5, 9, 10, 11] ir72_l0 (L72_0_s a1 a2 a4 s.1 s.2.1 s.2.2)) r := by
 unfold L72_0 at h
 refine bi h (fun h1 h => ?_) fun h1 h => ?_
 ·
  refine bn h fun x2 h2 h => ?_
  refine bi h (fun h3 h => ?_) fun h3 h => ?_
  ·
   refine bn h fun x4 h4 h => ?_
   refine bn h fun x5 h5 h => ?_
   refine bi h (fun h6 h => ?_) fun h6 h => ?_
   ·
    refine bn h fun x7 h7 h => ?_
    refine bi h (fun h8 h => ?_) fun h8 h => ?_
    ·
     refine bn h fun x9 h9 h => ?_
     refine bn h fun x10 h10 h => ?_
     refine bi h (fun h11 h => ?_) fun h11 h => ?_
     ·
      rw [← sj h]
      exact rnd (n := 30) [(12, .d true), (13, .v (.ro (eSym x2))), (17, .d true), (22, .v (.rp 2 0 1 x4 0)), (23, .v (vb true)), (28, .r (vb true) [.cells 100 [(.fn 54 [])], bB [], bB v3, bB [], .cells 56 [(.sl 2 0 1 0 a4)], .row 48 6 0 (ra eSym []), bP a1, bP a1, .cells 48 ((eSym x2).map .p), bP a1]), (34, .v (.rp 2 0 1 x9 0)), (35, .v (vb true)), (6000, .d true)] (apc (cv h1) (apc (ig eSym 6 .i64 h2) (apc (cv h3) (apc ((idx_sl h4) : idxA 1 (.sl 2 0 1 0 a4) (i6 a1.left) = some (.rp 2 0 1 x4 0)) (apc (((ld_row (V := vb x5) rfl h5 rfl).trans (congrArg (fun z => some (vb z)) h6)) : ldA [.cells 100 [(.fn 54 [])], bB [], bB v3, bB [], .cells 56 [(.sl 2 0 1 0 a4)], .row 48 6 0 (ra eSym []), bP a1, bP a1, .cells 48 ((eSym x2).map .p)] .false 1 (.rp 2 0 1 x4 0) = some (vb true)) (apc (((F54_2_ok a1 v3 a4 x2 h7).trans (congrArg (fun z => some (vb z, ([.cells 100 [(.fn 54 [])], bB [], bB v3, bB [], .cells 56 [(.sl 2 0 1 0 a4)], .row 48 6 0 (ra eSym []), bP a1, bP a1, .cells 48 ((eSym x2).map .p), bP a1] : List AB))) h8)) : CS prg 54 [(aP a1)] [.cells 100 [(.fn 54 [])], bB [], bB v3, bB [], .cells 56 [(.sl 2 0 1 0 a4)], .row 48 6 0 (ra eSym []), bP a1, bP a1, .cells 48 ((eSym x2).map .p)] = some (vb true, [.cells 100 [(.fn 54 [])], bB [], bB v3, bB [], .cells 56 [(.sl 2 0 1 0 a4)], .row 48 6 0 (ra eSym []), bP a1, bP a1, .cells 48 ((eSym x2).map .p), bP a1])) (apc ((idx_sl h9) : idxA 1 (.sl 2 0 1 0 a4) (i6 x2.sort) = some (.rp 2 0 1 x9 0)) (apc (((ld_row (V := vb x10) rfl h10 rfl).trans (congrArg (fun z => some (vb z)) h11)) : ldA [.cells 100 [(.fn 54 [])], bB [], bB v3, bB [], .cells 56 [(.sl 2 0 1 0 a4)], .row 48 6 0 (ra eSym []), bP a1, bP a1, .cells 48 ((eSym x2).map .p), bP a1] .false 1 (.rp 2 0 1 x9 0) = some (vb true)) (apc ((okT_of rfl (abl_cons rfl (abl_cons abl_row (abl_cons abl_row (abl_cons abl_row (abl_cons rfl (abl_cons abl_row (abl_cons rfl (abl_cons rfl rfl))))))))) : okT 8 [.cells 100 [(.fn 54 [])], bB [], bB v3, bB [], .cells 56 [(.sl 2 0 1 0 a4)], .row 48 6 0 (ra eSym []), bP a1, bP a1, .cells 48 ((eSym x2).map .p), bP a1] = true) apn))))))))) (by kernel_rfl)
     ·
      rw [← sj h]
      exact rnd (n := 30) [(12, .d true), (13, .v (.ro (eSym x2))), (17, .d true), (22, .v (.rp 2 0 1 x4 0)), (23, .v (vb true)), (28, .r (vb true) [.cells 100 [(.fn 54 [])], bB [], bB v3, bB [], .cells 56 [(.sl 2 0 1 0 a4)], .row 48 6 0 (ra eSym []), bP a1, bP a1, .cells 48 ((eSym x2).map .p), bP a1]), (34, .v (.rp 2 0 1 x9 0)), (35, .v (vb false)), (41, .v (.rp 2 0 1 x9 0)), (1041, .r ud [.cells 100 [(.fn 54 [])], bB [], .row 4 1 0 (ra eBool (v3.set x9 true)), bB [], .cells 56 [(.sl 2 0 1 0 a4)], .row 48 6 0 (ra eSym []), bP a1, bP a1, .cells 48 ((eSym x2).map .p), bP a1]), (6000, .d true)] (apc (cv h1) (apc (ig eSym 6 .i64 h2) (apc (cv h3) (apc ((idx_sl h4) : idxA 1 (.sl 2 0 1 0 a4) (i6 a1.left) = some (.rp 2 0 1 x4 0)) (apc (((ld_row (V := vb x5) rfl h5 rfl).trans (congrArg (fun z => some (vb z)) h6)) : ldA [.cells 100 [(.fn 54 [])], bB [], bB v3, bB [], .cells 56 [(.sl 2 0 1 0 a4)], .row 48 6 0 (ra eSym []), bP a1, bP a1, .cells 48 ((eSym x2).map .p)] .false 1 (.rp 2 0 1 x4 0) = some (vb true)) (apc (((F54_2_ok a1 v3 a4 x2 h7).trans (congrArg (fun z => some (vb z, ([.cells 100 [(.fn 54 [])], bB [], bB v3, bB [], .cells 56 [(.sl 2 0 1 0 a4)], .row 48 6 0 (ra eSym []), bP a1, bP a1, .cells 48 ((eSym x2).map .p), bP a1] : List AB))) h8)) : CS prg 54 [(aP a1)] [.cells 100 [(.fn 54 [])], bB [], bB v3, bB [], .cells 56 [(.sl 2 0 1 0 a4)], .row 48 6 0 (ra eSym []), bP a1, bP a1, .cells 48 ((eSym x2).map .p)] = some (vb true, [.cells 100 [(.fn 54 [])], bB [], bB v3, bB [], .cells 56 [(.sl 2 0 1 0 a4)], .row 48 6 0 (ra eSym []), bP a1, bP a1, .cells 48 ((eSym x2).map .p), bP a1])) (apc ((idx_sl h9) : idxA 1 (.sl 2 0 1 0 a4) (i6 x2.sort) = some (.rp 2 0 1 x9 0)) (apc (((ld_row (V := vb x10) rfl h10 rfl).trans (congrArg (fun z => some (vb z)) h11)) : ldA [.cells 100 [(.fn 54 [])], bB [], bB v3, bB [], .cells 56 [(.sl 2 0 1 0 a4)], .row 48 6 0 (ra eSym []), bP a1, bP a1, .cells 48 ((eSym x2).map .p), bP a1] .false 1 (.rp 2 0 1 x9 0) = some (vb false)) (apc ((idx_sl h9) : idxA 1 (.sl 2 0 1 0 a4) (i6 x2.sort) = some (.rp 2 0 1 x9 0)) (apc (⟨st_row (v' := true) rfl h10 rfl rfl (Nat.le_of_ble_eq_true rfl) rfl, rfl⟩ : stA [.cells 100 [(.fn 54 [])], bB [], bB v3, bB [], .cells 56 [(.sl 2 0 1 0 a4)], .row 48 6 0 (ra eSym []), bP a1, bP a1, .cells 48 ((eSym x2).map .p), bP a1] 1 (.rp 2 0 1 x9 0) (vb true) = some [.cells 100 [(.fn 54 [])], bB [], .row 4 1 0 (ra eBool (v3.set x9 true)), bB [], .cells 56 [(.sl 2 0 1 0 a4)], .row 48 6 0 (ra eSym []), bP a1, bP a1, .cells 48 ((eSym x2).map .p), bP a1] ∧ ud = ud) (apc ((okT_of rfl (abl_cons rfl (abl_cons abl_row (abl_cons abl_row (abl_cons abl_row (abl_cons rfl (abl_cons abl_row (abl_cons rfl (abl_cons rfl rfl))))))))) : okT 8 [.cells 100 [(.fn 54 [])], bB [], .row 4 1 0 (ra eBool (v3.set x9 true)), bB [], .cells 56 [(.sl 2 0 1 0 a4)], .row 48 6 0 (ra eSym []), bP a1, bP a1, .cells 48 ((eSym x2).map .p), bP a1] = true) apn))))))))))) (by kernel_rfl)
    ·
     rw [← sj h]
     exact rnd (n := 30) [(12, .d true), (13, .v (.ro (eSym x2))), (17, .d true), (22, .v (.rp 2 0 1 x4 0)), (23, .v (vb true)), (28, .r (vb false) [.cells 100 [(.fn 54 [])], bB [], bB v3, bB [], .cells 56 [(.sl 2 0 1 0 a4)], .row 48 6 0 (ra eSym []), bP a1, bP a1, .cells 48 ((eSym x2).map .p), bP a1]), (6000, .d true)] (apc (cv h1) (apc (ig eSym 6 .i64 h2) (apc (cv h3) (apc ((idx_sl h4) : idxA 1 (.sl 2 0 1 0 a4) (i6 a1.left) = some (.rp 2 0 1 x4 0)) (apc (((ld_row (V := vb x5) rfl h5 rfl).trans (congrArg (fun z => some (vb z)) h6)) : ldA [.cells 100 [(.fn 54 [])], bB [], bB v3, bB [], .cells 56 [(.sl 2 0 1 0 a4)], .row 48 6 0 (ra eSym []), bP a1, bP a1, .cells 48 ((eSym x2).map .p)] .false 1 (.rp 2 0 1 x4 0) = some (vb true)) (apc (((F54_2_ok a1 v3 a4 x2 h7).trans (congrArg (fun z => some (vb z, ([.cells 100 [(.fn 54 [])], bB [], bB v3, bB [], .cells 56 [(.sl 2 0 1 0 a4)], .row 48 6 0 (ra eSym []), bP a1, bP a1, .cells 48 ((eSym x2).map .p), bP a1] : List AB))) h8)) : CS prg 54 [(aP a1)] [.cells 100 [(.fn 54 [])], bB [], bB v3, bB [], .cells 56 [(.sl 2 0 1 0 a4)], .row 48 6 0 (ra eSym []), bP a1, bP a1, .cells 48 ((eSym x2).map .p)] = some (vb false, [.cells 100 [(.fn 54 [])], bB [], bB v3, bB [], .cells 56 [(.sl 2 0 1 0 a4)], .row 48 6 0 (ra eSym []), bP a1, bP a1, .cells 48 ((eSym x2).map .p), bP a1])) (apc ((okT_of rfl (abl_cons rfl (abl_cons abl_row (abl_cons abl_row (abl_cons abl_row (abl_cons rfl (abl_cons abl_row (abl_cons rfl (abl_cons rfl rfl))))))))) : okT 8 [.cells 100 [(.fn 54 [])], bB [], bB v3, bB [], .cells 56 [(.sl 2 0 1 0 a4)], .row 48 6 0 (ra eSym []), bP a1, bP a1, .cells 48 ((eSym x2).map .p), bP a1] = true) apn))))))) (by kernel_rfl)
   ·
    rw [← sj h]
    exact rnd (n := 30) [(12, .d true), (13, .v (.ro (eSym x2))), (17, .d true), (22, .v (.rp 2 0 1 x4 0)), (23, .v (vb false)), (6000, .d true)] (apc (cv h1) (apc (ig eSym 6 .i64 h2) (apc (cv h3) (apc ((idx_sl h4) : idxA 1 (.sl 2 0 1 0 a4) (i6 a1.left) = some (.rp 2 0 1 x4 0)) (apc (((ld_row (V := vb x5) rfl h5 rfl).trans (congrArg (fun z => some (vb z)) h6)) : ldA [.cells 100 [(.fn 54 [])], bB [], bB v3, bB [], .cells 56 [(.sl 2 0 1 0 a4)], .row 48 6 0 (ra eSym []), bP a1, bP a1, .cells 48 ((eSym x2).map .p)] .false 1 (.rp 2 0 1 x4 0) = some (vb false)) (apc ((okT_of rfl (abl_cons rfl (abl_cons abl_row (abl_cons abl_row (abl_cons abl_row (abl_cons rfl (abl_cons abl_row (abl_cons rfl (abl_cons rfl rfl))))))))) : okT 8 [.cells 100 [(.fn 54 [])], bB [], bB v3, bB [], .cells 56 [(.sl 2 0 1 0 a4)], .row 48 6 0 (ra eSym []), bP a1, bP a1, .cells 48 ((eSym x2).map .p)] = true) apn)))))) (by kernel_rfl)
  ·
   rw [← sj h]
   exact rnd (n := 30) [(12, .d true), (13, .v (.ro (eSym x2))), (17, .d false), (6000, .d true)] (apc (cv h1) (apc (ig eSym 6 .i64 h2) (apc (cv h3) (apc ((okT_of rfl (abl_cons rfl (abl_cons abl_row (abl_cons abl_row (abl_cons abl_row (abl_cons rfl (abl_cons abl_row (abl_cons rfl (abl_cons rfl rfl))))))))) : okT 8 [.cells 100 [(.fn 54 [])], bB [], bB v3, bB [], .cells 56 [(.sl 2 0 1 0 a4)], .row 48 6 0 (ra eSym []), bP a1, bP a1, .cells 48 ((eSym x2).map .p)] = true) apn)))) (by kernel_rfl)
 ·
  rw [← sj h]
  exact xbrk (n := 30) [(12, .d false), (6000, .d true)] (apc (cv h1) apn) (by kernel_rfl)
theorem L72_0_run (a1 : ProdD) (a2 : Int) (a4 : Nat) (s0 : Bool × Int × (List Bool)) (e : E_L72_0) (h : runL (fun s => L72_0 a1 a2 a4 s.1 s.2.1 s.2.2) s0 = some e) : L72_0_x a1 a2 a4 e (evH prg 8 [1, 2, 3, 5, 9, 10, 11] ir72_l0 (L72_0_s a1 a2 a4 s0.1 s0.2.1 s0.2.2)) := by
  have q := @loop_sound' (Bool × Int × (List Bool)) E_L72_0 (fun s => L72_0 a1 a2 a4 s.1 s.2.1 s.2.2) (fun s => evH prg 8 [1, 2, 3, 5, 9, 10, 11] ir72_l0 (L72_0_s a1 a2 a4 s.1 s.2.1 s.2.2)) (L72_0_x a1 a2 a4) (fun s r h => L72_0_ok a1 a2 a4 s.1 s.2.1 s.2.2 h) s0 e h
  exact q
inductive R_F72 where
  | k0 (x0 : Bool) (x1 : List Bool)
noncomputable def F72 (a1 : ProdD) (a2 : List Bool) (a3 : Nat) : Option R_F72 :=
  ((runL (fun s => L72_0 a1 (a1.right.length : Int) a3 s.1 s.2.1 s.2.2) (false, 0, a2)).bind fun r1 => match r1 with | .k0 x1_0 x1_1 => (some (.k0 x1_0 x1_1)))
def F72_v (a1 : ProdD) (a2 : List Bool) (a3 : Nat) (r : R_F72) : AV := match r with | .k0 x0 x1 => (vb x0)
def F72_h (a1 : ProdD) (a2 : List Bool) (a3 : Nat) (r : R_F72) : List AB := match r with | .k0 x0 x1 => [.cells 100 [(.fn 54 [])], bB [], bB x1, bB [], .cells 56 [(.sl 2 0 1 0 a3)], .row 48 6 0 (ra eSym []), bP a1, bP a1]
theorem F72_ok (a1 : ProdD) (a2 : List Bool) (a3 : Nat) {r : R_F72} (h : F72 a1 a2 a3 = some r) : CS prg 72 [(aP a1), (.ptr 4 0), (.ptr 0 0)] [.cells 100 [(.fn 54 [])], bB [], bB a2, bB [], .cells 56 [(.sl 2 0 1 0 a3)], .row 48 6 0 (ra eSym []), bP a1] = some (F72_v a1 a2 a3 r, F72_h a1 a2 a3 r) := by
 unfold F72 at h
 refine bn h fun r1 h1 h => ?_
 cases r1 with
 | k0 x1_0 x1_1 =>
  obtain ⟨g1, e1⟩ := L72_0_run a1 (a1.right.length : Int) a3 (false, 0, a2) _ h1
  rw [← sj h]
  exact fcs (n := 30) [(10, .v (i6 (a1.right.length : Int))), (2000, .l (.brk 0) ⟨fr 44 g1 [(3, (.ptr 7 0)), (5, (vb x1_0)), (9, (.p (.lst 6 (a1.right.map eSym))))], [.cells 100 [(.fn 54 [])], bB [], bB x1_1, bB [], .cells 56 [(.sl 2 0 1 0 a3)], .row 48 6 0 (ra eSym []), bP a1, bP a1]⟩), (6000, .d true)] (apc (lg a1.right eSym 6) (apc ((okT_of rfl (abl_cons rfl (abl_cons abl_row (abl_cons abl_row (abl_cons abl_row (abl_cons rfl (abl_cons abl_row (abl_cons rfl (abl_cons rfl rfl))))))))) : okT 8 [.cells 100 [(.fn 54 [])], bB [], bB a2, bB [], .cells 56 [(.sl 2 0 1 0 a3)], .row 48 6 0 (ra eSym []), bP a1, bP a1] = true) (apc (e1 : evH prg 8 [1, 2, 3, 5, 9, 10, 11] ir72_l0 (L72_0_s a1 (a1.right.length : Int) a3 false 0 a2) = some ((.brk 0), ⟨fr 44 g1 [(3, (.ptr 7 0)), (5, (vb x1_0)), (9, (.p (.lst 6 (a1.right.map eSym))))], [.cells 100 [(.fn 54 [])], bB [], bB x1_1, bB [], .cells 56 [(.sl 2 0 1 0 a3)], .row 48 6 0 (ra eSym []), bP a1, bP a1]⟩)) apn))) (by kernel_rfl)
inductive E_L46_0_2 where
  | k0 (x0 : Bool) (x1 : List Bool)
noncomputable def L46_0_2 (a1 : GramD) (a4 : Int) (a6 : Nat) (v1 : Bool) (v2 : Int) (v3 : List Bool) : Option (E_L46_0_2 ⊕ (Bool × Int × (List Bool))) :=
  (bif (decide (v2 < a4)) then ((getI a1.prods v2).bind fun x2 => ((F54 x2).bind fun x3 => (bif x3 then ((F72 x2 v3 a6).bind fun r5 => match r5 with | .k0 x5_0 x5_1 => (bif x5_0 then (some (.inr (true, (IntKind.wrap .i64 (v2 + 1)), x5_1))) else (some (.inr (v1, (IntKind.wrap .i64 (v2 + 1)), x5_1))))) else (some (.inr (v1, (IntKind.wrap .i64 (v2 + 1)), v3)))))) else (some (.inl (.k0 v1 v3))))
def L46_0_2_s (a1 : GramD) (a2 : List Int) (a3 : List Bool) (a4 : Int) (a6 : Nat) (v1 : Bool) (v2 : Int) (v3 : List Bool) : St := ⟨fr 27 ug [(0, (.ro ((eGram a1) ++ [.lst 1 (a2.map eI64), .lst 1 (a3.map eBool)]))), (1, (.fn 72 [(.ptr 4 0), (.ptr 0 0)])), (4, (vb v1)), (11, (.p (.lst 7 (a1.prods.map eProd)))), (12, (i6 a4)), (13, (i6 v2))], [.cells 100 [(.fn 54 [])], bB [], bB v3, bB [], .cells 56 [(.sl 2 0 1 0 a6)]]⟩
def L46_0_2_x (a1 : GramD) (a2 : List Int) (a3 : List Bool) (a4 : Int) (a6 : Nat) (e : E_L46_0_2) (r : Option (Out × St)) : Prop := match e with | .k0 x0 x1 => ∃ g, r = some ((.brk 2), ⟨fr 27 g [(0, (.ro ((eGram a1) ++ [.lst 1 (a2.map eI64), .lst 1 (a3.map eBool)]))), (1, (.fn 72 [(.ptr 4 0), (.ptr 0 0)])), (4, (vb x0)), (11, (.p (.lst 7 (a1.prods.map eProd))))], [.cells 100 [(.fn 54 [])], bB [], bB x1, bB [], .cells 56 [(.sl 2 0 1 0 a6)]]⟩)
theorem L46_0_2_ok (a1 : GramD) (a2 : List Int) (a3 : List Bool) (a4 : Int) (a6 : Nat) (v1 : Bool) (v2 : Int) (v3 : List Bool) {r : E_L46_0_2 ⊕ (Bool × Int × (List Bool))} (h : L46_0_2 a1 a4 a6 v1 v2 v3 = some r) : OkR (fun e => L46_0_2_x a1 a2 a3 a4 a6 e (evH prg 5 [0, 1, 4, 11, 12, 13] ir46_l0 (L46_0_2_s a1 a2 a3 a4 a6 v1 v2 v3))) (fun s => evH prg 5 [0, 1, 4, 11, 12, 13] ir46_l0 (L46_0_2_s a1 a2 a3 a4 a6 v1 v2 v3) = evH prg 5 [0, 1, 4, 11, 12, 13] ir46_l0 (L46_0_2_s a1 a2 a3 a4 a6 s.1 s.2.1 s.2.2)) r := by
 unfold L46_0_2 at h
 refine bi h (fun h1 h => ?_) fun h1 h => ?_
 ·
  refine bn h fun x2 h2 h => ?_
  refine bn h fun x3 h3 h => ?_
  refine bi h (fun h4 h => ?_) fun h4 h => ?_
  ·
   refine bn h fun r5 h5 h => ?_
   cases r5 with
   | k0 x5_0 x5_1 =>
    refine bi h (fun h6 h => ?_) fun h6 h => ?_
    ·
     rw [← sj h]
     exact rnd (n := 30) [(14, .d true), (15, .v (.ro (eProd x2))), (18, .v (vb true)), (22, .r (vb true) [.cells 100 [(.fn 54 [])], bB [], bB x5_1, bB [], .cells 56 [(.sl 2 0 1 0 a6)], .row 48 6 0 (ra eSym []), bP x2, bP x2]), (6000, .d true)] (apc (cv h1) (apc (ig eProd 7 .i64 h2) (apc ((((F54_ok x2 h3).cp rfl _).trans (congrArg (fun z => some (vb z)) h4)) : CP prg 54 [(aP x2)] [.cells 100 [(.fn 54 [])], bB [], bB v3, bB [], .cells 56 [(.sl 2 0 1 0 a6)], .row 48 6 0 (ra eSym []), bP x2] = some (vb true)) (apc (((F72_ok x2 v3 a6 h5).trans (congrArg (fun z => some (vb z, ([.cells 100 [(.fn 54 [])], bB [], bB x5_1, bB [], .cells 56 [(.sl 2 0 1 0 a6)], .row 48 6 0 (ra eSym []), bP x2, bP x2] : List AB))) h6)) : CS prg 72 [(aP x2), (.ptr 4 0), (.ptr 0 0)] [.cells 100 [(.fn 54 [])], bB [], bB v3, bB [], .cells 56 [(.sl 2 0 1 0 a6)], .row 48 6 0 (ra eSym []), bP x2] = some (vb true, [.cells 100 [(.fn 54 [])], bB [], bB x5_1, bB [], .cells 56 [(.sl 2 0 1 0 a6)], .row 48 6 0 (ra eSym []), bP x2, bP x2])) (apc ((okT_of rfl (abl_cons rfl (abl_cons abl_row (abl_cons abl_row (abl_cons abl_row (abl_cons rfl rfl)))))) : okT 5 [.cells 100 [(.fn 54 [])], bB [], bB x5_1, bB [], .cells 56 [(.sl 2 0 1 0 a6)], .row 48 6 0 (ra eSym []), bP x2, bP x2] = true) apn))))) (by kernel_rfl)
    ·
     rw [← sj h]
     exact rnd (n := 30) [(14, .d true), (15, .v (.ro (eProd x2))), (18, .v (vb true)), (22, .r (vb false) [.cells 100 [(.fn 54 [])], bB [], bB x5_1, bB [], .cells 56 [(.sl 2 0 1 0 a6)], .row 48 6 0 (ra eSym []), bP x2, bP x2]), (6000, .d true)] (apc (cv h1) (apc (ig eProd 7 .i64 h2) (apc ((((F54_ok x2 h3).cp rfl _).trans (congrArg (fun z => some (vb z)) h4)) : CP prg 54 [(aP x2)] [.cells 100 [(.fn 54 [])], bB [], bB v3, bB [], .cells 56 [(.sl 2 0 1 0 a6)], .row 48 6 0 (ra eSym []), bP x2] = some (vb true)) (apc (((F72_ok x2 v3 a6 h5).trans (congrArg (fun z => some (vb z, ([.cells 100 [(.fn 54 [])], bB [], bB x5_1, bB [], .cells 56 [(.sl 2 0 1 0 a6)], .row 48 6 0 (ra eSym []), bP x2, bP x2] : List AB))) h6)) : CS prg 72 [(aP x2), (.ptr 4 0), (.ptr 0 0)] [.cells 100 [(.fn 54 [])], bB [], bB v3, bB [], .cells 56 [(.sl 2 0 1 0 a6)], .row 48 6 0 (ra eSym []), bP x2] = some (vb false, [.cells 100 [(.fn 54 [])], bB [], bB x5_1, bB [], .cells 56 [(.sl 2 0 1 0 a6)], .row 48 6 0 (ra eSym []), bP x2, bP x2])) (apc ((okT_of rfl (abl_cons rfl (abl_cons abl_row (abl_cons abl_row (abl_cons abl_row (abl_cons rfl rfl)))))) : okT 5 [.cells 100 [(.fn 54 [])], bB [], bB x5_1, bB [], .cells 56 [(.sl 2 0 1 0 a6)], .row 48 6 0 (ra eSym []), bP x2, bP x2] = true) apn))))) (by kernel_rfl)
  ·
   rw [← sj h]
   exact rnd (n := 30) [(14, .d true), (15, .v (.ro (eProd x2))), (18, .v (vb false)), (6000, .d true)] (apc (cv h1) (apc (ig eProd 7 .i64 h2) (apc ((((F54_ok x2 h3).cp rfl _).trans (congrArg (fun z => some (vb z)) h4)) : CP prg 54 [(aP x2)] [.cells 100 [(.fn 54 [])], bB [], bB v3, bB [], .cells 56 [(.sl 2 0 1 0 a6)], .row 48 6 0 (ra eSym []), bP x2] = some (vb false)) (apc ((okT_of rfl (abl_cons rfl (abl_cons abl_row (abl_cons abl_row (abl_cons abl_row (abl_cons rfl rfl)))))) : okT 5 [.cells 100 [(.fn 54 [])], bB [], bB v3, bB [], .cells 56 [(.sl 2 0 1 0 a6)], .row 48 6 0 (ra eSym []), bP x2] = true) apn)))) (by kernel_rfl)
 ·
  rw [← sj h]
  exact xbrk (n := 30) [(14, .d false), (6000, .d true)] (apc (cv h1) apn) (by kernel_rfl)
theorem L46_0_2_run (a1 : GramD) (a2 : List Int) (a3 : List Bool) (a4 : Int) (a6 : Nat) (s0 : Bool × Int × (List Bool)) (e : E_L46_0_2) (h : runL (fun s => L46_0_2 a1 a4 a6 s.1 s.2.1 s.2.2) s0 = some e) : L46_0_2_x a1 a2 a3 a4 a6 e (evH prg 5 [0, 1, 4, 11, 12, 13] ir46_l0 (L46_0_2_s a1 a2 a3 a4 a6 s0.1 s0.2.1 s0.2.2)) := by
  have q := @loop_sound' (Bool × Int × (List Bool)) E_L46_0_2 (fun s => L46_0_2 a1 a4 a6 s.1 s.2.1 s.2.2) (fun s => evH prg 5 [0, 1, 4, 11, 12, 13] ir46_l0 (L46_0_2_s a1 a2 a3 a4 a6 s.1 s.2.1 s.2.2)) (L46_0_2_x a1 a2 a3 a4 a6) (fun s r h => L46_0_2_ok a1 a2 a3 a4 a6 s.1 s.2.1 s.2.2 h) s0 e h
  exact q
inductive E_L46_1_3 where
  | k0 (x0 : List Bool)
noncomputable def L46_1_3 (a1 : GramD) (a5 : Nat) (v1 : List Bool) : Option (E_L46_1_3 ⊕ ((List Bool))) :=
  ((runL (fun s => L46_0_2 a1 (a1.prods.length : Int) a5 s.1 s.2.1 s.2.2) (false, 0, v1)).bind fun r1 => match r1 with | .k0 x1_0 x1_1 => (bif x1_0 then (some (.inr (x1_1))) else (some (.inl (.k0 x1_1)))))
def L46_1_3_s (a1 : GramD) (a2 : List Int) (a3 : List Bool) (a5 : Nat) (v1 : List Bool) : St := ⟨fr 27 ug [(0, (.ro ((eGram a1) ++ [.lst 1 (a2.map eI64), .lst 1 (a3.map eBool)]))), (1, (.fn 72 [(.ptr 4 0), (.ptr 0 0)]))], [.cells 100 [(.fn 54 [])], bB [], bB v1, bB [], .cells 56 [(.sl 2 0 1 0 a5)]]⟩
def L46_1_3_x (a1 : GramD) (a2 : List Int) (a3 : List Bool) (a5 : Nat) (e : E_L46_1_3) (r : Option (Out × St)) : Prop := match e with | .k0 x0 => ∃ g, r = some ((.brk 0), ⟨fr 27 g [], [.cells 100 [(.fn 54 [])], bB [], bB x0, bB [], .cells 56 [(.sl 2 0 1 0 a5)]]⟩)
theorem L46_1_3_ok (a1 : GramD) (a2 : List Int) (a3 : List Bool) (a5 : Nat) (v1 : List Bool) {r : E_L46_1_3 ⊕ ((List Bool))} (h : L46_1_3 a1 a5 v1 = some r) : OkR (fun e => L46_1_3_x a1 a2 a3 a5 e (evH prg 5 [0, 1] ir46_l1 (L46_1_3_s a1 a2 a3 a5 v1))) (fun s => evH prg 5 [0, 1] ir46_l1 (L46_1_3_s a1 a2 a3 a5 v1) = evH prg 5 [0, 1] ir46_l1 (L46_1_3_s a1 a2 a3 a5 s)) r := by
 unfold L46_1_3 at h
 refine bn h fun r1 h1 h => ?_
 cases r1 with
 | k0 x1_0 x1_1 =>
  obtain ⟨g1, e1⟩ := L46_0_2_run a1 a2 a3 (a1.prods.length : Int) a5 (false, 0, v1) _ h1
  refine bi h (fun h2 h => ?_) fun h2 h => ?_
  ·
   rw [← sj h]
   exact rnd (n := 30) [(12, .v (i6 (a1.prods.length : Int))), (2002, .l (.brk 2) ⟨fr 27 g1 [(0, (.ro ((eGram a1) ++ [.lst 1 (a2.map eI64), .lst 1 (a3.map eBool)]))), (1, (.fn 72 [(.ptr 4 0), (.ptr 0 0)])), (4, (vb x1_0)), (11, (.p (.lst 7 (a1.prods.map eProd))))], [.cells 100 [(.fn 54 [])], bB [], bB x1_1, bB [], .cells 56 [(.sl 2 0 1 0 a5)]]⟩), (25, .d true), (6000, .d true)] (apc (lg a1.prods eProd 7) (apc ((okT_of rfl (abl_cons rfl (abl_cons abl_row (abl_cons abl_row (abl_cons abl_row (abl_cons rfl rfl)))))) : okT 5 [.cells 100 [(.fn 54 [])], bB [], bB v1, bB [], .cells 56 [(.sl 2 0 1 0 a5)]] = true) (apc (e1 : evH prg 5 [0, 1, 4, 11, 12, 13] ir46_l0 (L46_0_2_s a1 a2 a3 (a1.prods.length : Int) a5 false 0 v1) = some ((.brk 2), ⟨fr 27 g1 [(0, (.ro ((eGram a1) ++ [.lst 1 (a2.map eI64), .lst 1 (a3.map eBool)]))), (1, (.fn 72 [(.ptr 4 0), (.ptr 0 0)])), (4, (vb x1_0)), (11, (.p (.lst 7 (a1.prods.map eProd))))], [.cells 100 [(.fn 54 [])], bB [], bB x1_1, bB [], .cells 56 [(.sl 2 0 1 0 a5)]]⟩)) (apc (cv h2) (apc ((okT_of rfl (abl_cons rfl (abl_cons abl_row (abl_cons abl_row (abl_cons abl_row (abl_cons rfl rfl)))))) : okT 5 [.cells 100 [(.fn 54 [])], bB [], bB x1_1, bB [], .cells 56 [(.sl 2 0 1 0 a5)]] = true) apn))))) (by kernel_rfl)
  ·
   rw [← sj h]
   exact xbrk (n := 30) [(12, .v (i6 (a1.prods.length : Int))), (2002, .l (.brk 2) ⟨fr 27 g1 [(0, (.ro ((eGram a1) ++ [.lst 1 (a2.map eI64), .lst 1 (a3.map eBool)]))), (1, (.fn 72 [(.ptr 4 0), (.ptr 0 0)])), (4, (vb x1_0)), (11, (.p (.lst 7 (a1.prods.map eProd))))], [.cells 100 [(.fn 54 [])], bB [], bB x1_1, bB [], .cells 56 [(.sl 2 0 1 0 a5)]]⟩), (25, .d false), (6000, .d true)] (apc (lg a1.prods eProd 7) (apc ((okT_of rfl (abl_cons rfl (abl_cons abl_row (abl_cons abl_row (abl_cons abl_row (abl_cons rfl rfl)))))) : okT 5 [.cells 100 [(.fn 54 [])], bB [], bB v1, bB [], .cells 56 [(.sl 2 0 1 0 a5)]] = true) (apc (e1 : evH prg 5 [0, 1, 4, 11, 12, 13] ir46_l0 (L46_0_2_s a1 a2 a3 (a1.prods.length : Int) a5 false 0 v1) = some ((.brk 2), ⟨fr 27 g1 [(0, (.ro ((eGram a1) ++ [.lst 1 (a2.map eI64), .lst 1 (a3.map eBool)]))), (1, (.fn 72 [(.ptr 4 0), (.ptr 0 0)])), (4, (vb x1_0)), (11, (.p (.lst 7 (a1.prods.map eProd))))], [.cells 100 [(.fn 54 [])], bB [], bB x1_1, bB [], .cells 56 [(.sl 2 0 1 0 a5)]]⟩)) (apc (cv h2) apn)))) (by kernel_rfl)
theorem L46_1_3_run (a1 : GramD) (a2 : List Int) (a3 : List Bool) (a5 : Nat) (s0 : (List Bool)) (e : E_L46_1_3) (h : runL (fun s => L46_1_3 a1 a5 s) s0 = some e) : L46_1_3_x a1 a2 a3 a5 e (evH prg 5 [0, 1] ir46_l1 (L46_1_3_s a1 a2 a3 a5 s0)) := by
  have q := @loop_sound' ((List Bool)) E_L46_1_3 (fun s => L46_1_3 a1 a5 s) (fun s => evH prg 5 [0, 1] ir46_l1 (L46_1_3_s a1 a2 a3 a5 s)) (L46_1_3_x a1 a2 a3 a5) (fun s r h => L46_1_3_ok a1 a2 a3 a5 s h) s0 e h
  exact q
noncomputable def F46_3 (a1 : GramD) (a4 : List Bool) (a5 : Nat) : Option (List Bool) :=
  ((runL (fun s => L46_1_3 a1 a5 s) a4).bind fun r1 => match r1 with | .k0 x1_0 => (some x1_0))
def F46_3_v (a1 : GramD) (a2 : List Int) (a3 : List Bool) (a4 : List Bool) (a5 : Nat) (x0 : (List Bool)) : AV := (.tup [])
def F46_3_h (a1 : GramD) (a2 : List Int) (a3 : List Bool) (a4 : List Bool) (a5 : Nat) (x0 : (List Bool)) : List AB := [.cells 100 [(.fn 54 [])], bB [], bB x0, bB [], .cells 56 [(.sl 2 0 1 0 a5)]]
theorem F46_3_ok (a1 : GramD) (a2 : List Int) (a3 : List Bool) (a4 : List Bool) (a5 : Nat) {r : (List Bool)} (h : F46_3 a1 a4 a5 = some r) : CS prg 46 [(.ro ((eGram a1) ++ [.lst 1 (a2.map eI64), .lst 1 (a3.map eBool)])), (.fn 72 [(.ptr 4 0), (.ptr 0 0)])] [.cells 100 [(.fn 54 [])], bB [], bB a4, bB [], .cells 56 [(.sl 2 0 1 0 a5)]] = some (F46_3_v a1 a2 a3 a4 a5 r, F46_3_h a1 a2 a3 a4 a5 r) := by
 unfold F46_3 at h
 refine bn h fun r1 h1 h => ?_
 cases r1 with
 | k0 x1_0 =>
  obtain ⟨g1, e1⟩ := L46_1_3_run a1 a2 a3 a5 a4 _ h1
  rw [← sj h]
  exact fcs (n := 30) [(2000, .l (.brk 0) ⟨fr 27 g1 [], [.cells 100 [(.fn 54 [])], bB [], bB x1_0, bB [], .cells 56 [(.sl 2 0 1 0 a5)]]⟩), (6000, .d true)] (apc ((okT_of rfl (abl_cons rfl (abl_cons abl_row (abl_cons abl_row (abl_cons abl_row (abl_cons rfl rfl)))))) : okT 5 [.cells 100 [(.fn 54 [])], bB [], bB a4, bB [], .cells 56 [(.sl 2 0 1 0 a5)]] = true) (apc (e1 : evH prg 5 [0, 1] ir46_l1 (L46_1_3_s a1 a2 a3 a5 a4) = some ((.brk 0), ⟨fr 27 g1 [], [.cells 100 [(.fn 54 [])], bB [], bB x1_0, bB [], .cells 56 [(.sl 2 0 1 0 a5)]]⟩)) apn)) (by kernel_rfl)
noncomputable def F53_2 (a1 : GramD) : Option (List Bool) :=
  (bif (mkOk (a1.sorts.length : Int) 1) then ((ixN (Int.toNat (a1.sorts.length : Int)) a1.start).bind fun x2 => (((List.replicate (Int.toNat (a1.sorts.length : Int)) false)[x2]?).bind fun x3 => ((F46_3 a1 ((List.replicate (Int.toNat (a1.sorts.length : Int)) false).set x2 true) (Int.toNat (a1.sorts.length : Int))).bind fun x4 => (bif (decide ((Int.toNat (a1.sorts.length : Int)) ≤ x4.length)) then (some (x4.take (Int.toNat (a1.sorts.length : Int)))) else none)))) else none)
def F53_2_v (a1 : GramD) (a2 : List Int) (a3 : List Bool) (x0 : (List Bool)) : AV := (.p (.lst 1 (x0.map eBool)))
theorem F53_2_ok (a1 : GramD) (a2 : List Int) (a3 : List Bool) {r : (List Bool)} (h : F53_2 a1 = some r) : PR1 prg 53 [(.ro ((eGram a1) ++ [.lst 1 (a2.map eI64), .lst 1 (a3.map eBool)])), (.fn 54 [])] (F53_2_v a1 a2 a3 r) := by
 unfold F53_2 at h
 refine bi h (fun h1 h => ?_) fun h1 h => ?_
 ·
  refine bn h fun x2 h2 h => ?_
  refine bn h fun x3 h3 h => ?_
  refine bn h fun x4 h4 h => ?_
  refine bi h (fun h5 h => ?_) fun h5 h => ?_
  ·
   rw [← sj h]
   exact fpo (n := 30) (v := (.sl 2 0 1 0 (Int.toNat (a1.sorts.length : Int)))) (h' := [.cells 100 [(.fn 54 [])], bB [], bB x4, bB [], .cells 56 [(.sl 2 0 1 0 (Int.toNat (a1.sorts.length : Int)))]]) [(11, .v (i6 (a1.sorts.length : Int))), (12, .r (.sl 2 0 1 0 (Int.toNat (a1.sorts.length : Int))) [.cells 100 [(.fn 54 [])], bB [], .row 4 1 0 (ra eBool (List.replicate (Int.toNat (a1.sorts.length : Int)) false))]), (19, .v (.rp 2 0 1 x2 0)), (1019, .r ud [.cells 100 [(.fn 54 [])], bB [], .row 4 1 0 (ra eBool ((List.replicate (Int.toNat (a1.sorts.length : Int)) false).set x2 true)), bB [], .cells 56 [(.sl 2 0 1 0 (Int.toNat (a1.sorts.length : Int)))]]), (22, .r (.tup []) [.cells 100 [(.fn 54 [])], bB [], bB x4, bB [], .cells 56 [(.sl 2 0 1 0 (Int.toNat (a1.sorts.length : Int)))]])] (apc (lg a1.sorts eStr 1) (apc ((mk_row' (h := [.cells 100 [(.fn 54 [])], bB []]) (e := eBool) (z := false) h1 rfl) : (mkA 4 1 1 [.val (.bool false)] (i6 (a1.sorts.length : Int)) (i6 (a1.sorts.length : Int)) 2).map (fun x => (x.1, [.cells 100 [(.fn 54 [])], bB []] ++ [x.2])) = some ((.sl 2 0 1 0 (Int.toNat (a1.sorts.length : Int))), [.cells 100 [(.fn 54 [])], bB [], .row 4 1 0 (ra eBool (List.replicate (Int.toNat (a1.sorts.length : Int)) false))])) (apc ((idx_sl h2) : idxA 1 (.sl 2 0 1 0 (Int.toNat (a1.sorts.length : Int))) (i6 a1.start) = some (.rp 2 0 1 x2 0)) (apc (⟨st_row (v' := true) rfl h3 rfl rfl (Nat.le_of_ble_eq_true rfl) rfl, rfl⟩ : stA [.cells 100 [(.fn 54 [])], bB [], .row 4 1 0 (ra eBool (List.replicate (Int.toNat (a1.sorts.length : Int)) false)), bB [], .cells 56 [(.sl 2 0 1 0 (Int.toNat (a1.sorts.length : Int)))]] 1 (.rp 2 0 1 x2 0) (vb true) = some [.cells 100 [(.fn 54 [])], bB [], .row 4 1 0 (ra eBool ((List.replicate (Int.toNat (a1.sorts.length : Int)) false).set x2 true)), bB [], .cells 56 [(.sl 2 0 1 0 (Int.toNat (a1.sorts.length : Int)))]] ∧ ud = ud) (apc ((F46_3_ok a1 a2 a3 ((List.replicate (Int.toNat (a1.sorts.length : Int)) false).set x2 true) (Int.toNat (a1.sorts.length : Int)) h4) : CS prg 46 [(.ro ((eGram a1) ++ [.lst 1 (a2.map eI64), .lst 1 (a3.map eBool)])), (.fn 72 [(.ptr 4 0), (.ptr 0 0)])] [.cells 100 [(.fn 54 [])], bB [], .row 4 1 0 (ra eBool ((List.replicate (Int.toNat (a1.sorts.length : Int)) false).set x2 true)), bB [], .cells 56 [(.sl 2 0 1 0 (Int.toNat (a1.sorts.length : Int)))]] = some ((.tup []), [.cells 100 [(.fn 54 [])], bB [], bB x4, bB [], .cells 56 [(.sl 2 0 1 0 (Int.toNat (a1.sorts.length : Int)))]])) apn))))) (purA_sl rfl h5) (by kernel_rfl)
  ·
   cases h
 ·
  cases h
inductive R_F21 where
  | k0 (x0 : List Bool) (x1 : Int)
noncomputable def F21 (a1 : GramD) : Option R_F21 :=
  ((F45 a1).bind fun r1 => match r1 with | .k0 x1_0 => (bif (x1_0 != 0) then (some (.k0 ([]) x1_0)) else none) | .k1 x1_0 x1_1 x1_2 x1_3 x1_4 x1_5 x1_6 => ((F53_2 (⟨x1_0, x1_1, x1_2, x1_3, x1_4⟩ : GramD)).bind fun x2 => (some (.k0 x2 0))))
def F21_v (a1 : GramD) (r : R_F21) : AV := match r with | .k0 x0 x1 => (.tup [(.p (.lst 1 (x0.map eBool))), (i6 x1)])
theorem F21_ok (a1 : GramD) {r : R_F21} (h : F21 a1 = some r) : PR1 prg 21 [(aG a1)] (F21_v a1 r) := by
 unfold F21 at h
 refine bn h fun r1 h1 h => ?_
 cases r1 with
 | k0 x1_0 =>
  refine bi h (fun h2 h => ?_) fun h2 h => ?_
  ·
   rw [← sj h]
   exact fpo (n := 30) (v := (.tup [(.sl 2 0 1 0 0), (i6 x1_0)])) (h' := [bG a1, bB [], bB []]) [(8, .v (.tup [(.p (.val (.pointer .none))), (i6 x1_0)])), (12, .d true)] (apc (((F45_ok a1 h1).cp rfl _) : CP prg 45 [(aG a1)] [bG a1, bB []] = some (.tup [(.p (.val (.pointer .none))), (i6 x1_0)])) (apc (cv h2) apn)) (purA_tup (purAs_cons (purA_sl (xs := []) rfl rfl) (purAs_cons rfl purAs_nil))) (by kernel_rfl)
  ·
   cases h
 | k1 x1_0 x1_1 x1_2 x1_3 x1_4 x1_5 x1_6 =>
  refine bn h fun x2 h2 h => ?_
  rw [← sj h]
  exact fpr (n := 30) [(8, .v (.tup [(.ro [.lst 1 (x1_0.map eStr), .lst 7 (x1_1.map eProd), .val (.int .i64 x1_2), .lst 3 (x1_3.map eForb), .lst 5 (x1_4.map eFoll), .lst 1 (x1_5.map eI64), .lst 1 (x1_6.map eBool)]), (i6 0)])), (15, .v (.p (.lst 1 (x2.map eBool))))] (apc (((F45_ok a1 h1).cp rfl _) : CP prg 45 [(aG a1)] [bG a1, bB []] = some (.tup [(.ro [.lst 1 (x1_0.map eStr), .lst 7 (x1_1.map eProd), .val (.int .i64 x1_2), .lst 3 (x1_3.map eForb), .lst 5 (x1_4.map eFoll), .lst 1 (x1_5.map eI64), .lst 1 (x1_6.map eBool)]), (i6 0)])) (apc (((F53_2_ok (⟨x1_0, x1_1, x1_2, x1_3, x1_4⟩ : GramD) x1_5 x1_6 h2).cp rfl _) : CP prg 53 [(.ro [.lst 1 (x1_0.map eStr), .lst 7 (x1_1.map eProd), .val (.int .i64 x1_2), .lst 3 (x1_3.map eForb), .lst 5 (x1_4.map eFoll), .lst 1 (x1_5.map eI64), .lst 1 (x1_6.map eBool)]), (.fn 54 [])] [bG a1, bB []] = some (.p (.lst 1 (x2.map eBool)))) apn)) rfl (by kernel_rfl)
inductive R_F22 where
  | k0 (x0 : List Bool) (x1 : Int)
noncomputable def F22 (a1 : GramD) : Option R_F22 :=
  ((F45 a1).bind fun r1 => match r1 with | .k0 x1_0 => (bif (x1_0 != 0) then (some (.k0 ([]) x1_0)) else none) | .k1 x1_0 x1_1 x1_2 x1_3 x1_4 x1_5 x1_6 => (some (.k0 x1_6 0)))
def F22_v (a1 : GramD) (r : R_F22) : AV := match r with | .k0 x0 x1 => (.tup [(.p (.lst 1 (x0.map eBool))), (i6 x1)])
theorem F22_ok (a1 : GramD) {r : R_F22} (h : F22 a1 = some r) : PR1 prg 22 [(aG a1)] (F22_v a1 r) := by
 unfold F22 at h
 refine bn h fun r1 h1 h => ?_
 cases r1 with
 | k0 x1_0 =>
  refine bi h (fun h2 h => ?_) fun h2 h => ?_
  ·
   rw [← sj h]
   exact fpo (n := 30) (v := (.tup [(.sl 2 0 1 0 0), (i6 x1_0)])) (h' := [bG a1, bB [], bB []]) [(8, .v (.tup [(.p (.val (.pointer .none))), (i6 x1_0)])), (12, .d true)] (apc (((F45_ok a1 h1).cp rfl _) : CP prg 45 [(aG a1)] [bG a1, bB []] = some (.tup [(.p (.val (.pointer .none))), (i6 x1_0)])) (apc (cv h2) apn)) (purA_tup (purAs_cons (purA_sl (xs := []) rfl rfl) (purAs_cons rfl purAs_nil))) (by kernel_rfl)
  ·
   cases h
 | k1 x1_0 x1_1 x1_2 x1_3 x1_4 x1_5 x1_6 =>
  rw [← sj h]
  exact fpr (n := 30) [(8, .v (.tup [(.ro [.lst 1 (x1_0.map eStr), .lst 7 (x1_1.map eProd), .val (.int .i64 x1_2), .lst 3 (x1_3.map eForb), .lst 5 (x1_4.map eFoll), .lst 1 (x1_5.map eI64), .lst 1 (x1_6.map eBool)]), (i6 0)]))] (apc (((F45_ok a1 h1).cp rfl _) : CP prg 45 [(aG a1)] [bG a1, bB []] = some (.tup [(.ro [.lst 1 (x1_0.map eStr), .lst 7 (x1_1.map eProd), .val (.int .i64 x1_2), .lst 3 (x1_3.map eForb), .lst 5 (x1_4.map eFoll), .lst 1 (x1_5.map eI64), .lst 1 (x1_6.map eBool)]), (i6 0)])) apn) rfl (by kernel_rfl)
inductive E_L23_5 where
  | k0
noncomputable def L23_5 (a4 : ProdD) (a5 : Int) (v1 : Int) : Option (E_L23_5 ⊕ (Int)) :=
  (bif (decide (v1 < a5)) then ((getI a4.right v1).bind fun x2 => ((F54 a4).bind fun x3 => (bif x3 then (bif (x2.kind != 1) then (some (.inr ((IntKind.wrap .i64 (v1 + 1))))) else none) else (some (.inr ((IntKind.wrap .i64 (v1 + 1)))))))) else (some (.inl (.k0))))
def L23_5_s (a1 : GramD) (a2 : Int) (a3 : Int) (a4 : ProdD) (a5 : Int) (v1 : Int) : St := ⟨fr 150 ug [(1, (.ptr 0 0)), (4, (.p (.val (.pointer .none)))), (6, (.mp 2)), (8, (.ptr 4 0)), (29, (.p (.lst 7 (a1.prods.map eProd)))), (30, (i6 a2)), (31, (i6 a3)), (36, (.p (.lst 6 (a4.right.map eSym)))), (37, (i6 a5)), (38, (i6 v1))], [bG a1, bB [], .map [], .row 48 6 0 (ra eSym []), bP a4]⟩
def L23_5_x (a1 : GramD) (a2 : Int) (a3 : Int) (a4 : ProdD) (a5 : Int) (e : E_L23_5) (r : Option (Out × St)) : Prop := match e with | .k0 => ∃ g, r = some ((.brk 2), ⟨fr 150 g [(1, (.ptr 0 0)), (4, (.p (.val (.pointer .none)))), (6, (.mp 2)), (8, (.ptr 4 0)), (29, (.p (.lst 7 (a1.prods.map eProd)))), (30, (i6 a2)), (31, (i6 a3)), (36, (.p (.lst 6 (a4.right.map eSym))))], [bG a1, bB [], .map [], .row 48 6 0 (ra eSym []), bP a4]⟩)
theorem L23_5_ok (a1 : GramD) (a2 : Int) (a3 : Int) (a4 : ProdD) (a5 : Int) (v1 : Int) {r : E_L23_5 ⊕ (Int)} (h : L23_5 a4 a5 v1 = some r) : OkR (fun e => L23_5_x a1 a2 a3 a4 a5 e (evH prg 5 [1, 4, 6, 8, 29, 30, 31, 36, 37, 38] ir23_l5 (L23_5_s a1 a2 a3 a4 a5 v1))) (fun s => evH prg 5 [1, 4, 6, 8, 29, 30, 31, 36, 37, 38] ir23_l5 (L23_5_s a1 a2 a3 a4 a5 v1) = evH prg 5 [1, 4, 6, 8, 29, 30, 31, 36, 37, 38] ir23_l5 (L23_5_s a1 a2 a3 a4 a5 s)) r := by
 unfold L23_5 at h
 refine bi h (fun h1 h => ?_) fun h1 h => ?_
 ·
  refine bn h fun x2 h2 h => ?_
  refine bn h fun x3 h3 h => ?_
  refine bi h (fun h4 h => ?_) fun h4 h => ?_
  ·
   refine bi h (fun h5 h => ?_) fun h5 h => ?_
   ·
    rw [← sj h]
    exact rnd (n := 30) [(39, .d true), (41, .v (.ro (eSym x2))), (44, .v (vb true)), (49, .d true), (6000, .d true)] (apc (cv h1) (apc (ig eSym 6 .i64 h2) (apc ((((F54_ok a4 h3).cp rfl _).trans (congrArg (fun z => some (vb z)) h4)) : CP prg 54 [(aP a4)] [bG a1, bB [], .map [], .row 48 6 0 (ra eSym []), bP a4, .cells 48 ((eSym x2).map .p)] = some (vb true)) (apc (cv h5) (apc ((okT_of rfl (abl_cons rfl (abl_cons abl_row (abl_cons rfl (abl_cons abl_row (abl_cons rfl rfl)))))) : okT 5 [bG a1, bB [], .map [], .row 48 6 0 (ra eSym []), bP a4, .cells 48 ((eSym x2).map .p)] = true) apn))))) (by kernel_rfl)
   ·
    cases h
  ·
   rw [← sj h]
   exact rnd (n := 30) [(39, .d true), (41, .v (.ro (eSym x2))), (44, .v (vb false)), (6000, .d true)] (apc (cv h1) (apc (ig eSym 6 .i64 h2) (apc ((((F54_ok a4 h3).cp rfl _).trans (congrArg (fun z => some (vb z)) h4)) : CP prg 54 [(aP a4)] [bG a1, bB [], .map [], .row 48 6 0 (ra eSym []), bP a4, .cells 48 ((eSym x2).map .p)] = some (vb false)) (apc ((okT_of rfl (abl_cons rfl (abl_cons abl_row (abl_cons rfl (abl_cons abl_row (abl_cons rfl rfl)))))) : okT 5 [bG a1, bB [], .map [], .row 48 6 0 (ra eSym []), bP a4, .cells 48 ((eSym x2).map .p)] = true) apn)))) (by kernel_rfl)
 ·
  rw [← sj h]
  exact xbrk (n := 30) [(39, .d false), (6000, .d true)] (apc (cv h1) apn) (by kernel_rfl)
theorem L23_5_run (a1 : GramD) (a2 : Int) (a3 : Int) (a4 : ProdD) (a5 : Int) (s0 : Int) (e : E_L23_5) (h : runL (fun s => L23_5 a4 a5 s) s0 = some e) : L23_5_x a1 a2 a3 a4 a5 e (evH prg 5 [1, 4, 6, 8, 29, 30, 31, 36, 37, 38] ir23_l5 (L23_5_s a1 a2 a3 a4 a5 s0)) := by
  have q := @loop_sound' (Int) E_L23_5 (fun s => L23_5 a4 a5 s) (fun s => evH prg 5 [1, 4, 6, 8, 29, 30, 31, 36, 37, 38] ir23_l5 (L23_5_s a1 a2 a3 a4 a5 s)) (L23_5_x a1 a2 a3 a4 a5) (fun s r h => L23_5_ok a1 a2 a3 a4 a5 s h) s0 e h
  exact q
inductive E_L23_6 where
  | k0
noncomputable def L23_6 (a1 : GramD) (a2 : Int) (v1 : Int) : Option (E_L23_6 ⊕ (Int)) :=
  (bif (decide (v1 < a2)) then ((getI a1.prods v1).bind fun x2 => ((runL (fun s => L23_5 x2 (x2.right.length : Int) s) 0).bind fun r3 => match r3 with | .k0 => (some (.inr ((IntKind.wrap .i64 (v1 + 1))))))) else (some (.inl (.k0))))
def L23_6_s (a1 : GramD) (a2 : Int) (v1 : Int) : St := ⟨fr 150 ug [(1, (.ptr 0 0)), (4, (.p (.val (.pointer .none)))), (6, (.mp 2)), (29, (.p (.lst 7 (a1.prods.map eProd)))), (30, (i6 a2)), (31, (i6 v1))], [bG a1, bB [], .map []]⟩
def L23_6_x (a1 : GramD) (a2 : Int) (e : E_L23_6) (r : Option (Out × St)) : Prop := match e with | .k0 => ∃ g, r = some ((.brk 0), ⟨fr 150 g [(1, (.ptr 0 0)), (6, (.mp 2)), (29, (.p (.lst 7 (a1.prods.map eProd))))], [bG a1, bB [], .map []]⟩)
theorem L23_6_ok (a1 : GramD) (a2 : Int) (v1 : Int) {r : E_L23_6 ⊕ (Int)} (h : L23_6 a1 a2 v1 = some r) : OkR (fun e => L23_6_x a1 a2 e (evH prg 3 [1, 4, 6, 29, 30, 31] ir23_l6 (L23_6_s a1 a2 v1))) (fun s => evH prg 3 [1, 4, 6, 29, 30, 31] ir23_l6 (L23_6_s a1 a2 v1) = evH prg 3 [1, 4, 6, 29, 30, 31] ir23_l6 (L23_6_s a1 a2 s)) r := by
 unfold L23_6 at h
 refine bi h (fun h1 h => ?_) fun h1 h => ?_
 ·
  refine bn h fun x2 h2 h => ?_
  refine bn h fun r3 h3 h => ?_
  cases r3 with
  | k0 =>
   obtain ⟨g3, e3⟩ := L23_5_run a1 a2 v1 x2 (x2.right.length : Int) 0 _ h3
   rw [← sj h]
   exact rnd (n := 30) [(32, .d true), (33, .v (.ro (eProd x2))), (37, .v (i6 (x2.right.length : Int))), (2002, .l (.brk 2) ⟨fr 150 g3 [(1, (.ptr 0 0)), (4, (.p (.val (.pointer .none)))), (6, (.mp 2)), (8, (.ptr 4 0)), (29, (.p (.lst 7 (a1.prods.map eProd)))), (30, (i6 a2)), (31, (i6 v1)), (36, (.p (.lst 6 (x2.right.map eSym))))], [bG a1, bB [], .map [], .row 48 6 0 (ra eSym []), bP x2]⟩), (6000, .d true)] (apc (cv h1) (apc (ig eProd 7 .i64 h2) (apc (lg x2.right eSym 6) (apc ((okT_of rfl (abl_cons rfl (abl_cons abl_row (abl_cons rfl (abl_cons abl_row (abl_cons rfl rfl)))))) : okT 5 [bG a1, bB [], .map [], .row 48 6 0 (ra eSym []), bP x2] = true) (apc (e3 : evH prg 5 [1, 4, 6, 8, 29, 30, 31, 36, 37, 38] ir23_l5 (L23_5_s a1 a2 v1 x2 (x2.right.length : Int) 0) = some ((.brk 2), ⟨fr 150 g3 [(1, (.ptr 0 0)), (4, (.p (.val (.pointer .none)))), (6, (.mp 2)), (8, (.ptr 4 0)), (29, (.p (.lst 7 (a1.prods.map eProd)))), (30, (i6 a2)), (31, (i6 v1)), (36, (.p (.lst 6 (x2.right.map eSym))))], [bG a1, bB [], .map [], .row 48 6 0 (ra eSym []), bP x2]⟩)) (apc ((okT_of rfl (abl_cons rfl (abl_cons abl_row (abl_cons rfl rfl)))) : okT 3 [bG a1, bB [], .map [], .row 48 6 0 (ra eSym []), bP x2] = true) apn)))))) (by kernel_rfl)
 ·
  rw [← sj h]
  exact xbrk (n := 30) [(32, .d false), (6000, .d true)] (apc (cv h1) apn) (by kernel_rfl)
theorem L23_6_run (a1 : GramD) (a2 : Int) (s0 : Int) (e : E_L23_6) (h : runL (fun s => L23_6 a1 a2 s) s0 = some e) : L23_6_x a1 a2 e (evH prg 3 [1, 4, 6, 29, 30, 31] ir23_l6 (L23_6_s a1 a2 s0)) := by
  have q := @loop_sound' (Int) E_L23_6 (fun s => L23_6 a1 a2 s) (fun s => evH prg 3 [1, 4, 6, 29, 30, 31] ir23_l6 (L23_6_s a1 a2 s)) (L23_6_x a1 a2) (fun s r h => L23_6_ok a1 a2 s h) s0 e h
  exact q
inductive E_L23_1 where
  | k0 (x0 : List ((Int × Int) × Int))
noncomputable def L23_1 (a1 : Int) (a2 : Int) (a5 : Int) (v1 : Int) (v2 : List ((Int × Int) × Int)) : Option (E_L23_1 ⊕ (Int × (List ((Int × Int) × Int)))) :=
  (bif (decide (v1 < a5)) then (bif (decide ((mget 0 v2 (a2, a1)) > 0)) then (bif (decide ((mget 0 v2 (a1, v1)) > 0)) then (some (.inr ((IntKind.wrap .i64 (v1 + 1)), (mput (a2, v1) 1 v2)))) else (some (.inr ((IntKind.wrap .i64 (v1 + 1)), v2)))) else (some (.inr ((IntKind.wrap .i64 (v1 + 1)), v2)))) else (some (.inl (.k0 v2))))
def L23_1_s (a1 : Int) (a2 : Int) (a3 : Int) (a4 : Int) (a5 : Int) (a6 : GramD) (v1 : Int) (v2 : List ((Int × Int) × Int)) : St := ⟨fr 150 ug [(1, (.ptr 0 0)), (6, (.mp 2)), (14, (i6 a1)), (15, (i6 a2)), (93, (i6 a3)), (94, (i6 a1)), (99, (i6 a4)), (100, (i6 a2)), (105, (i6 a5)), (106, (i6 v1))], [bG a6, bB [], .map (mrow (fun n => .agg [vi .i64 n.1, vi .i64 n.2]) (fun n => vi .i64 n) v2)]⟩
def L23_1_x (a1 : Int) (a2 : Int) (a3 : Int) (a4 : Int) (a5 : Int) (a6 : GramD) (e : E_L23_1) (r : Option (Out × St)) : Prop := match e with | .k0 x0 => ∃ g, r = some ((.brk 10), ⟨fr 150 g [(1, (.ptr 0 0)), (6, (.mp 2)), (14, (i6 a1)), (93, (i6 a3)), (94, (i6 a1)), (99, (i6 a4)), (100, (i6 a2))], [bG a6, bB [], .map (mrow (fun n => .agg [vi .i64 n.1, vi .i64 n.2]) (fun n => vi .i64 n) x0)]⟩)
theorem L23_1_ok (a1 : Int) (a2 : Int) (a3 : Int) (a4 : Int) (a5 : Int) (a6 : GramD) (v1 : Int) (v2 : List ((Int × Int) × Int)) {r : E_L23_1 ⊕ (Int × (List ((Int × Int) × Int)))} (h : L23_1 a1 a2 a5 v1 v2 = some r) : OkR (fun e => L23_1_x a1 a2 a3 a4 a5 a6 e (evH prg 3 [1, 6, 14, 15, 93, 94, 99, 100, 105, 106] ir23_l1 (L23_1_s a1 a2 a3 a4 a5 a6 v1 v2))) (fun s => evH prg 3 [1, 6, 14, 15, 93, 94, 99, 100, 105, 106] ir23_l1 (L23_1_s a1 a2 a3 a4 a5 a6 v1 v2) = evH prg 3 [1, 6, 14, 15, 93, 94, 99, 100, 105, 106] ir23_l1 (L23_1_s a1 a2 a3 a4 a5 a6 s.1 s.2)) r := by
 unfold L23_1 at h
 refine bi h (fun h1 h => ?_) fun h1 h => ?_
 ·
  refine bi h (fun h2 h => ?_) fun h2 h => ?_
  ·
   refine bi h (fun h3 h => ?_) fun h3 h => ?_
   ·
    rw [← sj h]
    exact rnd (n := 30) [(107, .d true), (113, .v (i6 (mget 0 v2 (a2, a1)))), (114, .d true), (120, .v (i6 (mget 0 v2 (a1, v1)))), (121, .d true), (5000, .r ud [bG a6, bB [], .map (mrow (fun n => .agg [vi .i64 n.1, vi .i64 n.2]) (fun n => vi .i64 n) (mput (a2, v1) 1 v2))]), (6000, .d true)] (apc (cv h1) (apc ((lk_row key_int2 (es := v2) (k := (a2, a1)) (z := 0) rfl rfl) : lkA [bG a6, bB [], .map (mrow (fun n => .agg [vi .i64 n.1, vi .i64 n.2]) (fun n => vi .i64 n) v2)] [1, 1] .true .false [(.val (.int .i64 0))] .false (.mp 2) (.agg [(i6 a2), (i6 a1)]) = some (i6 (mget 0 v2 (a2, a1)))) (apc (cv h2) (apc ((lk_row key_int2 (es := v2) (k := (a1, v1)) (z := 0) rfl rfl) : lkA [bG a6, bB [], .map (mrow (fun n => .agg [vi .i64 n.1, vi .i64 n.2]) (fun n => vi .i64 n) v2)] [1, 1] .true .false [(.val (.int .i64 0))] .false (.mp 2) (.agg [(i6 a1), (i6 v1)]) = some (i6 (mget 0 v2 (a1, v1)))) (apc (cv h3) (apc (⟨up_row key_int2 (es := v2) (k := (a2, v1)) (v := 1) rfl, rfl⟩ : upA [bG a6, bB [], .map (mrow (fun n => .agg [vi .i64 n.1, vi .i64 n.2]) (fun n => vi .i64 n) v2)] [1, 1] .true (.mp 2) (.agg [(i6 a2), (i6 v1)]) (i6 1) = some [bG a6, bB [], .map (mrow (fun n => .agg [vi .i64 n.1, vi .i64 n.2]) (fun n => vi .i64 n) (mput (a2, v1) 1 v2))] ∧ ud = ud) (apc ((okT_of rfl (abl_cons rfl (abl_cons abl_row (abl_cons (abl_map (fun _ => rfl) (fun _ => rfl)) rfl)))) : okT 3 [bG a6, bB [], .map (mrow (fun n => .agg [vi .i64 n.1, vi .i64 n.2]) (fun n => vi .i64 n) (mput (a2, v1) 1 v2))] = true) apn))))))) (by kernel_rfl)
   ·
    rw [← sj h]
    exact rnd (n := 30) [(107, .d true), (113, .v (i6 (mget 0 v2 (a2, a1)))), (114, .d true), (120, .v (i6 (mget 0 v2 (a1, v1)))), (121, .d false), (6000, .d true)] (apc (cv h1) (apc ((lk_row key_int2 (es := v2) (k := (a2, a1)) (z := 0) rfl rfl) : lkA [bG a6, bB [], .map (mrow (fun n => .agg [vi .i64 n.1, vi .i64 n.2]) (fun n => vi .i64 n) v2)] [1, 1] .true .false [(.val (.int .i64 0))] .false (.mp 2) (.agg [(i6 a2), (i6 a1)]) = some (i6 (mget 0 v2 (a2, a1)))) (apc (cv h2) (apc ((lk_row key_int2 (es := v2) (k := (a1, v1)) (z := 0) rfl rfl) : lkA [bG a6, bB [], .map (mrow (fun n => .agg [vi .i64 n.1, vi .i64 n.2]) (fun n => vi .i64 n) v2)] [1, 1] .true .false [(.val (.int .i64 0))] .false (.mp 2) (.agg [(i6 a1), (i6 v1)]) = some (i6 (mget 0 v2 (a1, v1)))) (apc (cv h3) (apc ((okT_of rfl (abl_cons rfl (abl_cons abl_row (abl_cons (abl_map (fun _ => rfl) (fun _ => rfl)) rfl)))) : okT 3 [bG a6, bB [], .map (mrow (fun n => .agg [vi .i64 n.1, vi .i64 n.2]) (fun n => vi .i64 n) v2)] = true) apn)))))) (by kernel_rfl)
  ·
   rw [← sj h]
   exact rnd (n := 30) [(107, .d true), (113, .v (i6 (mget 0 v2 (a2, a1)))), (114, .d false), (6000, .d true)] (apc (cv h1) (apc ((lk_row key_int2 (es := v2) (k := (a2, a1)) (z := 0) rfl rfl) : lkA [bG a6, bB [], .map (mrow (fun n => .agg [vi .i64 n.1, vi .i64 n.2]) (fun n => vi .i64 n) v2)] [1, 1] .true .false [(.val (.int .i64 0))] .false (.mp 2) (.agg [(i6 a2), (i6 a1)]) = some (i6 (mget 0 v2 (a2, a1)))) (apc (cv h2) (apc ((okT_of rfl (abl_cons rfl (abl_cons abl_row (abl_cons (abl_map (fun _ => rfl) (fun _ => rfl)) rfl)))) : okT 3 [bG a6, bB [], .map (mrow (fun n => .agg [vi .i64 n.1, vi .i64 n.2]) (fun n => vi .i64 n) v2)] = true) apn)))) (by kernel_rfl)
 ·
  rw [← sj h]
  exact xbrk (n := 30) [(107, .d false), (6000, .d true)] (apc (cv h1) apn) (by kernel_rfl)
theorem L23_1_run (a1 : Int) (a2 : Int) (a3 : Int) (a4 : Int) (a5 : Int) (a6 : GramD) (s0 : Int × (List ((Int × Int) × Int))) (e : E_L23_1) (h : runL (fun s => L23_1 a1 a2 a5 s.1 s.2) s0 = some e) : L23_1_x a1 a2 a3 a4 a5 a6 e (evH prg 3 [1, 6, 14, 15, 93, 94, 99, 100, 105, 106] ir23_l1 (L23_1_s a1 a2 a3 a4 a5 a6 s0.1 s0.2)) := by
  have q := @loop_sound' (Int × (List ((Int × Int) × Int))) E_L23_1 (fun s => L23_1 a1 a2 a5 s.1 s.2) (fun s => evH prg 3 [1, 6, 14, 15, 93, 94, 99, 100, 105, 106] ir23_l1 (L23_1_s a1 a2 a3 a4 a5 a6 s.1 s.2)) (L23_1_x a1 a2 a3 a4 a5 a6) (fun s r h => L23_1_ok a1 a2 a3 a4 a5 a6 s.1 s.2 h) s0 e h
  exact q
inductive E_L23_2 where
  | k0 (x0 : List ((Int × Int) × Int))
noncomputable def L23_2 (a1 : Int) (a3 : Int) (a4 : GramD) (v1 : Int) (v2 : List ((Int × Int) × Int)) : Option (E_L23_2 ⊕ (Int × (List ((Int × Int) × Int)))) :=
  (bif (decide (v1 < a3)) then ((runL (fun s => L23_1 a1 v1 (a4.sorts.length : Int) s.1 s.2) (0, v2)).bind fun r2 => match r2 with | .k0 x2_0 => (some (.inr ((IntKind.wrap .i64 (v1 + 1)), x2_0)))) else (some (.inl (.k0 v2))))
def L23_2_s (a1 : Int) (a2 : Int) (a3 : Int) (a4 : GramD) (v1 : Int) (v2 : List ((Int × Int) × Int)) : St := ⟨fr 150 ug [(1, (.ptr 0 0)), (6, (.mp 2)), (14, (i6 a1)), (93, (i6 a2)), (94, (i6 a1)), (99, (i6 a3)), (100, (i6 v1))], [bG a4, bB [], .map (mrow (fun n => .agg [vi .i64 n.1, vi .i64 n.2]) (fun n => vi .i64 n) v2)]⟩
def L23_2_x (a1 : Int) (a2 : Int) (a3 : Int) (a4 : GramD) (e : E_L23_2) (r : Option (Out × St)) : Prop := match e with | .k0 x0 => ∃ g, r = some ((.brk 8), ⟨fr 150 g [(1, (.ptr 0 0)), (6, (.mp 2)), (93, (i6 a2)), (94, (i6 a1))], [bG a4, bB [], .map (mrow (fun n => .agg [vi .i64 n.1, vi .i64 n.2]) (fun n => vi .i64 n) x0)]⟩)
theorem L23_2_ok (a1 : Int) (a2 : Int) (a3 : Int) (a4 : GramD) (v1 : Int) (v2 : List ((Int × Int) × Int)) {r : E_L23_2 ⊕ (Int × (List ((Int × Int) × Int)))} (h : L23_2 a1 a3 a4 v1 v2 = some r) : OkR (fun e => L23_2_x a1 a2 a3 a4 e (evH prg 3 [1, 6, 14, 93, 94, 99, 100] ir23_l2 (L23_2_s a1 a2 a3 a4 v1 v2))) (fun s => evH prg 3 [1, 6, 14, 93, 94, 99, 100] ir23_l2 (L23_2_s a1 a2 a3 a4 v1 v2) = evH prg 3 [1, 6, 14, 93, 94, 99, 100] ir23_l2 (L23_2_s a1 a2 a3 a4 s.1 s.2)) r := by
 unfold L23_2 at h
 refine bi h (fun h1 h => ?_) fun h1 h => ?_
 ·
  refine bn h fun r2 h2 h => ?_
  cases r2 with
  | k0 x2_0 =>
   obtain ⟨g2, e2⟩ := L23_1_run a1 v1 a2 a3 (a4.sorts.length : Int) a4 (0, v2) _ h2
   rw [← sj h]
   exact rnd (n := 30) [(101, .d true), (105, .v (i6 (a4.sorts.length : Int))), (2010, .l (.brk 10) ⟨fr 150 g2 [(1, (.ptr 0 0)), (6, (.mp 2)), (14, (i6 a1)), (93, (i6 a2)), (94, (i6 a1)), (99, (i6 a3)), (100, (i6 v1))], [bG a4, bB [], .map (mrow (fun n => .agg [vi .i64 n.1, vi .i64 n.2]) (fun n => vi .i64 n) x2_0)]⟩), (6000, .d true)] (apc (cv h1) (apc (lg a4.sorts eStr 1) (apc ((okT_of rfl (abl_cons rfl (abl_cons abl_row (abl_cons (abl_map (fun _ => rfl) (fun _ => rfl)) rfl)))) : okT 3 [bG a4, bB [], .map (mrow (fun n => .agg [vi .i64 n.1, vi .i64 n.2]) (fun n => vi .i64 n) v2)] = true) (apc (e2 : evH prg 3 [1, 6, 14, 15, 93, 94, 99, 100, 105, 106] ir23_l1 (L23_1_s a1 v1 a2 a3 (a4.sorts.length : Int) a4 0 v2) = some ((.brk 10), ⟨fr 150 g2 [(1, (.ptr 0 0)), (6, (.mp 2)), (14, (i6 a1)), (93, (i6 a2)), (94, (i6 a1)), (99, (i6 a3)), (100, (i6 v1))], [bG a4, bB [], .map (mrow (fun n => .agg [vi .i64 n.1, vi .i64 n.2]) (fun n => vi .i64 n) x2_0)]⟩)) (apc ((okT_of rfl (abl_cons rfl (abl_cons abl_row (abl_cons (abl_map (fun _ => rfl) (fun _ => rfl)) rfl)))) : okT 3 [bG a4, bB [], .map (mrow (fun n => .agg [vi .i64 n.1, vi .i64 n.2]) (fun n => vi .i64 n) x2_0)] = true) apn))))) (by kernel_rfl)
 ·
  rw [← sj h]
  exact xbrk (n := 30) [(101, .d false), (6000, .d true)] (apc (cv h1) apn) (by kernel_rfl)
theorem L23_2_run (a1 : Int) (a2 : Int) (a3 : Int) (a4 : GramD) (s0 : Int × (List ((Int × Int) × Int))) (e : E_L23_2) (h : runL (fun s => L23_2 a1 a3 a4 s.1 s.2) s0 = some e) : L23_2_x a1 a2 a3 a4 e (evH prg 3 [1, 6, 14, 93, 94, 99, 100] ir23_l2 (L23_2_s a1 a2 a3 a4 s0.1 s0.2)) := by
  have q := @loop_sound' (Int × (List ((Int × Int) × Int))) E_L23_2 (fun s => L23_2 a1 a3 a4 s.1 s.2) (fun s => evH prg 3 [1, 6, 14, 93, 94, 99, 100] ir23_l2 (L23_2_s a1 a2 a3 a4 s.1 s.2)) (L23_2_x a1 a2 a3 a4) (fun s r h => L23_2_ok a1 a2 a3 a4 s.1 s.2 h) s0 e h
  exact q
inductive E_L23_3 where
  | k0 (x0 : List ((Int × Int) × Int))
noncomputable def L23_3 (a1 : Int) (a2 : GramD) (v1 : Int) (v2 : List ((Int × Int) × Int)) : Option (E_L23_3 ⊕ (Int × (List ((Int × Int) × Int)))) :=
  (bif (decide (v1 < a1)) then ((runL (fun s => L23_2 v1 (a2.sorts.length : Int) a2 s.1 s.2) (0, v2)).bind fun r2 => match r2 with | .k0 x2_0 => (some (.inr ((IntKind.wrap .i64 (v1 + 1)), x2_0)))) else (some (.inl (.k0 v2))))
def L23_3_s (a1 : Int) (a2 : GramD) (v1 : Int) (v2 : List ((Int × Int) × Int)) : St := ⟨fr 150 ug [(1, (.ptr 0 0)), (6, (.mp 2)), (93, (i6 a1)), (94, (i6 v1))], [bG a2, bB [], .map (mrow (fun n => .agg [vi .i64 n.1, vi .i64 n.2]) (fun n => vi .i64 n) v2)]⟩
def L23_3_x (a1 : Int) (a2 : GramD) (e : E_L23_3) (r : Option (Out × St)) : Prop := match e with | .k0 x0 => ∃ g, r = some ((.brk 6), ⟨fr 150 g [(1, (.ptr 0 0)), (6, (.mp 2))], [bG a2, bB [], .map (mrow (fun n => .agg [vi .i64 n.1, vi .i64 n.2]) (fun n => vi .i64 n) x0)]⟩)
theorem L23_3_ok (a1 : Int) (a2 : GramD) (v1 : Int) (v2 : List ((Int × Int) × Int)) {r : E_L23_3 ⊕ (Int × (List ((Int × Int) × Int)))} (h : L23_3 a1 a2 v1 v2 = some r) : OkR (fun e => L23_3_x a1 a2 e (evH prg 3 [1, 6, 93, 94] ir23_l3 (L23_3_s a1 a2 v1 v2))) (fun s => evH prg 3 [1, 6, 93, 94] ir23_l3 (L23_3_s a1 a2 v1 v2) = evH prg 3 [1, 6, 93, 94] ir23_l3 (L23_3_s a1 a2 s.1 s.2)) r := by
 unfold L23_3 at h
 refine bi h (fun h1 h => ?_) fun h1 h => ?_
 ·
  refine bn h fun r2 h2 h => ?_
  cases r2 with
  | k0 x2_0 =>
   obtain ⟨g2, e2⟩ := L23_2_run v1 a1 (a2.sorts.length : Int) a2 (0, v2) _ h2
   rw [← sj h]
   exact rnd (n := 30) [(95, .d true), (99, .v (i6 (a2.sorts.length : Int))), (2008, .l (.brk 8) ⟨fr 150 g2 [(1, (.ptr 0 0)), (6, (.mp 2)), (93, (i6 a1)), (94, (i6 v1))], [bG a2, bB [], .map (mrow (fun n => .agg [vi .i64 n.1, vi .i64 n.2]) (fun n => vi .i64 n) x2_0)]⟩), (6000, .d true)] (apc (cv h1) (apc (lg a2.sorts eStr 1) (apc ((okT_of rfl (abl_cons rfl (abl_cons abl_row (abl_cons (abl_map (fun _ => rfl) (fun _ => rfl)) rfl)))) : okT 3 [bG a2, bB [], .map (mrow (fun n => .agg [vi .i64 n.1, vi .i64 n.2]) (fun n => vi .i64 n) v2)] = true) (apc (e2 : evH prg 3 [1, 6, 14, 93, 94, 99, 100] ir23_l2 (L23_2_s v1 a1 (a2.sorts.length : Int) a2 0 v2) = some ((.brk 8), ⟨fr 150 g2 [(1, (.ptr 0 0)), (6, (.mp 2)), (93, (i6 a1)), (94, (i6 v1))], [bG a2, bB [], .map (mrow (fun n => .agg [vi .i64 n.1, vi .i64 n.2]) (fun n => vi .i64 n) x2_0)]⟩)) (apc ((okT_of rfl (abl_cons rfl (abl_cons abl_row (abl_cons (abl_map (fun _ => rfl) (fun _ => rfl)) rfl)))) : okT 3 [bG a2, bB [], .map (mrow (fun n => .agg [vi .i64 n.1, vi .i64 n.2]) (fun n => vi .i64 n) x2_0)] = true) apn))))) (by kernel_rfl)
 ·
  rw [← sj h]
  exact xbrk (n := 30) [(95, .d false), (6000, .d true)] (apc (cv h1) apn) (by kernel_rfl)
theorem L23_3_run (a1 : Int) (a2 : GramD) (s0 : Int × (List ((Int × Int) × Int))) (e : E_L23_3) (h : runL (fun s => L23_3 a1 a2 s.1 s.2) s0 = some e) : L23_3_x a1 a2 e (evH prg 3 [1, 6, 93, 94] ir23_l3 (L23_3_s a1 a2 s0.1 s0.2)) := by
  have q := @loop_sound' (Int × (List ((Int × Int) × Int))) E_L23_3 (fun s => L23_3 a1 a2 s.1 s.2) (fun s => evH prg 3 [1, 6, 93, 94] ir23_l3 (L23_3_s a1 a2 s.1 s.2)) (L23_3_x a1 a2) (fun s r h => L23_3_ok a1 a2 s.1 s.2 h) s0 e h
  exact q
inductive E_L23_0 where
  | k0 (x0 : List Bool)
noncomputable def L23_0 (a1 : Nat) (a2 : Int) (a4 : List ((Int × Int) × Int)) (v1 : Int) (v2 : List Bool) : Option (E_L23_0 ⊕ (Int × (List Bool))) :=
  (bif (decide (v1 < a2)) then ((ixN a1 v1).bind fun x2 => ((v2[x2]?).bind fun x3 => (some (.inr ((IntKind.wrap .i64 (v1 + 1)), (v2.set x2 (decide ((mget 0 a4 (v1, v1)) > 0)))))))) else (some (.inl (.k0 v2))))
def L23_0_s (a1 : Nat) (a2 : Int) (a3 : GramD) (a4 : List ((Int × Int) × Int)) (v1 : Int) (v2 : List Bool) : St := ⟨fr 150 ug [(6, (.mp 2)), (17, (.sl 3 0 1 0 a1)), (135, (i6 a2)), (136, (i6 v1))], [bG a3, bB [], .map (mrow (fun n => .agg [vi .i64 n.1, vi .i64 n.2]) (fun n => vi .i64 n) a4), bB v2]⟩
def L23_0_x (a1 : Nat) (a2 : Int) (a3 : GramD) (a4 : List ((Int × Int) × Int)) (e : E_L23_0) (r : Option (Out × St)) : Prop := match e with | .k0 x0 => ∃ g, r = some ((.brk 12), ⟨fr 150 g [(6, (.mp 2)), (17, (.sl 3 0 1 0 a1))], [bG a3, bB [], .map (mrow (fun n => .agg [vi .i64 n.1, vi .i64 n.2]) (fun n => vi .i64 n) a4), bB x0]⟩)
theorem L23_0_ok (a1 : Nat) (a2 : Int) (a3 : GramD) (a4 : List ((Int × Int) × Int)) (v1 : Int) (v2 : List Bool) {r : E_L23_0 ⊕ (Int × (List Bool))} (h : L23_0 a1 a2 a4 v1 v2 = some r) : OkR (fun e => L23_0_x a1 a2 a3 a4 e (evH prg 4 [6, 17, 135, 136] ir23_l0 (L23_0_s a1 a2 a3 a4 v1 v2))) (fun s => evH prg 4 [6, 17, 135, 136] ir23_l0 (L23_0_s a1 a2 a3 a4 v1 v2) = evH prg 4 [6, 17, 135, 136] ir23_l0 (L23_0_s a1 a2 a3 a4 s.1 s.2)) r := by
 unfold L23_0 at h
 refine bi h (fun h1 h => ?_) fun h1 h => ?_
 ·
  refine bn h fun x2 h2 h => ?_
  refine bn h fun x3 h3 h => ?_
  rw [← sj h]
  exact rnd (n := 30) [(137, .d true), (145, .v (i6 (mget 0 a4 (v1, v1)))), (147, .v (.rp 3 0 1 x2 0)), (1147, .r ud [bG a3, bB [], .map (mrow (fun n => .agg [vi .i64 n.1, vi .i64 n.2]) (fun n => vi .i64 n) a4), .row 4 1 0 (ra eBool (v2.set x2 (decide ((mget 0 a4 (v1, v1)) > 0))))]), (6000, .d true)] (apc (cv h1) (apc ((lk_row key_int2 (es := a4) (k := (v1, v1)) (z := 0) rfl rfl) : lkA [bG a3, bB [], .map (mrow (fun n => .agg [vi .i64 n.1, vi .i64 n.2]) (fun n => vi .i64 n) a4), bB v2] [1, 1] .true .false [(.val (.int .i64 0))] .false (.mp 2) (.agg [(i6 v1), (i6 v1)]) = some (i6 (mget 0 a4 (v1, v1)))) (apc ((idx_sl h2) : idxA 1 (.sl 3 0 1 0 a1) (i6 v1) = some (.rp 3 0 1 x2 0)) (apc (⟨st_row (v' := (decide ((mget 0 a4 (v1, v1)) > 0))) rfl h3 rfl rfl (Nat.le_of_ble_eq_true rfl) rfl, rfl⟩ : stA [bG a3, bB [], .map (mrow (fun n => .agg [vi .i64 n.1, vi .i64 n.2]) (fun n => vi .i64 n) a4), bB v2] 1 (.rp 3 0 1 x2 0) (vb (decide ((mget 0 a4 (v1, v1)) > 0))) = some [bG a3, bB [], .map (mrow (fun n => .agg [vi .i64 n.1, vi .i64 n.2]) (fun n => vi .i64 n) a4), .row 4 1 0 (ra eBool (v2.set x2 (decide ((mget 0 a4 (v1, v1)) > 0))))] ∧ ud = ud) (apc ((okT_of rfl (abl_cons rfl (abl_cons abl_row (abl_cons (abl_map (fun _ => rfl) (fun _ => rfl)) (abl_cons abl_row rfl))))) : okT 4 [bG a3, bB [], .map (mrow (fun n => .agg [vi .i64 n.1, vi .i64 n.2]) (fun n => vi .i64 n) a4), .row 4 1 0 (ra eBool (v2.set x2 (decide ((mget 0 a4 (v1, v1)) > 0))))] = true) apn))))) (by kernel_rfl)
 ·
  rw [← sj h]
  exact xbrk (n := 30) [(137, .d false), (6000, .d true)] (apc (cv h1) apn) (by kernel_rfl)
theorem L23_0_run (a1 : Nat) (a2 : Int) (a3 : GramD) (a4 : List ((Int × Int) × Int)) (s0 : Int × (List Bool)) (e : E_L23_0) (h : runL (fun s => L23_0 a1 a2 a4 s.1 s.2) s0 = some e) : L23_0_x a1 a2 a3 a4 e (evH prg 4 [6, 17, 135, 136] ir23_l0 (L23_0_s a1 a2 a3 a4 s0.1 s0.2)) := by
  have q := @loop_sound' (Int × (List Bool)) E_L23_0 (fun s => L23_0 a1 a2 a4 s.1 s.2) (fun s => evH prg 4 [6, 17, 135, 136] ir23_l0 (L23_0_s a1 a2 a3 a4 s.1 s.2)) (L23_0_x a1 a2 a3 a4) (fun s r h => L23_0_ok a1 a2 a3 a4 s.1 s.2 h) s0 e h
  exact q
noncomputable def F55 (a3 : List Bool) (a4 : SymD) : Option Bool :=
  (bif (a4.kind == 1) then ((getI a3 a4.sort).bind fun x2 => (some x2)) else (some false))
def F55_v (a1 : GramD) (a2 : List Int) (a3 : List Bool) (a4 : SymD) (x0 : Bool) : AV := (vb x0)
theorem F55_ok (a1 : GramD) (a2 : List Int) (a3 : List Bool) (a4 : SymD) {r : Bool} (h : F55 a3 a4 = some r) : PR1 prg 55 [(.ro ((eGram a1) ++ [.lst 1 (a2.map eI64), .lst 1 (a3.map eBool)])), (.agg ((eSym a4).map .p))] (F55_v a1 a2 a3 a4 r) := by
 unfold F55 at h
 refine bi h (fun h1 h => ?_) fun h1 h => ?_
 ·
  refine bn h fun x2 h2 h => ?_
  rw [← sj h]
  exact fpr (n := 30) [(7, .d true), (15, .v (.ro [.val (.bool x2)]))] (apc (cv h1) (apc (ig eBool 1 .i64 h2) apn)) rfl (by kernel_rfl)
 ·
  rw [← sj h]
  exact fpr (n := 30) [(7, .d false)] (apc (cv h1) apn) rfl (by kernel_rfl)
inductive E_L23_4 where
  | k0 (x0 : Bool)
noncomputable def L23_4 (a7 : List Bool) (a8 : Int) (a12 : ProdD) (a14 : Int) (v1 : Bool) (v2 : Int) : Option (E_L23_4 ⊕ (Bool × Int)) :=
  (bif (decide (v2 < a14)) then ((getI a12.right v2).bind fun x2 => (bif v1 then (bif (v2 == a8) then (some (.inr (true, (IntKind.wrap .i64 (v2 + 1))))) else ((F55 a7 x2).bind fun x5 => (bif x5 then (some (.inr (true, (IntKind.wrap .i64 (v2 + 1))))) else (some (.inr (false, (IntKind.wrap .i64 (v2 + 1)))))))) else (some (.inr (false, (IntKind.wrap .i64 (v2 + 1))))))) else (some (.inl (.k0 v1))))
def L23_4_s (a1 : List ByteArray) (a2 : List ProdD) (a3 : Int) (a4 : List ForbD) (a5 : List FollD) (a6 : List Int) (a7 : List Bool) (a8 : Int) (a9 : GramD) (a10 : Int) (a11 : Int) (a12 : ProdD) (a13 : Int) (a14 : Int) (a15 : List ((Int × Int) × Int)) (a16 : SymD) (v1 : Bool) (v2 : Int) : St := ⟨fr 150 ug [(1, (.ptr 0 0)), (4, (.ro [.lst 1 (a1.map eStr), .lst 7 (a2.map eProd), .val (.int .i64 a3), .lst 3 (a4.map eForb), .lst 5 (a5.map eFoll), .lst 1 (a6.map eI64), .lst 1 (a7.map eBool)])), (6, (.mp 2)), (8, (.ptr 4 0)), (9, (i6 a8)), (10, (.ptr 5 0)), (11, (vb v1)), (29, (.p (.lst 7 (a9.prods.map eProd)))), (30, (i6 a10)), (31, (i6 a11)), (36, (.p (.lst 6 (a12.right.map eSym)))), (37, (i6 a13)), (38, (i6 a8)), (63, (.p (.lst 6 (a12.right.map eSym)))), (64, (i6 a14)), (65, (i6 v2))], [bG a9, bB [], .map (mrow (fun n => .agg [vi .i64 n.1, vi .i64 n.2]) (fun n => vi .i64 n) a15), .row 48 6 0 (ra eSym []), bP a12, .cells 48 ((eSym a16).map .p)]⟩
def L23_4_x (a1 : List ByteArray) (a2 : List ProdD) (a3 : Int) (a4 : List ForbD) (a5 : List FollD) (a6 : List Int) (a7 : List Bool) (a8 : Int) (a9 : GramD) (a10 : Int) (a11 : Int) (a12 : ProdD) (a13 : Int) (a14 : Int) (a15 : List ((Int × Int) × Int)) (a16 : SymD) (e : E_L23_4) (r : Option (Out × St)) : Prop := match e with | .k0 x0 => ∃ g, r = some ((.brk 4), ⟨fr 150 g [(1, (.ptr 0 0)), (4, (.ro [.lst 1 (a1.map eStr), .lst 7 (a2.map eProd), .val (.int .i64 a3), .lst 3 (a4.map eForb), .lst 5 (a5.map eFoll), .lst 1 (a6.map eI64), .lst 1 (a7.map eBool)])), (6, (.mp 2)), (8, (.ptr 4 0)), (10, (.ptr 5 0)), (11, (vb x0)), (29, (.p (.lst 7 (a9.prods.map eProd)))), (30, (i6 a10)), (31, (i6 a11)), (36, (.p (.lst 6 (a12.right.map eSym)))), (37, (i6 a13)), (38, (i6 a8)), (63, (.p (.lst 6 (a12.right.map eSym))))], [bG a9, bB [], .map (mrow (fun n => .agg [vi .i64 n.1, vi .i64 n.2]) (fun n => vi .i64 n) a15), .row 48 6 0 (ra eSym []), bP a12, .cells 48 ((eSym a16).map .p)]⟩)
theorem L23_4_ok (a1 : List ByteArray) (a2 : List ProdD) (a3 : Int) (a4 : List ForbD) (a5 : List FollD) (a6 : List Int) (a7 : List Bool) (a8 : Int) (a9 : GramD) (a10 : Int) (a11 : Int) (a12 : ProdD) (a13 : Int) (a14 : Int) (a15 : List ((Int × Int) × Int)) (a16 : SymD) (v1 : Bool) (v2 : Int) {r : E_L23_4 ⊕ (Bool × Int)} (h : L23_4 a7 a8 a12 a14 v1 v2 = some r) : OkR (fun e => L23_4_x a1 a2 a3 a4 a5 a6 a7 a8 a9 a10 a11 a12 a13 a14 a15 a16 e (evH prg 6 [1, 4, 6, 8, 9, 10, 11, 29, 30, 31, 36, 37, 38, 63, 64, 65] ir23_l4 (L23_4_s a1 a2 a3 a4 a5 a6 a7 a8 a9 a10 a11 a12 a13 a14 a15 a16 v1 v2))) (fun s => evH prg 6 [1, 4, 6, 8, 9, 10, 11, 29, 30, 31, 36, 37, 38, 63, 64, 65] ir23_l4 (L23_4_s a1 a2 a3 a4 a5 a6 a7 a8 a9 a10 a11 a12 a13 a14 a15 a16 v1 v2) = evH prg 6 [1, 4, 6, 8, 9, 10, 11, 29, 30, 31, 36, 37, 38, 63, 64, 65] ir23_l4 (L23_4_s a1 a2 a3 a4 a5 a6 a7 a8 a9 a10 a11 a12 a13 a14 a15 a16 s.1 s.2)) r := by
 unfold L23_4 at h
 refine bi h (fun h1 h => ?_) fun h1 h => ?_
 ·
  refine bn h fun x2 h2 h => ?_
  refine bi h (fun h3 h => ?_) fun h3 h => ?_
  ·
   refine bi h (fun h4 h => ?_) fun h4 h => ?_
   ·
    rw [← sj h]
    exact rnd (n := 30) [(66, .d true), (68, .v (.ro (eSym x2))), (70, .d true), (74, .d true), (6000, .d true)] (apc (cv h1) (apc (ig eSym 6 .i64 h2) (apc (cv h3) (apc (cv h4) (apc ((okT_of rfl (abl_cons rfl (abl_cons abl_row (abl_cons (abl_map (fun _ => rfl) (fun _ => rfl)) (abl_cons abl_row (abl_cons rfl (abl_cons rfl rfl))))))) : okT 6 [bG a9, bB [], .map (mrow (fun n => .agg [vi .i64 n.1, vi .i64 n.2]) (fun n => vi .i64 n) a15), .row 48 6 0 (ra eSym []), bP a12, .cells 48 ((eSym a16).map .p), .cells 48 ((eSym x2).map .p)] = true) apn))))) (by kernel_rfl)
   ·
    refine bn h fun x5 h5 h => ?_
    refine bi h (fun h6 h => ?_) fun h6 h => ?_
    ·
     rw [← sj h]
     exact rnd (n := 30) [(66, .d true), (68, .v (.ro (eSym x2))), (70, .d true), (74, .d false), (78, .v (vb true)), (6000, .d true)] (apc (cv h1) (apc (ig eSym 6 .i64 h2) (apc (cv h3) (apc (cv h4) (apc ((((F55_ok (⟨a1, a2, a3, a4, a5⟩ : GramD) a6 a7 x2 h5).cp rfl _).trans (congrArg (fun z => some (vb z)) h6)) : CP prg 55 [(.ro [.lst 1 (a1.map eStr), .lst 7 (a2.map eProd), .val (.int .i64 a3), .lst 3 (a4.map eForb), .lst 5 (a5.map eFoll), .lst 1 (a6.map eI64), .lst 1 (a7.map eBool)]), (.agg ((eSym x2).map .p))] [bG a9, bB [], .map (mrow (fun n => .agg [vi .i64 n.1, vi .i64 n.2]) (fun n => vi .i64 n) a15), .row 48 6 0 (ra eSym []), bP a12, .cells 48 ((eSym a16).map .p), .cells 48 ((eSym x2).map .p)] = some (vb true)) (apc ((okT_of rfl (abl_cons rfl (abl_cons abl_row (abl_cons (abl_map (fun _ => rfl) (fun _ => rfl)) (abl_cons abl_row (abl_cons rfl (abl_cons rfl rfl))))))) : okT 6 [bG a9, bB [], .map (mrow (fun n => .agg [vi .i64 n.1, vi .i64 n.2]) (fun n => vi .i64 n) a15), .row 48 6 0 (ra eSym []), bP a12, .cells 48 ((eSym a16).map .p), .cells 48 ((eSym x2).map .p)] = true) apn)))))) (by kernel_rfl)
    ·
     rw [← sj h]
     exact rnd (n := 30) [(66, .d true), (68, .v (.ro (eSym x2))), (70, .d true), (74, .d false), (78, .v (vb false)), (6000, .d true)] (apc (cv h1) (apc (ig eSym 6 .i64 h2) (apc (cv h3) (apc (cv h4) (apc ((((F55_ok (⟨a1, a2, a3, a4, a5⟩ : GramD) a6 a7 x2 h5).cp rfl _).trans (congrArg (fun z => some (vb z)) h6)) : CP prg 55 [(.ro [.lst 1 (a1.map eStr), .lst 7 (a2.map eProd), .val (.int .i64 a3), .lst 3 (a4.map eForb), .lst 5 (a5.map eFoll), .lst 1 (a6.map eI64), .lst 1 (a7.map eBool)]), (.agg ((eSym x2).map .p))] [bG a9, bB [], .map (mrow (fun n => .agg [vi .i64 n.1, vi .i64 n.2]) (fun n => vi .i64 n) a15), .row 48 6 0 (ra eSym []), bP a12, .cells 48 ((eSym a16).map .p), .cells 48 ((eSym x2).map .p)] = some (vb false)) (apc ((okT_of rfl (abl_cons rfl (abl_cons abl_row (abl_cons (abl_map (fun _ => rfl) (fun _ => rfl)) (abl_cons abl_row (abl_cons rfl (abl_cons rfl rfl))))))) : okT 6 [bG a9, bB [], .map (mrow (fun n => .agg [vi .i64 n.1, vi .i64 n.2]) (fun n => vi .i64 n) a15), .row 48 6 0 (ra eSym []), bP a12, .cells 48 ((eSym a16).map .p), .cells 48 ((eSym x2).map .p)] = true) apn)))))) (by kernel_rfl)
  ·
   rw [← sj h]
   exact rnd (n := 30) [(66, .d true), (68, .v (.ro (eSym x2))), (70, .d false), (6000, .d true)] (apc (cv h1) (apc (ig eSym 6 .i64 h2) (apc (cv h3) (apc ((okT_of rfl (abl_cons rfl (abl_cons abl_row (abl_cons (abl_map (fun _ => rfl) (fun _ => rfl)) (abl_cons abl_row (abl_cons rfl (abl_cons rfl rfl))))))) : okT 6 [bG a9, bB [], .map (mrow (fun n => .agg [vi .i64 n.1, vi .i64 n.2]) (fun n => vi .i64 n) a15), .row 48 6 0 (ra eSym []), bP a12, .cells 48 ((eSym a16).map .p), .cells 48 ((eSym x2).map .p)] = true) apn)))) (by kernel_rfl)
 ·
  rw [← sj h]
  exact xbrk (n := 30) [(66, .d false), (6000, .d true)] (apc (cv h1) apn) (by kernel_rfl)
theorem L23_4_run (a1 : List ByteArray) (a2 : List ProdD) (a3 : Int) (a4 : List ForbD) (a5 : List FollD) (a6 : List Int) (a7 : List Bool) (a8 : Int) (a9 : GramD) (a10 : Int) (a11 : Int) (a12 : ProdD) (a13 : Int) (a14 : Int) (a15 : List ((Int × Int) × Int)) (a16 : SymD) (s0 : Bool × Int) (e : E_L23_4) (h : runL (fun s => L23_4 a7 a8 a12 a14 s.1 s.2) s0 = some e) : L23_4_x a1 a2 a3 a4 a5 a6 a7 a8 a9 a10 a11 a12 a13 a14 a15 a16 e (evH prg 6 [1, 4, 6, 8, 9, 10, 11, 29, 30, 31, 36, 37, 38, 63, 64, 65] ir23_l4 (L23_4_s a1 a2 a3 a4 a5 a6 a7 a8 a9 a10 a11 a12 a13 a14 a15 a16 s0.1 s0.2)) := by
  have q := @loop_sound' (Bool × Int) E_L23_4 (fun s => L23_4 a7 a8 a12 a14 s.1 s.2) (fun s => evH prg 6 [1, 4, 6, 8, 9, 10, 11, 29, 30, 31, 36, 37, 38, 63, 64, 65] ir23_l4 (L23_4_s a1 a2 a3 a4 a5 a6 a7 a8 a9 a10 a11 a12 a13 a14 a15 a16 s.1 s.2)) (L23_4_x a1 a2 a3 a4 a5 a6 a7 a8 a9 a10 a11 a12 a13 a14 a15 a16) (fun s r h => L23_4_ok a1 a2 a3 a4 a5 a6 a7 a8 a9 a10 a11 a12 a13 a14 a15 a16 s.1 s.2 h) s0 e h
  exact q
inductive E_L23_5_2 where
  | k0 (x0 : List ((Int × Int) × Int))
noncomputable def L23_5_2 (a6 : List Int) (a7 : List Bool) (a11 : ProdD) (a12 : Int) (v1 : Int) (v2 : List ((Int × Int) × Int)) : Option (E_L23_5_2 ⊕ (Int × (List ((Int × Int) × Int)))) :=
  (bif (decide (v1 < a12)) then ((getI a11.right v1).bind fun x2 => ((F54 a11).bind fun x3 => (bif x3 then (bif (x2.kind != 1) then (some (.inr ((IntKind.wrap .i64 (v1 + 1)), v2))) else ((getI a6 x2.sort).bind fun x6 => (bif (decide (x6 < 0)) then (some (.inr ((IntKind.wrap .i64 (v1 + 1)), v2))) else ((runL (fun s => L23_4 a7 v1 a11 (a11.right.length : Int) s.1 s.2) (true, 0)).bind fun r8 => match r8 with | .k0 x8_0 => (bif x8_0 then (some (.inr ((IntKind.wrap .i64 (v1 + 1)), (mput (a11.left, x2.sort) 1 v2)))) else (some (.inr ((IntKind.wrap .i64 (v1 + 1)), v2)))))))) else (some (.inr ((IntKind.wrap .i64 (v1 + 1)), v2)))))) else (some (.inl (.k0 v2))))
def L23_5_2_s (a1 : List ByteArray) (a2 : List ProdD) (a3 : Int) (a4 : List ForbD) (a5 : List FollD) (a6 : List Int) (a7 : List Bool) (a8 : GramD) (a9 : Int) (a10 : Int) (a11 : ProdD) (a12 : Int) (v1 : Int) (v2 : List ((Int × Int) × Int)) : St := ⟨fr 150 ug [(1, (.ptr 0 0)), (4, (.ro [.lst 1 (a1.map eStr), .lst 7 (a2.map eProd), .val (.int .i64 a3), .lst 3 (a4.map eForb), .lst 5 (a5.map eFoll), .lst 1 (a6.map eI64), .lst 1 (a7.map eBool)])), (6, (.mp 2)), (8, (.ptr 4 0)), (29, (.p (.lst 7 (a8.prods.map eProd)))), (30, (i6 a9)), (31, (i6 a10)), (36, (.p (.lst 6 (a11.right.map eSym)))), (37, (i6 a12)), (38, (i6 v1))], [bG a8, bB [], .map (mrow (fun n => .agg [vi .i64 n.1, vi .i64 n.2]) (fun n => vi .i64 n) v2), .row 48 6 0 (ra eSym []), bP a11]⟩
def L23_5_2_x (a1 : List ByteArray) (a2 : List ProdD) (a3 : Int) (a4 : List ForbD) (a5 : List FollD) (a6 : List Int) (a7 : List Bool) (a8 : GramD) (a9 : Int) (a10 : Int) (a11 : ProdD) (a12 : Int) (e : E_L23_5_2) (r : Option (Out × St)) : Prop := match e with | .k0 x0 => ∃ g, r = some ((.brk 2), ⟨fr 150 g [(1, (.ptr 0 0)), (4, (.ro [.lst 1 (a1.map eStr), .lst 7 (a2.map eProd), .val (.int .i64 a3), .lst 3 (a4.map eForb), .lst 5 (a5.map eFoll), .lst 1 (a6.map eI64), .lst 1 (a7.map eBool)])), (6, (.mp 2)), (8, (.ptr 4 0)), (29, (.p (.lst 7 (a8.prods.map eProd)))), (30, (i6 a9)), (31, (i6 a10)), (36, (.p (.lst 6 (a11.right.map eSym))))], [bG a8, bB [], .map (mrow (fun n => .agg [vi .i64 n.1, vi .i64 n.2]) (fun n => vi .i64 n) x0), .row 48 6 0 (ra eSym []), bP a11]⟩)
theorem L23_5_2_ok (a1 : List ByteArray) (a2 : List ProdD) (a3 : Int) (a4 : List ForbD) (a5 : List FollD) (a6 : List Int) (a7 : List Bool) (a8 : GramD) (a9 : Int) (a10 : Int) (a11 : ProdD) (a12 : Int) (v1 : Int) (v2 : List ((Int × Int) × Int)) {r : E_L23_5_2 ⊕ (Int × (List ((Int × Int) × Int)))} (h : L23_5_2 a6 a7 a11 a12 v1 v2 = some r) : OkR (fun e => L23_5_2_x a1 a2 a3 a4 a5 a6 a7 a8 a9 a10 a11 a12 e (evH prg 5 [1, 4, 6, 8, 29, 30, 31, 36, 37, 38] ir23_l5 (L23_5_2_s a1 a2 a3 a4 a5 a6 a7 a8 a9 a10 a11 a12 v1 v2))) (fun s => evH prg 5 [1, 4, 6, 8, 29, 30, 31, 36, 37, 38] ir23_l5 (L23_5_2_s a1 a2 a3 a4 a5 a6 a7 a8 a9 a10 a11 a12 v1 v2) = evH prg 5 [1, 4, 6, 8, 29, 30, 31, 36, 37, 38] ir23_l5 (L23_5_2_s a1 a2 a3 a4 a5 a6 a7 a8 a9 a10 a11 a12 s.1 s.2)) r := by
 unfold L23_5_2 at h
 refine bi h (fun h1 h => ?_) fun h1 h => ?_
 ·
  refine bn h fun x2 h2 h => ?_
  refine bn h fun x3 h3 h => ?_
  refine bi h (fun h4 h => ?_) fun h4 h => ?_
  ·
   refine bi h (fun h5 h => ?_) fun h5 h => ?_
   ·
    rw [← sj h]
    exact rnd (n := 30) [(39, .d true), (41, .v (.ro (eSym x2))), (44, .v (vb true)), (49, .d true), (6000, .d true)] (apc (cv h1) (apc (ig eSym 6 .i64 h2) (apc ((((F54_ok a11 h3).cp rfl _).trans (congrArg (fun z => some (vb z)) h4)) : CP prg 54 [(aP a11)] [bG a8, bB [], .map (mrow (fun n => .agg [vi .i64 n.1, vi .i64 n.2]) (fun n => vi .i64 n) v2), .row 48 6 0 (ra eSym []), bP a11, .cells 48 ((eSym x2).map .p)] = some (vb true)) (apc (cv h5) (apc ((okT_of rfl (abl_cons rfl (abl_cons abl_row (abl_cons (abl_map (fun _ => rfl) (fun _ => rfl)) (abl_cons abl_row (abl_cons rfl rfl)))))) : okT 5 [bG a8, bB [], .map (mrow (fun n => .agg [vi .i64 n.1, vi .i64 n.2]) (fun n => vi .i64 n) v2), .row 48 6 0 (ra eSym []), bP a11, .cells 48 ((eSym x2).map .p)] = true) apn))))) (by kernel_rfl)
   ·
    refine bn h fun x6 h6 h => ?_
    refine bi h (fun h7 h => ?_) fun h7 h => ?_
    ·
     rw [← sj h]
     exact rnd (n := 30) [(39, .d true), (41, .v (.ro (eSym x2))), (44, .v (vb true)), (49, .d false), (58, .v (.ro [.val (.int .i64 x6)])), (60, .d true), (6000, .d true)] (apc (cv h1) (apc (ig eSym 6 .i64 h2) (apc ((((F54_ok a11 h3).cp rfl _).trans (congrArg (fun z => some (vb z)) h4)) : CP prg 54 [(aP a11)] [bG a8, bB [], .map (mrow (fun n => .agg [vi .i64 n.1, vi .i64 n.2]) (fun n => vi .i64 n) v2), .row 48 6 0 (ra eSym []), bP a11, .cells 48 ((eSym x2).map .p)] = some (vb true)) (apc (cv h5) (apc (ig eI64 1 .i64 h6) (apc (cv h7) (apc ((okT_of rfl (abl_cons rfl (abl_cons abl_row (abl_cons (abl_map (fun _ => rfl) (fun _ => rfl)) (abl_cons abl_row (abl_cons rfl rfl)))))) : okT 5 [bG a8, bB [], .map (mrow (fun n => .agg [vi .i64 n.1, vi .i64 n.2]) (fun n => vi .i64 n) v2), .row 48 6 0 (ra eSym []), bP a11, .cells 48 ((eSym x2).map .p)] = true) apn))))))) (by kernel_rfl)
    ·
     refine bn h fun r8 h8 h => ?_
     cases r8 with
     | k0 x8_0 =>
      obtain ⟨g8, e8⟩ := L23_4_run a1 a2 a3 a4 a5 a6 a7 v1 a8 a9 a10 a11 a12 (a11.right.length : Int) v2 x2 (true, 0) _ h8
      refine bi h (fun h9 h => ?_) fun h9 h => ?_
      ·
       rw [← sj h]
       exact rnd (n := 30) [(39, .d true), (41, .v (.ro (eSym x2))), (44, .v (vb true)), (49, .d false), (58, .v (.ro [.val (.int .i64 x6)])), (60, .d false), (64, .v (i6 (a11.right.length : Int))), (2004, .l (.brk 4) ⟨fr 150 g8 [(1, (.ptr 0 0)), (4, (.ro [.lst 1 (a1.map eStr), .lst 7 (a2.map eProd), .val (.int .i64 a3), .lst 3 (a4.map eForb), .lst 5 (a5.map eFoll), .lst 1 (a6.map eI64), .lst 1 (a7.map eBool)])), (6, (.mp 2)), (8, (.ptr 4 0)), (10, (.ptr 5 0)), (11, (vb x8_0)), (29, (.p (.lst 7 (a8.prods.map eProd)))), (30, (i6 a9)), (31, (i6 a10)), (36, (.p (.lst 6 (a11.right.map eSym)))), (37, (i6 a12)), (38, (i6 v1)), (63, (.p (.lst 6 (a11.right.map eSym))))], [bG a8, bB [], .map (mrow (fun n => .agg [vi .i64 n.1, vi .i64 n.2]) (fun n => vi .i64 n) v2), .row 48 6 0 (ra eSym []), bP a11, .cells 48 ((eSym x2).map .p)]⟩), (82, .d true), (5000, .r ud [bG a8, bB [], .map (mrow (fun n => .agg [vi .i64 n.1, vi .i64 n.2]) (fun n => vi .i64 n) (mput (a11.left, x2.sort) 1 v2)), .row 48 6 0 (ra eSym []), bP a11, .cells 48 ((eSym x2).map .p)]), (6000, .d true)] (apc (cv h1) (apc (ig eSym 6 .i64 h2) (apc ((((F54_ok a11 h3).cp rfl _).trans (congrArg (fun z => some (vb z)) h4)) : CP prg 54 [(aP a11)] [bG a8, bB [], .map (mrow (fun n => .agg [vi .i64 n.1, vi .i64 n.2]) (fun n => vi .i64 n) v2), .row 48 6 0 (ra eSym []), bP a11, .cells 48 ((eSym x2).map .p)] = some (vb true)) (apc (cv h5) (apc (ig eI64 1 .i64 h6) (apc (cv h7) (apc (lg a11.right eSym 6) (apc ((okT_of rfl (abl_cons rfl (abl_cons abl_row (abl_cons (abl_map (fun _ => rfl) (fun _ => rfl)) (abl_cons abl_row (abl_cons rfl (abl_cons rfl rfl))))))) : okT 6 [bG a8, bB [], .map (mrow (fun n => .agg [vi .i64 n.1, vi .i64 n.2]) (fun n => vi .i64 n) v2), .row 48 6 0 (ra eSym []), bP a11, .cells 48 ((eSym x2).map .p)] = true) (apc (e8 : evH prg 6 [1, 4, 6, 8, 9, 10, 11, 29, 30, 31, 36, 37, 38, 63, 64, 65] ir23_l4 (L23_4_s a1 a2 a3 a4 a5 a6 a7 v1 a8 a9 a10 a11 a12 (a11.right.length : Int) v2 x2 true 0) = some ((.brk 4), ⟨fr 150 g8 [(1, (.ptr 0 0)), (4, (.ro [.lst 1 (a1.map eStr), .lst 7 (a2.map eProd), .val (.int .i64 a3), .lst 3 (a4.map eForb), .lst 5 (a5.map eFoll), .lst 1 (a6.map eI64), .lst 1 (a7.map eBool)])), (6, (.mp 2)), (8, (.ptr 4 0)), (10, (.ptr 5 0)), (11, (vb x8_0)), (29, (.p (.lst 7 (a8.prods.map eProd)))), (30, (i6 a9)), (31, (i6 a10)), (36, (.p (.lst 6 (a11.right.map eSym)))), (37, (i6 a12)), (38, (i6 v1)), (63, (.p (.lst 6 (a11.right.map eSym))))], [bG a8, bB [], .map (mrow (fun n => .agg [vi .i64 n.1, vi .i64 n.2]) (fun n => vi .i64 n) v2), .row 48 6 0 (ra eSym []), bP a11, .cells 48 ((eSym x2).map .p)]⟩)) (apc (cv h9) (apc (⟨up_row key_int2 (es := v2) (k := (a11.left, x2.sort)) (v := 1) rfl, rfl⟩ : upA [bG a8, bB [], .map (mrow (fun n => .agg [vi .i64 n.1, vi .i64 n.2]) (fun n => vi .i64 n) v2), .row 48 6 0 (ra eSym []), bP a11, .cells 48 ((eSym x2).map .p)] [1, 1] .true (.mp 2) (.agg [(i6 a11.left), (i6 x2.sort)]) (i6 1) = some [bG a8, bB [], .map (mrow (fun n => .agg [vi .i64 n.1, vi .i64 n.2]) (fun n => vi .i64 n) (mput (a11.left, x2.sort) 1 v2)), .row 48 6 0 (ra eSym []), bP a11, .cells 48 ((eSym x2).map .p)] ∧ ud = ud) (apc ((okT_of rfl (abl_cons rfl (abl_cons abl_row (abl_cons (abl_map (fun _ => rfl) (fun _ => rfl)) (abl_cons abl_row (abl_cons rfl rfl)))))) : okT 5 [bG a8, bB [], .map (mrow (fun n => .agg [vi .i64 n.1, vi .i64 n.2]) (fun n => vi .i64 n) (mput (a11.left, x2.sort) 1 v2)), .row 48 6 0 (ra eSym []), bP a11, .cells 48 ((eSym x2).map .p)] = true) apn)))))))))))) (by kernel_rfl)
      ·
       rw [← sj h]
       exact rnd (n := 30) [(39, .d true), (41, .v (.ro (eSym x2))), (44, .v (vb true)), (49, .d false), (58, .v (.ro [.val (.int .i64 x6)])), (60, .d false), (64, .v (i6 (a11.right.length : Int))), (2004, .l (.brk 4) ⟨fr 150 g8 [(1, (.ptr 0 0)), (4, (.ro [.lst 1 (a1.map eStr), .lst 7 (a2.map eProd), .val (.int .i64 a3), .lst 3 (a4.map eForb), .lst 5 (a5.map eFoll), .lst 1 (a6.map eI64), .lst 1 (a7.map eBool)])), (6, (.mp 2)), (8, (.ptr 4 0)), (10, (.ptr 5 0)), (11, (vb x8_0)), (29, (.p (.lst 7 (a8.prods.map eProd)))), (30, (i6 a9)), (31, (i6 a10)), (36, (.p (.lst 6 (a11.right.map eSym)))), (37, (i6 a12)), (38, (i6 v1)), (63, (.p (.lst 6 (a11.right.map eSym))))], [bG a8, bB [], .map (mrow (fun n => .agg [vi .i64 n.1, vi .i64 n.2]) (fun n => vi .i64 n) v2), .row 48 6 0 (ra eSym []), bP a11, .cells 48 ((eSym x2).map .p)]⟩), (82, .d false), (6000, .d true)] (apc (cv h1) (apc (ig eSym 6 .i64 h2) (apc ((((F54_ok a11 h3).cp rfl _).trans (congrArg (fun z => some (vb z)) h4)) : CP prg 54 [(aP a11)] [bG a8, bB [], .map (mrow (fun n => .agg [vi .i64 n.1, vi .i64 n.2]) (fun n => vi .i64 n) v2), .row 48 6 0 (ra eSym []), bP a11, .cells 48 ((eSym x2).map .p)] = some (vb true)) (apc (cv h5) (apc (ig eI64 1 .i64 h6) (apc (cv h7) (apc (lg a11.right eSym 6) (apc ((okT_of rfl (abl_cons rfl (abl_cons abl_row (abl_cons (abl_map (fun _ => rfl) (fun _ => rfl)) (abl_cons abl_row (abl_cons rfl (abl_cons rfl rfl))))))) : okT 6 [bG a8, bB [], .map (mrow (fun n => .agg [vi .i64 n.1, vi .i64 n.2]) (fun n => vi .i64 n) v2), .row 48 6 0 (ra eSym []), bP a11, .cells 48 ((eSym x2).map .p)] = true) (apc (e8 : evH prg 6 [1, 4, 6, 8, 9, 10, 11, 29, 30, 31, 36, 37, 38, 63, 64, 65] ir23_l4 (L23_4_s a1 a2 a3 a4 a5 a6 a7 v1 a8 a9 a10 a11 a12 (a11.right.length : Int) v2 x2 true 0) = some ((.brk 4), ⟨fr 150 g8 [(1, (.ptr 0 0)), (4, (.ro [.lst 1 (a1.map eStr), .lst 7 (a2.map eProd), .val (.int .i64 a3), .lst 3 (a4.map eForb), .lst 5 (a5.map eFoll), .lst 1 (a6.map eI64), .lst 1 (a7.map eBool)])), (6, (.mp 2)), (8, (.ptr 4 0)), (10, (.ptr 5 0)), (11, (vb x8_0)), (29, (.p (.lst 7 (a8.prods.map eProd)))), (30, (i6 a9)), (31, (i6 a10)), (36, (.p (.lst 6 (a11.right.map eSym)))), (37, (i6 a12)), (38, (i6 v1)), (63, (.p (.lst 6 (a11.right.map eSym))))], [bG a8, bB [], .map (mrow (fun n => .agg [vi .i64 n.1, vi .i64 n.2]) (fun n => vi .i64 n) v2), .row 48 6 0 (ra eSym []), bP a11, .cells 48 ((eSym x2).map .p)]⟩)) (apc (cv h9) (apc ((okT_of rfl (abl_cons rfl (abl_cons abl_row (abl_cons (abl_map (fun _ => rfl) (fun _ => rfl)) (abl_cons abl_row (abl_cons rfl rfl)))))) : okT 5 [bG a8, bB [], .map (mrow (fun n => .agg [vi .i64 n.1, vi .i64 n.2]) (fun n => vi .i64 n) v2), .row 48 6 0 (ra eSym []), bP a11, .cells 48 ((eSym x2).map .p)] = true) apn))))))))))) (by kernel_rfl)
  ·
   rw [← sj h]
   exact rnd (n := 30) [(39, .d true), (41, .v (.ro (eSym x2))), (44, .v (vb false)), (6000, .d true)] (apc (cv h1) (apc (ig eSym 6 .i64 h2) (apc ((((F54_ok a11 h3).cp rfl _).trans (congrArg (fun z => some (vb z)) h4)) : CP prg 54 [(aP a11)] [bG a8, bB [], .map (mrow (fun n => .agg [vi .i64 n.1, vi .i64 n.2]) (fun n => vi .i64 n) v2), .row 48 6 0 (ra eSym []), bP a11, .cells 48 ((eSym x2).map .p)] = some (vb false)) (apc ((okT_of rfl (abl_cons rfl (abl_cons abl_row (abl_cons (abl_map (fun _ => rfl) (fun _ => rfl)) (abl_cons abl_row (abl_cons rfl rfl)))))) : okT 5 [bG a8, bB [], .map (mrow (fun n => .agg [vi .i64 n.1, vi .i64 n.2]) (fun n => vi .i64 n) v2), .row 48 6 0 (ra eSym []), bP a11, .cells 48 ((eSym x2).map .p)] = true) apn)))) (by kernel_rfl)
 ·
  rw [← sj h]
  exact xbrk (n := 30) [(39, .d false), (6000, .d true)] (apc (cv h1) apn) (by kernel_rfl)
theorem L23_5_2_run (a1 : List ByteArray) (a2 : List ProdD) (a3 : Int) (a4 : List ForbD) (a5 : List FollD) (a6 : List Int) (a7 : List Bool) (a8 : GramD) (a9 : Int) (a10 : Int) (a11 : ProdD) (a12 : Int) (s0 : Int × (List ((Int × Int) × Int))) (e : E_L23_5_2) (h : runL (fun s => L23_5_2 a6 a7 a11 a12 s.1 s.2) s0 = some e) : L23_5_2_x a1 a2 a3 a4 a5 a6 a7 a8 a9 a10 a11 a12 e (evH prg 5 [1, 4, 6, 8, 29, 30, 31, 36, 37, 38] ir23_l5 (L23_5_2_s a1 a2 a3 a4 a5 a6 a7 a8 a9 a10 a11 a12 s0.1 s0.2)) := by
  have q := @loop_sound' (Int × (List ((Int × Int) × Int))) E_L23_5_2 (fun s => L23_5_2 a6 a7 a11 a12 s.1 s.2) (fun s => evH prg 5 [1, 4, 6, 8, 29, 30, 31, 36, 37, 38] ir23_l5 (L23_5_2_s a1 a2 a3 a4 a5 a6 a7 a8 a9 a10 a11 a12 s.1 s.2)) (L23_5_2_x a1 a2 a3 a4 a5 a6 a7 a8 a9 a10 a11 a12) (fun s r h => L23_5_2_ok a1 a2 a3 a4 a5 a6 a7 a8 a9 a10 a11 a12 s.1 s.2 h) s0 e h
  exact q
inductive E_L23_6_2 where
  | k0 (x0 : List ((Int × Int) × Int))
noncomputable def L23_6_2 (a6 : List Int) (a7 : List Bool) (a8 : GramD) (a9 : Int) (v1 : Int) (v2 : List ((Int × Int) × Int)) : Option (E_L23_6_2 ⊕ (Int × (List ((Int × Int) × Int)))) :=
  (bif (decide (v1 < a9)) then ((getI a8.prods v1).bind fun x2 => ((runL (fun s => L23_5_2 a6 a7 x2 (x2.right.length : Int) s.1 s.2) (0, v2)).bind fun r3 => match r3 with | .k0 x3_0 => (some (.inr ((IntKind.wrap .i64 (v1 + 1)), x3_0))))) else (some (.inl (.k0 v2))))
def L23_6_2_s (a1 : List ByteArray) (a2 : List ProdD) (a3 : Int) (a4 : List ForbD) (a5 : List FollD) (a6 : List Int) (a7 : List Bool) (a8 : GramD) (a9 : Int) (v1 : Int) (v2 : List ((Int × Int) × Int)) : St := ⟨fr 150 ug [(1, (.ptr 0 0)), (4, (.ro [.lst 1 (a1.map eStr), .lst 7 (a2.map eProd), .val (.int .i64 a3), .lst 3 (a4.map eForb), .lst 5 (a5.map eFoll), .lst 1 (a6.map eI64), .lst 1 (a7.map eBool)])), (6, (.mp 2)), (29, (.p (.lst 7 (a8.prods.map eProd)))), (30, (i6 a9)), (31, (i6 v1))], [bG a8, bB [], .map (mrow (fun n => .agg [vi .i64 n.1, vi .i64 n.2]) (fun n => vi .i64 n) v2)]⟩
def L23_6_2_x (a1 : List ByteArray) (a2 : List ProdD) (a3 : Int) (a4 : List ForbD) (a5 : List FollD) (a6 : List Int) (a7 : List Bool) (a8 : GramD) (a9 : Int) (e : E_L23_6_2) (r : Option (Out × St)) : Prop := match e with | .k0 x0 => ∃ g, r = some ((.brk 0), ⟨fr 150 g [(1, (.ptr 0 0)), (6, (.mp 2)), (29, (.p (.lst 7 (a8.prods.map eProd))))], [bG a8, bB [], .map (mrow (fun n => .agg [vi .i64 n.1, vi .i64 n.2]) (fun n => vi .i64 n) x0)]⟩)
theorem L23_6_2_ok (a1 : List ByteArray) (a2 : List ProdD) (a3 : Int) (a4 : List ForbD) (a5 : List FollD) (a6 : List Int) (a7 : List Bool) (a8 : GramD) (a9 : Int) (v1 : Int) (v2 : List ((Int × Int) × Int)) {r : E_L23_6_2 ⊕ (Int × (List ((Int × Int) × Int)))} (h : L23_6_2 a6 a7 a8 a9 v1 v2 = some r) : OkR (fun e => L23_6_2_x a1 a2 a3 a4 a5 a6 a7 a8 a9 e (evH prg 3 [1, 4, 6, 29, 30, 31] ir23_l6 (L23_6_2_s a1 a2 a3 a4 a5 a6 a7 a8 a9 v1 v2))) (fun s => evH prg 3 [1, 4, 6, 29, 30, 31] ir23_l6 (L23_6_2_s a1 a2 a3 a4 a5 a6 a7 a8 a9 v1 v2) = evH prg 3 [1, 4, 6, 29, 30, 31] ir23_l6 (L23_6_2_s a1 a2 a3 a4 a5 a6 a7 a8 a9 s.1 s.2)) r := by
 unfold L23_6_2 at h
 refine bi h (fun h1 h => ?_) fun h1 h => ?_
 ·
  refine bn h fun x2 h2 h => ?_
  refine bn h fun r3 h3 h => ?_
  cases r3 with
  | k0 x3_0 =>
   obtain ⟨g3, e3⟩ := L23_5_2_run a1 a2 a3 a4 a5 a6 a7 a8 a9 v1 x2 (x2.right.length : Int) (0, v2) _ h3
   rw [← sj h]
   exact rnd (n := 30) [(32, .d true), (33, .v (.ro (eProd x2))), (37, .v (i6 (x2.right.length : Int))), (2002, .l (.brk 2) ⟨fr 150 g3 [(1, (.ptr 0 0)), (4, (.ro [.lst 1 (a1.map eStr), .lst 7 (a2.map eProd), .val (.int .i64 a3), .lst 3 (a4.map eForb), .lst 5 (a5.map eFoll), .lst 1 (a6.map eI64), .lst 1 (a7.map eBool)])), (6, (.mp 2)), (8, (.ptr 4 0)), (29, (.p (.lst 7 (a8.prods.map eProd)))), (30, (i6 a9)), (31, (i6 v1)), (36, (.p (.lst 6 (x2.right.map eSym))))], [bG a8, bB [], .map (mrow (fun n => .agg [vi .i64 n.1, vi .i64 n.2]) (fun n => vi .i64 n) x3_0), .row 48 6 0 (ra eSym []), bP x2]⟩), (6000, .d true)] (apc (cv h1) (apc (ig eProd 7 .i64 h2) (apc (lg x2.right eSym 6) (apc ((okT_of rfl (abl_cons rfl (abl_cons abl_row (abl_cons (abl_map (fun _ => rfl) (fun _ => rfl)) (abl_cons abl_row (abl_cons rfl rfl)))))) : okT 5 [bG a8, bB [], .map (mrow (fun n => .agg [vi .i64 n.1, vi .i64 n.2]) (fun n => vi .i64 n) v2), .row 48 6 0 (ra eSym []), bP x2] = true) (apc (e3 : evH prg 5 [1, 4, 6, 8, 29, 30, 31, 36, 37, 38] ir23_l5 (L23_5_2_s a1 a2 a3 a4 a5 a6 a7 a8 a9 v1 x2 (x2.right.length : Int) 0 v2) = some ((.brk 2), ⟨fr 150 g3 [(1, (.ptr 0 0)), (4, (.ro [.lst 1 (a1.map eStr), .lst 7 (a2.map eProd), .val (.int .i64 a3), .lst 3 (a4.map eForb), .lst 5 (a5.map eFoll), .lst 1 (a6.map eI64), .lst 1 (a7.map eBool)])), (6, (.mp 2)), (8, (.ptr 4 0)), (29, (.p (.lst 7 (a8.prods.map eProd)))), (30, (i6 a9)), (31, (i6 v1)), (36, (.p (.lst 6 (x2.right.map eSym))))], [bG a8, bB [], .map (mrow (fun n => .agg [vi .i64 n.1, vi .i64 n.2]) (fun n => vi .i64 n) x3_0), .row 48 6 0 (ra eSym []), bP x2]⟩)) (apc ((okT_of rfl (abl_cons rfl (abl_cons abl_row (abl_cons (abl_map (fun _ => rfl) (fun _ => rfl)) rfl)))) : okT 3 [bG a8, bB [], .map (mrow (fun n => .agg [vi .i64 n.1, vi .i64 n.2]) (fun n => vi .i64 n) x3_0), .row 48 6 0 (ra eSym []), bP x2] = true) apn)))))) (by kernel_rfl)
 ·
  rw [← sj h]
  exact xbrk (n := 30) [(32, .d false), (6000, .d true)] (apc (cv h1) apn) (by kernel_rfl)
theorem L23_6_2_run (a1 : List ByteArray) (a2 : List ProdD) (a3 : Int) (a4 : List ForbD) (a5 : List FollD) (a6 : List Int) (a7 : List Bool) (a8 : GramD) (a9 : Int) (s0 : Int × (List ((Int × Int) × Int))) (e : E_L23_6_2) (h : runL (fun s => L23_6_2 a6 a7 a8 a9 s.1 s.2) s0 = some e) : L23_6_2_x a1 a2 a3 a4 a5 a6 a7 a8 a9 e (evH prg 3 [1, 4, 6, 29, 30, 31] ir23_l6 (L23_6_2_s a1 a2 a3 a4 a5 a6 a7 a8 a9 s0.1 s0.2)) := by
  have q := @loop_sound' (Int × (List ((Int × Int) × Int))) E_L23_6_2 (fun s => L23_6_2 a6 a7 a8 a9 s.1 s.2) (fun s => evH prg 3 [1, 4, 6, 29, 30, 31] ir23_l6 (L23_6_2_s a1 a2 a3 a4 a5 a6 a7 a8 a9 s.1 s.2)) (L23_6_2_x a1 a2 a3 a4 a5 a6 a7 a8 a9) (fun s r h => L23_6_2_ok a1 a2 a3 a4 a5 a6 a7 a8 a9 s.1 s.2 h) s0 e h
  exact q
inductive E_L23_3_2 where
  | k0 (x0 : List ((Int × Int) × Int))
noncomputable def L23_3_2 (a1 : Int) (a2 : GramD) (v1 : Int) (v2 : List ((Int × Int) × Int)) : Option (E_L23_3_2 ⊕ (Int × (List ((Int × Int) × Int)))) :=
  (bif (decide (v1 < a1)) then ((runL (fun s => L23_2 v1 (a2.sorts.length : Int) a2 s.1 s.2) (0, v2)).bind fun r2 => match r2 with | .k0 x2_0 => (some (.inr ((IntKind.wrap .i64 (v1 + 1)), x2_0)))) else (some (.inl (.k0 v2))))
def L23_3_2_s (a1 : Int) (a2 : GramD) (v1 : Int) (v2 : List ((Int × Int) × Int)) : St := ⟨fr 150 ug [(1, (.ptr 0 0)), (6, (.mp 2)), (93, (i6 a1)), (94, (i6 v1))], [bG a2, bB [], .map (mrow (fun n => .agg [vi .i64 n.1, vi .i64 n.2]) (fun n => vi .i64 n) v2)]⟩
def L23_3_2_x (a1 : Int) (a2 : GramD) (e : E_L23_3_2) (r : Option (Out × St)) : Prop := match e with | .k0 x0 => ∃ g, r = some ((.brk 6), ⟨fr 150 g [(1, (.ptr 0 0)), (6, (.mp 2))], [bG a2, bB [], .map (mrow (fun n => .agg [vi .i64 n.1, vi .i64 n.2]) (fun n => vi .i64 n) x0)]⟩)
theorem L23_3_2_ok (a1 : Int) (a2 : GramD) (v1 : Int) (v2 : List ((Int × Int) × Int)) {r : E_L23_3_2 ⊕ (Int × (List ((Int × Int) × Int)))} (h : L23_3_2 a1 a2 v1 v2 = some r) : OkR (fun e => L23_3_2_x a1 a2 e (evH prg 3 [1, 6, 93, 94] ir23_l3 (L23_3_2_s a1 a2 v1 v2))) (fun s => evH prg 3 [1, 6, 93, 94] ir23_l3 (L23_3_2_s a1 a2 v1 v2) = evH prg 3 [1, 6, 93, 94] ir23_l3 (L23_3_2_s a1 a2 s.1 s.2)) r := by
 unfold L23_3_2 at h
 refine bi h (fun h1 h => ?_) fun h1 h => ?_
 ·
  refine bn h fun r2 h2 h => ?_
  cases r2 with
  | k0 x2_0 =>
   obtain ⟨g2, e2⟩ := L23_2_run v1 a1 (a2.sorts.length : Int) a2 (0, v2) _ h2
   rw [← sj h]
   exact rnd (n := 30) [(95, .d true), (99, .v (i6 (a2.sorts.length : Int))), (2008, .l (.brk 8) ⟨fr 150 g2 [(1, (.ptr 0 0)), (6, (.mp 2)), (93, (i6 a1)), (94, (i6 v1))], [bG a2, bB [], .map (mrow (fun n => .agg [vi .i64 n.1, vi .i64 n.2]) (fun n => vi .i64 n) x2_0)]⟩), (6000, .d true)] (apc (cv h1) (apc (lg a2.sorts eStr 1) (apc ((okT_of rfl (abl_cons rfl (abl_cons abl_row (abl_cons (abl_map (fun _ => rfl) (fun _ => rfl)) rfl)))) : okT 3 [bG a2, bB [], .map (mrow (fun n => .agg [vi .i64 n.1, vi .i64 n.2]) (fun n => vi .i64 n) v2)] = true) (apc (e2 : evH prg 3 [1, 6, 14, 93, 94, 99, 100] ir23_l2 (L23_2_s v1 a1 (a2.sorts.length : Int) a2 0 v2) = some ((.brk 8), ⟨fr 150 g2 [(1, (.ptr 0 0)), (6, (.mp 2)), (93, (i6 a1)), (94, (i6 v1))], [bG a2, bB [], .map (mrow (fun n => .agg [vi .i64 n.1, vi .i64 n.2]) (fun n => vi .i64 n) x2_0)]⟩)) (apc ((okT_of rfl (abl_cons rfl (abl_cons abl_row (abl_cons (abl_map (fun _ => rfl) (fun _ => rfl)) rfl)))) : okT 3 [bG a2, bB [], .map (mrow (fun n => .agg [vi .i64 n.1, vi .i64 n.2]) (fun n => vi .i64 n) x2_0)] = true) apn))))) (by kernel_rfl)
 ·
  rw [← sj h]
  exact xbrk (n := 30) [(95, .d false), (6000, .d true)] (apc (cv h1) apn) (by kernel_rfl)
theorem L23_3_2_run (a1 : Int) (a2 : GramD) (s0 : Int × (List ((Int × Int) × Int))) (e : E_L23_3_2) (h : runL (fun s => L23_3_2 a1 a2 s.1 s.2) s0 = some e) : L23_3_2_x a1 a2 e (evH prg 3 [1, 6, 93, 94] ir23_l3 (L23_3_2_s a1 a2 s0.1 s0.2)) := by
  have q := @loop_sound' (Int × (List ((Int × Int) × Int))) E_L23_3_2 (fun s => L23_3_2 a1 a2 s.1 s.2) (fun s => evH prg 3 [1, 6, 93, 94] ir23_l3 (L23_3_2_s a1 a2 s.1 s.2)) (L23_3_2_x a1 a2) (fun s r h => L23_3_2_ok a1 a2 s.1 s.2 h) s0 e h
  exact q
inductive R_F23 where
  | k0 (x0 : List Bool) (x1 : Int)
noncomputable def F23 (a1 : GramD) : Option R_F23 :=
  ((F45 a1).bind fun r1 => match r1 with | .k0 x1_0 => (bif (x1_0 != 0) then (some (.k0 ([]) x1_0)) else ((runL (fun s => L23_6 a1 (a1.prods.length : Int) s) 0).bind fun r3 => match r3 with | .k0 => ((runL (fun s => L23_3 (a1.sorts.length : Int) a1 s.1 s.2) (0, [])).bind fun r4 => match r4 with | .k0 x4_0 => (bif (mkOk (a1.sorts.length : Int) 1) then ((runL (fun s => L23_0 (Int.toNat (a1.sorts.length : Int)) (((Int.toNat (a1.sorts.length : Int)) : Nat) : Int) x4_0 s.1 s.2) (0, (List.replicate (Int.toNat (a1.sorts.length : Int)) false))).bind fun r6 => match r6 with | .k0 x6_0 => (bif (decide ((Int.toNat (a1.sorts.length : Int)) ≤ x6_0.length)) then (some (.k0 (x6_0.take (Int.toNat (a1.sorts.length : Int))) 0)) else none)) else none)))) | .k1 x1_0 x1_1 x1_2 x1_3 x1_4 x1_5 x1_6 => ((runL (fun s => L23_6_2 x1_5 x1_6 a1 (a1.prods.length : Int) s.1 s.2) (0, [])).bind fun r2 => match r2 with | .k0 x2_0 => ((runL (fun s => L23_3_2 (a1.sorts.length : Int) a1 s.1 s.2) (0, x2_0)).bind fun r3 => match r3 with | .k0 x3_0 => (bif (mkOk (a1.sorts.length : Int) 1) then ((runL (fun s => L23_0 (Int.toNat (a1.sorts.length : Int)) (((Int.toNat (a1.sorts.length : Int)) : Nat) : Int) x3_0 s.1 s.2) (0, (List.replicate (Int.toNat (a1.sorts.length : Int)) false))).bind fun r5 => match r5 with | .k0 x5_0 => (bif (decide ((Int.toNat (a1.sorts.length : Int)) ≤ x5_0.length)) then (some (.k0 (x5_0.take (Int.toNat (a1.sorts.length : Int))) 0)) else none)) else none))))
def F23_v (a1 : GramD) (r : R_F23) : AV := match r with | .k0 x0 x1 => (.tup [(.p (.lst 1 (x0.map eBool))), (i6 x1)])
theorem F23_ok (a1 : GramD) {r : R_F23} (h : F23 a1 = some r) : PR1 prg 23 [(aG a1)] (F23_v a1 r) := by
 unfold F23 at h
 refine bn h fun r1 h1 h => ?_
 cases r1 with
 | k0 x1_0 =>
  refine bi h (fun h2 h => ?_) fun h2 h => ?_
  ·
   rw [← sj h]
   exact fpo (n := 30) (v := (.tup [(.sl 2 0 1 0 0), (i6 x1_0)])) (h' := [bG a1, bB [], bB []]) [(21, .v (.tup [(.p (.val (.pointer .none))), (i6 x1_0)])), (25, .d true)] (apc (((F45_ok a1 h1).cp rfl _) : CP prg 45 [(aG a1)] [bG a1, bB []] = some (.tup [(.p (.val (.pointer .none))), (i6 x1_0)])) (apc (cv h2) apn)) (purA_tup (purAs_cons (purA_sl (xs := []) rfl rfl) (purAs_cons rfl purAs_nil))) (by kernel_rfl)
  ·
   refine bn h fun r3 h3 h => ?_
   cases r3 with
   | k0 =>
    obtain ⟨g3, e3⟩ := L23_6_run a1 (a1.prods.length : Int) 0 _ h3
    refine bn h fun r4 h4 h => ?_
    cases r4 with
    | k0 x4_0 =>
     obtain ⟨g4, e4⟩ := L23_3_run (a1.sorts.length : Int) a1 (0, []) _ h4
     refine bi h (fun h5 h => ?_) fun h5 h => ?_
     ·
      refine bn h fun r6 h6 h => ?_
      cases r6 with
      | k0 x6_0 =>
       obtain ⟨g6, e6⟩ := L23_0_run (Int.toNat (a1.sorts.length : Int)) (((Int.toNat (a1.sorts.length : Int)) : Nat) : Int) a1 x4_0 (0, (List.replicate (Int.toNat (a1.sorts.length : Int)) false)) _ h6
       refine bi h (fun h7 h => ?_) fun h7 h => ?_
       ·
        rw [← sj h]
        exact fpo (n := 30) (v := (.tup [(.sl 3 0 1 0 (Int.toNat (a1.sorts.length : Int))), (i6 0)])) (h' := [bG a1, bB [], .map (mrow (fun n => .agg [vi .i64 n.1, vi .i64 n.2]) (fun n => vi .i64 n) x4_0), bB x6_0]) [(21, .v (.tup [(.p (.val (.pointer .none))), (i6 x1_0)])), (25, .d false), (30, .v (i6 (a1.prods.length : Int))), (2000, .l (.brk 0) ⟨fr 150 g3 [(1, (.ptr 0 0)), (6, (.mp 2)), (29, (.p (.lst 7 (a1.prods.map eProd))))], [bG a1, bB [], .map []]⟩), (93, .v (i6 (a1.sorts.length : Int))), (2006, .l (.brk 6) ⟨fr 150 g4 [(1, (.ptr 0 0)), (6, (.mp 2))], [bG a1, bB [], .map (mrow (fun n => .agg [vi .i64 n.1, vi .i64 n.2]) (fun n => vi .i64 n) x4_0)]⟩), (132, .v (i6 (a1.sorts.length : Int))), (133, .r (.sl 3 0 1 0 (Int.toNat (a1.sorts.length : Int))) [bG a1, bB [], .map (mrow (fun n => .agg [vi .i64 n.1, vi .i64 n.2]) (fun n => vi .i64 n) x4_0), .row 4 1 0 (ra eBool (List.replicate (Int.toNat (a1.sorts.length : Int)) false))]), (2012, .l (.brk 12) ⟨fr 150 g6 [(6, (.mp 2)), (17, (.sl 3 0 1 0 (Int.toNat (a1.sorts.length : Int))))], [bG a1, bB [], .map (mrow (fun n => .agg [vi .i64 n.1, vi .i64 n.2]) (fun n => vi .i64 n) x4_0), bB x6_0]⟩), (6000, .d true)] (apc (((F45_ok a1 h1).cp rfl _) : CP prg 45 [(aG a1)] [bG a1, bB []] = some (.tup [(.p (.val (.pointer .none))), (i6 x1_0)])) (apc (cv h2) (apc (lg a1.prods eProd 7) (apc ((okT_of rfl (abl_cons rfl (abl_cons abl_row (abl_cons rfl rfl)))) : okT 3 [bG a1, bB [], .map []] = true) (apc (e3 : evH prg 3 [1, 4, 6, 29, 30, 31] ir23_l6 (L23_6_s a1 (a1.prods.length : Int) 0) = some ((.brk 0), ⟨fr 150 g3 [(1, (.ptr 0 0)), (6, (.mp 2)), (29, (.p (.lst 7 (a1.prods.map eProd))))], [bG a1, bB [], .map []]⟩)) (apc (lg a1.sorts eStr 1) (apc ((okT_of rfl (abl_cons rfl (abl_cons abl_row (abl_cons rfl rfl)))) : okT 3 [bG a1, bB [], .map []] = true) (apc (e4 : evH prg 3 [1, 6, 93, 94] ir23_l3 (L23_3_s (a1.sorts.length : Int) a1 0 ([])) = some ((.brk 6), ⟨fr 150 g4 [(1, (.ptr 0 0)), (6, (.mp 2))], [bG a1, bB [], .map (mrow (fun n => .agg [vi .i64 n.1, vi .i64 n.2]) (fun n => vi .i64 n) x4_0)]⟩)) (apc (lg a1.sorts eStr 1) (apc ((mk_row' (h := [bG a1, bB [], .map (mrow (fun n => .agg [vi .i64 n.1, vi .i64 n.2]) (fun n => vi .i64 n) x4_0)]) (e := eBool) (z := false) h5 rfl) : (mkA 4 1 1 [.val (.bool false)] (i6 (a1.sorts.length : Int)) (i6 (a1.sorts.length : Int)) 3).map (fun x => (x.1, [bG a1, bB [], .map (mrow (fun n => .agg [vi .i64 n.1, vi .i64 n.2]) (fun n => vi .i64 n) x4_0)] ++ [x.2])) = some ((.sl 3 0 1 0 (Int.toNat (a1.sorts.length : Int))), [bG a1, bB [], .map (mrow (fun n => .agg [vi .i64 n.1, vi .i64 n.2]) (fun n => vi .i64 n) x4_0), .row 4 1 0 (ra eBool (List.replicate (Int.toNat (a1.sorts.length : Int)) false))])) (apc ((okT_of rfl (abl_cons rfl (abl_cons abl_row (abl_cons (abl_map (fun _ => rfl) (fun _ => rfl)) (abl_cons abl_row rfl))))) : okT 4 [bG a1, bB [], .map (mrow (fun n => .agg [vi .i64 n.1, vi .i64 n.2]) (fun n => vi .i64 n) x4_0), .row 4 1 0 (ra eBool (List.replicate (Int.toNat (a1.sorts.length : Int)) false))] = true) (apc (e6 : evH prg 4 [6, 17, 135, 136] ir23_l0 (L23_0_s (Int.toNat (a1.sorts.length : Int)) (((Int.toNat (a1.sorts.length : Int)) : Nat) : Int) a1 x4_0 0 (List.replicate (Int.toNat (a1.sorts.length : Int)) false)) = some ((.brk 12), ⟨fr 150 g6 [(6, (.mp 2)), (17, (.sl 3 0 1 0 (Int.toNat (a1.sorts.length : Int))))], [bG a1, bB [], .map (mrow (fun n => .agg [vi .i64 n.1, vi .i64 n.2]) (fun n => vi .i64 n) x4_0), bB x6_0]⟩)) apn)))))))))))) (purA_tup (purAs_cons (purA_sl rfl h7) (purAs_cons rfl purAs_nil))) (by kernel_rfl)
       ·
        cases h
     ·
      cases h
 | k1 x1_0 x1_1 x1_2 x1_3 x1_4 x1_5 x1_6 =>
  refine bn h fun r2 h2 h => ?_
  cases r2 with
  | k0 x2_0 =>
   obtain ⟨g2, e2⟩ := L23_6_2_run x1_0 x1_1 x1_2 x1_3 x1_4 x1_5 x1_6 a1 (a1.prods.length : Int) (0, []) _ h2
   refine bn h fun r3 h3 h => ?_
   cases r3 with
   | k0 x3_0 =>
    obtain ⟨g3, e3⟩ := L23_3_2_run (a1.sorts.length : Int) a1 (0, x2_0) _ h3
    refine bi h (fun h4 h => ?_) fun h4 h => ?_
    ·
     refine bn h fun r5 h5 h => ?_
     cases r5 with
     | k0 x5_0 =>
      obtain ⟨g5, e5⟩ := L23_0_run (Int.toNat (a1.sorts.length : Int)) (((Int.toNat (a1.sorts.length : Int)) : Nat) : Int) a1 x3_0 (0, (List.replicate (Int.toNat (a1.sorts.length : Int)) false)) _ h5
      refine bi h (fun h6 h => ?_) fun h6 h => ?_
      ·
       rw [← sj h]
       exact fpo (n := 30) (v := (.tup [(.sl 3 0 1 0 (Int.toNat (a1.sorts.length : Int))), (i6 0)])) (h' := [bG a1, bB [], .map (mrow (fun n => .agg [vi .i64 n.1, vi .i64 n.2]) (fun n => vi .i64 n) x3_0), bB x5_0]) [(21, .v (.tup [(.ro [.lst 1 (x1_0.map eStr), .lst 7 (x1_1.map eProd), .val (.int .i64 x1_2), .lst 3 (x1_3.map eForb), .lst 5 (x1_4.map eFoll), .lst 1 (x1_5.map eI64), .lst 1 (x1_6.map eBool)]), (i6 0)])), (30, .v (i6 (a1.prods.length : Int))), (2000, .l (.brk 0) ⟨fr 150 g2 [(1, (.ptr 0 0)), (6, (.mp 2)), (29, (.p (.lst 7 (a1.prods.map eProd))))], [bG a1, bB [], .map (mrow (fun n => .agg [vi .i64 n.1, vi .i64 n.2]) (fun n => vi .i64 n) x2_0)]⟩), (93, .v (i6 (a1.sorts.length : Int))), (2006, .l (.brk 6) ⟨fr 150 g3 [(1, (.ptr 0 0)), (6, (.mp 2))], [bG a1, bB [], .map (mrow (fun n => .agg [vi .i64 n.1, vi .i64 n.2]) (fun n => vi .i64 n) x3_0)]⟩), (132, .v (i6 (a1.sorts.length : Int))), (133, .r (.sl 3 0 1 0 (Int.toNat (a1.sorts.length : Int))) [bG a1, bB [], .map (mrow (fun n => .agg [vi .i64 n.1, vi .i64 n.2]) (fun n => vi .i64 n) x3_0), .row 4 1 0 (ra eBool (List.replicate (Int.toNat (a1.sorts.length : Int)) false))]), (2012, .l (.brk 12) ⟨fr 150 g5 [(6, (.mp 2)), (17, (.sl 3 0 1 0 (Int.toNat (a1.sorts.length : Int))))], [bG a1, bB [], .map (mrow (fun n => .agg [vi .i64 n.1, vi .i64 n.2]) (fun n => vi .i64 n) x3_0), bB x5_0]⟩), (6000, .d true)] (apc (((F45_ok a1 h1).cp rfl _) : CP prg 45 [(aG a1)] [bG a1, bB []] = some (.tup [(.ro [.lst 1 (x1_0.map eStr), .lst 7 (x1_1.map eProd), .val (.int .i64 x1_2), .lst 3 (x1_3.map eForb), .lst 5 (x1_4.map eFoll), .lst 1 (x1_5.map eI64), .lst 1 (x1_6.map eBool)]), (i6 0)])) (apc (lg a1.prods eProd 7) (apc ((okT_of rfl (abl_cons rfl (abl_cons abl_row (abl_cons rfl rfl)))) : okT 3 [bG a1, bB [], .map []] = true) (apc (e2 : evH prg 3 [1, 4, 6, 29, 30, 31] ir23_l6 (L23_6_2_s x1_0 x1_1 x1_2 x1_3 x1_4 x1_5 x1_6 a1 (a1.prods.length : Int) 0 ([])) = some ((.brk 0), ⟨fr 150 g2 [(1, (.ptr 0 0)), (6, (.mp 2)), (29, (.p (.lst 7 (a1.prods.map eProd))))], [bG a1, bB [], .map (mrow (fun n => .agg [vi .i64 n.1, vi .i64 n.2]) (fun n => vi .i64 n) x2_0)]⟩)) (apc (lg a1.sorts eStr 1) (apc ((okT_of rfl (abl_cons rfl (abl_cons abl_row (abl_cons (abl_map (fun _ => rfl) (fun _ => rfl)) rfl)))) : okT 3 [bG a1, bB [], .map (mrow (fun n => .agg [vi .i64 n.1, vi .i64 n.2]) (fun n => vi .i64 n) x2_0)] = true) (apc (e3 : evH prg 3 [1, 6, 93, 94] ir23_l3 (L23_3_2_s (a1.sorts.length : Int) a1 0 x2_0) = some ((.brk 6), ⟨fr 150 g3 [(1, (.ptr 0 0)), (6, (.mp 2))], [bG a1, bB [], .map (mrow (fun n => .agg [vi .i64 n.1, vi .i64 n.2]) (fun n => vi .i64 n) x3_0)]⟩)) (apc (lg a1.sorts eStr 1) (apc ((mk_row' (h := [bG a1, bB [], .map (mrow (fun n => .agg [vi .i64 n.1, vi .i64 n.2]) (fun n => vi .i64 n) x3_0)]) (e := eBool) (z := false) h4 rfl) : (mkA 4 1 1 [.val (.bool false)] (i6 (a1.sorts.length : Int)) (i6 (a1.sorts.length : Int)) 3).map (fun x => (x.1, [bG a1, bB [], .map (mrow (fun n => .agg [vi .i64 n.1, vi .i64 n.2]) (fun n => vi .i64 n) x3_0)] ++ [x.2])) = some ((.sl 3 0 1 0 (Int.toNat (a1.sorts.length : Int))), [bG a1, bB [], .map (mrow (fun n => .agg [vi .i64 n.1, vi .i64 n.2]) (fun n => vi .i64 n) x3_0), .row 4 1 0 (ra eBool (List.replicate (Int.toNat (a1.sorts.length : Int)) false))])) (apc ((okT_of rfl (abl_cons rfl (abl_cons abl_row (abl_cons (abl_map (fun _ => rfl) (fun _ => rfl)) (abl_cons abl_row rfl))))) : okT 4 [bG a1, bB [], .map (mrow (fun n => .agg [vi .i64 n.1, vi .i64 n.2]) (fun n => vi .i64 n) x3_0), .row 4 1 0 (ra eBool (List.replicate (Int.toNat (a1.sorts.length : Int)) false))] = true) (apc (e5 : evH prg 4 [6, 17, 135, 136] ir23_l0 (L23_0_s (Int.toNat (a1.sorts.length : Int)) (((Int.toNat (a1.sorts.length : Int)) : Nat) : Int) a1 x3_0 0 (List.replicate (Int.toNat (a1.sorts.length : Int)) false)) = some ((.brk 12), ⟨fr 150 g5 [(6, (.mp 2)), (17, (.sl 3 0 1 0 (Int.toNat (a1.sorts.length : Int))))], [bG a1, bB [], .map (mrow (fun n => .agg [vi .i64 n.1, vi .i64 n.2]) (fun n => vi .i64 n) x3_0), bB x5_0]⟩)) apn))))))))))) (purA_tup (purAs_cons (purA_sl rfl h6) (purAs_cons rfl purAs_nil))) (by kernel_rfl)
      ·
       cases h
    ·
     cases h
noncomputable def F15 (a1 : Int) : Option Int :=
  (some a1)
def F15_v (a1 : Int) (x0 : Int) : AV := (i6 x0)
theorem F15_ok (a1 : Int) {r : Int} (h : F15 a1 = some r) : PR1 prg 15 [(i6 a1)] (F15_v a1 r) := by
 unfold F15 at h
 rw [← sj h]
 exact fpr (n := 30) [] apn rfl (by kernel_rfl)
inductive E_L24_0 where
  | k0
noncomputable def L24_0 (a1 : List Bool) : Option (E_L24_0 ⊕ (Unit)) :=
  (bif (decide (0 < (a1.length : Int))) then ((getI a1 0).bind fun x2 => none) else (some (.inl (.k0))))
def L24_0_s (a1 : List Bool) : St := ⟨fr 47 ug [(0, (.p (.lst 1 (a1.map eBool)))), (1, (.p (.val (.slice .none 0 0)))), (9, (i6 0))], []⟩
def L24_0_x (a1 : List Bool) (e : E_L24_0) (r : Option (Out × St)) : Prop := match e with | .k0 => ∃ g, r = some ((.brk 0), ⟨fr 47 g [(0, (.p (.lst 1 (a1.map eBool)))), (1, (.p (.val (.slice .none 0 0))))], []⟩)
theorem L24_0_ok (a1 : List Bool) {r : E_L24_0 ⊕ (Unit)} (h : L24_0 a1 = some r) : OkR (fun e => L24_0_x a1 e (evH prg 0 [0, 1, 9] ir24_l0 (L24_0_s a1))) (fun s => evH prg 0 [0, 1, 9] ir24_l0 (L24_0_s a1) = evH prg 0 [0, 1, 9] ir24_l0 (L24_0_s a1)) r := by
 unfold L24_0 at h
 refine bi h (fun h1 h => ?_) fun h1 h => ?_
 ·
  refine bn h fun x2 h2 h => ?_
  cases h
 ·
  rw [← sj h]
  exact xbrk (n := 30) [(34, .v (i6 (a1.length : Int))), (35, .d false), (6000, .d true)] (apc (lg a1 eBool 1) (apc (cv h1) apn)) (by kernel_rfl)
theorem L24_0_run (a1 : List Bool) (s0 : Unit) (e : E_L24_0) (h : runL (fun s => L24_0 a1) s0 = some e) : L24_0_x a1 e (evH prg 0 [0, 1, 9] ir24_l0 (L24_0_s a1)) := by
  have q := @loop_sound' (Unit) E_L24_0 (fun s => L24_0 a1) (fun s => evH prg 0 [0, 1, 9] ir24_l0 (L24_0_s a1)) (L24_0_x a1) (fun s r h => L24_0_ok a1 h) s0 e h
  exact q
noncomputable def F24 (a1 : List Bool) (a2 : Int) (a3 : Int) : Option Bool :=
  ((F15 a2).bind fun x1 => (bif (x1 != a3) then ((F15 a2).bind fun x3 => (bif (x3 == a3) then (some ((a1.length : Int) == 0)) else (some false))) else (bif (a3 != 0) then ((F15 a2).bind fun x4 => (bif (x4 == a3) then (some ((a1.length : Int) == 0)) else (some false))) else (bif ((a1.length : Int) != 0) then (some false) else ((runL (fun s => L24_0 a1) ()).bind fun r5 => match r5 with | .k0 => (some true))))))
def F24_v (a1 : List Bool) (a2 : Int) (a3 : Int) (x0 : Bool) : AV := (vb x0)
theorem F24_ok (a1 : List Bool) (a2 : Int) (a3 : Int) {r : Bool} (h : F24 a1 a2 a3 = some r) : PR1 prg 24 [(.p (.lst 1 (a1.map eBool))), (.p (.val (.slice .none 0 0))), (i6 a2), (i6 a3)] (F24_v a1 a2 a3 r) := by
 unfold F24 at h
 refine bn h fun x1 h1 h => ?_
 refine bi h (fun h2 h => ?_) fun h2 h => ?_
 ·
  refine bn h fun x3 h3 h => ?_
  refine bi h (fun h4 h => ?_) fun h4 h => ?_
  ·
   rw [← sj h]
   exact fpr (n := 30) [(11, .v (i6 x1)), (13, .d true), (19, .v (i6 x3)), (21, .d true), (24, .v (i6 (a1.length : Int)))] (apc (((F15_ok a2 h1).cp rfl _) : CP prg 15 [(i6 a2)] [] = some (i6 x1)) (apc (cv h2) (apc (((F15_ok a2 h3).cp rfl _) : CP prg 15 [(i6 a2)] [] = some (i6 x3)) (apc (cv h4) (apc (lg a1 eBool 1) apn))))) rfl (by kernel_rfl)
  ·
   rw [← sj h]
   exact fpr (n := 30) [(11, .v (i6 x1)), (13, .d true), (19, .v (i6 x3)), (21, .d false)] (apc (((F15_ok a2 h1).cp rfl _) : CP prg 15 [(i6 a2)] [] = some (i6 x1)) (apc (cv h2) (apc (((F15_ok a2 h3).cp rfl _) : CP prg 15 [(i6 a2)] [] = some (i6 x3)) (apc (cv h4) apn)))) rfl (by kernel_rfl)
 ·
  refine bi h (fun h3 h => ?_) fun h3 h => ?_
  ·
   refine bn h fun x4 h4 h => ?_
   refine bi h (fun h5 h => ?_) fun h5 h => ?_
   ·
    rw [← sj h]
    exact fpr (n := 30) [(11, .v (i6 x1)), (13, .d false), (16, .d true), (19, .v (i6 x4)), (21, .d true), (24, .v (i6 (a1.length : Int)))] (apc (((F15_ok a2 h1).cp rfl _) : CP prg 15 [(i6 a2)] [] = some (i6 x1)) (apc (cv h2) (apc (cv h3) (apc (((F15_ok a2 h4).cp rfl _) : CP prg 15 [(i6 a2)] [] = some (i6 x4)) (apc (cv h5) (apc (lg a1 eBool 1) apn)))))) rfl (by kernel_rfl)
   ·
    rw [← sj h]
    exact fpr (n := 30) [(11, .v (i6 x1)), (13, .d false), (16, .d true), (19, .v (i6 x4)), (21, .d false)] (apc (((F15_ok a2 h1).cp rfl _) : CP prg 15 [(i6 a2)] [] = some (i6 x1)) (apc (cv h2) (apc (cv h3) (apc (((F15_ok a2 h4).cp rfl _) : CP prg 15 [(i6 a2)] [] = some (i6 x4)) (apc (cv h5) apn))))) rfl (by kernel_rfl)
  ·
   refine bi h (fun h4 h => ?_) fun h4 h => ?_
   ·
    rw [← sj h]
    exact fpr (n := 30) [(11, .v (i6 x1)), (13, .d false), (16, .d false), (28, .v (i6 (a1.length : Int))), (31, .d true)] (apc (((F15_ok a2 h1).cp rfl _) : CP prg 15 [(i6 a2)] [] = some (i6 x1)) (apc (cv h2) (apc (cv h3) (apc (lg a1 eBool 1) (apc (cv h4) apn))))) rfl (by kernel_rfl)
   ·
    refine bn h fun r5 h5 h => ?_
    cases r5 with
    | k0 =>
     obtain ⟨g5, e5⟩ := L24_0_run a1 () _ h5
     rw [← sj h]
     exact fpr (n := 30) [(11, .v (i6 x1)), (13, .d false), (16, .d false), (28, .v (i6 (a1.length : Int))), (31, .d false), (2000, .l (.brk 0) ⟨fr 47 g5 [(0, (.p (.lst 1 (a1.map eBool)))), (1, (.p (.val (.slice .none 0 0))))], []⟩), (6000, .d true)] (apc (((F15_ok a2 h1).cp rfl _) : CP prg 15 [(i6 a2)] [] = some (i6 x1)) (apc (cv h2) (apc (cv h3) (apc (lg a1 eBool 1) (apc (cv h4) (apc ((okT_of rfl rfl) : okT 0 [] = true) (apc (e5 : evH prg 0 [0, 1, 9] ir24_l0 (L24_0_s a1) = some ((.brk 0), ⟨fr 47 g5 [(0, (.p (.lst 1 (a1.map eBool)))), (1, (.p (.val (.slice .none 0 0))))], []⟩)) apn))))))) rfl (by kernel_rfl)
inductive E_L56_0 where
  | k0
  | k1
noncomputable def L56_0 (a1 : List Bool) (a2 : ProdD) (v1 : Int) : Option (E_L56_0 ⊕ (Int)) :=
  (bif (decide (v1 < (a2.right.length : Int))) then ((getI a2.right v1).bind fun x2 => (bif (x2.kind == 1) then ((getI a1 x2.sort).bind fun x4 => (bif x4 then (some (.inr ((IntKind.wrap .i64 (v1 + 1))))) else (some (.inl (.k0))))) else (some (.inr ((IntKind.wrap .i64 (v1 + 1))))))) else (some (.inl (.k1))))
def L56_0_s (a1 : List Bool) (a2 : ProdD) (v1 : Int) : St := ⟨fr 35 ug [(1, (.p (.lst 1 (a1.map eBool)))), (2, (.ptr 0 0)), (5, (i6 v1))], [bP a2]⟩
def L56_0_x (a1 : List Bool) (a2 : ProdD) (e : E_L56_0) (r : Option (Out × St)) : Prop := match e with | .k0 => ∃ g y, r = some (.ret, ⟨fr 35 g [(4, (vb false))], y⟩) | .k1 => ∃ g, r = some ((.brk 0), ⟨fr 35 g [(2, (.ptr 0 0))], [bP a2]⟩)
theorem L56_0_ok (a1 : List Bool) (a2 : ProdD) (v1 : Int) {r : E_L56_0 ⊕ (Int)} (h : L56_0 a1 a2 v1 = some r) : OkR (fun e => L56_0_x a1 a2 e (evH prg 1 [1, 2, 5] ir56_l0 (L56_0_s a1 a2 v1))) (fun s => evH prg 1 [1, 2, 5] ir56_l0 (L56_0_s a1 a2 v1) = evH prg 1 [1, 2, 5] ir56_l0 (L56_0_s a1 a2 s)) r := by
 unfold L56_0 at h
 refine bi h (fun h1 h => ?_) fun h1 h => ?_
 ·
  refine bn h fun x2 h2 h => ?_
  refine bi h (fun h3 h => ?_) fun h3 h => ?_
  ·
   refine bn h fun x4 h4 h => ?_
   refine bi h (fun h5 h => ?_) fun h5 h => ?_
   ·
    rw [← sj h]
    exact rnd (n := 30) [(12, .v (i6 (a2.right.length : Int))), (13, .d true), (19, .v (.ro (eSym x2))), (22, .d true), (28, .v (.ro (eSym x2))), (31, .v (.ro [.val (.bool x4)])), (32, .d true), (6000, .d true)] (apc (lg a2.right eSym 6) (apc (cv h1) (apc (ig eSym 6 .i64 h2) (apc (cv h3) (apc (ig eSym 6 .i64 h2) (apc (ig eBool 1 .i64 h4) (apc (cv h5) (apc ((okT_of rfl (abl_cons rfl rfl)) : okT 1 [bP a2] = true) apn)))))))) (by kernel_rfl)
   ·
    rw [← sj h]
    exact xretY (n := 30) [(12, .v (i6 (a2.right.length : Int))), (13, .d true), (19, .v (.ro (eSym x2))), (22, .d true), (28, .v (.ro (eSym x2))), (31, .v (.ro [.val (.bool x4)])), (32, .d false), (6000, .d true)] (apc (lg a2.right eSym 6) (apc (cv h1) (apc (ig eSym 6 .i64 h2) (apc (cv h3) (apc (ig eSym 6 .i64 h2) (apc (ig eBool 1 .i64 h4) (apc (cv h5) apn))))))) (by kernel_rfl)
  ·
   rw [← sj h]
   exact rnd (n := 30) [(12, .v (i6 (a2.right.length : Int))), (13, .d true), (19, .v (.ro (eSym x2))), (22, .d false), (6000, .d true)] (apc (lg a2.right eSym 6) (apc (cv h1) (apc (ig eSym 6 .i64 h2) (apc (cv h3) (apc ((okT_of rfl (abl_cons rfl rfl)) : okT 1 [bP a2] = true) apn))))) (by kernel_rfl)
 ·
  rw [← sj h]
  exact xbrk (n := 30) [(12, .v (i6 (a2.right.length : Int))), (13, .d false), (6000, .d true)] (apc (lg a2.right eSym 6) (apc (cv h1) apn)) (by kernel_rfl)
theorem L56_0_run (a1 : List Bool) (a2 : ProdD) (s0 : Int) (e : E_L56_0) (h : runL (fun s => L56_0 a1 a2 s) s0 = some e) : L56_0_x a1 a2 e (evH prg 1 [1, 2, 5] ir56_l0 (L56_0_s a1 a2 s0)) := by
  have q := @loop_sound' (Int) E_L56_0 (fun s => L56_0 a1 a2 s) (fun s => evH prg 1 [1, 2, 5] ir56_l0 (L56_0_s a1 a2 s)) (L56_0_x a1 a2) (fun s r h => L56_0_ok a1 a2 s h) s0 e h
  exact q
noncomputable def F56 (a1 : ProdD) (a2 : List Bool) : Option Bool :=
  (bif (a1.role == 11) then (some false) else ((runL (fun s => L56_0 a2 a1 s) 0).bind fun r2 => match r2 with | .k0 => (some false) | .k1 => (some true)))
def F56_v (a1 : ProdD) (a2 : List Bool) (x0 : Bool) : AV := (vb x0)
theorem F56_ok (a1 : ProdD) (a2 : List Bool) {r : Bool} (h : F56 a1 a2 = some r) : PR1 prg 56 [(aP a1), (.p (.lst 1 (a2.map eBool)))] (F56_v a1 a2 r) := by
 unfold F56 at h
 refine bi h (fun h1 h => ?_) fun h1 h => ?_
 ·
  rw [← sj h]
  exact fpr (n := 30) [(8, .d true)] (apc (cv h1) apn) rfl (by kernel_rfl)
 ·
  refine bn h fun r2 h2 h => ?_
  cases r2 with
  | k0 =>
   obtain ⟨g2, y2, e2⟩ := L56_0_run a2 a1 0 _ h2
   rw [← sj h]
   exact fpr (n := 30) [(8, .d false), (2000, .l .ret ⟨fr 35 g2 [(4, (vb false))], y2⟩), (6000, .d true)] (apc (cv h1) (apc ((okT_of rfl (abl_cons rfl rfl)) : okT 1 [bP a1] = true) (apc (e2 : evH prg 1 [1, 2, 5] ir56_l0 (L56_0_s a2 a1 0) = some (.ret, ⟨fr 35 g2 [(4, (vb false))], y2⟩)) apn))) rfl (by kernel_rfl)
  | k1 =>
   obtain ⟨g2, e2⟩ := L56_0_run a2 a1 0 _ h2
   rw [← sj h]
   exact fpr (n := 30) [(8, .d false), (2000, .l (.brk 0) ⟨fr 35 g2 [(2, (.ptr 0 0))], [bP a1]⟩), (6000, .d true)] (apc (cv h1) (apc ((okT_of rfl (abl_cons rfl rfl)) : okT 1 [bP a1] = true) (apc (e2 : evH prg 1 [1, 2, 5] ir56_l0 (L56_0_s a2 a1 0) = some ((.brk 0), ⟨fr 35 g2 [(2, (.ptr 0 0))], [bP a1]⟩)) apn))) rfl (by kernel_rfl)
inductive E_L25_0 where
  | k0 (x0 : List Bool)
noncomputable def L25_0 (a1 : Nat) (a3 : GramD) (v1 : Int) (v2 : List Bool) : Option (E_L25_0 ⊕ (Int × (List Bool))) :=
  (bif (decide (v1 < (a3.prods.length : Int))) then ((getI a3.prods v1).bind fun x2 => (bif (decide (a1 ≤ v2.length)) then ((F56 x2 (v2.take a1)).bind fun x4 => (bif x4 then ((ixN a1 x2.left).bind fun x6 => ((v2[x6]?).bind fun x7 => (some (.inr ((IntKind.wrap .i64 (v1 + 1)), (v2.set x6 true)))))) else (some (.inr ((IntKind.wrap .i64 (v1 + 1)), v2))))) else none)) else (some (.inl (.k0 v2))))
def L25_0_s (a1 : Nat) (a2 : Int) (a3 : GramD) (v1 : Int) (v2 : List Bool) : St := ⟨fr 40 ug [(1, (.ptr 0 0)), (3, (.sl 2 0 1 0 a1)), (4, (i6 a2)), (5, (i6 v1))], [bG a3, bB [], bB v2]⟩
def L25_0_x (a1 : Nat) (a2 : Int) (a3 : GramD) (e : E_L25_0) (r : Option (Out × St)) : Prop := match e with | .k0 x0 => ∃ g, r = some ((.brk 2), ⟨fr 40 g [(1, (.ptr 0 0)), (3, (.sl 2 0 1 0 a1)), (4, (i6 a2))], [bG a3, bB [], bB x0]⟩)
theorem L25_0_ok (a1 : Nat) (a2 : Int) (a3 : GramD) (v1 : Int) (v2 : List Bool) {r : E_L25_0 ⊕ (Int × (List Bool))} (h : L25_0 a1 a3 v1 v2 = some r) : OkR (fun e => L25_0_x a1 a2 a3 e (evH prg 3 [1, 3, 4, 5] ir25_l0 (L25_0_s a1 a2 a3 v1 v2))) (fun s => evH prg 3 [1, 3, 4, 5] ir25_l0 (L25_0_s a1 a2 a3 v1 v2) = evH prg 3 [1, 3, 4, 5] ir25_l0 (L25_0_s a1 a2 a3 s.1 s.2)) r := by
 unfold L25_0 at h
 refine bi h (fun h1 h => ?_) fun h1 h => ?_
 ·
  refine bn h fun x2 h2 h => ?_
  refine bi h (fun h3 h => ?_) fun h3 h => ?_
  ·
   refine bn h fun x4 h4 h => ?_
   refine bi h (fun h5 h => ?_) fun h5 h => ?_
   ·
    refine bn h fun x6 h6 h => ?_
    refine bn h fun x7 h7 h => ?_
    rw [← sj h]
    exact rnd (n := 30) [(20, .v (i6 (a3.prods.length : Int))), (21, .d true), (27, .v (.ro (eProd x2))), (30, .v (vb true)), (35, .v (.ro (eProd x2))), (38, .v (.rp 2 0 1 x6 0)), (1038, .r ud [bG a3, bB [], .row 4 1 0 (ra eBool (v2.set x6 true))]), (6000, .d true)] (apc (lg a3.prods eProd 7) (apc (cv h1) (apc (ig eProd 7 .i64 h2) (apc ((((F56_ok x2 (v2.take a1) h4).own rfl (purAs_cons rfl (purAs_cons (purA_sl rfl h3) purAs_nil)) rfl).trans (congrArg (fun z => some (vb z)) h5)) : CP prg 56 [(aP x2), (.sl 2 0 1 0 a1)] [bG a3, bB [], bB v2] = some (vb true)) (apc (ig eProd 7 .i64 h2) (apc ((idx_sl h6) : idxA 1 (.sl 2 0 1 0 a1) (i6 x2.left) = some (.rp 2 0 1 x6 0)) (apc (⟨st_row (v' := true) rfl h7 rfl rfl (Nat.le_of_ble_eq_true rfl) rfl, rfl⟩ : stA [bG a3, bB [], bB v2] 1 (.rp 2 0 1 x6 0) (vb true) = some [bG a3, bB [], .row 4 1 0 (ra eBool (v2.set x6 true))] ∧ ud = ud) (apc ((okT_of rfl (abl_cons rfl (abl_cons abl_row (abl_cons abl_row rfl)))) : okT 3 [bG a3, bB [], .row 4 1 0 (ra eBool (v2.set x6 true))] = true) apn)))))))) (by kernel_rfl)
   ·
    rw [← sj h]
    exact rnd (n := 30) [(20, .v (i6 (a3.prods.length : Int))), (21, .d true), (27, .v (.ro (eProd x2))), (30, .v (vb false)), (6000, .d true)] (apc (lg a3.prods eProd 7) (apc (cv h1) (apc (ig eProd 7 .i64 h2) (apc ((((F56_ok x2 (v2.take a1) h4).own rfl (purAs_cons rfl (purAs_cons (purA_sl rfl h3) purAs_nil)) rfl).trans (congrArg (fun z => some (vb z)) h5)) : CP prg 56 [(aP x2), (.sl 2 0 1 0 a1)] [bG a3, bB [], bB v2] = some (vb false)) (apc ((okT_of rfl (abl_cons rfl (abl_cons abl_row (abl_cons abl_row rfl)))) : okT 3 [bG a3, bB [], bB v2] = true) apn))))) (by kernel_rfl)
  ·
   cases h
 ·
  rw [← sj h]
  exact xbrk (n := 30) [(20, .v (i6 (a3.prods.length : Int))), (21, .d false), (6000, .d true)] (apc (lg a3.prods eProd 7) (apc (cv h1) apn)) (by kernel_rfl)
theorem L25_0_run (a1 : Nat) (a2 : Int) (a3 : GramD) (s0 : Int × (List Bool)) (e : E_L25_0) (h : runL (fun s => L25_0 a1 a3 s.1 s.2) s0 = some e) : L25_0_x a1 a2 a3 e (evH prg 3 [1, 3, 4, 5] ir25_l0 (L25_0_s a1 a2 a3 s0.1 s0.2)) := by
  have q := @loop_sound' (Int × (List Bool)) E_L25_0 (fun s => L25_0 a1 a3 s.1 s.2) (fun s => evH prg 3 [1, 3, 4, 5] ir25_l0 (L25_0_s a1 a2 a3 s.1 s.2)) (L25_0_x a1 a2 a3) (fun s r h => L25_0_ok a1 a2 a3 s.1 s.2 h) s0 e h
  exact q
inductive E_L25_1 where
  | k0 (x0 : List Bool)
noncomputable def L25_1 (a1 : Nat) (a2 : GramD) (v1 : Int) (v2 : List Bool) : Option (E_L25_1 ⊕ (Int × (List Bool))) :=
  (bif (decide (v1 < (a2.sorts.length : Int))) then ((runL (fun s => L25_0 a1 a2 s.1 s.2) (0, v2)).bind fun r2 => match r2 with | .k0 x2_0 => (some (.inr ((IntKind.wrap .i64 (v1 + 1)), x2_0)))) else (some (.inl (.k0 v2))))
def L25_1_s (a1 : Nat) (a2 : GramD) (v1 : Int) (v2 : List Bool) : St := ⟨fr 40 ug [(1, (.ptr 0 0)), (3, (.sl 2 0 1 0 a1)), (4, (i6 v1))], [bG a2, bB [], bB v2]⟩
def L25_1_x (a1 : Nat) (a2 : GramD) (e : E_L25_1) (r : Option (Out × St)) : Prop := match e with | .k0 x0 => ∃ g, r = some ((.brk 0), ⟨fr 40 g [(1, (.ptr 0 0)), (3, (.sl 2 0 1 0 a1))], [bG a2, bB [], bB x0]⟩)
theorem L25_1_ok (a1 : Nat) (a2 : GramD) (v1 : Int) (v2 : List Bool) {r : E_L25_1 ⊕ (Int × (List Bool))} (h : L25_1 a1 a2 v1 v2 = some r) : OkR (fun e => L25_1_x a1 a2 e (evH prg 3 [1, 3, 4] ir25_l1 (L25_1_s a1 a2 v1 v2))) (fun s => evH prg 3 [1, 3, 4] ir25_l1 (L25_1_s a1 a2 v1 v2) = evH prg 3 [1, 3, 4] ir25_l1 (L25_1_s a1 a2 s.1 s.2)) r := by
 unfold L25_1 at h
 refine bi h (fun h1 h => ?_) fun h1 h => ?_
 ·
  refine bn h fun r2 h2 h => ?_
  cases r2 with
  | k0 x2_0 =>
   obtain ⟨g2, e2⟩ := L25_0_run a1 v1 a2 (0, v2) _ h2
   rw [← sj h]
   exact rnd (n := 30) [(13, .v (i6 (a2.sorts.length : Int))), (14, .d true), (2002, .l (.brk 2) ⟨fr 40 g2 [(1, (.ptr 0 0)), (3, (.sl 2 0 1 0 a1)), (4, (i6 v1))], [bG a2, bB [], bB x2_0]⟩), (6000, .d true)] (apc (lg a2.sorts eStr 1) (apc (cv h1) (apc ((okT_of rfl (abl_cons rfl (abl_cons abl_row (abl_cons abl_row rfl)))) : okT 3 [bG a2, bB [], bB v2] = true) (apc (e2 : evH prg 3 [1, 3, 4, 5] ir25_l0 (L25_0_s a1 v1 a2 0 v2) = some ((.brk 2), ⟨fr 40 g2 [(1, (.ptr 0 0)), (3, (.sl 2 0 1 0 a1)), (4, (i6 v1))], [bG a2, bB [], bB x2_0]⟩)) (apc ((okT_of rfl (abl_cons rfl (abl_cons abl_row (abl_cons abl_row rfl)))) : okT 3 [bG a2, bB [], bB x2_0] = true) apn))))) (by kernel_rfl)
 ·
  rw [← sj h]
  exact xbrk (n := 30) [(13, .v (i6 (a2.sorts.length : Int))), (14, .d false), (6000, .d true)] (apc (lg a2.sorts eStr 1) (apc (cv h1) apn)) (by kernel_rfl)
theorem L25_1_run (a1 : Nat) (a2 : GramD) (s0 : Int × (List Bool)) (e : E_L25_1) (h : runL (fun s => L25_1 a1 a2 s.1 s.2) s0 = some e) : L25_1_x a1 a2 e (evH prg 3 [1, 3, 4] ir25_l1 (L25_1_s a1 a2 s0.1 s0.2)) := by
  have q := @loop_sound' (Int × (List Bool)) E_L25_1 (fun s => L25_1 a1 a2 s.1 s.2) (fun s => evH prg 3 [1, 3, 4] ir25_l1 (L25_1_s a1 a2 s.1 s.2)) (L25_1_x a1 a2) (fun s r h => L25_1_ok a1 a2 s.1 s.2 h) s0 e h
  exact q
noncomputable def F25 (a1 : GramD) : Option (List Bool) :=
  (bif (mkOk (a1.sorts.length : Int) 1) then ((runL (fun s => L25_1 (Int.toNat (a1.sorts.length : Int)) a1 s.1 s.2) (0, (List.replicate (Int.toNat (a1.sorts.length : Int)) false))).bind fun r2 => match r2 with | .k0 x2_0 => (bif (decide ((Int.toNat (a1.sorts.length : Int)) ≤ x2_0.length)) then (some (x2_0.take (Int.toNat (a1.sorts.length : Int)))) else none)) else none)
def F25_v (a1 : GramD) (x0 : (List Bool)) : AV := (.p (.lst 1 (x0.map eBool)))
theorem F25_ok (a1 : GramD) {r : (List Bool)} (h : F25 a1 = some r) : PR1 prg 25 [(aG a1)] (F25_v a1 r) := by
 unfold F25 at h
 refine bi h (fun h1 h => ?_) fun h1 h => ?_
 ·
  refine bn h fun r2 h2 h => ?_
  cases r2 with
  | k0 x2_0 =>
   obtain ⟨g2, e2⟩ := L25_1_run (Int.toNat (a1.sorts.length : Int)) a1 (0, (List.replicate (Int.toNat (a1.sorts.length : Int)) false)) _ h2
   refine bi h (fun h3 h => ?_) fun h3 h => ?_
   ·
    rw [← sj h]
    exact fpo (n := 30) (v := (.sl 2 0 1 0 (Int.toNat (a1.sorts.length : Int)))) (h' := [bG a1, bB [], bB x2_0]) [(8, .v (i6 (a1.sorts.length : Int))), (9, .r (.sl 2 0 1 0 (Int.toNat (a1.sorts.length : Int))) [bG a1, bB [], .row 4 1 0 (ra eBool (List.replicate (Int.toNat (a1.sorts.length : Int)) false))]), (2000, .l (.brk 0) ⟨fr 40 g2 [(1, (.ptr 0 0)), (3, (.sl 2 0 1 0 (Int.toNat (a1.sorts.length : Int))))], [bG a1, bB [], bB x2_0]⟩), (6000, .d true)] (apc (lg a1.sorts eStr 1) (apc ((mk_row' (h := [bG a1, bB []]) (e := eBool) (z := false) h1 rfl) : (mkA 4 1 1 [.val (.bool false)] (i6 (a1.sorts.length : Int)) (i6 (a1.sorts.length : Int)) 2).map (fun x => (x.1, [bG a1, bB []] ++ [x.2])) = some ((.sl 2 0 1 0 (Int.toNat (a1.sorts.length : Int))), [bG a1, bB [], .row 4 1 0 (ra eBool (List.replicate (Int.toNat (a1.sorts.length : Int)) false))])) (apc ((okT_of rfl (abl_cons rfl (abl_cons abl_row (abl_cons abl_row rfl)))) : okT 3 [bG a1, bB [], .row 4 1 0 (ra eBool (List.replicate (Int.toNat (a1.sorts.length : Int)) false))] = true) (apc (e2 : evH prg 3 [1, 3, 4] ir25_l1 (L25_1_s (Int.toNat (a1.sorts.length : Int)) a1 0 (List.replicate (Int.toNat (a1.sorts.length : Int)) false)) = some ((.brk 0), ⟨fr 40 g2 [(1, (.ptr 0 0)), (3, (.sl 2 0 1 0 (Int.toNat (a1.sorts.length : Int))))], [bG a1, bB [], bB x2_0]⟩)) apn)))) (purA_sl rfl h3) (by kernel_rfl)
   ·
    cases h
 ·
  cases h
inductive E_L24_0_2 where
  | k0
  | k1
noncomputable def L24_0_2 (a1 : List Bool) (a2 : List Bool) (v1 : Int) : Option (E_L24_0_2 ⊕ (Int)) :=
  (bif (decide (v1 < (a1.length : Int))) then ((getI a1 v1).bind fun x2 => ((getI a2 v1).bind fun x3 => (bif (!((x2 == x3) && true)) then (some (.inl (.k0))) else (some (.inr ((IntKind.wrap .i64 (v1 + 1)))))))) else (some (.inl (.k1))))
def L24_0_2_s (a1 : List Bool) (a2 : List Bool) (v1 : Int) : St := ⟨fr 47 ug [(0, (.p (.lst 1 (a1.map eBool)))), (1, (.p (.lst 1 (a2.map eBool)))), (9, (i6 v1))], []⟩
def L24_0_2_x (a1 : List Bool) (a2 : List Bool) (e : E_L24_0_2) (r : Option (Out × St)) : Prop := match e with | .k0 => ∃ g y, r = some (.ret, ⟨fr 47 g [(8, (vb false))], y⟩) | .k1 => ∃ g, r = some ((.brk 0), ⟨fr 47 g [(0, (.p (.lst 1 (a1.map eBool)))), (1, (.p (.lst 1 (a2.map eBool))))], []⟩)
theorem L24_0_2_ok (a1 : List Bool) (a2 : List Bool) (v1 : Int) {r : E_L24_0_2 ⊕ (Int)} (h : L24_0_2 a1 a2 v1 = some r) : OkR (fun e => L24_0_2_x a1 a2 e (evH prg 0 [0, 1, 9] ir24_l0 (L24_0_2_s a1 a2 v1))) (fun s => evH prg 0 [0, 1, 9] ir24_l0 (L24_0_2_s a1 a2 v1) = evH prg 0 [0, 1, 9] ir24_l0 (L24_0_2_s a1 a2 s)) r := by
 unfold L24_0_2 at h
 refine bi h (fun h1 h => ?_) fun h1 h => ?_
 ·
  refine bn h fun x2 h2 h => ?_
  refine bn h fun x3 h3 h => ?_
  refine bi h (fun h4 h => ?_) fun h4 h => ?_
  ·
   rw [← sj h]
   exact xretY (n := 30) [(34, .v (i6 (a1.length : Int))), (35, .d true), (40, .v (.ro [.val (.bool x2)])), (44, .v (.ro [.val (.bool x3)])), (46, .d true), (6000, .d true)] (apc (lg a1 eBool 1) (apc (cv h1) (apc (ig eBool 1 .i64 h2) (apc (ig eBool 1 .i64 h3) (apc (cv h4) apn))))) (by kernel_rfl)
  ·
   rw [← sj h]
   exact rnd (n := 30) [(34, .v (i6 (a1.length : Int))), (35, .d true), (40, .v (.ro [.val (.bool x2)])), (44, .v (.ro [.val (.bool x3)])), (46, .d false), (6000, .d true)] (apc (lg a1 eBool 1) (apc (cv h1) (apc (ig eBool 1 .i64 h2) (apc (ig eBool 1 .i64 h3) (apc (cv h4) (apc ((okT_of rfl rfl) : okT 0 [] = true) apn)))))) (by kernel_rfl)
 ·
  rw [← sj h]
  exact xbrk (n := 30) [(34, .v (i6 (a1.length : Int))), (35, .d false), (6000, .d true)] (apc (lg a1 eBool 1) (apc (cv h1) apn)) (by kernel_rfl)
theorem L24_0_2_run (a1 : List Bool) (a2 : List Bool) (s0 : Int) (e : E_L24_0_2) (h : runL (fun s => L24_0_2 a1 a2 s) s0 = some e) : L24_0_2_x a1 a2 e (evH prg 0 [0, 1, 9] ir24_l0 (L24_0_2_s a1 a2 s0)) := by
  have q := @loop_sound' (Int) E_L24_0_2 (fun s => L24_0_2 a1 a2 s) (fun s => evH prg 0 [0, 1, 9] ir24_l0 (L24_0_2_s a1 a2 s)) (L24_0_2_x a1 a2) (fun s r h => L24_0_2_ok a1 a2 s h) s0 e h
  exact q
noncomputable def F24_2 (a1 : List Bool) (a2 : List Bool) (a3 : Int) (a4 : Int) : Option Bool :=
  ((F15 a3).bind fun x1 => (bif (x1 != a4) then ((F15 a3).bind fun x3 => (bif (x3 == a4) then (some ((a1.length : Int) == 0)) else (some false))) else (bif (a4 != 0) then ((F15 a3).bind fun x4 => (bif (x4 == a4) then (some ((a1.length : Int) == 0)) else (some false))) else (bif ((a1.length : Int) != (a2.length : Int)) then (some false) else ((runL (fun s => L24_0_2 a1 a2 s) 0).bind fun r5 => match r5 with | .k0 => (some false) | .k1 => (some true))))))
def F24_2_v (a1 : List Bool) (a2 : List Bool) (a3 : Int) (a4 : Int) (x0 : Bool) : AV := (vb x0)
theorem F24_2_ok (a1 : List Bool) (a2 : List Bool) (a3 : Int) (a4 : Int) {r : Bool} (h : F24_2 a1 a2 a3 a4 = some r) : PR1 prg 24 [(.p (.lst 1 (a1.map eBool))), (.p (.lst 1 (a2.map eBool))), (i6 a3), (i6 a4)] (F24_2_v a1 a2 a3 a4 r) := by
 unfold F24_2 at h
 refine bn h fun x1 h1 h => ?_
 refine bi h (fun h2 h => ?_) fun h2 h => ?_
 ·
  refine bn h fun x3 h3 h => ?_
  refine bi h (fun h4 h => ?_) fun h4 h => ?_
  ·
   rw [← sj h]
   exact fpr (n := 30) [(11, .v (i6 x1)), (13, .d true), (19, .v (i6 x3)), (21, .d true), (24, .v (i6 (a1.length : Int)))] (apc (((F15_ok a3 h1).cp rfl _) : CP prg 15 [(i6 a3)] [] = some (i6 x1)) (apc (cv h2) (apc (((F15_ok a3 h3).cp rfl _) : CP prg 15 [(i6 a3)] [] = some (i6 x3)) (apc (cv h4) (apc (lg a1 eBool 1) apn))))) rfl (by kernel_rfl)
  ·
   rw [← sj h]
   exact fpr (n := 30) [(11, .v (i6 x1)), (13, .d true), (19, .v (i6 x3)), (21, .d false)] (apc (((F15_ok a3 h1).cp rfl _) : CP prg 15 [(i6 a3)] [] = some (i6 x1)) (apc (cv h2) (apc (((F15_ok a3 h3).cp rfl _) : CP prg 15 [(i6 a3)] [] = some (i6 x3)) (apc (cv h4) apn)))) rfl (by kernel_rfl)
 ·
  refine bi h (fun h3 h => ?_) fun h3 h => ?_
  ·
   refine bn h fun x4 h4 h => ?_
   refine bi h (fun h5 h => ?_) fun h5 h => ?_
   ·
    rw [← sj h]
    exact fpr (n := 30) [(11, .v (i6 x1)), (13, .d false), (16, .d true), (19, .v (i6 x4)), (21, .d true), (24, .v (i6 (a1.length : Int)))] (apc (((F15_ok a3 h1).cp rfl _) : CP prg 15 [(i6 a3)] [] = some (i6 x1)) (apc (cv h2) (apc (cv h3) (apc (((F15_ok a3 h4).cp rfl _) : CP prg 15 [(i6 a3)] [] = some (i6 x4)) (apc (cv h5) (apc (lg a1 eBool 1) apn)))))) rfl (by kernel_rfl)
   ·
    rw [← sj h]
    exact fpr (n := 30) [(11, .v (i6 x1)), (13, .d false), (16, .d true), (19, .v (i6 x4)), (21, .d false)] (apc (((F15_ok a3 h1).cp rfl _) : CP prg 15 [(i6 a3)] [] = some (i6 x1)) (apc (cv h2) (apc (cv h3) (apc (((F15_ok a3 h4).cp rfl _) : CP prg 15 [(i6 a3)] [] = some (i6 x4)) (apc (cv h5) apn))))) rfl (by kernel_rfl)
  ·
   refine bi h (fun h4 h => ?_) fun h4 h => ?_
   ·
    rw [← sj h]
    exact fpr (n := 30) [(11, .v (i6 x1)), (13, .d false), (16, .d false), (28, .v (i6 (a1.length : Int))), (30, .v (i6 (a2.length : Int))), (31, .d true)] (apc (((F15_ok a3 h1).cp rfl _) : CP prg 15 [(i6 a3)] [] = some (i6 x1)) (apc (cv h2) (apc (cv h3) (apc (lg a1 eBool 1) (apc (lg a2 eBool 1) (apc (cv h4) apn)))))) rfl (by kernel_rfl)
   ·
    refine bn h fun r5 h5 h => ?_
    cases r5 with
    | k0 =>
     obtain ⟨g5, y5, e5⟩ := L24_0_2_run a1 a2 0 _ h5
     rw [← sj h]
     exact fpr (n := 30) [(11, .v (i6 x1)), (13, .d false), (16, .d false), (28, .v (i6 (a1.length : Int))), (30, .v (i6 (a2.length : Int))), (31, .d false), (2000, .l .ret ⟨fr 47 g5 [(8, (vb false))], y5⟩), (6000, .d true)] (apc (((F15_ok a3 h1).cp rfl _) : CP prg 15 [(i6 a3)] [] = some (i6 x1)) (apc (cv h2) (apc (cv h3) (apc (lg a1 eBool 1) (apc (lg a2 eBool 1) (apc (cv h4) (apc ((okT_of rfl rfl) : okT 0 [] = true) (apc (e5 : evH prg 0 [0, 1, 9] ir24_l0 (L24_0_2_s a1 a2 0) = some (.ret, ⟨fr 47 g5 [(8, (vb false))], y5⟩)) apn)))))))) rfl (by kernel_rfl)
    | k1 =>
     obtain ⟨g5, e5⟩ := L24_0_2_run a1 a2 0 _ h5
     rw [← sj h]
     exact fpr (n := 30) [(11, .v (i6 x1)), (13, .d false), (16, .d false), (28, .v (i6 (a1.length : Int))), (30, .v (i6 (a2.length : Int))), (31, .d false), (2000, .l (.brk 0) ⟨fr 47 g5 [(0, (.p (.lst 1 (a1.map eBool)))), (1, (.p (.lst 1 (a2.map eBool))))], []⟩), (6000, .d true)] (apc (((F15_ok a3 h1).cp rfl _) : CP prg 15 [(i6 a3)] [] = some (i6 x1)) (apc (cv h2) (apc (cv h3) (apc (lg a1 eBool 1) (apc (lg a2 eBool 1) (apc (cv h4) (apc ((okT_of rfl rfl) : okT 0 [] = true) (apc (e5 : evH prg 0 [0, 1, 9] ir24_l0 (L24_0_2_s a1 a2 0) = some ((.brk 0), ⟨fr 47 g5 [(0, (.p (.lst 1 (a1.map eBool)))), (1, (.p (.lst 1 (a2.map eBool))))], []⟩)) apn)))))))) rfl (by kernel_rfl)
inductive E_L26_0 where
  | k0 (x0 : List Bool)
noncomputable def L26_0 (a1 : Nat) (a7 : ProdD) (v1 : Int) (v2 : List Bool) : Option (E_L26_0 ⊕ (Int × (List Bool))) :=
  (bif (decide (v1 < (a7.right.length : Int))) then ((getI a7.right v1).bind fun x2 => (bif (x2.kind == 1) then ((ixN a1 x2.sort).bind fun x4 => ((v2[x4]?).bind fun x5 => (some (.inr ((IntKind.wrap .i64 (v1 + 1)), (v2.set x4 true)))))) else (some (.inr ((IntKind.wrap .i64 (v1 + 1)), v2))))) else (some (.inl (.k0 v2))))
def L26_0_s (a1 : Nat) (a2 : List Bool) (a3 : Int) (a4 : Int) (a5 : GramD) (a7 : ProdD) (v1 : Int) (v2 : List Bool) : St := ⟨fr 83 ug [(1, (vb false)), (2, (.ptr 0 0)), (5, (.sl 2 0 1 0 a1)), (6, (.p (.lst 1 (a2.map eBool)))), (7, (i6 a3)), (8, (i6 a4)), (9, (.ptr 4 0)), (10, (i6 v1))], [bG a5, bB [], bB v2, .row 48 6 0 (ra eSym []), bP a7]⟩
def L26_0_x (a1 : Nat) (a2 : List Bool) (a3 : Int) (a4 : Int) (a5 : GramD) (a7 : ProdD) (e : E_L26_0) (r : Option (Out × St)) : Prop := match e with | .k0 x0 => ∃ g, r = some ((.brk 4), ⟨fr 83 g [(1, (vb false)), (2, (.ptr 0 0)), (5, (.sl 2 0 1 0 a1)), (6, (.p (.lst 1 (a2.map eBool)))), (7, (i6 a3)), (8, (i6 a4)), (9, (.ptr 4 0))], [bG a5, bB [], bB x0, .row 48 6 0 (ra eSym []), bP a7]⟩)
theorem L26_0_ok (a1 : Nat) (a2 : List Bool) (a3 : Int) (a4 : Int) (a5 : GramD) (a7 : ProdD) (v1 : Int) (v2 : List Bool) {r : E_L26_0 ⊕ (Int × (List Bool))} (h : L26_0 a1 a7 v1 v2 = some r) : OkR (fun e => L26_0_x a1 a2 a3 a4 a5 a7 e (evH prg 5 [1, 2, 5, 6, 7, 8, 9, 10] ir26_l0 (L26_0_s a1 a2 a3 a4 a5 a7 v1 v2))) (fun s => evH prg 5 [1, 2, 5, 6, 7, 8, 9, 10] ir26_l0 (L26_0_s a1 a2 a3 a4 a5 a7 v1 v2) = evH prg 5 [1, 2, 5, 6, 7, 8, 9, 10] ir26_l0 (L26_0_s a1 a2 a3 a4 a5 a7 s.1 s.2)) r := by
 unfold L26_0 at h
 refine bi h (fun h1 h => ?_) fun h1 h => ?_
 ·
  refine bn h fun x2 h2 h => ?_
  refine bi h (fun h3 h => ?_) fun h3 h => ?_
  ·
   refine bn h fun x4 h4 h => ?_
   refine bn h fun x5 h5 h => ?_
   rw [← sj h]
   exact rnd (n := 30) [(63, .v (i6 (a7.right.length : Int))), (64, .d true), (70, .v (.ro (eSym x2))), (73, .d true), (78, .v (.ro (eSym x2))), (81, .v (.rp 2 0 1 x4 0)), (1081, .r ud [bG a5, bB [], .row 4 1 0 (ra eBool (v2.set x4 true)), .row 48 6 0 (ra eSym []), bP a7]), (6000, .d true)] (apc (lg a7.right eSym 6) (apc (cv h1) (apc (ig eSym 6 .i64 h2) (apc (cv h3) (apc (ig eSym 6 .i64 h2) (apc ((idx_sl h4) : idxA 1 (.sl 2 0 1 0 a1) (i6 x2.sort) = some (.rp 2 0 1 x4 0)) (apc (⟨st_row (v' := true) rfl h5 rfl rfl (Nat.le_of_ble_eq_true rfl) rfl, rfl⟩ : stA [bG a5, bB [], bB v2, .row 48 6 0 (ra eSym []), bP a7] 1 (.rp 2 0 1 x4 0) (vb true) = some [bG a5, bB [], .row 4 1 0 (ra eBool (v2.set x4 true)), .row 48 6 0 (ra eSym []), bP a7] ∧ ud = ud) (apc ((okT_of rfl (abl_cons rfl (abl_cons abl_row (abl_cons abl_row (abl_cons abl_row (abl_cons rfl rfl)))))) : okT 5 [bG a5, bB [], .row 4 1 0 (ra eBool (v2.set x4 true)), .row 48 6 0 (ra eSym []), bP a7] = true) apn)))))))) (by kernel_rfl)
  ·
   rw [← sj h]
   exact rnd (n := 30) [(63, .v (i6 (a7.right.length : Int))), (64, .d true), (70, .v (.ro (eSym x2))), (73, .d false), (6000, .d true)] (apc (lg a7.right eSym 6) (apc (cv h1) (apc (ig eSym 6 .i64 h2) (apc (cv h3) (apc ((okT_of rfl (abl_cons rfl (abl_cons abl_row (abl_cons abl_row (abl_cons abl_row (abl_cons rfl rfl)))))) : okT 5 [bG a5, bB [], bB v2, .row 48 6 0 (ra eSym []), bP a7] = true) apn))))) (by kernel_rfl)
 ·
  rw [← sj h]
  exact xbrk (n := 30) [(63, .v (i6 (a7.right.length : Int))), (64, .d false), (6000, .d true)] (apc (lg a7.right eSym 6) (apc (cv h1) apn)) (by kernel_rfl)
theorem L26_0_run (a1 : Nat) (a2 : List Bool) (a3 : Int) (a4 : Int) (a5 : GramD) (a7 : ProdD) (s0 : Int × (List Bool)) (e : E_L26_0) (h : runL (fun s => L26_0 a1 a7 s.1 s.2) s0 = some e) : L26_0_x a1 a2 a3 a4 a5 a7 e (evH prg 5 [1, 2, 5, 6, 7, 8, 9, 10] ir26_l0 (L26_0_s a1 a2 a3 a4 a5 a7 s0.1 s0.2)) := by
  have q := @loop_sound' (Int × (List Bool)) E_L26_0 (fun s => L26_0 a1 a7 s.1 s.2) (fun s => evH prg 5 [1, 2, 5, 6, 7, 8, 9, 10] ir26_l0 (L26_0_s a1 a2 a3 a4 a5 a7 s.1 s.2)) (L26_0_x a1 a2 a3 a4 a5 a7) (fun s r h => L26_0_ok a1 a2 a3 a4 a5 a7 s.1 s.2 h) s0 e h
  exact q
inductive E_L26_1 where
  | k0 (x0 : List Bool)
noncomputable def L26_1 (a1 : Nat) (a4 : GramD) (v1 : Int) (v2 : List Bool) : Option (E_L26_1 ⊕ (Int × (List Bool))) :=
  (bif (decide (v1 < (a4.prods.length : Int))) then ((getI a4.prods v1).bind fun x2 => (bif (x2.role == 11) then (some (.inr ((IntKind.wrap .i64 (v1 + 1)), v2))) else ((ixN a1 x2.left).bind fun x4 => ((v2[x4]?).bind fun x5 => (bif x5 then ((runL (fun s => L26_0 a1 x2 s.1 s.2) (0, v2)).bind fun r7 => match r7 with | .k0 x7_0 => (some (.inr ((IntKind.wrap .i64 (v1 + 1)), x7_0)))) else (some (.inr ((IntKind.wrap .i64 (v1 + 1)), v2)))))))) else (some (.inl (.k0 v2))))
def L26_1_s (a1 : Nat) (a2 : List Bool) (a3 : Int) (a4 : GramD) (v1 : Int) (v2 : List Bool) : St := ⟨fr 83 ug [(1, (vb false)), (2, (.ptr 0 0)), (5, (.sl 2 0 1 0 a1)), (6, (.p (.lst 1 (a2.map eBool)))), (7, (i6 a3)), (8, (i6 v1))], [bG a4, bB [], bB v2]⟩
def L26_1_x (a1 : Nat) (a2 : List Bool) (a3 : Int) (a4 : GramD) (e : E_L26_1) (r : Option (Out × St)) : Prop := match e with | .k0 x0 => ∃ g, r = some ((.brk 2), ⟨fr 83 g [(1, (vb false)), (2, (.ptr 0 0)), (5, (.sl 2 0 1 0 a1)), (6, (.p (.lst 1 (a2.map eBool)))), (7, (i6 a3))], [bG a4, bB [], bB x0]⟩)
theorem L26_1_ok (a1 : Nat) (a2 : List Bool) (a3 : Int) (a4 : GramD) (v1 : Int) (v2 : List Bool) {r : E_L26_1 ⊕ (Int × (List Bool))} (h : L26_1 a1 a4 v1 v2 = some r) : OkR (fun e => L26_1_x a1 a2 a3 a4 e (evH prg 3 [1, 2, 5, 6, 7, 8] ir26_l1 (L26_1_s a1 a2 a3 a4 v1 v2))) (fun s => evH prg 3 [1, 2, 5, 6, 7, 8] ir26_l1 (L26_1_s a1 a2 a3 a4 v1 v2) = evH prg 3 [1, 2, 5, 6, 7, 8] ir26_l1 (L26_1_s a1 a2 a3 a4 s.1 s.2)) r := by
 unfold L26_1 at h
 refine bi h (fun h1 h => ?_) fun h1 h => ?_
 ·
  refine bn h fun x2 h2 h => ?_
  refine bi h (fun h3 h => ?_) fun h3 h => ?_
  ·
   rw [← sj h]
   exact rnd (n := 30) [(31, .v (i6 (a4.prods.length : Int))), (32, .d true), (38, .v (.ro (eProd x2))), (42, .d true), (6000, .d true)] (apc (lg a4.prods eProd 7) (apc (cv h1) (apc (ig eProd 7 .i64 h2) (apc (cv h3) (apc ((okT_of rfl (abl_cons rfl (abl_cons abl_row (abl_cons abl_row rfl)))) : okT 3 [bG a4, bB [], bB v2, .row 48 6 0 (ra eSym []), bP x2] = true) apn))))) (by kernel_rfl)
  ·
   refine bn h fun x4 h4 h => ?_
   refine bn h fun x5 h5 h => ?_
   refine bi h (fun h6 h => ?_) fun h6 h => ?_
   ·
    refine bn h fun r7 h7 h => ?_
    cases r7 with
    | k0 x7_0 =>
     obtain ⟨g7, e7⟩ := L26_0_run a1 a2 a3 v1 a4 x2 (0, v2) _ h7
     rw [← sj h]
     exact rnd (n := 30) [(31, .v (i6 (a4.prods.length : Int))), (32, .d true), (38, .v (.ro (eProd x2))), (42, .d false), (47, .v (.rp 2 0 1 x4 0)), (48, .v (vb true)), (2004, .l (.brk 4) ⟨fr 83 g7 [(1, (vb false)), (2, (.ptr 0 0)), (5, (.sl 2 0 1 0 a1)), (6, (.p (.lst 1 (a2.map eBool)))), (7, (i6 a3)), (8, (i6 v1)), (9, (.ptr 4 0))], [bG a4, bB [], bB x7_0, .row 48 6 0 (ra eSym []), bP x2]⟩), (6000, .d true)] (apc (lg a4.prods eProd 7) (apc (cv h1) (apc (ig eProd 7 .i64 h2) (apc (cv h3) (apc ((idx_sl h4) : idxA 1 (.sl 2 0 1 0 a1) (i6 x2.left) = some (.rp 2 0 1 x4 0)) (apc (((ld_row (V := vb x5) rfl h5 rfl).trans (congrArg (fun z => some (vb z)) h6)) : ldA [bG a4, bB [], bB v2, .row 48 6 0 (ra eSym []), bP x2] .false 1 (.rp 2 0 1 x4 0) = some (vb true)) (apc ((okT_of rfl (abl_cons rfl (abl_cons abl_row (abl_cons abl_row (abl_cons abl_row (abl_cons rfl rfl)))))) : okT 5 [bG a4, bB [], bB v2, .row 48 6 0 (ra eSym []), bP x2] = true) (apc (e7 : evH prg 5 [1, 2, 5, 6, 7, 8, 9, 10] ir26_l0 (L26_0_s a1 a2 a3 v1 a4 x2 0 v2) = some ((.brk 4), ⟨fr 83 g7 [(1, (vb false)), (2, (.ptr 0 0)), (5, (.sl 2 0 1 0 a1)), (6, (.p (.lst 1 (a2.map eBool)))), (7, (i6 a3)), (8, (i6 v1)), (9, (.ptr 4 0))], [bG a4, bB [], bB x7_0, .row 48 6 0 (ra eSym []), bP x2]⟩)) (apc ((okT_of rfl (abl_cons rfl (abl_cons abl_row (abl_cons abl_row rfl)))) : okT 3 [bG a4, bB [], bB x7_0, .row 48 6 0 (ra eSym []), bP x2] = true) apn))))))))) (by kernel_rfl)
   ·
    rw [← sj h]
    exact rnd (n := 30) [(31, .v (i6 (a4.prods.length : Int))), (32, .d true), (38, .v (.ro (eProd x2))), (42, .d false), (47, .v (.rp 2 0 1 x4 0)), (48, .v (vb false)), (6000, .d true)] (apc (lg a4.prods eProd 7) (apc (cv h1) (apc (ig eProd 7 .i64 h2) (apc (cv h3) (apc ((idx_sl h4) : idxA 1 (.sl 2 0 1 0 a1) (i6 x2.left) = some (.rp 2 0 1 x4 0)) (apc (((ld_row (V := vb x5) rfl h5 rfl).trans (congrArg (fun z => some (vb z)) h6)) : ldA [bG a4, bB [], bB v2, .row 48 6 0 (ra eSym []), bP x2] .false 1 (.rp 2 0 1 x4 0) = some (vb false)) (apc ((okT_of rfl (abl_cons rfl (abl_cons abl_row (abl_cons abl_row rfl)))) : okT 3 [bG a4, bB [], bB v2, .row 48 6 0 (ra eSym []), bP x2] = true) apn))))))) (by kernel_rfl)
 ·
  rw [← sj h]
  exact xbrk (n := 30) [(31, .v (i6 (a4.prods.length : Int))), (32, .d false), (6000, .d true)] (apc (lg a4.prods eProd 7) (apc (cv h1) apn)) (by kernel_rfl)
theorem L26_1_run (a1 : Nat) (a2 : List Bool) (a3 : Int) (a4 : GramD) (s0 : Int × (List Bool)) (e : E_L26_1) (h : runL (fun s => L26_1 a1 a4 s.1 s.2) s0 = some e) : L26_1_x a1 a2 a3 a4 e (evH prg 3 [1, 2, 5, 6, 7, 8] ir26_l1 (L26_1_s a1 a2 a3 a4 s0.1 s0.2)) := by
  have q := @loop_sound' (Int × (List Bool)) E_L26_1 (fun s => L26_1 a1 a4 s.1 s.2) (fun s => evH prg 3 [1, 2, 5, 6, 7, 8] ir26_l1 (L26_1_s a1 a2 a3 a4 s.1 s.2)) (L26_1_x a1 a2 a3 a4) (fun s r h => L26_1_ok a1 a2 a3 a4 s.1 s.2 h) s0 e h
  exact q
inductive E_L26_2 where
  | k0 (x0 : List Bool)
noncomputable def L26_2 (a1 : Nat) (a3 : GramD) (v1 : Int) (v2 : List Bool) : Option (E_L26_2 ⊕ (Int × (List Bool))) :=
  (bif (decide (v1 < (a3.sorts.length : Int))) then ((runL (fun s => L26_1 a1 a3 s.1 s.2) (0, v2)).bind fun r2 => match r2 with | .k0 x2_0 => (some (.inr ((IntKind.wrap .i64 (v1 + 1)), x2_0)))) else (some (.inl (.k0 v2))))
def L26_2_s (a1 : Nat) (a2 : List Bool) (a3 : GramD) (v1 : Int) (v2 : List Bool) : St := ⟨fr 83 ug [(1, (vb false)), (2, (.ptr 0 0)), (5, (.sl 2 0 1 0 a1)), (6, (.p (.lst 1 (a2.map eBool)))), (7, (i6 v1))], [bG a3, bB [], bB v2]⟩
def L26_2_x (a1 : Nat) (a2 : List Bool) (a3 : GramD) (e : E_L26_2) (r : Option (Out × St)) : Prop := match e with | .k0 x0 => ∃ g, r = some ((.brk 0), ⟨fr 83 g [(2, (.ptr 0 0)), (5, (.sl 2 0 1 0 a1))], [bG a3, bB [], bB x0]⟩)
theorem L26_2_ok (a1 : Nat) (a2 : List Bool) (a3 : GramD) (v1 : Int) (v2 : List Bool) {r : E_L26_2 ⊕ (Int × (List Bool))} (h : L26_2 a1 a3 v1 v2 = some r) : OkR (fun e => L26_2_x a1 a2 a3 e (evH prg 3 [1, 2, 5, 6, 7] ir26_l2 (L26_2_s a1 a2 a3 v1 v2))) (fun s => evH prg 3 [1, 2, 5, 6, 7] ir26_l2 (L26_2_s a1 a2 a3 v1 v2) = evH prg 3 [1, 2, 5, 6, 7] ir26_l2 (L26_2_s a1 a2 a3 s.1 s.2)) r := by
 unfold L26_2 at h
 refine bi h (fun h1 h => ?_) fun h1 h => ?_
 ·
  refine bn h fun r2 h2 h => ?_
  cases r2 with
  | k0 x2_0 =>
   obtain ⟨g2, e2⟩ := L26_1_run a1 a2 v1 a3 (0, v2) _ h2
   rw [← sj h]
   exact rnd (n := 30) [(24, .v (i6 (a3.sorts.length : Int))), (25, .d true), (2002, .l (.brk 2) ⟨fr 83 g2 [(1, (vb false)), (2, (.ptr 0 0)), (5, (.sl 2 0 1 0 a1)), (6, (.p (.lst 1 (a2.map eBool)))), (7, (i6 v1))], [bG a3, bB [], bB x2_0]⟩), (6000, .d true)] (apc (lg a3.sorts eStr 1) (apc (cv h1) (apc ((okT_of rfl (abl_cons rfl (abl_cons abl_row (abl_cons abl_row rfl)))) : okT 3 [bG a3, bB [], bB v2] = true) (apc (e2 : evH prg 3 [1, 2, 5, 6, 7, 8] ir26_l1 (L26_1_s a1 a2 v1 a3 0 v2) = some ((.brk 2), ⟨fr 83 g2 [(1, (vb false)), (2, (.ptr 0 0)), (5, (.sl 2 0 1 0 a1)), (6, (.p (.lst 1 (a2.map eBool)))), (7, (i6 v1))], [bG a3, bB [], bB x2_0]⟩)) (apc ((okT_of rfl (abl_cons rfl (abl_cons abl_row (abl_cons abl_row rfl)))) : okT 3 [bG a3, bB [], bB x2_0] = true) apn))))) (by kernel_rfl)
 ·
  rw [← sj h]
  exact xbrk (n := 30) [(24, .v (i6 (a3.sorts.length : Int))), (25, .d false), (6000, .d true)] (apc (lg a3.sorts eStr 1) (apc (cv h1) apn)) (by kernel_rfl)
theorem L26_2_run (a1 : Nat) (a2 : List Bool) (a3 : GramD) (s0 : Int × (List Bool)) (e : E_L26_2) (h : runL (fun s => L26_2 a1 a3 s.1 s.2) s0 = some e) : L26_2_x a1 a2 a3 e (evH prg 3 [1, 2, 5, 6, 7] ir26_l2 (L26_2_s a1 a2 a3 s0.1 s0.2)) := by
  have q := @loop_sound' (Int × (List Bool)) E_L26_2 (fun s => L26_2 a1 a3 s.1 s.2) (fun s => evH prg 3 [1, 2, 5, 6, 7] ir26_l2 (L26_2_s a1 a2 a3 s.1 s.2)) (L26_2_x a1 a2 a3) (fun s r h => L26_2_ok a1 a2 a3 s.1 s.2 h) s0 e h
  exact q
noncomputable def F26 (a1 : GramD) : Option (List Bool) :=
  (bif (mkOk (a1.sorts.length : Int) 1) then ((F25 a1).bind fun x2 => ((ixN (Int.toNat (a1.sorts.length : Int)) a1.start).bind fun x3 => (((List.replicate (Int.toNat (a1.sorts.length : Int)) false)[x3]?).bind fun x4 => ((runL (fun s => L26_2 (Int.toNat (a1.sorts.length : Int)) a1 s.1 s.2) (0, ((List.replicate (Int.toNat (a1.sorts.length : Int)) false).set x3 true))).bind fun r5 => match r5 with | .k0 x5_0 => (bif (decide ((Int.toNat (a1.sorts.length : Int)) ≤ x5_0.length)) then (some (x5_0.take (Int.toNat (a1.sorts.length : Int)))) else none))))) else none)
def F26_v (a1 : GramD) (x0 : (List Bool)) : AV := (.p (.lst 1 (x0.map eBool)))
theorem F26_ok (a1 : GramD) {r : (List Bool)} (h : F26 a1 = some r) : PR1 prg 26 [(aG a1), (vb false)] (F26_v a1 r) := by
 unfold F26 at h
 refine bi h (fun h1 h => ?_) fun h1 h => ?_
 ·
  refine bn h fun x2 h2 h => ?_
  refine bn h fun x3 h3 h => ?_
  refine bn h fun x4 h4 h => ?_
  refine bn h fun r5 h5 h => ?_
  cases r5 with
  | k0 x5_0 =>
   obtain ⟨g5, e5⟩ := L26_2_run (Int.toNat (a1.sorts.length : Int)) x2 a1 (0, ((List.replicate (Int.toNat (a1.sorts.length : Int)) false).set x3 true)) _ h5
   refine bi h (fun h6 h => ?_) fun h6 h => ?_
   ·
    rw [← sj h]
    exact fpo (n := 30) (v := (.sl 2 0 1 0 (Int.toNat (a1.sorts.length : Int)))) (h' := [bG a1, bB [], bB x5_0]) [(13, .v (i6 (a1.sorts.length : Int))), (14, .r (.sl 2 0 1 0 (Int.toNat (a1.sorts.length : Int))) [bG a1, bB [], .row 4 1 0 (ra eBool (List.replicate (Int.toNat (a1.sorts.length : Int)) false))]), (16, .v (.p (.lst 1 (x2.map eBool)))), (20, .v (.rp 2 0 1 x3 0)), (1020, .r ud [bG a1, bB [], .row 4 1 0 (ra eBool ((List.replicate (Int.toNat (a1.sorts.length : Int)) false).set x3 true))]), (2000, .l (.brk 0) ⟨fr 83 g5 [(2, (.ptr 0 0)), (5, (.sl 2 0 1 0 (Int.toNat (a1.sorts.length : Int))))], [bG a1, bB [], bB x5_0]⟩), (6000, .d true)] (apc (lg a1.sorts eStr 1) (apc ((mk_row' (h := [bG a1, bB []]) (e := eBool) (z := false) h1 rfl) : (mkA 4 1 1 [.val (.bool false)] (i6 (a1.sorts.length : Int)) (i6 (a1.sorts.length : Int)) 2).map (fun x => (x.1, [bG a1, bB []] ++ [x.2])) = some ((.sl 2 0 1 0 (Int.toNat (a1.sorts.length : Int))), [bG a1, bB [], .row 4 1 0 (ra eBool (List.replicate (Int.toNat (a1.sorts.length : Int)) false))])) (apc (((F25_ok a1 h2).cp rfl _) : CP prg 25 [(aG a1)] [bG a1, bB [], .row 4 1 0 (ra eBool (List.replicate (Int.toNat (a1.sorts.length : Int)) false))] = some (.p (.lst 1 (x2.map eBool)))) (apc ((idx_sl h3) : idxA 1 (.sl 2 0 1 0 (Int.toNat (a1.sorts.length : Int))) (i6 a1.start) = some (.rp 2 0 1 x3 0)) (apc (⟨st_row (v' := true) rfl h4 rfl rfl (Nat.le_of_ble_eq_true rfl) rfl, rfl⟩ : stA [bG a1, bB [], .row 4 1 0 (ra eBool (List.replicate (Int.toNat (a1.sorts.length : Int)) false))] 1 (.rp 2 0 1 x3 0) (vb true) = some [bG a1, bB [], .row 4 1 0 (ra eBool ((List.replicate (Int.toNat (a1.sorts.length : Int)) false).set x3 true))] ∧ ud = ud) (apc ((okT_of rfl (abl_cons rfl (abl_cons abl_row (abl_cons abl_row rfl)))) : okT 3 [bG a1, bB [], .row 4 1 0 (ra eBool ((List.replicate (Int.toNat (a1.sorts.length : Int)) false).set x3 true))] = true) (apc (e5 : evH prg 3 [1, 2, 5, 6, 7] ir26_l2 (L26_2_s (Int.toNat (a1.sorts.length : Int)) x2 a1 0 ((List.replicate (Int.toNat (a1.sorts.length : Int)) false).set x3 true)) = some ((.brk 0), ⟨fr 83 g5 [(2, (.ptr 0 0)), (5, (.sl 2 0 1 0 (Int.toNat (a1.sorts.length : Int))))], [bG a1, bB [], bB x5_0]⟩)) apn))))))) (purA_sl rfl h6) (by kernel_rfl)
   ·
    cases h
 ·
  cases h
inductive E_L16_2 where
  | k0 (x0 : List Int)
noncomputable def L16_2 (a1 : Nat) (v1 : Int) (v2 : List Int) : Option (E_L16_2 ⊕ (Int × (List Int))) :=
  (bif (decide (v1 < ((a1 : Nat) : Int))) then ((ixN a1 v1).bind fun x2 => ((v2[x2]?).bind fun x3 => (some (.inr ((IntKind.wrap .i64 (v1 + 1)), (v2.set x2 (-1))))))) else (some (.inl (.k0 v2))))
def L16_2_s (a1 : Nat) (a2 : GramD) (v1 : Int) (v2 : List Int) : St := ⟨fr 67 ug [(1, (.ptr 0 0)), (3, (.sl 2 0 1 0 a1)), (4, (i6 v1))], [bG a2, bI [], bI v2]⟩
def L16_2_x (a1 : Nat) (a2 : GramD) (e : E_L16_2) (r : Option (Out × St)) : Prop := match e with | .k0 x0 => ∃ g, r = some ((.brk 0), ⟨fr 67 g [(1, (.ptr 0 0)), (3, (.sl 2 0 1 0 a1))], [bG a2, bI [], bI x0]⟩)
theorem L16_2_ok (a1 : Nat) (a2 : GramD) (v1 : Int) (v2 : List Int) {r : E_L16_2 ⊕ (Int × (List Int))} (h : L16_2 a1 v1 v2 = some r) : OkR (fun e => L16_2_x a1 a2 e (evH prg 3 [1, 3, 4] ir16_l2 (L16_2_s a1 a2 v1 v2))) (fun s => evH prg 3 [1, 3, 4] ir16_l2 (L16_2_s a1 a2 v1 v2) = evH prg 3 [1, 3, 4] ir16_l2 (L16_2_s a1 a2 s.1 s.2)) r := by
 unfold L16_2 at h
 refine bi h (fun h1 h => ?_) fun h1 h => ?_
 ·
  refine bn h fun x2 h2 h => ?_
  refine bn h fun x3 h3 h => ?_
  rw [← sj h]
  exact rnd (n := 30) [(16, .d true), (21, .v (.rp 2 0 1 x2 0)), (1021, .r ud [bG a2, bI [], .row 3 1 0 (ra eI64 (v2.set x2 (-1)))]), (6000, .d true)] (apc (cv h1) (apc ((idx_sl h2) : idxA 1 (.sl 2 0 1 0 a1) (i6 v1) = some (.rp 2 0 1 x2 0)) (apc (⟨st_row (v' := (-1)) rfl h3 rfl rfl (Nat.le_of_ble_eq_true rfl) rfl, rfl⟩ : stA [bG a2, bI [], bI v2] 1 (.rp 2 0 1 x2 0) (i6 (-1)) = some [bG a2, bI [], .row 3 1 0 (ra eI64 (v2.set x2 (-1)))] ∧ ud = ud) (apc ((okT_of rfl (abl_cons rfl (abl_cons abl_row (abl_cons abl_row rfl)))) : okT 3 [bG a2, bI [], .row 3 1 0 (ra eI64 (v2.set x2 (-1)))] = true) apn)))) (by kernel_rfl)
 ·
  rw [← sj h]
  exact xbrk (n := 30) [(16, .d false), (6000, .d true)] (apc (cv h1) apn) (by kernel_rfl)
theorem L16_2_run (a1 : Nat) (a2 : GramD) (s0 : Int × (List Int)) (e : E_L16_2) (h : runL (fun s => L16_2 a1 s.1 s.2) s0 = some e) : L16_2_x a1 a2 e (evH prg 3 [1, 3, 4] ir16_l2 (L16_2_s a1 a2 s0.1 s0.2)) := by
  have q := @loop_sound' (Int × (List Int)) E_L16_2 (fun s => L16_2 a1 s.1 s.2) (fun s => evH prg 3 [1, 3, 4] ir16_l2 (L16_2_s a1 a2 s.1 s.2)) (L16_2_x a1 a2) (fun s r h => L16_2_ok a1 a2 s.1 s.2 h) s0 e h
  exact q
inductive E_L50_0 where
  | k0
  | k1 (x0 : Int)
noncomputable def L50_0 (a1 : List Int) (a2 : ProdD) (v1 : Int) (v2 : Int) : Option (E_L50_0 ⊕ (Int × Int)) :=
  (bif (decide (v2 < (a2.right.length : Int))) then ((getI a2.right v2).bind fun x2 => (bif (x2.kind == 1) then ((getI a1 x2.sort).bind fun x4 => (bif (decide (x4 < 0)) then (some (.inl (.k0))) else (some (.inr ((if 1048577 < (IntKind.wrap .i64 (v1 + x4)) then 1048577 else (IntKind.wrap .i64 (v1 + x4))), (IntKind.wrap .i64 (v2 + 1))))))) else (some (.inr ((if 1048577 < (IntKind.wrap .i64 (v1 + 1)) then 1048577 else (IntKind.wrap .i64 (v1 + 1))), (IntKind.wrap .i64 (v2 + 1))))))) else (some (.inl (.k1 v1))))
def L50_0_s (a1 : List Int) (a2 : ProdD) (v1 : Int) (v2 : Int) : St := ⟨fr 38 ug [(1, (.p (.lst 1 (a1.map eI64)))), (2, (.ptr 0 0)), (5, (i6 v1)), (6, (i6 v2))], [bP a2]⟩
def L50_0_x (a1 : List Int) (a2 : ProdD) (e : E_L50_0) (r : Option (Out × St)) : Prop := match e with | .k0 => ∃ g y, r = some (.ret, ⟨fr 38 g [(4, (i6 (-1)))], y⟩) | .k1 x0 => ∃ g, r = some ((.brk 0), ⟨fr 38 g [(5, (i6 x0))], [bP a2]⟩)
theorem L50_0_ok (a1 : List Int) (a2 : ProdD) (v1 : Int) (v2 : Int) {r : E_L50_0 ⊕ (Int × Int)} (h : L50_0 a1 a2 v1 v2 = some r) : OkR (fun e => L50_0_x a1 a2 e (evH prg 1 [1, 2, 5, 6] ir50_l0 (L50_0_s a1 a2 v1 v2))) (fun s => evH prg 1 [1, 2, 5, 6] ir50_l0 (L50_0_s a1 a2 v1 v2) = evH prg 1 [1, 2, 5, 6] ir50_l0 (L50_0_s a1 a2 s.1 s.2)) r := by
 unfold L50_0 at h
 refine bi h (fun h1 h => ?_) fun h1 h => ?_
 ·
  refine bn h fun x2 h2 h => ?_
  refine bi h (fun h3 h => ?_) fun h3 h => ?_
  ·
   refine bn h fun x4 h4 h => ?_
   refine bi h (fun h5 h => ?_) fun h5 h => ?_
   ·
    rw [← sj h]
    exact xretY (n := 30) [(11, .v (i6 (a2.right.length : Int))), (12, .d true), (18, .v (.ro (eSym x2))), (21, .d true), (26, .v (.ro (eSym x2))), (29, .v (.ro [.val (.int .i64 x4)])), (32, .d true), (6000, .d true)] (apc (lg a2.right eSym 6) (apc (cv h1) (apc (ig eSym 6 .i64 h2) (apc (cv h3) (apc (ig eSym 6 .i64 h2) (apc (ig eI64 1 .i64 h4) (apc (cv h5) apn))))))) (by kernel_rfl)
   ·
    rw [← sj h]
    exact rnd (n := 30) [(11, .v (i6 (a2.right.length : Int))), (12, .d true), (18, .v (.ro (eSym x2))), (21, .d true), (26, .v (.ro (eSym x2))), (29, .v (.ro [.val (.int .i64 x4)])), (32, .d false), (6000, .d true)] (apc (lg a2.right eSym 6) (apc (cv h1) (apc (ig eSym 6 .i64 h2) (apc (cv h3) (apc (ig eSym 6 .i64 h2) (apc (ig eI64 1 .i64 h4) (apc (cv h5) (apc ((okT_of rfl (abl_cons rfl rfl)) : okT 1 [bP a2] = true) apn)))))))) (by kernel_rfl)
  ·
   rw [← sj h]
   exact rnd (n := 30) [(11, .v (i6 (a2.right.length : Int))), (12, .d true), (18, .v (.ro (eSym x2))), (21, .d false), (6000, .d true)] (apc (lg a2.right eSym 6) (apc (cv h1) (apc (ig eSym 6 .i64 h2) (apc (cv h3) (apc ((okT_of rfl (abl_cons rfl rfl)) : okT 1 [bP a2] = true) apn))))) (by kernel_rfl)
 ·
  rw [← sj h]
  exact xbrk (n := 30) [(11, .v (i6 (a2.right.length : Int))), (12, .d false), (6000, .d true)] (apc (lg a2.right eSym 6) (apc (cv h1) apn)) (by kernel_rfl)
theorem L50_0_run (a1 : List Int) (a2 : ProdD) (s0 : Int × Int) (e : E_L50_0) (h : runL (fun s => L50_0 a1 a2 s.1 s.2) s0 = some e) : L50_0_x a1 a2 e (evH prg 1 [1, 2, 5, 6] ir50_l0 (L50_0_s a1 a2 s0.1 s0.2)) := by
  have q := @loop_sound' (Int × Int) E_L50_0 (fun s => L50_0 a1 a2 s.1 s.2) (fun s => evH prg 1 [1, 2, 5, 6] ir50_l0 (L50_0_s a1 a2 s.1 s.2)) (L50_0_x a1 a2) (fun s r h => L50_0_ok a1 a2 s.1 s.2 h) s0 e h
  exact q
noncomputable def F50 (a1 : ProdD) (a2 : List Int) : Option Int :=
  ((runL (fun s => L50_0 a2 a1 s.1 s.2) (0, 0)).bind fun r1 => match r1 with | .k0 => (some (-1)) | .k1 x1_0 => (some x1_0))
def F50_v (a1 : ProdD) (a2 : List Int) (x0 : Int) : AV := (i6 x0)
theorem F50_ok (a1 : ProdD) (a2 : List Int) {r : Int} (h : F50 a1 a2 = some r) : PR1 prg 50 [(aP a1), (.p (.lst 1 (a2.map eI64)))] (F50_v a1 a2 r) := by
 unfold F50 at h
 refine bn h fun r1 h1 h => ?_
 cases r1 with
 | k0 =>
  obtain ⟨g1, y1, e1⟩ := L50_0_run a2 a1 (0, 0) _ h1
  rw [← sj h]
  exact fpr (n := 30) [(2000, .l .ret ⟨fr 38 g1 [(4, (i6 (-1)))], y1⟩), (6000, .d true)] (apc ((okT_of rfl (abl_cons rfl rfl)) : okT 1 [bP a1] = true) (apc (e1 : evH prg 1 [1, 2, 5, 6] ir50_l0 (L50_0_s a2 a1 0 0) = some (.ret, ⟨fr 38 g1 [(4, (i6 (-1)))], y1⟩)) apn)) rfl (by kernel_rfl)
 | k1 x1_0 =>
  obtain ⟨g1, e1⟩ := L50_0_run a2 a1 (0, 0) _ h1
  rw [← sj h]
  exact fpr (n := 30) [(2000, .l (.brk 0) ⟨fr 38 g1 [(5, (i6 x1_0))], [bP a1]⟩), (6000, .d true)] (apc ((okT_of rfl (abl_cons rfl rfl)) : okT 1 [bP a1] = true) (apc (e1 : evH prg 1 [1, 2, 5, 6] ir50_l0 (L50_0_s a2 a1 0 0) = some ((.brk 0), ⟨fr 38 g1 [(5, (i6 x1_0))], [bP a1]⟩)) apn)) rfl (by kernel_rfl)
noncomputable def F51 (a1 : ProdD) : Option Bool :=
  (some (a1.role != 11))
def F51_v (a1 : ProdD) (x0 : Bool) : AV := (vb x0)
theorem F51_ok (a1 : ProdD) {r : Bool} (h : F51 a1 = some r) : PR1 prg 51 [(aP a1)] (F51_v a1 r) := by
 unfold F51 at h
 rw [← sj h]
 exact fpr (n := 30) [] apn rfl (by kernel_rfl)
inductive E_L16_0 where
  | k0 (x0 : Bool) (x1 : List Int)
noncomputable def L16_0 (a1 : Nat) (a2 : GramD) (v1 : Bool) (v2 : Int) (v3 : List Int) : Option (E_L16_0 ⊕ (Bool × Int × (List Int))) :=
  (bif (decide (v2 < (a2.prods.length : Int))) then ((getI a2.prods v2).bind fun x2 => (bif (decide (a1 ≤ v3.length)) then ((F50 x2 (v3.take a1)).bind fun x4 => ((F51 x2).bind fun x5 => (bif x5 then (bif (decide (x4 ≥ 0)) then ((ixN a1 x2.left).bind fun x8 => ((v3[x8]?).bind fun x9 => (bif (decide (x9 < 0)) then (some (.inr (true, (IntKind.wrap .i64 (v2 + 1)), (v3.set x8 x4)))) else (bif (decide (x4 < x9)) then (some (.inr (true, (IntKind.wrap .i64 (v2 + 1)), (v3.set x8 x4)))) else (some (.inr (v1, (IntKind.wrap .i64 (v2 + 1)), v3))))))) else (some (.inr (v1, (IntKind.wrap .i64 (v2 + 1)), v3)))) else (some (.inr (v1, (IntKind.wrap .i64 (v2 + 1)), v3)))))) else none)) else (some (.inl (.k0 v1 v3))))
def L16_0_s (a1 : Nat) (a2 : GramD) (v1 : Bool) (v2 : Int) (v3 : List Int) : St := ⟨fr 67 ug [(1, (.ptr 0 0)), (3, (.sl 2 0 1 0 a1)), (5, (vb v1)), (6, (i6 v2))], [bG a2, bI [], bI v3]⟩
def L16_0_x (a1 : Nat) (a2 : GramD) (e : E_L16_0) (r : Option (Out × St)) : Prop := match e with | .k0 x0 x1 => ∃ g, r = some ((.brk 4), ⟨fr 67 g [(1, (.ptr 0 0)), (3, (.sl 2 0 1 0 a1)), (5, (vb x0))], [bG a2, bI [], bI x1]⟩)
theorem L16_0_ok (a1 : Nat) (a2 : GramD) (v1 : Bool) (v2 : Int) (v3 : List Int) {r : E_L16_0 ⊕ (Bool × Int × (List Int))} (h : L16_0 a1 a2 v1 v2 v3 = some r) : OkR (fun e => L16_0_x a1 a2 e (evH prg 3 [1, 3, 5, 6] ir16_l0 (L16_0_s a1 a2 v1 v2 v3))) (fun s => evH prg 3 [1, 3, 5, 6] ir16_l0 (L16_0_s a1 a2 v1 v2 v3) = evH prg 3 [1, 3, 5, 6] ir16_l0 (L16_0_s a1 a2 s.1 s.2.1 s.2.2)) r := by
 unfold L16_0 at h
 refine bi h (fun h1 h => ?_) fun h1 h => ?_
 ·
  refine bn h fun x2 h2 h => ?_
  refine bi h (fun h3 h => ?_) fun h3 h => ?_
  ·
   refine bn h fun x4 h4 h => ?_
   refine bn h fun x5 h5 h => ?_
   refine bi h (fun h6 h => ?_) fun h6 h => ?_
   ·
    refine bi h (fun h7 h => ?_) fun h7 h => ?_
    ·
     refine bn h fun x8 h8 h => ?_
     refine bn h fun x9 h9 h => ?_
     refine bi h (fun h10 h => ?_) fun h10 h => ?_
     ·
      rw [← sj h]
      exact rnd (n := 30) [(26, .v (i6 (a2.prods.length : Int))), (27, .d true), (33, .v (.ro (eProd x2))), (37, .v (i6 x4)), (39, .v (vb true)), (42, .d true), (48, .v (.rp 2 0 1 x8 0)), (49, .v (i6 x9)), (50, .d true), (65, .v (.rp 2 0 1 x8 0)), (1065, .r ud [bG a2, bI [], .row 3 1 0 (ra eI64 (v3.set x8 x4)), .row 48 6 0 (ra eSym []), bP x2]), (6000, .d true)] (apc (lg a2.prods eProd 7) (apc (cv h1) (apc (ig eProd 7 .i64 h2) (apc (((F50_ok x2 (v3.take a1) h4).own rfl (purAs_cons rfl (purAs_cons (purA_sl rfl h3) purAs_nil)) rfl) : CP prg 50 [(aP x2), (.sl 2 0 1 0 a1)] [bG a2, bI [], bI v3, .row 48 6 0 (ra eSym []), bP x2] = some (i6 x4)) (apc ((((F51_ok x2 h5).cp rfl _).trans (congrArg (fun z => some (vb z)) h6)) : CP prg 51 [(aP x2)] [bG a2, bI [], bI v3, .row 48 6 0 (ra eSym []), bP x2] = some (vb true)) (apc (cv h7) (apc ((idx_sl h8) : idxA 1 (.sl 2 0 1 0 a1) (i6 x2.left) = some (.rp 2 0 1 x8 0)) (apc ((ld_row rfl h9 rfl) : ldA [bG a2, bI [], bI v3, .row 48 6 0 (ra eSym []), bP x2] .false 1 (.rp 2 0 1 x8 0) = some (i6 x9)) (apc (cv h10) (apc ((idx_sl h8) : idxA 1 (.sl 2 0 1 0 a1) (i6 x2.left) = some (.rp 2 0 1 x8 0)) (apc (⟨st_row (v' := x4) rfl h9 rfl rfl (Nat.le_of_ble_eq_true rfl) rfl, rfl⟩ : stA [bG a2, bI [], bI v3, .row 48 6 0 (ra eSym []), bP x2] 1 (.rp 2 0 1 x8 0) (i6 x4) = some [bG a2, bI [], .row 3 1 0 (ra eI64 (v3.set x8 x4)), .row 48 6 0 (ra eSym []), bP x2] ∧ ud = ud) (apc ((okT_of rfl (abl_cons rfl (abl_cons abl_row (abl_cons abl_row rfl)))) : okT 3 [bG a2, bI [], .row 3 1 0 (ra eI64 (v3.set x8 x4)), .row 48 6 0 (ra eSym []), bP x2] = true) apn)))))))))))) (by kernel_rfl)
     ·
      refine bi h (fun h11 h => ?_) fun h11 h => ?_
      ·
       rw [← sj h]
       exact rnd (n := 30) [(26, .v (i6 (a2.prods.length : Int))), (27, .d true), (33, .v (.ro (eProd x2))), (37, .v (i6 x4)), (39, .v (vb true)), (42, .d true), (48, .v (.rp 2 0 1 x8 0)), (49, .v (i6 x9)), (50, .d false), (56, .v (.rp 2 0 1 x8 0)), (57, .v (i6 x9)), (58, .d true), (65, .v (.rp 2 0 1 x8 0)), (1065, .r ud [bG a2, bI [], .row 3 1 0 (ra eI64 (v3.set x8 x4)), .row 48 6 0 (ra eSym []), bP x2]), (6000, .d true)] (apc (lg a2.prods eProd 7) (apc (cv h1) (apc (ig eProd 7 .i64 h2) (apc (((F50_ok x2 (v3.take a1) h4).own rfl (purAs_cons rfl (purAs_cons (purA_sl rfl h3) purAs_nil)) rfl) : CP prg 50 [(aP x2), (.sl 2 0 1 0 a1)] [bG a2, bI [], bI v3, .row 48 6 0 (ra eSym []), bP x2] = some (i6 x4)) (apc ((((F51_ok x2 h5).cp rfl _).trans (congrArg (fun z => some (vb z)) h6)) : CP prg 51 [(aP x2)] [bG a2, bI [], bI v3, .row 48 6 0 (ra eSym []), bP x2] = some (vb true)) (apc (cv h7) (apc ((idx_sl h8) : idxA 1 (.sl 2 0 1 0 a1) (i6 x2.left) = some (.rp 2 0 1 x8 0)) (apc ((ld_row rfl h9 rfl) : ldA [bG a2, bI [], bI v3, .row 48 6 0 (ra eSym []), bP x2] .false 1 (.rp 2 0 1 x8 0) = some (i6 x9)) (apc (cv h10) (apc ((idx_sl h8) : idxA 1 (.sl 2 0 1 0 a1) (i6 x2.left) = some (.rp 2 0 1 x8 0)) (apc ((ld_row rfl h9 rfl) : ldA [bG a2, bI [], bI v3, .row 48 6 0 (ra eSym []), bP x2] .false 1 (.rp 2 0 1 x8 0) = some (i6 x9)) (apc (cv h11) (apc ((idx_sl h8) : idxA 1 (.sl 2 0 1 0 a1) (i6 x2.left) = some (.rp 2 0 1 x8 0)) (apc (⟨st_row (v' := x4) rfl h9 rfl rfl (Nat.le_of_ble_eq_true rfl) rfl, rfl⟩ : stA [bG a2, bI [], bI v3, .row 48 6 0 (ra eSym []), bP x2] 1 (.rp 2 0 1 x8 0) (i6 x4) = some [bG a2, bI [], .row 3 1 0 (ra eI64 (v3.set x8 x4)), .row 48 6 0 (ra eSym []), bP x2] ∧ ud = ud) (apc ((okT_of rfl (abl_cons rfl (abl_cons abl_row (abl_cons abl_row rfl)))) : okT 3 [bG a2, bI [], .row 3 1 0 (ra eI64 (v3.set x8 x4)), .row 48 6 0 (ra eSym []), bP x2] = true) apn))))))))))))))) (by kernel_rfl)
      ·
       rw [← sj h]
       exact rnd (n := 30) [(26, .v (i6 (a2.prods.length : Int))), (27, .d true), (33, .v (.ro (eProd x2))), (37, .v (i6 x4)), (39, .v (vb true)), (42, .d true), (48, .v (.rp 2 0 1 x8 0)), (49, .v (i6 x9)), (50, .d false), (56, .v (.rp 2 0 1 x8 0)), (57, .v (i6 x9)), (58, .d false), (6000, .d true)] (apc (lg a2.prods eProd 7) (apc (cv h1) (apc (ig eProd 7 .i64 h2) (apc (((F50_ok x2 (v3.take a1) h4).own rfl (purAs_cons rfl (purAs_cons (purA_sl rfl h3) purAs_nil)) rfl) : CP prg 50 [(aP x2), (.sl 2 0 1 0 a1)] [bG a2, bI [], bI v3, .row 48 6 0 (ra eSym []), bP x2] = some (i6 x4)) (apc ((((F51_ok x2 h5).cp rfl _).trans (congrArg (fun z => some (vb z)) h6)) : CP prg 51 [(aP x2)] [bG a2, bI [], bI v3, .row 48 6 0 (ra eSym []), bP x2] = some (vb true)) (apc (cv h7) (apc ((idx_sl h8) : idxA 1 (.sl 2 0 1 0 a1) (i6 x2.left) = some (.rp 2 0 1 x8 0)) (apc ((ld_row rfl h9 rfl) : ldA [bG a2, bI [], bI v3, .row 48 6 0 (ra eSym []), bP x2] .false 1 (.rp 2 0 1 x8 0) = some (i6 x9)) (apc (cv h10) (apc ((idx_sl h8) : idxA 1 (.sl 2 0 1 0 a1) (i6 x2.left) = some (.rp 2 0 1 x8 0)) (apc ((ld_row rfl h9 rfl) : ldA [bG a2, bI [], bI v3, .row 48 6 0 (ra eSym []), bP x2] .false 1 (.rp 2 0 1 x8 0) = some (i6 x9)) (apc (cv h11) (apc ((okT_of rfl (abl_cons rfl (abl_cons abl_row (abl_cons abl_row rfl)))) : okT 3 [bG a2, bI [], bI v3, .row 48 6 0 (ra eSym []), bP x2] = true) apn))))))))))))) (by kernel_rfl)
    ·
     rw [← sj h]
     exact rnd (n := 30) [(26, .v (i6 (a2.prods.length : Int))), (27, .d true), (33, .v (.ro (eProd x2))), (37, .v (i6 x4)), (39, .v (vb true)), (42, .d false), (6000, .d true)] (apc (lg a2.prods eProd 7) (apc (cv h1) (apc (ig eProd 7 .i64 h2) (apc (((F50_ok x2 (v3.take a1) h4).own rfl (purAs_cons rfl (purAs_cons (purA_sl rfl h3) purAs_nil)) rfl) : CP prg 50 [(aP x2), (.sl 2 0 1 0 a1)] [bG a2, bI [], bI v3, .row 48 6 0 (ra eSym []), bP x2] = some (i6 x4)) (apc ((((F51_ok x2 h5).cp rfl _).trans (congrArg (fun z => some (vb z)) h6)) : CP prg 51 [(aP x2)] [bG a2, bI [], bI v3, .row 48 6 0 (ra eSym []), bP x2] = some (vb true)) (apc (cv h7) (apc ((okT_of rfl (abl_cons rfl (abl_cons abl_row (abl_cons abl_row rfl)))) : okT 3 [bG a2, bI [], bI v3, .row 48 6 0 (ra eSym []), bP x2] = true) apn))))))) (by kernel_rfl)
   ·
    rw [← sj h]
    exact rnd (n := 30) [(26, .v (i6 (a2.prods.length : Int))), (27, .d true), (33, .v (.ro (eProd x2))), (37, .v (i6 x4)), (39, .v (vb false)), (6000, .d true)] (apc (lg a2.prods eProd 7) (apc (cv h1) (apc (ig eProd 7 .i64 h2) (apc (((F50_ok x2 (v3.take a1) h4).own rfl (purAs_cons rfl (purAs_cons (purA_sl rfl h3) purAs_nil)) rfl) : CP prg 50 [(aP x2), (.sl 2 0 1 0 a1)] [bG a2, bI [], bI v3, .row 48 6 0 (ra eSym []), bP x2] = some (i6 x4)) (apc ((((F51_ok x2 h5).cp rfl _).trans (congrArg (fun z => some (vb z)) h6)) : CP prg 51 [(aP x2)] [bG a2, bI [], bI v3, .row 48 6 0 (ra eSym []), bP x2] = some (vb false)) (apc ((okT_of rfl (abl_cons rfl (abl_cons abl_row (abl_cons abl_row rfl)))) : okT 3 [bG a2, bI [], bI v3, .row 48 6 0 (ra eSym []), bP x2] = true) apn)))))) (by kernel_rfl)
  ·
   cases h
 ·
  rw [← sj h]
  exact xbrk (n := 30) [(26, .v (i6 (a2.prods.length : Int))), (27, .d false), (6000, .d true)] (apc (lg a2.prods eProd 7) (apc (cv h1) apn)) (by kernel_rfl)
theorem L16_0_run (a1 : Nat) (a2 : GramD) (s0 : Bool × Int × (List Int)) (e : E_L16_0) (h : runL (fun s => L16_0 a1 a2 s.1 s.2.1 s.2.2) s0 = some e) : L16_0_x a1 a2 e (evH prg 3 [1, 3, 5, 6] ir16_l0 (L16_0_s a1 a2 s0.1 s0.2.1 s0.2.2)) := by
  have q := @loop_sound' (Bool × Int × (List Int)) E_L16_0 (fun s => L16_0 a1 a2 s.1 s.2.1 s.2.2) (fun s => evH prg 3 [1, 3, 5, 6] ir16_l0 (L16_0_s a1 a2 s.1 s.2.1 s.2.2)) (L16_0_x a1 a2) (fun s r h => L16_0_ok a1 a2 s.1 s.2.1 s.2.2 h) s0 e h
  exact q
inductive E_L16_1 where
  | k0 (x0 : List Int)
noncomputable def L16_1 (a1 : Nat) (a2 : GramD) (v1 : Bool) (v2 : List Int) : Option (E_L16_1 ⊕ (Bool × (List Int))) :=
  (bif v1 then ((runL (fun s => L16_0 a1 a2 s.1 s.2.1 s.2.2) (false, 0, v2)).bind fun r2 => match r2 with | .k0 x2_0 x2_1 => (some (.inr (x2_0, x2_1)))) else (some (.inl (.k0 v2))))
def L16_1_s (a1 : Nat) (a2 : GramD) (v1 : Bool) (v2 : List Int) : St := ⟨fr 67 ug [(1, (.ptr 0 0)), (3, (.sl 2 0 1 0 a1)), (5, (vb v1))], [bG a2, bI [], bI v2]⟩
def L16_1_x (a1 : Nat) (a2 : GramD) (e : E_L16_1) (r : Option (Out × St)) : Prop := match e with | .k0 x0 => ∃ g, r = some ((.brk 2), ⟨fr 67 g [(1, (.ptr 0 0)), (3, (.sl 2 0 1 0 a1))], [bG a2, bI [], bI x0]⟩)
theorem L16_1_ok (a1 : Nat) (a2 : GramD) (v1 : Bool) (v2 : List Int) {r : E_L16_1 ⊕ (Bool × (List Int))} (h : L16_1 a1 a2 v1 v2 = some r) : OkR (fun e => L16_1_x a1 a2 e (evH prg 3 [1, 3, 5] ir16_l1 (L16_1_s a1 a2 v1 v2))) (fun s => evH prg 3 [1, 3, 5] ir16_l1 (L16_1_s a1 a2 v1 v2) = evH prg 3 [1, 3, 5] ir16_l1 (L16_1_s a1 a2 s.1 s.2)) r := by
 unfold L16_1 at h
 refine bi h (fun h1 h => ?_) fun h1 h => ?_
 ·
  refine bn h fun r2 h2 h => ?_
  cases r2 with
  | k0 x2_0 x2_1 =>
   obtain ⟨g2, e2⟩ := L16_0_run a1 a2 (false, 0, v2) _ h2
   rw [← sj h]
   exact rnd (n := 30) [(22, .d true), (2004, .l (.brk 4) ⟨fr 67 g2 [(1, (.ptr 0 0)), (3, (.sl 2 0 1 0 a1)), (5, (vb x2_0))], [bG a2, bI [], bI x2_1]⟩), (6000, .d true)] (apc (cv h1) (apc ((okT_of rfl (abl_cons rfl (abl_cons abl_row (abl_cons abl_row rfl)))) : okT 3 [bG a2, bI [], bI v2] = true) (apc (e2 : evH prg 3 [1, 3, 5, 6] ir16_l0 (L16_0_s a1 a2 false 0 v2) = some ((.brk 4), ⟨fr 67 g2 [(1, (.ptr 0 0)), (3, (.sl 2 0 1 0 a1)), (5, (vb x2_0))], [bG a2, bI [], bI x2_1]⟩)) (apc ((okT_of rfl (abl_cons rfl (abl_cons abl_row (abl_cons abl_row rfl)))) : okT 3 [bG a2, bI [], bI x2_1] = true) apn)))) (by kernel_rfl)
 ·
  rw [← sj h]
  exact xbrk (n := 30) [(22, .d false), (6000, .d true)] (apc (cv h1) apn) (by kernel_rfl)
theorem L16_1_run (a1 : Nat) (a2 : GramD) (s0 : Bool × (List Int)) (e : E_L16_1) (h : runL (fun s => L16_1 a1 a2 s.1 s.2) s0 = some e) : L16_1_x a1 a2 e (evH prg 3 [1, 3, 5] ir16_l1 (L16_1_s a1 a2 s0.1 s0.2)) := by
  have q := @loop_sound' (Bool × (List Int)) E_L16_1 (fun s => L16_1 a1 a2 s.1 s.2) (fun s => evH prg 3 [1, 3, 5] ir16_l1 (L16_1_s a1 a2 s.1 s.2)) (L16_1_x a1 a2) (fun s r h => L16_1_ok a1 a2 s.1 s.2 h) s0 e h
  exact q
noncomputable def F16 (a1 : GramD) : Option (List Int) :=
  (bif (mkOk (a1.sorts.length : Int) 8) then ((runL (fun s => L16_2 (Int.toNat (a1.sorts.length : Int)) s.1 s.2) (0, (List.replicate (Int.toNat (a1.sorts.length : Int)) 0))).bind fun r2 => match r2 with | .k0 x2_0 => ((runL (fun s => L16_1 (Int.toNat (a1.sorts.length : Int)) a1 s.1 s.2) (true, x2_0)).bind fun r3 => match r3 with | .k0 x3_0 => (bif (decide ((Int.toNat (a1.sorts.length : Int)) ≤ x3_0.length)) then (some (x3_0.take (Int.toNat (a1.sorts.length : Int)))) else none))) else none)
def F16_v (a1 : GramD) (x0 : (List Int)) : AV := (.p (.lst 1 (x0.map eI64)))
theorem F16_ok (a1 : GramD) {r : (List Int)} (h : F16 a1 = some r) : PR1 prg 16 [(aG a1)] (F16_v a1 r) := by
 unfold F16 at h
 refine bi h (fun h1 h => ?_) fun h1 h => ?_
 ·
  refine bn h fun r2 h2 h => ?_
  cases r2 with
  | k0 x2_0 =>
   obtain ⟨g2, e2⟩ := L16_2_run (Int.toNat (a1.sorts.length : Int)) a1 (0, (List.replicate (Int.toNat (a1.sorts.length : Int)) 0)) _ h2
   refine bn h fun r3 h3 h => ?_
   cases r3 with
   | k0 x3_0 =>
    obtain ⟨g3, e3⟩ := L16_1_run (Int.toNat (a1.sorts.length : Int)) a1 (true, x2_0) _ h3
    refine bi h (fun h4 h => ?_) fun h4 h => ?_
    ·
     rw [← sj h]
     exact fpo (n := 30) (v := (.sl 2 0 1 0 (Int.toNat (a1.sorts.length : Int)))) (h' := [bG a1, bI [], bI x3_0]) [(11, .v (i6 (a1.sorts.length : Int))), (12, .r (.sl 2 0 1 0 (Int.toNat (a1.sorts.length : Int))) [bG a1, bI [], .row 3 1 0 (ra eI64 (List.replicate (Int.toNat (a1.sorts.length : Int)) 0))]), (2000, .l (.brk 0) ⟨fr 67 g2 [(1, (.ptr 0 0)), (3, (.sl 2 0 1 0 (Int.toNat (a1.sorts.length : Int))))], [bG a1, bI [], bI x2_0]⟩), (2002, .l (.brk 2) ⟨fr 67 g3 [(1, (.ptr 0 0)), (3, (.sl 2 0 1 0 (Int.toNat (a1.sorts.length : Int))))], [bG a1, bI [], bI x3_0]⟩), (6000, .d true)] (apc (lg a1.sorts eStr 1) (apc ((mk_row' (h := [bG a1, bI []]) (e := eI64) (z := 0) h1 rfl) : (mkA 3 1 8 [.val (.int .i64 0)] (i6 (a1.sorts.length : Int)) (i6 (a1.sorts.length : Int)) 2).map (fun x => (x.1, [bG a1, bI []] ++ [x.2])) = some ((.sl 2 0 1 0 (Int.toNat (a1.sorts.length : Int))), [bG a1, bI [], .row 3 1 0 (ra eI64 (List.replicate (Int.toNat (a1.sorts.length : Int)) 0))])) (apc ((okT_of rfl (abl_cons rfl (abl_cons abl_row (abl_cons abl_row rfl)))) : okT 3 [bG a1, bI [], .row 3 1 0 (ra eI64 (List.replicate (Int.toNat (a1.sorts.length : Int)) 0))] = true) (apc (e2 : evH prg 3 [1, 3, 4] ir16_l2 (L16_2_s (Int.toNat (a1.sorts.length : Int)) a1 0 (List.replicate (Int.toNat (a1.sorts.length : Int)) 0)) = some ((.brk 0), ⟨fr 67 g2 [(1, (.ptr 0 0)), (3, (.sl 2 0 1 0 (Int.toNat (a1.sorts.length : Int))))], [bG a1, bI [], bI x2_0]⟩)) (apc ((okT_of rfl (abl_cons rfl (abl_cons abl_row (abl_cons abl_row rfl)))) : okT 3 [bG a1, bI [], bI x2_0] = true) (apc (e3 : evH prg 3 [1, 3, 5] ir16_l1 (L16_1_s (Int.toNat (a1.sorts.length : Int)) a1 true x2_0) = some ((.brk 2), ⟨fr 67 g3 [(1, (.ptr 0 0)), (3, (.sl 2 0 1 0 (Int.toNat (a1.sorts.length : Int))))], [bG a1, bI [], bI x3_0]⟩)) apn)))))) (purA_sl rfl h4) (by kernel_rfl)
    ·
     cases h
 ·
  cases h
inductive E_L27_0 where
  | k0 (x0 : List Bool)
noncomputable def L27_0 (a1 : List Int) (a2 : Nat) (v1 : Int) (v2 : List Bool) : Option (E_L27_0 ⊕ (Int × (List Bool))) :=
  (bif (decide (v1 < (a1.length : Int))) then ((getI a1 v1).bind fun x2 => ((ixN a2 v1).bind fun x3 => ((v2[x3]?).bind fun x4 => (some (.inr ((IntKind.wrap .i64 (v1 + 1)), (v2.set x3 (x2 == 0)))))))) else (some (.inl (.k0 v2))))
def L27_0_s (a1 : List Int) (a2 : Nat) (a3 : GramD) (v1 : Int) (v2 : List Bool) : St := ⟨fr 26 ug [(3, (.p (.lst 1 (a1.map eI64)))), (4, (.sl 2 0 1 0 a2)), (5, (i6 v1))], [bG a3, bB [], bB v2]⟩
def L27_0_x (a1 : List Int) (a2 : Nat) (a3 : GramD) (e : E_L27_0) (r : Option (Out × St)) : Prop := match e with | .k0 x0 => ∃ g, r = some ((.brk 0), ⟨fr 26 g [(3, (.p (.lst 1 (a1.map eI64)))), (4, (.sl 2 0 1 0 a2))], [bG a3, bB [], bB x0]⟩)
theorem L27_0_ok (a1 : List Int) (a2 : Nat) (a3 : GramD) (v1 : Int) (v2 : List Bool) {r : E_L27_0 ⊕ (Int × (List Bool))} (h : L27_0 a1 a2 v1 v2 = some r) : OkR (fun e => L27_0_x a1 a2 a3 e (evH prg 3 [3, 4, 5] ir27_l0 (L27_0_s a1 a2 a3 v1 v2))) (fun s => evH prg 3 [3, 4, 5] ir27_l0 (L27_0_s a1 a2 a3 v1 v2) = evH prg 3 [3, 4, 5] ir27_l0 (L27_0_s a1 a2 a3 s.1 s.2)) r := by
 unfold L27_0 at h
 refine bi h (fun h1 h => ?_) fun h1 h => ?_
 ·
  refine bn h fun x2 h2 h => ?_
  refine bn h fun x3 h3 h => ?_
  refine bn h fun x4 h4 h => ?_
  rw [← sj h]
  exact rnd (n := 30) [(13, .v (i6 (a1.length : Int))), (14, .d true), (21, .v (.ro [.val (.int .i64 x2)])), (24, .v (.rp 2 0 1 x3 0)), (1024, .r ud [bG a3, bB [], .row 4 1 0 (ra eBool (v2.set x3 (x2 == 0)))]), (6000, .d true)] (apc (lg a1 eI64 1) (apc (cv h1) (apc (ig eI64 1 .i64 h2) (apc ((idx_sl h3) : idxA 1 (.sl 2 0 1 0 a2) (i6 v1) = some (.rp 2 0 1 x3 0)) (apc (⟨st_row (v' := (x2 == 0)) rfl h4 rfl rfl (Nat.le_of_ble_eq_true rfl) rfl, rfl⟩ : stA [bG a3, bB [], bB v2] 1 (.rp 2 0 1 x3 0) (vb (x2 == 0)) = some [bG a3, bB [], .row 4 1 0 (ra eBool (v2.set x3 (x2 == 0)))] ∧ ud = ud) (apc ((okT_of rfl (abl_cons rfl (abl_cons abl_row (abl_cons abl_row rfl)))) : okT 3 [bG a3, bB [], .row 4 1 0 (ra eBool (v2.set x3 (x2 == 0)))] = true) apn)))))) (by kernel_rfl)
 ·
  rw [← sj h]
  exact xbrk (n := 30) [(13, .v (i6 (a1.length : Int))), (14, .d false), (6000, .d true)] (apc (lg a1 eI64 1) (apc (cv h1) apn)) (by kernel_rfl)
theorem L27_0_run (a1 : List Int) (a2 : Nat) (a3 : GramD) (s0 : Int × (List Bool)) (e : E_L27_0) (h : runL (fun s => L27_0 a1 a2 s.1 s.2) s0 = some e) : L27_0_x a1 a2 a3 e (evH prg 3 [3, 4, 5] ir27_l0 (L27_0_s a1 a2 a3 s0.1 s0.2)) := by
  have q := @loop_sound' (Int × (List Bool)) E_L27_0 (fun s => L27_0 a1 a2 s.1 s.2) (fun s => evH prg 3 [3, 4, 5] ir27_l0 (L27_0_s a1 a2 a3 s.1 s.2)) (L27_0_x a1 a2 a3) (fun s r h => L27_0_ok a1 a2 a3 s.1 s.2 h) s0 e h
  exact q
noncomputable def F27 (a1 : GramD) : Option (List Bool) :=
  ((F16 a1).bind fun x1 => (bif (mkOk (x1.length : Int) 1) then ((runL (fun s => L27_0 x1 (Int.toNat (x1.length : Int)) s.1 s.2) (0, (List.replicate (Int.toNat (x1.length : Int)) false))).bind fun r3 => match r3 with | .k0 x3_0 => (bif (decide ((Int.toNat (x1.length : Int)) ≤ x3_0.length)) then (some (x3_0.take (Int.toNat (x1.length : Int)))) else none)) else none))
def F27_v (a1 : GramD) (x0 : (List Bool)) : AV := (.p (.lst 1 (x0.map eBool)))
theorem F27_ok (a1 : GramD) {r : (List Bool)} (h : F27 a1 = some r) : PR1 prg 27 [(aG a1)] (F27_v a1 r) := by
 unfold F27 at h
 refine bn h fun x1 h1 h => ?_
 refine bi h (fun h2 h => ?_) fun h2 h => ?_
 ·
  refine bn h fun r3 h3 h => ?_
  cases r3 with
  | k0 x3_0 =>
   obtain ⟨g3, e3⟩ := L27_0_run x1 (Int.toNat (x1.length : Int)) a1 (0, (List.replicate (Int.toNat (x1.length : Int)) false)) _ h3
   refine bi h (fun h4 h => ?_) fun h4 h => ?_
   ·
    rw [← sj h]
    exact fpo (n := 30) (v := (.sl 2 0 1 0 (Int.toNat (x1.length : Int)))) (h' := [bG a1, bB [], bB x3_0]) [(7, .v (.p (.lst 1 (x1.map eI64)))), (9, .v (i6 (x1.length : Int))), (10, .r (.sl 2 0 1 0 (Int.toNat (x1.length : Int))) [bG a1, bB [], .row 4 1 0 (ra eBool (List.replicate (Int.toNat (x1.length : Int)) false))]), (2000, .l (.brk 0) ⟨fr 26 g3 [(3, (.p (.lst 1 (x1.map eI64)))), (4, (.sl 2 0 1 0 (Int.toNat (x1.length : Int))))], [bG a1, bB [], bB x3_0]⟩), (6000, .d true)] (apc (((F16_ok a1 h1).cp rfl _) : CP prg 16 [(aG a1)] [bG a1, bB []] = some (.p (.lst 1 (x1.map eI64)))) (apc (lg x1 eI64 1) (apc ((mk_row' (h := [bG a1, bB []]) (e := eBool) (z := false) h2 rfl) : (mkA 4 1 1 [.val (.bool false)] (i6 (x1.length : Int)) (i6 (x1.length : Int)) 2).map (fun x => (x.1, [bG a1, bB []] ++ [x.2])) = some ((.sl 2 0 1 0 (Int.toNat (x1.length : Int))), [bG a1, bB [], .row 4 1 0 (ra eBool (List.replicate (Int.toNat (x1.length : Int)) false))])) (apc ((okT_of rfl (abl_cons rfl (abl_cons abl_row (abl_cons abl_row rfl)))) : okT 3 [bG a1, bB [], .row 4 1 0 (ra eBool (List.replicate (Int.toNat (x1.length : Int)) false))] = true) (apc (e3 : evH prg 3 [3, 4, 5] ir27_l0 (L27_0_s x1 (Int.toNat (x1.length : Int)) a1 0 (List.replicate (Int.toNat (x1.length : Int)) false)) = some ((.brk 0), ⟨fr 26 g3 [(3, (.p (.lst 1 (x1.map eI64)))), (4, (.sl 2 0 1 0 (Int.toNat (x1.length : Int))))], [bG a1, bB [], bB x3_0]⟩)) apn))))) (purA_sl rfl h4) (by kernel_rfl)
   ·
    cases h
 ·
  cases h
end Go.Proofs.Tryd
