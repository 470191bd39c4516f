/- Decompiled by a program: functions as plain data see them, part 2. -/
import Derived.Test.YtefidjmkfefilaaDoorD1
namespace Go.Proofs.Tryd
set_option linter.unusedSimpArgs false
set_option linter.unusedVariables false
open Go Go.Vs
inductive E_L46_0 where
  | k0 (x0 : Bool) (x1 : List Int) (x2 : List Bool)
noncomputable def L46_0 (a1 : GramD) (a2 : Int) (a5 : Nat) (v1 : Bool) (v2 : Int) (v3 : List Int) (v4 : List Bool) : Option (E_L46_0 ⊕ (Bool × Int × (List Int) × (List Bool))) :=
  (bif (decide (v2 < a2)) then ((getI a1.prods v2).bind fun x2 => ((F54 x2).bind fun x3 => (bif x3 then ((F69 x2 v3 v4 a5).bind fun r5 => match r5 with | .k0 x5_0 x5_1 x5_2 => (bif x5_0 then (some (.inr (true, (IntKind.wrap .i64 (v2 + 1)), x5_1, x5_2))) else (some (.inr (v1, (IntKind.wrap .i64 (v2 + 1)), x5_1, x5_2))))) else (some (.inr (v1, (IntKind.wrap .i64 (v2 + 1)), v3, v4)))))) else (some (.inl (.k0 v1 v3 v4))))
def L46_0_s (a1 : GramD) (a2 : Int) (a5 : Nat) (v1 : Bool) (v2 : Int) (v3 : List Int) (v4 : List Bool) : St := ⟨fr 27 ug [(0, (.ptr 5 0)), (1, (.fn 69 [(.ptr 6 0)])), (4, (vb v1)), (11, (.p (.lst 7 (a1.prods.map eProd)))), (12, (i6 a2)), (13, (i6 v2))], [bG a1, bI [], bG a1, bI v3, bB v4, .cells 93 (ap (eGram a1) [(.sl 3 0 1 0 a5), (.sl 4 0 1 0 a5)]), .cells 89 [(.ptr 5 0)]]⟩
def L46_0_x (a1 : GramD) (a2 : Int) (a5 : Nat) (e : E_L46_0) (r : Option (Out × St)) : Prop := match e with | .k0 x0 x1 x2 => ∃ g, r = some ((.brk 2), ⟨fr 27 g [(0, (.ptr 5 0)), (1, (.fn 69 [(.ptr 6 0)])), (4, (vb x0)), (11, (.p (.lst 7 (a1.prods.map eProd))))], [bG a1, bI [], bG a1, bI x1, bB x2, .cells 93 (ap (eGram a1) [(.sl 3 0 1 0 a5), (.sl 4 0 1 0 a5)]), .cells 89 [(.ptr 5 0)]]⟩)
theorem L46_0_ok (a1 : GramD) (a2 : Int) (a5 : Nat) (v1 : Bool) (v2 : Int) (v3 : List Int) (v4 : List Bool) {r : E_L46_0 ⊕ (Bool × Int × (List Int) × (List Bool))} (h : L46_0 a1 a2 a5 v1 v2 v3 v4 = some r) : OkR (fun e => L46_0_x a1 a2 a5 e (evH prg 7 [0, 1, 4, 11, 12, 13] ir46_l0 (L46_0_s a1 a2 a5 v1 v2 v3 v4))) (fun s => evH prg 7 [0, 1, 4, 11, 12, 13] ir46_l0 (L46_0_s a1 a2 a5 v1 v2 v3 v4) = evH prg 7 [0, 1, 4, 11, 12, 13] ir46_l0 (L46_0_s a1 a2 a5 s.1 s.2.1 s.2.2.1 s.2.2.2)) r := by
 unfold L46_0 at h
 refine bi h (fun h1 h => ?_) fun h1 h => ?_
 ·
  refine bn h fun x2 h2 h => ?_
  refine bn h fun x3 h3 h => ?_
  refine bi h (fun h4 h => ?_) fun h4 h => ?_
  ·
   refine bn h fun r5 h5 h => ?_
   cases r5 with
   | k0 x5_0 x5_1 x5_2 =>
    refine bi h (fun h6 h => ?_) fun h6 h => ?_
    ·
     rw [← sj h]
     exact rnd (n := 30) [(14, .d true), (15, .v (.ro (eProd x2))), (18, .v (vb true)), (22, .r (vb true) [bG a1, bI [], bG a1, bI x5_1, bB x5_2, .cells 93 (ap (eGram a1) [(.sl 3 0 1 0 a5), (.sl 4 0 1 0 a5)]), .cells 89 [(.ptr 5 0)], .row 48 6 0 (ra eSym []), bP x2, bP x2]), (6000, .d true)] (apc (cv h1) (apc (ig eProd 7 .i64 h2) (apc ((((F54_ok x2 h3).cp rfl _).trans (congrArg (fun z => some (vb z)) h4)) : CP prg 54 [(aP x2)] [bG a1, bI [], bG a1, bI v3, bB v4, .cells 93 (ap (eGram a1) [(.sl 3 0 1 0 a5), (.sl 4 0 1 0 a5)]), .cells 89 [(.ptr 5 0)], .row 48 6 0 (ra eSym []), bP x2] = some (vb true)) (apc (((F69_ok x2 a1 v3 v4 a5 h5).trans (congrArg (fun z => some (vb z, ([bG a1, bI [], bG a1, bI x5_1, bB x5_2, .cells 93 (ap (eGram a1) [(.sl 3 0 1 0 a5), (.sl 4 0 1 0 a5)]), .cells 89 [(.ptr 5 0)], .row 48 6 0 (ra eSym []), bP x2, bP x2] : List AB))) h6)) : CS prg 69 [(aP x2), (.ptr 6 0)] [bG a1, bI [], bG a1, bI v3, bB v4, .cells 93 (ap (eGram a1) [(.sl 3 0 1 0 a5), (.sl 4 0 1 0 a5)]), .cells 89 [(.ptr 5 0)], .row 48 6 0 (ra eSym []), bP x2] = some (vb true, [bG a1, bI [], bG a1, bI x5_1, bB x5_2, .cells 93 (ap (eGram a1) [(.sl 3 0 1 0 a5), (.sl 4 0 1 0 a5)]), .cells 89 [(.ptr 5 0)], .row 48 6 0 (ra eSym []), bP x2, bP x2])) (apc ((okT_of rfl (abl_cons rfl (abl_cons abl_row (abl_cons rfl (abl_cons abl_row (abl_cons abl_row (abl_cons rfl (abl_cons rfl rfl)))))))) : okT 7 [bG a1, bI [], bG a1, bI x5_1, bB x5_2, .cells 93 (ap (eGram a1) [(.sl 3 0 1 0 a5), (.sl 4 0 1 0 a5)]), .cells 89 [(.ptr 5 0)], .row 48 6 0 (ra eSym []), bP x2, bP x2] = true) apn))))) (by kernel_rfl)
    ·
     rw [← sj h]
     exact rnd (n := 30) [(14, .d true), (15, .v (.ro (eProd x2))), (18, .v (vb true)), (22, .r (vb false) [bG a1, bI [], bG a1, bI x5_1, bB x5_2, .cells 93 (ap (eGram a1) [(.sl 3 0 1 0 a5), (.sl 4 0 1 0 a5)]), .cells 89 [(.ptr 5 0)], .row 48 6 0 (ra eSym []), bP x2, bP x2]), (6000, .d true)] (apc (cv h1) (apc (ig eProd 7 .i64 h2) (apc ((((F54_ok x2 h3).cp rfl _).trans (congrArg (fun z => some (vb z)) h4)) : CP prg 54 [(aP x2)] [bG a1, bI [], bG a1, bI v3, bB v4, .cells 93 (ap (eGram a1) [(.sl 3 0 1 0 a5), (.sl 4 0 1 0 a5)]), .cells 89 [(.ptr 5 0)], .row 48 6 0 (ra eSym []), bP x2] = some (vb true)) (apc (((F69_ok x2 a1 v3 v4 a5 h5).trans (congrArg (fun z => some (vb z, ([bG a1, bI [], bG a1, bI x5_1, bB x5_2, .cells 93 (ap (eGram a1) [(.sl 3 0 1 0 a5), (.sl 4 0 1 0 a5)]), .cells 89 [(.ptr 5 0)], .row 48 6 0 (ra eSym []), bP x2, bP x2] : List AB))) h6)) : CS prg 69 [(aP x2), (.ptr 6 0)] [bG a1, bI [], bG a1, bI v3, bB v4, .cells 93 (ap (eGram a1) [(.sl 3 0 1 0 a5), (.sl 4 0 1 0 a5)]), .cells 89 [(.ptr 5 0)], .row 48 6 0 (ra eSym []), bP x2] = some (vb false, [bG a1, bI [], bG a1, bI x5_1, bB x5_2, .cells 93 (ap (eGram a1) [(.sl 3 0 1 0 a5), (.sl 4 0 1 0 a5)]), .cells 89 [(.ptr 5 0)], .row 48 6 0 (ra eSym []), bP x2, bP x2])) (apc ((okT_of rfl (abl_cons rfl (abl_cons abl_row (abl_cons rfl (abl_cons abl_row (abl_cons abl_row (abl_cons rfl (abl_cons rfl rfl)))))))) : okT 7 [bG a1, bI [], bG a1, bI x5_1, bB x5_2, .cells 93 (ap (eGram a1) [(.sl 3 0 1 0 a5), (.sl 4 0 1 0 a5)]), .cells 89 [(.ptr 5 0)], .row 48 6 0 (ra eSym []), bP x2, bP x2] = true) apn))))) (by kernel_rfl)
  ·
   rw [← sj h]
   exact rnd (n := 30) [(14, .d true), (15, .v (.ro (eProd x2))), (18, .v (vb false)), (6000, .d true)] (apc (cv h1) (apc (ig eProd 7 .i64 h2) (apc ((((F54_ok x2 h3).cp rfl _).trans (congrArg (fun z => some (vb z)) h4)) : CP prg 54 [(aP x2)] [bG a1, bI [], bG a1, bI v3, bB v4, .cells 93 (ap (eGram a1) [(.sl 3 0 1 0 a5), (.sl 4 0 1 0 a5)]), .cells 89 [(.ptr 5 0)], .row 48 6 0 (ra eSym []), bP x2] = some (vb false)) (apc ((okT_of rfl (abl_cons rfl (abl_cons abl_row (abl_cons rfl (abl_cons abl_row (abl_cons abl_row (abl_cons rfl (abl_cons rfl rfl)))))))) : okT 7 [bG a1, bI [], bG a1, bI v3, bB v4, .cells 93 (ap (eGram a1) [(.sl 3 0 1 0 a5), (.sl 4 0 1 0 a5)]), .cells 89 [(.ptr 5 0)], .row 48 6 0 (ra eSym []), bP x2] = true) apn)))) (by kernel_rfl)
 ·
  rw [← sj h]
  exact xbrk (n := 30) [(14, .d false), (6000, .d true)] (apc (cv h1) apn) (by kernel_rfl)
theorem L46_0_run (a1 : GramD) (a2 : Int) (a5 : Nat) (s0 : Bool × Int × (List Int) × (List Bool)) (e : E_L46_0) (h : runL (fun s => L46_0 a1 a2 a5 s.1 s.2.1 s.2.2.1 s.2.2.2) s0 = some e) : L46_0_x a1 a2 a5 e (evH prg 7 [0, 1, 4, 11, 12, 13] ir46_l0 (L46_0_s a1 a2 a5 s0.1 s0.2.1 s0.2.2.1 s0.2.2.2)) := by
  have q := @loop_sound' (Bool × Int × (List Int) × (List Bool)) E_L46_0 (fun s => L46_0 a1 a2 a5 s.1 s.2.1 s.2.2.1 s.2.2.2) (fun s => evH prg 7 [0, 1, 4, 11, 12, 13] ir46_l0 (L46_0_s a1 a2 a5 s.1 s.2.1 s.2.2.1 s.2.2.2)) (L46_0_x a1 a2 a5) (fun s r h => L46_0_ok a1 a2 a5 s.1 s.2.1 s.2.2.1 s.2.2.2 h) s0 e h
  exact q
inductive E_L46_1 where
  | k0 (x0 : List Int) (x1 : List Bool)
noncomputable def L46_1 (a1 : GramD) (a4 : Nat) (v1 : List Int) (v2 : List Bool) : Option (E_L46_1 ⊕ ((List Int) × (List Bool))) :=
  ((runL (fun s => L46_0 a1 (a1.prods.length : Int) a4 s.1 s.2.1 s.2.2.1 s.2.2.2) (false, 0, v1, v2)).bind fun r1 => match r1 with | .k0 x1_0 x1_1 x1_2 => (bif x1_0 then (some (.inr (x1_1, x1_2))) else (some (.inl (.k0 x1_1 x1_2)))))
def L46_1_s (a1 : GramD) (a4 : Nat) (v1 : List Int) (v2 : List Bool) : St := ⟨fr 27 ug [(0, (.ptr 5 0)), (1, (.fn 69 [(.ptr 6 0)]))], [bG a1, bI [], bG a1, bI v1, bB v2, .cells 93 (ap (eGram a1) [(.sl 3 0 1 0 a4), (.sl 4 0 1 0 a4)]), .cells 89 [(.ptr 5 0)]]⟩
def L46_1_x (a1 : GramD) (a4 : Nat) (e : E_L46_1) (r : Option (Out × St)) : Prop := match e with | .k0 x0 x1 => ∃ g, r = some ((.brk 0), ⟨fr 27 g [], [bG a1, bI [], bG a1, bI x0, bB x1, .cells 93 (ap (eGram a1) [(.sl 3 0 1 0 a4), (.sl 4 0 1 0 a4)]), .cells 89 [(.ptr 5 0)]]⟩)
theorem L46_1_ok (a1 : GramD) (a4 : Nat) (v1 : List Int) (v2 : List Bool) {r : E_L46_1 ⊕ ((List Int) × (List Bool))} (h : L46_1 a1 a4 v1 v2 = some r) : OkR (fun e => L46_1_x a1 a4 e (evH prg 7 [0, 1] ir46_l1 (L46_1_s a1 a4 v1 v2))) (fun s => evH prg 7 [0, 1] ir46_l1 (L46_1_s a1 a4 v1 v2) = evH prg 7 [0, 1] ir46_l1 (L46_1_s a1 a4 s.1 s.2)) r := by
 unfold L46_1 at h
 refine bn h fun r1 h1 h => ?_
 cases r1 with
 | k0 x1_0 x1_1 x1_2 =>
  obtain ⟨g1, e1⟩ := L46_0_run a1 (a1.prods.length : Int) a4 (false, 0, v1, v2) _ h1
  refine bi h (fun h2 h => ?_) fun h2 h => ?_
  ·
   rw [← sj h]
   exact rnd (n := 30) [(12, .v (i6 (a1.prods.length : Int))), (2002, .l (.brk 2) ⟨fr 27 g1 [(0, (.ptr 5 0)), (1, (.fn 69 [(.ptr 6 0)])), (4, (vb x1_0)), (11, (.p (.lst 7 (a1.prods.map eProd))))], [bG a1, bI [], bG a1, bI x1_1, bB x1_2, .cells 93 (ap (eGram a1) [(.sl 3 0 1 0 a4), (.sl 4 0 1 0 a4)]), .cells 89 [(.ptr 5 0)]]⟩), (25, .d true), (6000, .d true)] (apc (lg a1.prods eProd 7) (apc ((okT_of rfl (abl_cons rfl (abl_cons abl_row (abl_cons rfl (abl_cons abl_row (abl_cons abl_row (abl_cons rfl (abl_cons rfl rfl)))))))) : okT 7 [bG a1, bI [], bG a1, bI v1, bB v2, .cells 93 (ap (eGram a1) [(.sl 3 0 1 0 a4), (.sl 4 0 1 0 a4)]), .cells 89 [(.ptr 5 0)]] = true) (apc (e1 : evH prg 7 [0, 1, 4, 11, 12, 13] ir46_l0 (L46_0_s a1 (a1.prods.length : Int) a4 false 0 v1 v2) = some ((.brk 2), ⟨fr 27 g1 [(0, (.ptr 5 0)), (1, (.fn 69 [(.ptr 6 0)])), (4, (vb x1_0)), (11, (.p (.lst 7 (a1.prods.map eProd))))], [bG a1, bI [], bG a1, bI x1_1, bB x1_2, .cells 93 (ap (eGram a1) [(.sl 3 0 1 0 a4), (.sl 4 0 1 0 a4)]), .cells 89 [(.ptr 5 0)]]⟩)) (apc (cv h2) (apc ((okT_of rfl (abl_cons rfl (abl_cons abl_row (abl_cons rfl (abl_cons abl_row (abl_cons abl_row (abl_cons rfl (abl_cons rfl rfl)))))))) : okT 7 [bG a1, bI [], bG a1, bI x1_1, bB x1_2, .cells 93 (ap (eGram a1) [(.sl 3 0 1 0 a4), (.sl 4 0 1 0 a4)]), .cells 89 [(.ptr 5 0)]] = true) apn))))) (by kernel_rfl)
  ·
   rw [← sj h]
   exact xbrk (n := 30) [(12, .v (i6 (a1.prods.length : Int))), (2002, .l (.brk 2) ⟨fr 27 g1 [(0, (.ptr 5 0)), (1, (.fn 69 [(.ptr 6 0)])), (4, (vb x1_0)), (11, (.p (.lst 7 (a1.prods.map eProd))))], [bG a1, bI [], bG a1, bI x1_1, bB x1_2, .cells 93 (ap (eGram a1) [(.sl 3 0 1 0 a4), (.sl 4 0 1 0 a4)]), .cells 89 [(.ptr 5 0)]]⟩), (25, .d false), (6000, .d true)] (apc (lg a1.prods eProd 7) (apc ((okT_of rfl (abl_cons rfl (abl_cons abl_row (abl_cons rfl (abl_cons abl_row (abl_cons abl_row (abl_cons rfl (abl_cons rfl rfl)))))))) : okT 7 [bG a1, bI [], bG a1, bI v1, bB v2, .cells 93 (ap (eGram a1) [(.sl 3 0 1 0 a4), (.sl 4 0 1 0 a4)]), .cells 89 [(.ptr 5 0)]] = true) (apc (e1 : evH prg 7 [0, 1, 4, 11, 12, 13] ir46_l0 (L46_0_s a1 (a1.prods.length : Int) a4 false 0 v1 v2) = some ((.brk 2), ⟨fr 27 g1 [(0, (.ptr 5 0)), (1, (.fn 69 [(.ptr 6 0)])), (4, (vb x1_0)), (11, (.p (.lst 7 (a1.prods.map eProd))))], [bG a1, bI [], bG a1, bI x1_1, bB x1_2, .cells 93 (ap (eGram a1) [(.sl 3 0 1 0 a4), (.sl 4 0 1 0 a4)]), .cells 89 [(.ptr 5 0)]]⟩)) (apc (cv h2) apn)))) (by kernel_rfl)
theorem L46_1_run (a1 : GramD) (a4 : Nat) (s0 : (List Int) × (List Bool)) (e : E_L46_1) (h : runL (fun s => L46_1 a1 a4 s.1 s.2) s0 = some e) : L46_1_x a1 a4 e (evH prg 7 [0, 1] ir46_l1 (L46_1_s a1 a4 s0.1 s0.2)) := by
  have q := @loop_sound' ((List Int) × (List Bool)) E_L46_1 (fun s => L46_1 a1 a4 s.1 s.2) (fun s => evH prg 7 [0, 1] ir46_l1 (L46_1_s a1 a4 s.1 s.2)) (L46_1_x a1 a4) (fun s r h => L46_1_ok a1 a4 s.1 s.2 h) s0 e h
  exact q
inductive R_F46 where
  | k0 (x0 : List Int) (x1 : List Bool)
noncomputable def F46 (a1 : GramD) (a2 : List Int) (a3 : List Bool) (a4 : Nat) : Option R_F46 :=
  ((runL (fun s => L46_1 a1 a4 s.1 s.2) (a2, a3)).bind fun r1 => match r1 with | .k0 x1_0 x1_1 => (some (.k0 x1_0 x1_1)))
def F46_v (a1 : GramD) (a2 : List Int) (a3 : List Bool) (a4 : Nat) (r : R_F46) : AV := match r with | .k0 x0 x1 => (.tup [])
def F46_h (a1 : GramD) (a2 : List Int) (a3 : List Bool) (a4 : Nat) (r : R_F46) : List AB := match r with | .k0 x0 x1 => [bG a1, bI [], bG a1, bI x0, bB x1, .cells 93 (ap (eGram a1) [(.sl 3 0 1 0 a4), (.sl 4 0 1 0 a4)]), .cells 89 [(.ptr 5 0)]]
theorem F46_ok (a1 : GramD) (a2 : List Int) (a3 : List Bool) (a4 : Nat) {r : R_F46} (h : F46 a1 a2 a3 a4 = some r) : CS prg 46 [(.ptr 5 0), (.fn 69 [(.ptr 6 0)])] [bG a1, bI [], bG a1, bI a2, bB a3, .cells 93 (ap (eGram a1) [(.sl 3 0 1 0 a4), (.sl 4 0 1 0 a4)]), .cells 89 [(.ptr 5 0)]] = some (F46_v a1 a2 a3 a4 r, F46_h a1 a2 a3 a4 r) := by
 unfold F46 at h
 refine bn h fun r1 h1 h => ?_
 cases r1 with
 | k0 x1_0 x1_1 =>
  obtain ⟨g1, e1⟩ := L46_1_run a1 a4 (a2, a3) _ h1
  rw [← sj h]
  exact fcs (n := 30) [(2000, .l (.brk 0) ⟨fr 27 g1 [], [bG a1, bI [], bG a1, bI x1_0, bB x1_1, .cells 93 (ap (eGram a1) [(.sl 3 0 1 0 a4), (.sl 4 0 1 0 a4)]), .cells 89 [(.ptr 5 0)]]⟩), (6000, .d true)] (apc ((okT_of rfl (abl_cons rfl (abl_cons abl_row (abl_cons rfl (abl_cons abl_row (abl_cons abl_row (abl_cons rfl (abl_cons rfl rfl)))))))) : okT 7 [bG a1, bI [], bG a1, bI a2, bB a3, .cells 93 (ap (eGram a1) [(.sl 3 0 1 0 a4), (.sl 4 0 1 0 a4)]), .cells 89 [(.ptr 5 0)]] = true) (apc (e1 : evH prg 7 [0, 1] ir46_l1 (L46_1_s a1 a4 a2 a3) = some ((.brk 0), ⟨fr 27 g1 [], [bG a1, bI [], bG a1, bI x1_0, bB x1_1, .cells 93 (ap (eGram a1) [(.sl 3 0 1 0 a4), (.sl 4 0 1 0 a4)]), .cells 89 [(.ptr 5 0)]]⟩)) apn)) (by kernel_rfl)
inductive R_F45 where
  | k0 (x0 : Int)
  | k1 (x0 : List Int) (x1 : List Bool)
noncomputable def F45 (a1 : GramD) : Option R_F45 :=
  ((F29 a1).bind fun x1 => (bif (x1 != 0) then (some (.k0 x1)) else (bif (mkOk (a1.sorts.length : Int) 8) then (bif (mkOk (a1.sorts.length : Int) 1) then ((runL (fun s => L45_0 (((Int.toNat (a1.sorts.length : Int)) : Nat) : Int) (Int.toNat (a1.sorts.length : Int)) s.1 s.2) (0, (List.replicate (Int.toNat (a1.sorts.length : Int)) 0))).bind fun r5 => match r5 with | .k0 x5_0 => ((F46 a1 x5_0 (List.replicate (Int.toNat (a1.sorts.length : Int)) false) (Int.toNat (a1.sorts.length : Int))).bind fun r6 => match r6 with | .k0 x6_0 x6_1 => (some (.k1 x6_0 x6_1)))) else none) else none)))
def F45_v (a1 : GramD) (r : R_F45) : AV := match r with | .k0 x0 => (.tup [(.p (.val (.pointer .none))), (i6 x0)]) | .k1 x0 x1 => (.tup [(.ptr 5 0), (i6 0)])
def F45_h (a1 : GramD) (r : R_F45) : List AB := match r with | .k0 x0 => [bG a1, bI [], bG a1] | .k1 x0 x1 => [bG a1, bI [], bG a1, bI x0, bB x1, .cells 93 (ap (eGram a1) [(.sl 3 0 1 0 (Int.toNat (a1.sorts.length : Int))), (.sl 4 0 1 0 (Int.toNat (a1.sorts.length : Int)))]), .cells 89 [(.ptr 5 0)]]
theorem F45_ok (a1 : GramD) {r : R_F45} (h : F45 a1 = some r) : CS prg 45 [(aG a1)] [bG a1, bI []] = some (F45_v a1 r, F45_h a1 r) := by
 unfold F45 at h
 refine bn h fun x1 h1 h => ?_
 refine bi h (fun h2 h => ?_) fun h2 h => ?_
 ·
  rw [← sj h]
  exact fcs (n := 30) [(8, .v (i6 x1)), (10, .d true)] (apc (((F29_ok a1 h1).cp rfl _) : CP prg 29 [(aG a1)] [bG a1, bI [], bG a1] = some (i6 x1)) (apc (cv h2) apn)) (by kernel_rfl)
 ·
  refine bi h (fun h3 h => ?_) fun h3 h => ?_
  ·
   refine bi h (fun h4 h => ?_) fun h4 h => ?_
   ·
    refine bn h fun r5 h5 h => ?_
    cases r5 with
    | k0 x5_0 =>
     obtain ⟨g5, e5⟩ := L45_0_run (((Int.toNat (a1.sorts.length : Int)) : Nat) : Int) a1 (List.replicate (Int.toNat (a1.sorts.length : Int)) false) (Int.toNat (a1.sorts.length : Int)) (0, (List.replicate (Int.toNat (a1.sorts.length : Int)) 0)) _ h5
     refine bn h fun r6 h6 h => ?_
     cases r6 with
     | k0 x6_0 x6_1 =>
      rw [← sj h]
      exact fcs (n := 30) [(8, .v (i6 x1)), (10, .d false), (15, .v (i6 (a1.sorts.length : Int))), (16, .r (.sl 3 0 1 0 (Int.toNat (a1.sorts.length : Int))) [.row 3 1 0 (ra eI64 (List.replicate (Int.toNat (a1.sorts.length : Int)) 0))]), (19, .v (i6 (a1.sorts.length : Int))), (20, .r (.sl 4 0 1 0 (Int.toNat (a1.sorts.length : Int))) [.row 4 1 0 (ra eBool (List.replicate (Int.toNat (a1.sorts.length : Int)) false))]), (2000, .l (.brk 0) ⟨fr 42 g5 [(5, (.ptr 6 0))], [bG a1, bI [], bG a1, bI x5_0, .row 4 1 0 (ra eBool (List.replicate (Int.toNat (a1.sorts.length : Int)) false)), .cells 93 (ap (eGram a1) [(.sl 3 0 1 0 (Int.toNat (a1.sorts.length : Int))), (.sl 4 0 1 0 (Int.toNat (a1.sorts.length : Int)))]), .cells 89 [(.ptr 5 0)]]⟩), (40, .r (.tup []) [bG a1, bI [], bG a1, bI x6_0, bB x6_1, .cells 93 (ap (eGram a1) [(.sl 3 0 1 0 (Int.toNat (a1.sorts.length : Int))), (.sl 4 0 1 0 (Int.toNat (a1.sorts.length : Int)))]), .cells 89 [(.ptr 5 0)]]), (6000, .d true)] (apc (((F29_ok a1 h1).cp rfl _) : CP prg 29 [(aG a1)] [bG a1, bI [], bG a1] = some (i6 x1)) (apc (cv h2) (apc (lg a1.sorts eStr 1) (apc ((mk_row (e := eI64) (z := 0) h3 rfl) : mkA 3 1 8 [.val (.int .i64 0)] (i6 (a1.sorts.length : Int)) (i6 (a1.sorts.length : Int)) 3 = some ((.sl 3 0 1 0 (Int.toNat (a1.sorts.length : Int))), .row 3 1 0 (ra eI64 (List.replicate (Int.toNat (a1.sorts.length : Int)) 0)))) (apc (lg a1.sorts eStr 1) (apc ((mk_row (e := eBool) (z := false) h4 rfl) : mkA 4 1 1 [.val (.bool false)] (i6 (a1.sorts.length : Int)) (i6 (a1.sorts.length : Int)) 4 = some ((.sl 4 0 1 0 (Int.toNat (a1.sorts.length : Int))), .row 4 1 0 (ra eBool (List.replicate (Int.toNat (a1.sorts.length : Int)) false)))) (apc ((okT_of rfl (abl_cons rfl (abl_cons abl_row (abl_cons rfl (abl_cons abl_row (abl_cons abl_row (abl_cons rfl (abl_cons rfl rfl)))))))) : okT 7 [bG a1, bI [], bG a1, .row 3 1 0 (ra eI64 (List.replicate (Int.toNat (a1.sorts.length : Int)) 0)), .row 4 1 0 (ra eBool (List.replicate (Int.toNat (a1.sorts.length : Int)) false)), .cells 93 (ap (eGram a1) [(.sl 3 0 1 0 (Int.toNat (a1.sorts.length : Int))), (.sl 4 0 1 0 (Int.toNat (a1.sorts.length : Int)))]), .cells 89 [(.ptr 5 0)]] = true) (apc (e5 : evH prg 7 [5, 27, 28] ir45_l0 (L45_0_s (((Int.toNat (a1.sorts.length : Int)) : Nat) : Int) a1 (List.replicate (Int.toNat (a1.sorts.length : Int)) false) (Int.toNat (a1.sorts.length : Int)) 0 (List.replicate (Int.toNat (a1.sorts.length : Int)) 0)) = some ((.brk 0), ⟨fr 42 g5 [(5, (.ptr 6 0))], [bG a1, bI [], bG a1, bI x5_0, .row 4 1 0 (ra eBool (List.replicate (Int.toNat (a1.sorts.length : Int)) false)), .cells 93 (ap (eGram a1) [(.sl 3 0 1 0 (Int.toNat (a1.sorts.length : Int))), (.sl 4 0 1 0 (Int.toNat (a1.sorts.length : Int)))]), .cells 89 [(.ptr 5 0)]]⟩)) (apc ((F46_ok a1 x5_0 (List.replicate (Int.toNat (a1.sorts.length : Int)) false) (Int.toNat (a1.sorts.length : Int)) h6) : CS prg 46 [(.ptr 5 0), (.fn 69 [(.ptr 6 0)])] [bG a1, bI [], bG a1, bI x5_0, .row 4 1 0 (ra eBool (List.replicate (Int.toNat (a1.sorts.length : Int)) false)), .cells 93 (ap (eGram a1) [(.sl 3 0 1 0 (Int.toNat (a1.sorts.length : Int))), (.sl 4 0 1 0 (Int.toNat (a1.sorts.length : Int)))]), .cells 89 [(.ptr 5 0)]] = some ((.tup []), [bG a1, bI [], bG a1, bI x6_0, bB x6_1, .cells 93 (ap (eGram a1) [(.sl 3 0 1 0 (Int.toNat (a1.sorts.length : Int))), (.sl 4 0 1 0 (Int.toNat (a1.sorts.length : Int)))]), .cells 89 [(.ptr 5 0)]])) apn))))))))) (by kernel_rfl)
   ·
    cases h
  ·
   cases h
inductive R_F13 where
  | k0 (x0 : List Int) (x1 : Int)
noncomputable def F13 (a1 : GramD) : Option R_F13 :=
  ((F45 a1).bind fun r1 => match r1 with | .k0 x1_0 => (bif (x1_0 != 0) then (some (.k0 ([]) x1_0)) else none) | .k1 x1_0 x1_1 => (bif (decide ((Int.toNat (a1.sorts.length : Int)) ≤ x1_0.length)) then (some (.k0 (x1_0.take (Int.toNat (a1.sorts.length : Int))) 0)) else none))
def F13_v (a1 : GramD) (r : R_F13) : AV := match r with | .k0 x0 x1 => (.tup [(.p (.lst 1 (x0.map eI64))), (i6 x1)])
theorem F13_ok (a1 : GramD) {r : R_F13} (h : F13 a1 = some r) : PR1 prg 13 [(aG a1)] (F13_v a1 r) := by
 unfold F13 at h
 refine bn h fun r1 h1 h => ?_
 cases r1 with
 | k0 x1_0 =>
  refine bi h (fun h2 h => ?_) fun h2 h => ?_
  ·
   rw [← sj h]
   exact fpo (n := 30) (v := (.tup [(.sl 3 0 1 0 0), (i6 x1_0)])) (h' := [bG a1, bI [], bG a1, bI []]) [(8, .r (.tup [(.p (.val (.pointer .none))), (i6 x1_0)]) [bG a1, bI [], bG a1]), (12, .d true)] (apc ((F45_ok a1 h1) : CS prg 45 [(aG a1)] [bG a1, bI []] = some ((.tup [(.p (.val (.pointer .none))), (i6 x1_0)]), [bG a1, bI [], bG a1])) (apc (cv h2) apn)) (purA_tup (purAs_cons (purA_sl (xs := []) rfl rfl) (purAs_cons rfl purAs_nil))) (by kernel_rfl)
  ·
   cases h
 | k1 x1_0 x1_1 =>
  refine bi h (fun h2 h => ?_) fun h2 h => ?_
  ·
   rw [← sj h]
   exact fpo (n := 30) (v := (.tup [(.sl 3 0 1 0 (Int.toNat (a1.sorts.length : Int))), (i6 0)])) (h' := [bG a1, bI [], bG a1, bI x1_0, bB x1_1, .cells 93 (ap (eGram a1) [(.sl 3 0 1 0 (Int.toNat (a1.sorts.length : Int))), (.sl 4 0 1 0 (Int.toNat (a1.sorts.length : Int)))]), .cells 89 [(.ptr 5 0)]]) [(8, .r (.tup [(.ptr 5 0), (i6 0)]) [bG a1, bI [], bG a1, bI x1_0, bB x1_1, .cells 93 (ap (eGram a1) [(.sl 3 0 1 0 (Int.toNat (a1.sorts.length : Int))), (.sl 4 0 1 0 (Int.toNat (a1.sorts.length : Int)))]), .cells 89 [(.ptr 5 0)]])] (apc ((F45_ok a1 h1) : CS prg 45 [(aG a1)] [bG a1, bI []] = some ((.tup [(.ptr 5 0), (i6 0)]), [bG a1, bI [], bG a1, bI x1_0, bB x1_1, .cells 93 (ap (eGram a1) [(.sl 3 0 1 0 (Int.toNat (a1.sorts.length : Int))), (.sl 4 0 1 0 (Int.toNat (a1.sorts.length : Int)))]), .cells 89 [(.ptr 5 0)]])) apn) (purA_tup (purAs_cons (purA_sl rfl h2) (purAs_cons rfl purAs_nil))) (by kernel_rfl)
  ·
   cases h
inductive E_L45_0_2 where
  | k0 (x0 : List Int)
noncomputable def L45_0_2 (a1 : Int) (a6 : Nat) (v1 : Int) (v2 : List Int) : Option (E_L45_0_2 ⊕ (Int × (List Int))) :=
  (bif (decide (v1 < a1)) then ((ixN a6 v1).bind fun x2 => ((v2[x2]?).bind fun x3 => (some (.inr ((IntKind.wrap .i64 (v1 + 1)), (v2.set x2 (-1))))))) else (some (.inl (.k0 v2))))
def L45_0_2_s (a1 : Int) (a2 : GramD) (a3 : Int) (a5 : List Bool) (a6 : Nat) (v1 : Int) (v2 : List Int) : St := ⟨fr 42 ug [(5, (.ptr 6 0)), (27, (i6 a1)), (28, (i6 v1))], [bG a2, .cells 3 [(i6 a3)], bG a2, bI v2, bB a5, .cells 93 (ap (eGram a2) [(.sl 3 0 1 0 a6), (.sl 4 0 1 0 a6)]), .cells 89 [(.ptr 5 0)]]⟩
def L45_0_2_x (a1 : Int) (a2 : GramD) (a3 : Int) (a5 : List Bool) (a6 : Nat) (e : E_L45_0_2) (r : Option (Out × St)) : Prop := match e with | .k0 x0 => ∃ g, r = some ((.brk 0), ⟨fr 42 g [(5, (.ptr 6 0))], [bG a2, .cells 3 [(i6 a3)], bG a2, bI x0, bB a5, .cells 93 (ap (eGram a2) [(.sl 3 0 1 0 a6), (.sl 4 0 1 0 a6)]), .cells 89 [(.ptr 5 0)]]⟩)
theorem L45_0_2_ok (a1 : Int) (a2 : GramD) (a3 : Int) (a5 : List Bool) (a6 : Nat) (v1 : Int) (v2 : List Int) {r : E_L45_0_2 ⊕ (Int × (List Int))} (h : L45_0_2 a1 a6 v1 v2 = some r) : OkR (fun e => L45_0_2_x a1 a2 a3 a5 a6 e (evH prg 7 [5, 27, 28] ir45_l0 (L45_0_2_s a1 a2 a3 a5 a6 v1 v2))) (fun s => evH prg 7 [5, 27, 28] ir45_l0 (L45_0_2_s a1 a2 a3 a5 a6 v1 v2) = evH prg 7 [5, 27, 28] ir45_l0 (L45_0_2_s a1 a2 a3 a5 a6 s.1 s.2)) r := by
 unfold L45_0_2 at h
 refine bi h (fun h1 h => ?_) fun h1 h => ?_
 ·
  refine bn h fun x2 h2 h => ?_
  refine bn h fun x3 h3 h => ?_
  rw [← sj h]
  exact rnd (n := 30) [(29, .d true), (36, .v (.rp 3 0 1 x2 0)), (1036, .r ud [bG a2, .cells 3 [(i6 a3)], bG a2, .row 3 1 0 (ra eI64 (v2.set x2 (-1))), bB a5, .cells 93 (ap (eGram a2) [(.sl 3 0 1 0 a6), (.sl 4 0 1 0 a6)]), .cells 89 [(.ptr 5 0)]]), (6000, .d true)] (apc (cv h1) (apc ((idx_sl h2) : idxA 1 (.sl 3 0 1 0 a6) (i6 v1) = some (.rp 3 0 1 x2 0)) (apc (⟨st_row (v' := (-1)) rfl h3 rfl rfl (Nat.le_of_ble_eq_true rfl) rfl, rfl⟩ : stA [bG a2, .cells 3 [(i6 a3)], bG a2, bI v2, bB a5, .cells 93 (ap (eGram a2) [(.sl 3 0 1 0 a6), (.sl 4 0 1 0 a6)]), .cells 89 [(.ptr 5 0)]] 1 (.rp 3 0 1 x2 0) (i6 (-1)) = some [bG a2, .cells 3 [(i6 a3)], bG a2, .row 3 1 0 (ra eI64 (v2.set x2 (-1))), bB a5, .cells 93 (ap (eGram a2) [(.sl 3 0 1 0 a6), (.sl 4 0 1 0 a6)]), .cells 89 [(.ptr 5 0)]] ∧ ud = ud) (apc ((okT_of rfl (abl_cons rfl (abl_cons rfl (abl_cons rfl (abl_cons abl_row (abl_cons abl_row (abl_cons rfl (abl_cons rfl rfl)))))))) : okT 7 [bG a2, .cells 3 [(i6 a3)], bG a2, .row 3 1 0 (ra eI64 (v2.set x2 (-1))), bB a5, .cells 93 (ap (eGram a2) [(.sl 3 0 1 0 a6), (.sl 4 0 1 0 a6)]), .cells 89 [(.ptr 5 0)]] = true) apn)))) (by kernel_rfl)
 ·
  rw [← sj h]
  exact xbrk (n := 30) [(29, .d false), (6000, .d true)] (apc (cv h1) apn) (by kernel_rfl)
theorem L45_0_2_run (a1 : Int) (a2 : GramD) (a3 : Int) (a5 : List Bool) (a6 : Nat) (s0 : Int × (List Int)) (e : E_L45_0_2) (h : runL (fun s => L45_0_2 a1 a6 s.1 s.2) s0 = some e) : L45_0_2_x a1 a2 a3 a5 a6 e (evH prg 7 [5, 27, 28] ir45_l0 (L45_0_2_s a1 a2 a3 a5 a6 s0.1 s0.2)) := by
  have q := @loop_sound' (Int × (List Int)) E_L45_0_2 (fun s => L45_0_2 a1 a6 s.1 s.2) (fun s => evH prg 7 [5, 27, 28] ir45_l0 (L45_0_2_s a1 a2 a3 a5 a6 s.1 s.2)) (L45_0_2_x a1 a2 a3 a5 a6) (fun s r h => L45_0_2_ok a1 a2 a3 a5 a6 s.1 s.2 h) s0 e h
  exact q
inductive R_F69_2 where
  | k0 (x0 : Bool) (x1 : List Int) (x2 : List Bool)
noncomputable def F69_2 (a1 : ProdD) (a4 : List Int) (a5 : List Bool) (a6 : Nat) : Option R_F69_2 :=
  (bif (decide (a6 ≤ a4.length)) then (bif (decide (a6 ≤ a5.length)) then ((F48 (a4.take a6) a1).bind fun x3 => ((ixN a6 a1.left).bind fun x4 => ((a4[x4]?).bind fun x5 => (bif (decide (x3 < 0)) then (some (.k0 false a4 a5)) else (bif (decide (x5 ≥ 0)) then (bif (decide (x5 ≤ x3)) then (some (.k0 false a4 a5)) else ((a5[x4]?).bind fun x9 => (some (.k0 true (a4.set x4 x3) (a5.set x4 (x3 == 0)))))) else ((a5[x4]?).bind fun x8 => (some (.k0 true (a4.set x4 x3) (a5.set x4 (x3 == 0)))))))))) else none) else none)
def F69_2_v (a1 : ProdD) (a2 : GramD) (a3 : Int) (a4 : List Int) (a5 : List Bool) (a6 : Nat) (r : R_F69_2) : AV := match r with | .k0 x0 x1 x2 => (vb x0)
def F69_2_h (a1 : ProdD) (a2 : GramD) (a3 : Int) (a4 : List Int) (a5 : List Bool) (a6 : Nat) (r : R_F69_2) : List AB := match r with | .k0 x0 x1 x2 => [bG a2, .cells 3 [(i6 a3)], bG a2, bI x1, bB x2, .cells 93 (ap (eGram a2) [(.sl 3 0 1 0 a6), (.sl 4 0 1 0 a6)]), .cells 89 [(.ptr 5 0)], .row 48 6 0 (ra eSym []), bP a1, bP a1]
theorem F69_2_ok (a1 : ProdD) (a2 : GramD) (a3 : Int) (a4 : List Int) (a5 : List Bool) (a6 : Nat) {r : R_F69_2} (h : F69_2 a1 a4 a5 a6 = some r) : CS prg 69 [(aP a1), (.ptr 6 0)] [bG a2, .cells 3 [(i6 a3)], bG a2, bI a4, bB a5, .cells 93 (ap (eGram a2) [(.sl 3 0 1 0 a6), (.sl 4 0 1 0 a6)]), .cells 89 [(.ptr 5 0)], .row 48 6 0 (ra eSym []), bP a1] = some (F69_2_v a1 a2 a3 a4 a5 a6 r, F69_2_h a1 a2 a3 a4 a5 a6 r) := by
 unfold F69_2 at h
 refine bi h (fun h1 h => ?_) fun h1 h => ?_
 ·
  refine bi h (fun h2 h => ?_) fun h2 h => ?_
  ·
   refine bn h fun x3 h3 h => ?_
   refine bn h fun x4 h4 h => ?_
   refine bn h fun x5 h5 h => ?_
   refine bi h (fun h6 h => ?_) fun h6 h => ?_
   ·
    rw [← sj h]
    exact fcs (n := 30) [(8, .v (i6 x3)), (15, .v (.rp 3 0 1 x4 0)), (16, .v (i6 x5)), (18, .d true)] (apc (((F48_ok a2 (a4.take a6) (a5.take a6) a1 h3).own rfl (purAs_cons (purA_ptr rfl (mapO_con rfl (mapO_con rfl (mapO_con rfl (mapO_con rfl (mapO_con rfl (mapO_con (purP_sl rfl h1) (mapO_con (purP_sl rfl h2) rfl)))))))) (purAs_cons rfl purAs_nil)) rfl) : CP prg 48 [(.ptr 5 0), (aP a1)] [bG a2, .cells 3 [(i6 a3)], bG a2, bI a4, bB a5, .cells 93 (ap (eGram a2) [(.sl 3 0 1 0 a6), (.sl 4 0 1 0 a6)]), .cells 89 [(.ptr 5 0)], .row 48 6 0 (ra eSym []), bP a1, bP a1] = some (i6 x3)) (apc ((idx_sl h4) : idxA 1 (.sl 3 0 1 0 a6) (i6 a1.left) = some (.rp 3 0 1 x4 0)) (apc ((ld_row rfl h5 rfl) : ldA [bG a2, .cells 3 [(i6 a3)], bG a2, bI a4, bB a5, .cells 93 (ap (eGram a2) [(.sl 3 0 1 0 a6), (.sl 4 0 1 0 a6)]), .cells 89 [(.ptr 5 0)], .row 48 6 0 (ra eSym []), bP a1, bP a1] .false 1 (.rp 3 0 1 x4 0) = some (i6 x5)) (apc (cv h6) apn)))) (by kernel_rfl)
   ·
    refine bi h (fun h7 h => ?_) fun h7 h => ?_
    ·
     refine bi h (fun h8 h => ?_) fun h8 h => ?_
     ·
      rw [← sj h]
      exact fcs (n := 30) [(8, .v (i6 x3)), (15, .v (.rp 3 0 1 x4 0)), (16, .v (i6 x5)), (18, .d false), (21, .d true), (25, .d true)] (apc (((F48_ok a2 (a4.take a6) (a5.take a6) a1 h3).own rfl (purAs_cons (purA_ptr rfl (mapO_con rfl (mapO_con rfl (mapO_con rfl (mapO_con rfl (mapO_con rfl (mapO_con (purP_sl rfl h1) (mapO_con (purP_sl rfl h2) rfl)))))))) (purAs_cons rfl purAs_nil)) rfl) : CP prg 48 [(.ptr 5 0), (aP a1)] [bG a2, .cells 3 [(i6 a3)], bG a2, bI a4, bB a5, .cells 93 (ap (eGram a2) [(.sl 3 0 1 0 a6), (.sl 4 0 1 0 a6)]), .cells 89 [(.ptr 5 0)], .row 48 6 0 (ra eSym []), bP a1, bP a1] = some (i6 x3)) (apc ((idx_sl h4) : idxA 1 (.sl 3 0 1 0 a6) (i6 a1.left) = some (.rp 3 0 1 x4 0)) (apc ((ld_row rfl h5 rfl) : ldA [bG a2, .cells 3 [(i6 a3)], bG a2, bI a4, bB a5, .cells 93 (ap (eGram a2) [(.sl 3 0 1 0 a6), (.sl 4 0 1 0 a6)]), .cells 89 [(.ptr 5 0)], .row 48 6 0 (ra eSym []), bP a1, bP a1] .false 1 (.rp 3 0 1 x4 0) = some (i6 x5)) (apc (cv h6) (apc (cv h7) (apc (cv h8) apn)))))) (by kernel_rfl)
     ·
      refine bn h fun x9 h9 h => ?_
      rw [← sj h]
      exact fcs (n := 30) [(8, .v (i6 x3)), (15, .v (.rp 3 0 1 x4 0)), (16, .v (i6 x5)), (18, .d false), (21, .d true), (25, .d false), (35, .v (.rp 3 0 1 x4 0)), (1035, .r ud [bG a2, .cells 3 [(i6 a3)], bG a2, .row 3 1 0 (ra eI64 (a4.set x4 x3)), bB a5, .cells 93 (ap (eGram a2) [(.sl 3 0 1 0 a6), (.sl 4 0 1 0 a6)]), .cells 89 [(.ptr 5 0)], .row 48 6 0 (ra eSym []), bP a1, bP a1]), (44, .v (.rp 4 0 1 x4 0)), (1044, .r ud [bG a2, .cells 3 [(i6 a3)], bG a2, .row 3 1 0 (ra eI64 (a4.set x4 x3)), .row 4 1 0 (ra eBool (a5.set x4 (x3 == 0))), .cells 93 (ap (eGram a2) [(.sl 3 0 1 0 a6), (.sl 4 0 1 0 a6)]), .cells 89 [(.ptr 5 0)], .row 48 6 0 (ra eSym []), bP a1, bP a1])] (apc (((F48_ok a2 (a4.take a6) (a5.take a6) a1 h3).own rfl (purAs_cons (purA_ptr rfl (mapO_con rfl (mapO_con rfl (mapO_con rfl (mapO_con rfl (mapO_con rfl (mapO_con (purP_sl rfl h1) (mapO_con (purP_sl rfl h2) rfl)))))))) (purAs_cons rfl purAs_nil)) rfl) : CP prg 48 [(.ptr 5 0), (aP a1)] [bG a2, .cells 3 [(i6 a3)], bG a2, bI a4, bB a5, .cells 93 (ap (eGram a2) [(.sl 3 0 1 0 a6), (.sl 4 0 1 0 a6)]), .cells 89 [(.ptr 5 0)], .row 48 6 0 (ra eSym []), bP a1, bP a1] = some (i6 x3)) (apc ((idx_sl h4) : idxA 1 (.sl 3 0 1 0 a6) (i6 a1.left) = some (.rp 3 0 1 x4 0)) (apc ((ld_row rfl h5 rfl) : ldA [bG a2, .cells 3 [(i6 a3)], bG a2, bI a4, bB a5, .cells 93 (ap (eGram a2) [(.sl 3 0 1 0 a6), (.sl 4 0 1 0 a6)]), .cells 89 [(.ptr 5 0)], .row 48 6 0 (ra eSym []), bP a1, bP a1] .false 1 (.rp 3 0 1 x4 0) = some (i6 x5)) (apc (cv h6) (apc (cv h7) (apc (cv h8) (apc ((idx_sl h4) : idxA 1 (.sl 3 0 1 0 a6) (i6 a1.left) = some (.rp 3 0 1 x4 0)) (apc (⟨st_row (v' := x3) rfl h5 rfl rfl (Nat.le_of_ble_eq_true rfl) rfl, rfl⟩ : stA [bG a2, .cells 3 [(i6 a3)], bG a2, bI a4, bB a5, .cells 93 (ap (eGram a2) [(.sl 3 0 1 0 a6), (.sl 4 0 1 0 a6)]), .cells 89 [(.ptr 5 0)], .row 48 6 0 (ra eSym []), bP a1, bP a1] 1 (.rp 3 0 1 x4 0) (i6 x3) = some [bG a2, .cells 3 [(i6 a3)], bG a2, .row 3 1 0 (ra eI64 (a4.set x4 x3)), bB a5, .cells 93 (ap (eGram a2) [(.sl 3 0 1 0 a6), (.sl 4 0 1 0 a6)]), .cells 89 [(.ptr 5 0)], .row 48 6 0 (ra eSym []), bP a1, bP a1] ∧ ud = ud) (apc ((idx_sl h4) : idxA 1 (.sl 4 0 1 0 a6) (i6 a1.left) = some (.rp 4 0 1 x4 0)) (apc (⟨st_row (v' := (x3 == 0)) rfl h9 rfl rfl (Nat.le_of_ble_eq_true rfl) rfl, rfl⟩ : stA [bG a2, .cells 3 [(i6 a3)], bG a2, .row 3 1 0 (ra eI64 (a4.set x4 x3)), bB a5, .cells 93 (ap (eGram a2) [(.sl 3 0 1 0 a6), (.sl 4 0 1 0 a6)]), .cells 89 [(.ptr 5 0)], .row 48 6 0 (ra eSym []), bP a1, bP a1] 1 (.rp 4 0 1 x4 0) (vb (x3 == 0)) = some [bG a2, .cells 3 [(i6 a3)], bG a2, .row 3 1 0 (ra eI64 (a4.set x4 x3)), .row 4 1 0 (ra eBool (a5.set x4 (x3 == 0))), .cells 93 (ap (eGram a2) [(.sl 3 0 1 0 a6), (.sl 4 0 1 0 a6)]), .cells 89 [(.ptr 5 0)], .row 48 6 0 (ra eSym []), bP a1, bP a1] ∧ ud = ud) apn)))))))))) (by kernel_rfl)
    ·
     refine bn h fun x8 h8 h => ?_
     rw [← sj h]
     exact fcs (n := 30) [(8, .v (i6 x3)), (15, .v (.rp 3 0 1 x4 0)), (16, .v (i6 x5)), (18, .d false), (21, .d false), (35, .v (.rp 3 0 1 x4 0)), (1035, .r ud [bG a2, .cells 3 [(i6 a3)], bG a2, .row 3 1 0 (ra eI64 (a4.set x4 x3)), bB a5, .cells 93 (ap (eGram a2) [(.sl 3 0 1 0 a6), (.sl 4 0 1 0 a6)]), .cells 89 [(.ptr 5 0)], .row 48 6 0 (ra eSym []), bP a1, bP a1]), (44, .v (.rp 4 0 1 x4 0)), (1044, .r ud [bG a2, .cells 3 [(i6 a3)], bG a2, .row 3 1 0 (ra eI64 (a4.set x4 x3)), .row 4 1 0 (ra eBool (a5.set x4 (x3 == 0))), .cells 93 (ap (eGram a2) [(.sl 3 0 1 0 a6), (.sl 4 0 1 0 a6)]), .cells 89 [(.ptr 5 0)], .row 48 6 0 (ra eSym []), bP a1, bP a1])] (apc (((F48_ok a2 (a4.take a6) (a5.take a6) a1 h3).own rfl (purAs_cons (purA_ptr rfl (mapO_con rfl (mapO_con rfl (mapO_con rfl (mapO_con rfl (mapO_con rfl (mapO_con (purP_sl rfl h1) (mapO_con (purP_sl rfl h2) rfl)))))))) (purAs_cons rfl purAs_nil)) rfl) : CP prg 48 [(.ptr 5 0), (aP a1)] [bG a2, .cells 3 [(i6 a3)], bG a2, bI a4, bB a5, .cells 93 (ap (eGram a2) [(.sl 3 0 1 0 a6), (.sl 4 0 1 0 a6)]), .cells 89 [(.ptr 5 0)], .row 48 6 0 (ra eSym []), bP a1, bP a1] = some (i6 x3)) (apc ((idx_sl h4) : idxA 1 (.sl 3 0 1 0 a6) (i6 a1.left) = some (.rp 3 0 1 x4 0)) (apc ((ld_row rfl h5 rfl) : ldA [bG a2, .cells 3 [(i6 a3)], bG a2, bI a4, bB a5, .cells 93 (ap (eGram a2) [(.sl 3 0 1 0 a6), (.sl 4 0 1 0 a6)]), .cells 89 [(.ptr 5 0)], .row 48 6 0 (ra eSym []), bP a1, bP a1] .false 1 (.rp 3 0 1 x4 0) = some (i6 x5)) (apc (cv h6) (apc (cv h7) (apc ((idx_sl h4) : idxA 1 (.sl 3 0 1 0 a6) (i6 a1.left) = some (.rp 3 0 1 x4 0)) (apc (⟨st_row (v' := x3) rfl h5 rfl rfl (Nat.le_of_ble_eq_true rfl) rfl, rfl⟩ : stA [bG a2, .cells 3 [(i6 a3)], bG a2, bI a4, bB a5, .cells 93 (ap (eGram a2) [(.sl 3 0 1 0 a6), (.sl 4 0 1 0 a6)]), .cells 89 [(.ptr 5 0)], .row 48 6 0 (ra eSym []), bP a1, bP a1] 1 (.rp 3 0 1 x4 0) (i6 x3) = some [bG a2, .cells 3 [(i6 a3)], bG a2, .row 3 1 0 (ra eI64 (a4.set x4 x3)), bB a5, .cells 93 (ap (eGram a2) [(.sl 3 0 1 0 a6), (.sl 4 0 1 0 a6)]), .cells 89 [(.ptr 5 0)], .row 48 6 0 (ra eSym []), bP a1, bP a1] ∧ ud = ud) (apc ((idx_sl h4) : idxA 1 (.sl 4 0 1 0 a6) (i6 a1.left) = some (.rp 4 0 1 x4 0)) (apc (⟨st_row (v' := (x3 == 0)) rfl h8 rfl rfl (Nat.le_of_ble_eq_true rfl) rfl, rfl⟩ : stA [bG a2, .cells 3 [(i6 a3)], bG a2, .row 3 1 0 (ra eI64 (a4.set x4 x3)), bB a5, .cells 93 (ap (eGram a2) [(.sl 3 0 1 0 a6), (.sl 4 0 1 0 a6)]), .cells 89 [(.ptr 5 0)], .row 48 6 0 (ra eSym []), bP a1, bP a1] 1 (.rp 4 0 1 x4 0) (vb (x3 == 0)) = some [bG a2, .cells 3 [(i6 a3)], bG a2, .row 3 1 0 (ra eI64 (a4.set x4 x3)), .row 4 1 0 (ra eBool (a5.set x4 (x3 == 0))), .cells 93 (ap (eGram a2) [(.sl 3 0 1 0 a6), (.sl 4 0 1 0 a6)]), .cells 89 [(.ptr 5 0)], .row 48 6 0 (ra eSym []), bP a1, bP a1] ∧ ud = ud) apn))))))))) (by kernel_rfl)
  ·
   cases h
 ·
  cases h
inductive E_L46_0_2 where
  | k0 (x0 : Bool) (x1 : List Int) (x2 : List Bool)
noncomputable def L46_0_2 (a1 : GramD) (a2 : Int) (a6 : Nat) (v1 : Bool) (v2 : Int) (v3 : List Int) (v4 : List Bool) : Option (E_L46_0_2 ⊕ (Bool × Int × (List Int) × (List Bool))) :=
  (bif (decide (v2 < a2)) then ((getI a1.prods v2).bind fun x2 => ((F54 x2).bind fun x3 => (bif x3 then ((F69_2 x2 v3 v4 a6).bind fun r5 => match r5 with | .k0 x5_0 x5_1 x5_2 => (bif x5_0 then (some (.inr (true, (IntKind.wrap .i64 (v2 + 1)), x5_1, x5_2))) else (some (.inr (v1, (IntKind.wrap .i64 (v2 + 1)), x5_1, x5_2))))) else (some (.inr (v1, (IntKind.wrap .i64 (v2 + 1)), v3, v4)))))) else (some (.inl (.k0 v1 v3 v4))))
def L46_0_2_s (a1 : GramD) (a2 : Int) (a3 : Int) (a6 : Nat) (v1 : Bool) (v2 : Int) (v3 : List Int) (v4 : List Bool) : St := ⟨fr 27 ug [(0, (.ptr 5 0)), (1, (.fn 69 [(.ptr 6 0)])), (4, (vb v1)), (11, (.p (.lst 7 (a1.prods.map eProd)))), (12, (i6 a2)), (13, (i6 v2))], [bG a1, .cells 3 [(i6 a3)], bG a1, bI v3, bB v4, .cells 93 (ap (eGram a1) [(.sl 3 0 1 0 a6), (.sl 4 0 1 0 a6)]), .cells 89 [(.ptr 5 0)]]⟩
def L46_0_2_x (a1 : GramD) (a2 : Int) (a3 : Int) (a6 : Nat) (e : E_L46_0_2) (r : Option (Out × St)) : Prop := match e with | .k0 x0 x1 x2 => ∃ g, r = some ((.brk 2), ⟨fr 27 g [(0, (.ptr 5 0)), (1, (.fn 69 [(.ptr 6 0)])), (4, (vb x0)), (11, (.p (.lst 7 (a1.prods.map eProd))))], [bG a1, .cells 3 [(i6 a3)], bG a1, bI x1, bB x2, .cells 93 (ap (eGram a1) [(.sl 3 0 1 0 a6), (.sl 4 0 1 0 a6)]), .cells 89 [(.ptr 5 0)]]⟩)
theorem L46_0_2_ok (a1 : GramD) (a2 : Int) (a3 : Int) (a6 : Nat) (v1 : Bool) (v2 : Int) (v3 : List Int) (v4 : List Bool) {r : E_L46_0_2 ⊕ (Bool × Int × (List Int) × (List Bool))} (h : L46_0_2 a1 a2 a6 v1 v2 v3 v4 = some r) : OkR (fun e => L46_0_2_x a1 a2 a3 a6 e (evH prg 7 [0, 1, 4, 11, 12, 13] ir46_l0 (L46_0_2_s a1 a2 a3 a6 v1 v2 v3 v4))) (fun s => evH prg 7 [0, 1, 4, 11, 12, 13] ir46_l0 (L46_0_2_s a1 a2 a3 a6 v1 v2 v3 v4) = evH prg 7 [0, 1, 4, 11, 12, 13] ir46_l0 (L46_0_2_s a1 a2 a3 a6 s.1 s.2.1 s.2.2.1 s.2.2.2)) r := by
 unfold L46_0_2 at h
 refine bi h (fun h1 h => ?_) fun h1 h => ?_
 ·
  refine bn h fun x2 h2 h => ?_
  refine bn h fun x3 h3 h => ?_
  refine bi h (fun h4 h => ?_) fun h4 h => ?_
  ·
   refine bn h fun r5 h5 h => ?_
   cases r5 with
   | k0 x5_0 x5_1 x5_2 =>
    refine bi h (fun h6 h => ?_) fun h6 h => ?_
    ·
     rw [← sj h]
     exact rnd (n := 30) [(14, .d true), (15, .v (.ro (eProd x2))), (18, .v (vb true)), (22, .r (vb true) [bG a1, .cells 3 [(i6 a3)], bG a1, bI x5_1, bB x5_2, .cells 93 (ap (eGram a1) [(.sl 3 0 1 0 a6), (.sl 4 0 1 0 a6)]), .cells 89 [(.ptr 5 0)], .row 48 6 0 (ra eSym []), bP x2, bP x2]), (6000, .d true)] (apc (cv h1) (apc (ig eProd 7 .i64 h2) (apc ((((F54_ok x2 h3).cp rfl _).trans (congrArg (fun z => some (vb z)) h4)) : CP prg 54 [(aP x2)] [bG a1, .cells 3 [(i6 a3)], bG a1, bI v3, bB v4, .cells 93 (ap (eGram a1) [(.sl 3 0 1 0 a6), (.sl 4 0 1 0 a6)]), .cells 89 [(.ptr 5 0)], .row 48 6 0 (ra eSym []), bP x2] = some (vb true)) (apc (((F69_2_ok x2 a1 a3 v3 v4 a6 h5).trans (congrArg (fun z => some (vb z, ([bG a1, .cells 3 [(i6 a3)], bG a1, bI x5_1, bB x5_2, .cells 93 (ap (eGram a1) [(.sl 3 0 1 0 a6), (.sl 4 0 1 0 a6)]), .cells 89 [(.ptr 5 0)], .row 48 6 0 (ra eSym []), bP x2, bP x2] : List AB))) h6)) : CS prg 69 [(aP x2), (.ptr 6 0)] [bG a1, .cells 3 [(i6 a3)], bG a1, bI v3, bB v4, .cells 93 (ap (eGram a1) [(.sl 3 0 1 0 a6), (.sl 4 0 1 0 a6)]), .cells 89 [(.ptr 5 0)], .row 48 6 0 (ra eSym []), bP x2] = some (vb true, [bG a1, .cells 3 [(i6 a3)], bG a1, bI x5_1, bB x5_2, .cells 93 (ap (eGram a1) [(.sl 3 0 1 0 a6), (.sl 4 0 1 0 a6)]), .cells 89 [(.ptr 5 0)], .row 48 6 0 (ra eSym []), bP x2, bP x2])) (apc ((okT_of rfl (abl_cons rfl (abl_cons rfl (abl_cons rfl (abl_cons abl_row (abl_cons abl_row (abl_cons rfl (abl_cons rfl rfl)))))))) : okT 7 [bG a1, .cells 3 [(i6 a3)], bG a1, bI x5_1, bB x5_2, .cells 93 (ap (eGram a1) [(.sl 3 0 1 0 a6), (.sl 4 0 1 0 a6)]), .cells 89 [(.ptr 5 0)], .row 48 6 0 (ra eSym []), bP x2, bP x2] = true) apn))))) (by kernel_rfl)
    ·
     rw [← sj h]
     exact rnd (n := 30) [(14, .d true), (15, .v (.ro (eProd x2))), (18, .v (vb true)), (22, .r (vb false) [bG a1, .cells 3 [(i6 a3)], bG a1, bI x5_1, bB x5_2, .cells 93 (ap (eGram a1) [(.sl 3 0 1 0 a6), (.sl 4 0 1 0 a6)]), .cells 89 [(.ptr 5 0)], .row 48 6 0 (ra eSym []), bP x2, bP x2]), (6000, .d true)] (apc (cv h1) (apc (ig eProd 7 .i64 h2) (apc ((((F54_ok x2 h3).cp rfl _).trans (congrArg (fun z => some (vb z)) h4)) : CP prg 54 [(aP x2)] [bG a1, .cells 3 [(i6 a3)], bG a1, bI v3, bB v4, .cells 93 (ap (eGram a1) [(.sl 3 0 1 0 a6), (.sl 4 0 1 0 a6)]), .cells 89 [(.ptr 5 0)], .row 48 6 0 (ra eSym []), bP x2] = some (vb true)) (apc (((F69_2_ok x2 a1 a3 v3 v4 a6 h5).trans (congrArg (fun z => some (vb z, ([bG a1, .cells 3 [(i6 a3)], bG a1, bI x5_1, bB x5_2, .cells 93 (ap (eGram a1) [(.sl 3 0 1 0 a6), (.sl 4 0 1 0 a6)]), .cells 89 [(.ptr 5 0)], .row 48 6 0 (ra eSym []), bP x2, bP x2] : List AB))) h6)) : CS prg 69 [(aP x2), (.ptr 6 0)] [bG a1, .cells 3 [(i6 a3)], bG a1, bI v3, bB v4, .cells 93 (ap (eGram a1) [(.sl 3 0 1 0 a6), (.sl 4 0 1 0 a6)]), .cells 89 [(.ptr 5 0)], .row 48 6 0 (ra eSym []), bP x2] = some (vb false, [bG a1, .cells 3 [(i6 a3)], bG a1, bI x5_1, bB x5_2, .cells 93 (ap (eGram a1) [(.sl 3 0 1 0 a6), (.sl 4 0 1 0 a6)]), .cells 89 [(.ptr 5 0)], .row 48 6 0 (ra eSym []), bP x2, bP x2])) (apc ((okT_of rfl (abl_cons rfl (abl_cons rfl (abl_cons rfl (abl_cons abl_row (abl_cons abl_row (abl_cons rfl (abl_cons rfl rfl)))))))) : okT 7 [bG a1, .cells 3 [(i6 a3)], bG a1, bI x5_1, bB x5_2, .cells 93 (ap (eGram a1) [(.sl 3 0 1 0 a6), (.sl 4 0 1 0 a6)]), .cells 89 [(.ptr 5 0)], .row 48 6 0 (ra eSym []), bP x2, bP x2] = true) apn))))) (by kernel_rfl)
  ·
   rw [← sj h]
   exact rnd (n := 30) [(14, .d true), (15, .v (.ro (eProd x2))), (18, .v (vb false)), (6000, .d true)] (apc (cv h1) (apc (ig eProd 7 .i64 h2) (apc ((((F54_ok x2 h3).cp rfl _).trans (congrArg (fun z => some (vb z)) h4)) : CP prg 54 [(aP x2)] [bG a1, .cells 3 [(i6 a3)], bG a1, bI v3, bB v4, .cells 93 (ap (eGram a1) [(.sl 3 0 1 0 a6), (.sl 4 0 1 0 a6)]), .cells 89 [(.ptr 5 0)], .row 48 6 0 (ra eSym []), bP x2] = some (vb false)) (apc ((okT_of rfl (abl_cons rfl (abl_cons rfl (abl_cons rfl (abl_cons abl_row (abl_cons abl_row (abl_cons rfl (abl_cons rfl rfl)))))))) : okT 7 [bG a1, .cells 3 [(i6 a3)], bG a1, bI v3, bB v4, .cells 93 (ap (eGram a1) [(.sl 3 0 1 0 a6), (.sl 4 0 1 0 a6)]), .cells 89 [(.ptr 5 0)], .row 48 6 0 (ra eSym []), bP x2] = true) apn)))) (by kernel_rfl)
 ·
  rw [← sj h]
  exact xbrk (n := 30) [(14, .d false), (6000, .d true)] (apc (cv h1) apn) (by kernel_rfl)
theorem L46_0_2_run (a1 : GramD) (a2 : Int) (a3 : Int) (a6 : Nat) (s0 : Bool × Int × (List Int) × (List Bool)) (e : E_L46_0_2) (h : runL (fun s => L46_0_2 a1 a2 a6 s.1 s.2.1 s.2.2.1 s.2.2.2) s0 = some e) : L46_0_2_x a1 a2 a3 a6 e (evH prg 7 [0, 1, 4, 11, 12, 13] ir46_l0 (L46_0_2_s a1 a2 a3 a6 s0.1 s0.2.1 s0.2.2.1 s0.2.2.2)) := by
  have q := @loop_sound' (Bool × Int × (List Int) × (List Bool)) E_L46_0_2 (fun s => L46_0_2 a1 a2 a6 s.1 s.2.1 s.2.2.1 s.2.2.2) (fun s => evH prg 7 [0, 1, 4, 11, 12, 13] ir46_l0 (L46_0_2_s a1 a2 a3 a6 s.1 s.2.1 s.2.2.1 s.2.2.2)) (L46_0_2_x a1 a2 a3 a6) (fun s r h => L46_0_2_ok a1 a2 a3 a6 s.1 s.2.1 s.2.2.1 s.2.2.2 h) s0 e h
  exact q
inductive E_L46_1_2 where
  | k0 (x0 : List Int) (x1 : List Bool)
noncomputable def L46_1_2 (a1 : GramD) (a5 : Nat) (v1 : List Int) (v2 : List Bool) : Option (E_L46_1_2 ⊕ ((List Int) × (List Bool))) :=
  ((runL (fun s => L46_0_2 a1 (a1.prods.length : Int) a5 s.1 s.2.1 s.2.2.1 s.2.2.2) (false, 0, v1, v2)).bind fun r1 => match r1 with | .k0 x1_0 x1_1 x1_2 => (bif x1_0 then (some (.inr (x1_1, x1_2))) else (some (.inl (.k0 x1_1 x1_2)))))
def L46_1_2_s (a1 : GramD) (a2 : Int) (a5 : Nat) (v1 : List Int) (v2 : List Bool) : St := ⟨fr 27 ug [(0, (.ptr 5 0)), (1, (.fn 69 [(.ptr 6 0)]))], [bG a1, .cells 3 [(i6 a2)], bG a1, bI v1, bB v2, .cells 93 (ap (eGram a1) [(.sl 3 0 1 0 a5), (.sl 4 0 1 0 a5)]), .cells 89 [(.ptr 5 0)]]⟩
def L46_1_2_x (a1 : GramD) (a2 : Int) (a5 : Nat) (e : E_L46_1_2) (r : Option (Out × St)) : Prop := match e with | .k0 x0 x1 => ∃ g, r = some ((.brk 0), ⟨fr 27 g [], [bG a1, .cells 3 [(i6 a2)], bG a1, bI x0, bB x1, .cells 93 (ap (eGram a1) [(.sl 3 0 1 0 a5), (.sl 4 0 1 0 a5)]), .cells 89 [(.ptr 5 0)]]⟩)
theorem L46_1_2_ok (a1 : GramD) (a2 : Int) (a5 : Nat) (v1 : List Int) (v2 : List Bool) {r : E_L46_1_2 ⊕ ((List Int) × (List Bool))} (h : L46_1_2 a1 a5 v1 v2 = some r) : OkR (fun e => L46_1_2_x a1 a2 a5 e (evH prg 7 [0, 1] ir46_l1 (L46_1_2_s a1 a2 a5 v1 v2))) (fun s => evH prg 7 [0, 1] ir46_l1 (L46_1_2_s a1 a2 a5 v1 v2) = evH prg 7 [0, 1] ir46_l1 (L46_1_2_s a1 a2 a5 s.1 s.2)) r := by
 unfold L46_1_2 at h
 refine bn h fun r1 h1 h => ?_
 cases r1 with
 | k0 x1_0 x1_1 x1_2 =>
  obtain ⟨g1, e1⟩ := L46_0_2_run a1 (a1.prods.length : Int) a2 a5 (false, 0, v1, v2) _ h1
  refine bi h (fun h2 h => ?_) fun h2 h => ?_
  ·
   rw [← sj h]
   exact rnd (n := 30) [(12, .v (i6 (a1.prods.length : Int))), (2002, .l (.brk 2) ⟨fr 27 g1 [(0, (.ptr 5 0)), (1, (.fn 69 [(.ptr 6 0)])), (4, (vb x1_0)), (11, (.p (.lst 7 (a1.prods.map eProd))))], [bG a1, .cells 3 [(i6 a2)], bG a1, bI x1_1, bB x1_2, .cells 93 (ap (eGram a1) [(.sl 3 0 1 0 a5), (.sl 4 0 1 0 a5)]), .cells 89 [(.ptr 5 0)]]⟩), (25, .d true), (6000, .d true)] (apc (lg a1.prods eProd 7) (apc ((okT_of rfl (abl_cons rfl (abl_cons rfl (abl_cons rfl (abl_cons abl_row (abl_cons abl_row (abl_cons rfl (abl_cons rfl rfl)))))))) : okT 7 [bG a1, .cells 3 [(i6 a2)], bG a1, bI v1, bB v2, .cells 93 (ap (eGram a1) [(.sl 3 0 1 0 a5), (.sl 4 0 1 0 a5)]), .cells 89 [(.ptr 5 0)]] = true) (apc (e1 : evH prg 7 [0, 1, 4, 11, 12, 13] ir46_l0 (L46_0_2_s a1 (a1.prods.length : Int) a2 a5 false 0 v1 v2) = some ((.brk 2), ⟨fr 27 g1 [(0, (.ptr 5 0)), (1, (.fn 69 [(.ptr 6 0)])), (4, (vb x1_0)), (11, (.p (.lst 7 (a1.prods.map eProd))))], [bG a1, .cells 3 [(i6 a2)], bG a1, bI x1_1, bB x1_2, .cells 93 (ap (eGram a1) [(.sl 3 0 1 0 a5), (.sl 4 0 1 0 a5)]), .cells 89 [(.ptr 5 0)]]⟩)) (apc (cv h2) (apc ((okT_of rfl (abl_cons rfl (abl_cons rfl (abl_cons rfl (abl_cons abl_row (abl_cons abl_row (abl_cons rfl (abl_cons rfl rfl)))))))) : okT 7 [bG a1, .cells 3 [(i6 a2)], bG a1, bI x1_1, bB x1_2, .cells 93 (ap (eGram a1) [(.sl 3 0 1 0 a5), (.sl 4 0 1 0 a5)]), .cells 89 [(.ptr 5 0)]] = true) apn))))) (by kernel_rfl)
  ·
   rw [← sj h]
   exact xbrk (n := 30) [(12, .v (i6 (a1.prods.length : Int))), (2002, .l (.brk 2) ⟨fr 27 g1 [(0, (.ptr 5 0)), (1, (.fn 69 [(.ptr 6 0)])), (4, (vb x1_0)), (11, (.p (.lst 7 (a1.prods.map eProd))))], [bG a1, .cells 3 [(i6 a2)], bG a1, bI x1_1, bB x1_2, .cells 93 (ap (eGram a1) [(.sl 3 0 1 0 a5), (.sl 4 0 1 0 a5)]), .cells 89 [(.ptr 5 0)]]⟩), (25, .d false), (6000, .d true)] (apc (lg a1.prods eProd 7) (apc ((okT_of rfl (abl_cons rfl (abl_cons rfl (abl_cons rfl (abl_cons abl_row (abl_cons abl_row (abl_cons rfl (abl_cons rfl rfl)))))))) : okT 7 [bG a1, .cells 3 [(i6 a2)], bG a1, bI v1, bB v2, .cells 93 (ap (eGram a1) [(.sl 3 0 1 0 a5), (.sl 4 0 1 0 a5)]), .cells 89 [(.ptr 5 0)]] = true) (apc (e1 : evH prg 7 [0, 1, 4, 11, 12, 13] ir46_l0 (L46_0_2_s a1 (a1.prods.length : Int) a2 a5 false 0 v1 v2) = some ((.brk 2), ⟨fr 27 g1 [(0, (.ptr 5 0)), (1, (.fn 69 [(.ptr 6 0)])), (4, (vb x1_0)), (11, (.p (.lst 7 (a1.prods.map eProd))))], [bG a1, .cells 3 [(i6 a2)], bG a1, bI x1_1, bB x1_2, .cells 93 (ap (eGram a1) [(.sl 3 0 1 0 a5), (.sl 4 0 1 0 a5)]), .cells 89 [(.ptr 5 0)]]⟩)) (apc (cv h2) apn)))) (by kernel_rfl)
theorem L46_1_2_run (a1 : GramD) (a2 : Int) (a5 : Nat) (s0 : (List Int) × (List Bool)) (e : E_L46_1_2) (h : runL (fun s => L46_1_2 a1 a5 s.1 s.2) s0 = some e) : L46_1_2_x a1 a2 a5 e (evH prg 7 [0, 1] ir46_l1 (L46_1_2_s a1 a2 a5 s0.1 s0.2)) := by
  have q := @loop_sound' ((List Int) × (List Bool)) E_L46_1_2 (fun s => L46_1_2 a1 a5 s.1 s.2) (fun s => evH prg 7 [0, 1] ir46_l1 (L46_1_2_s a1 a2 a5 s.1 s.2)) (L46_1_2_x a1 a2 a5) (fun s r h => L46_1_2_ok a1 a2 a5 s.1 s.2 h) s0 e h
  exact q
inductive R_F46_2 where
  | k0 (x0 : List Int) (x1 : List Bool)
noncomputable def F46_2 (a1 : GramD) (a3 : List Int) (a4 : List Bool) (a5 : Nat) : Option R_F46_2 :=
  ((runL (fun s => L46_1_2 a1 a5 s.1 s.2) (a3, a4)).bind fun r1 => match r1 with | .k0 x1_0 x1_1 => (some (.k0 x1_0 x1_1)))
def F46_2_v (a1 : GramD) (a2 : Int) (a3 : List Int) (a4 : List Bool) (a5 : Nat) (r : R_F46_2) : AV := match r with | .k0 x0 x1 => (.tup [])
def F46_2_h (a1 : GramD) (a2 : Int) (a3 : List Int) (a4 : List Bool) (a5 : Nat) (r : R_F46_2) : List AB := match r with | .k0 x0 x1 => [bG a1, .cells 3 [(i6 a2)], bG a1, bI x0, bB x1, .cells 93 (ap (eGram a1) [(.sl 3 0 1 0 a5), (.sl 4 0 1 0 a5)]), .cells 89 [(.ptr 5 0)]]
theorem F46_2_ok (a1 : GramD) (a2 : Int) (a3 : List Int) (a4 : List Bool) (a5 : Nat) {r : R_F46_2} (h : F46_2 a1 a3 a4 a5 = some r) : CS prg 46 [(.ptr 5 0), (.fn 69 [(.ptr 6 0)])] [bG a1, .cells 3 [(i6 a2)], bG a1, bI a3, bB a4, .cells 93 (ap (eGram a1) [(.sl 3 0 1 0 a5), (.sl 4 0 1 0 a5)]), .cells 89 [(.ptr 5 0)]] = some (F46_2_v a1 a2 a3 a4 a5 r, F46_2_h a1 a2 a3 a4 a5 r) := by
 unfold F46_2 at h
 refine bn h fun r1 h1 h => ?_
 cases r1 with
 | k0 x1_0 x1_1 =>
  obtain ⟨g1, e1⟩ := L46_1_2_run a1 a2 a5 (a3, a4) _ h1
  rw [← sj h]
  exact fcs (n := 30) [(2000, .l (.brk 0) ⟨fr 27 g1 [], [bG a1, .cells 3 [(i6 a2)], bG a1, bI x1_0, bB x1_1, .cells 93 (ap (eGram a1) [(.sl 3 0 1 0 a5), (.sl 4 0 1 0 a5)]), .cells 89 [(.ptr 5 0)]]⟩), (6000, .d true)] (apc ((okT_of rfl (abl_cons rfl (abl_cons rfl (abl_cons rfl (abl_cons abl_row (abl_cons abl_row (abl_cons rfl (abl_cons rfl rfl)))))))) : okT 7 [bG a1, .cells 3 [(i6 a2)], bG a1, bI a3, bB a4, .cells 93 (ap (eGram a1) [(.sl 3 0 1 0 a5), (.sl 4 0 1 0 a5)]), .cells 89 [(.ptr 5 0)]] = true) (apc (e1 : evH prg 7 [0, 1] ir46_l1 (L46_1_2_s a1 a2 a5 a3 a4) = some ((.brk 0), ⟨fr 27 g1 [], [bG a1, .cells 3 [(i6 a2)], bG a1, bI x1_0, bB x1_1, .cells 93 (ap (eGram a1) [(.sl 3 0 1 0 a5), (.sl 4 0 1 0 a5)]), .cells 89 [(.ptr 5 0)]]⟩)) apn)) (by kernel_rfl)
inductive R_F45_2 where
  | k0 (x0 : Int)
  | k1 (x0 : List Int) (x1 : List Bool)
noncomputable def F45_2 (a1 : GramD) : Option R_F45_2 :=
  ((F29 a1).bind fun x1 => (bif (x1 != 0) then (some (.k0 x1)) else (bif (mkOk (a1.sorts.length : Int) 8) then (bif (mkOk (a1.sorts.length : Int) 1) then ((runL (fun s => L45_0_2 (((Int.toNat (a1.sorts.length : Int)) : Nat) : Int) (Int.toNat (a1.sorts.length : Int)) s.1 s.2) (0, (List.replicate (Int.toNat (a1.sorts.length : Int)) 0))).bind fun r5 => match r5 with | .k0 x5_0 => ((F46_2 a1 x5_0 (List.replicate (Int.toNat (a1.sorts.length : Int)) false) (Int.toNat (a1.sorts.length : Int))).bind fun r6 => match r6 with | .k0 x6_0 x6_1 => (some (.k1 x6_0 x6_1)))) else none) else none)))
def F45_2_v (a1 : GramD) (a2 : Int) (r : R_F45_2) : AV := match r with | .k0 x0 => (.tup [(.p (.val (.pointer .none))), (i6 x0)]) | .k1 x0 x1 => (.tup [(.ptr 5 0), (i6 0)])
def F45_2_h (a1 : GramD) (a2 : Int) (r : R_F45_2) : List AB := match r with | .k0 x0 => [bG a1, .cells 3 [(i6 a2)], bG a1] | .k1 x0 x1 => [bG a1, .cells 3 [(i6 a2)], bG a1, bI x0, bB x1, .cells 93 (ap (eGram a1) [(.sl 3 0 1 0 (Int.toNat (a1.sorts.length : Int))), (.sl 4 0 1 0 (Int.toNat (a1.sorts.length : Int)))]), .cells 89 [(.ptr 5 0)]]
theorem F45_2_ok (a1 : GramD) (a2 : Int) {r : R_F45_2} (h : F45_2 a1 = some r) : CS prg 45 [(aG a1)] [bG a1, .cells 3 [(i6 a2)]] = some (F45_2_v a1 a2 r, F45_2_h a1 a2 r) := by
 unfold F45_2 at h
 refine bn h fun x1 h1 h => ?_
 refine bi h (fun h2 h => ?_) fun h2 h => ?_
 ·
  rw [← sj h]
  exact fcs (n := 30) [(8, .v (i6 x1)), (10, .d true)] (apc (((F29_ok a1 h1).cp rfl _) : CP prg 29 [(aG a1)] [bG a1, .cells 3 [(i6 a2)], bG a1] = some (i6 x1)) (apc (cv h2) apn)) (by kernel_rfl)
 ·
  refine bi h (fun h3 h => ?_) fun h3 h => ?_
  ·
   refine bi h (fun h4 h => ?_) fun h4 h => ?_
   ·
    refine bn h fun r5 h5 h => ?_
    cases r5 with
    | k0 x5_0 =>
     obtain ⟨g5, e5⟩ := L45_0_2_run (((Int.toNat (a1.sorts.length : Int)) : Nat) : Int) a1 a2 (List.replicate (Int.toNat (a1.sorts.length : Int)) false) (Int.toNat (a1.sorts.length : Int)) (0, (List.replicate (Int.toNat (a1.sorts.length : Int)) 0)) _ h5
     refine bn h fun r6 h6 h => ?_
     cases r6 with
     | k0 x6_0 x6_1 =>
      rw [← sj h]
      exact fcs (n := 30) [(8, .v (i6 x1)), (10, .d false), (15, .v (i6 (a1.sorts.length : Int))), (16, .r (.sl 3 0 1 0 (Int.toNat (a1.sorts.length : Int))) [.row 3 1 0 (ra eI64 (List.replicate (Int.toNat (a1.sorts.length : Int)) 0))]), (19, .v (i6 (a1.sorts.length : Int))), (20, .r (.sl 4 0 1 0 (Int.toNat (a1.sorts.length : Int))) [.row 4 1 0 (ra eBool (List.replicate (Int.toNat (a1.sorts.length : Int)) false))]), (2000, .l (.brk 0) ⟨fr 42 g5 [(5, (.ptr 6 0))], [bG a1, .cells 3 [(i6 a2)], bG a1, bI x5_0, .row 4 1 0 (ra eBool (List.replicate (Int.toNat (a1.sorts.length : Int)) false)), .cells 93 (ap (eGram a1) [(.sl 3 0 1 0 (Int.toNat (a1.sorts.length : Int))), (.sl 4 0 1 0 (Int.toNat (a1.sorts.length : Int)))]), .cells 89 [(.ptr 5 0)]]⟩), (40, .r (.tup []) [bG a1, .cells 3 [(i6 a2)], bG a1, bI x6_0, bB x6_1, .cells 93 (ap (eGram a1) [(.sl 3 0 1 0 (Int.toNat (a1.sorts.length : Int))), (.sl 4 0 1 0 (Int.toNat (a1.sorts.length : Int)))]), .cells 89 [(.ptr 5 0)]]), (6000, .d true)] (apc (((F29_ok a1 h1).cp rfl _) : CP prg 29 [(aG a1)] [bG a1, .cells 3 [(i6 a2)], bG a1] = some (i6 x1)) (apc (cv h2) (apc (lg a1.sorts eStr 1) (apc ((mk_row (e := eI64) (z := 0) h3 rfl) : mkA 3 1 8 [.val (.int .i64 0)] (i6 (a1.sorts.length : Int)) (i6 (a1.sorts.length : Int)) 3 = some ((.sl 3 0 1 0 (Int.toNat (a1.sorts.length : Int))), .row 3 1 0 (ra eI64 (List.replicate (Int.toNat (a1.sorts.length : Int)) 0)))) (apc (lg a1.sorts eStr 1) (apc ((mk_row (e := eBool) (z := false) h4 rfl) : mkA 4 1 1 [.val (.bool false)] (i6 (a1.sorts.length : Int)) (i6 (a1.sorts.length : Int)) 4 = some ((.sl 4 0 1 0 (Int.toNat (a1.sorts.length : Int))), .row 4 1 0 (ra eBool (List.replicate (Int.toNat (a1.sorts.length : Int)) false)))) (apc ((okT_of rfl (abl_cons rfl (abl_cons rfl (abl_cons rfl (abl_cons abl_row (abl_cons abl_row (abl_cons rfl (abl_cons rfl rfl)))))))) : okT 7 [bG a1, .cells 3 [(i6 a2)], bG a1, .row 3 1 0 (ra eI64 (List.replicate (Int.toNat (a1.sorts.length : Int)) 0)), .row 4 1 0 (ra eBool (List.replicate (Int.toNat (a1.sorts.length : Int)) false)), .cells 93 (ap (eGram a1) [(.sl 3 0 1 0 (Int.toNat (a1.sorts.length : Int))), (.sl 4 0 1 0 (Int.toNat (a1.sorts.length : Int)))]), .cells 89 [(.ptr 5 0)]] = true) (apc (e5 : evH prg 7 [5, 27, 28] ir45_l0 (L45_0_2_s (((Int.toNat (a1.sorts.length : Int)) : Nat) : Int) a1 a2 (List.replicate (Int.toNat (a1.sorts.length : Int)) false) (Int.toNat (a1.sorts.length : Int)) 0 (List.replicate (Int.toNat (a1.sorts.length : Int)) 0)) = some ((.brk 0), ⟨fr 42 g5 [(5, (.ptr 6 0))], [bG a1, .cells 3 [(i6 a2)], bG a1, bI x5_0, .row 4 1 0 (ra eBool (List.replicate (Int.toNat (a1.sorts.length : Int)) false)), .cells 93 (ap (eGram a1) [(.sl 3 0 1 0 (Int.toNat (a1.sorts.length : Int))), (.sl 4 0 1 0 (Int.toNat (a1.sorts.length : Int)))]), .cells 89 [(.ptr 5 0)]]⟩)) (apc ((F46_2_ok a1 a2 x5_0 (List.replicate (Int.toNat (a1.sorts.length : Int)) false) (Int.toNat (a1.sorts.length : Int)) h6) : CS prg 46 [(.ptr 5 0), (.fn 69 [(.ptr 6 0)])] [bG a1, .cells 3 [(i6 a2)], bG a1, bI x5_0, .row 4 1 0 (ra eBool (List.replicate (Int.toNat (a1.sorts.length : Int)) false)), .cells 93 (ap (eGram a1) [(.sl 3 0 1 0 (Int.toNat (a1.sorts.length : Int))), (.sl 4 0 1 0 (Int.toNat (a1.sorts.length : Int)))]), .cells 89 [(.ptr 5 0)]] = some ((.tup []), [bG a1, .cells 3 [(i6 a2)], bG a1, bI x6_0, bB x6_1, .cells 93 (ap (eGram a1) [(.sl 3 0 1 0 (Int.toNat (a1.sorts.length : Int))), (.sl 4 0 1 0 (Int.toNat (a1.sorts.length : Int)))]), .cells 89 [(.ptr 5 0)]])) apn))))))))) (by kernel_rfl)
   ·
    cases h
  ·
   cases h
inductive E_L47_0 where
  | k0 (x0 : Int) (x1 : Int) (x2 : Int) (x3 : Int) (x4 : Int) (x5 : Int)
  | k1 (x0 : ByteArray)
noncomputable def L47_0 (a1 : ProdD) (a2 : Int) (a8 : List (Int × ByteArray)) (v1 : ByteArray) (v2 : Int) : Option (E_L47_0 ⊕ (ByteArray × Int)) :=
  (bif (decide (v2 < a2)) then ((getI a1.right v2).bind fun x2 => (bif (x2.kind == 0) then ((F49 x2).bind fun r4 => match r4 with | .k0 x4_0 x4_1 => (bif (decide (v1.size + (⟨([UInt8.ofNat (Int.toNat x4_0)] : List UInt8).toArray⟩ : ByteArray).size ≤ 9223372036854775807)) then (some (.inr ((v1 ++ (⟨([UInt8.ofNat (Int.toNat x4_0)] : List UInt8).toArray⟩ : ByteArray)), (IntKind.wrap .i64 (v2 + 1))))) else none)) else (bif (mhas a8 x2.sort) then (bif (decide (v1.size + (mget (⟨([] : List UInt8).toArray⟩ : ByteArray) a8 x2.sort).size ≤ 9223372036854775807)) then (some (.inr ((v1 ++ (mget (⟨([] : List UInt8).toArray⟩ : ByteArray) a8 x2.sort)), (IntKind.wrap .i64 (v2 + 1))))) else none) else (some (.inl (.k0 x2.kind x2.a x2.b x2.c x2.d x2.sort)))))) else (some (.inl (.k1 v1))))
def L47_0_s (a1 : ProdD) (a2 : Int) (a3 : GramD) (a4 : Int) (a5 : List Int) (a6 : List Bool) (a7 : Nat) (a8 : List (Int × ByteArray)) (v1 : ByteArray) (v2 : Int) : St := ⟨fr 95 ug [(3, (.ptr 9 0)), (4, (.ptr 12 0)), (7, (vs v1)), (45, (.p (.lst 6 (a1.right.map eSym)))), (46, (i6 a2)), (47, (i6 v2))], [bG a3, .cells 3 [(i6 a4)], bG a3, bI a5, bB a6, .cells 93 (ap (eGram a3) [(.sl 3 0 1 0 a7), (.sl 4 0 1 0 a7)]), .cells 89 [(.ptr 5 0)], .cells 89 [(.ptr 5 0)], mIS a8, .cells 94 [(.mp 8)], .row 48 6 0 (ra eSym []), bP a1, bP a1]⟩
def L47_0_x (a1 : ProdD) (a2 : Int) (a3 : GramD) (a4 : Int) (a5 : List Int) (a6 : List Bool) (a7 : Nat) (a8 : List (Int × ByteArray)) (e : E_L47_0) (r : Option (Out × St)) : Prop := match e with | .k0 x0 x1 x2 x3 x4 x5 => ∃ g, r = some (.ret, ⟨fr 95 g [(5, (vb false))], [bG a3, .cells 3 [(i6 a4)], bG a3, bI a5, bB a6, .cells 93 (ap (eGram a3) [(.sl 3 0 1 0 a7), (.sl 4 0 1 0 a7)]), .cells 89 [(.ptr 5 0)], .cells 89 [(.ptr 5 0)], mIS a8, .cells 94 [(.mp 8)], .row 48 6 0 (ra eSym []), bP a1, bP a1, .cells 48 [(i6 x0), (vi .u64 x1), (vi .u64 x2), (vi .u64 x3), (vi .u64 x4), (i6 x5)]]⟩) | .k1 x0 => ∃ g, r = some ((.brk 0), ⟨fr 95 g [(3, (.ptr 9 0)), (4, (.ptr 12 0)), (7, (vs x0)), (45, (.p (.lst 6 (a1.right.map eSym))))], [bG a3, .cells 3 [(i6 a4)], bG a3, bI a5, bB a6, .cells 93 (ap (eGram a3) [(.sl 3 0 1 0 a7), (.sl 4 0 1 0 a7)]), .cells 89 [(.ptr 5 0)], .cells 89 [(.ptr 5 0)], mIS a8, .cells 94 [(.mp 8)], .row 48 6 0 (ra eSym []), bP a1, bP a1]⟩)
theorem L47_0_ok (a1 : ProdD) (a2 : Int) (a3 : GramD) (a4 : Int) (a5 : List Int) (a6 : List Bool) (a7 : Nat) (a8 : List (Int × ByteArray)) (v1 : ByteArray) (v2 : Int) {r : E_L47_0 ⊕ (ByteArray × Int)} (h : L47_0 a1 a2 a8 v1 v2 = some r) : OkR (fun e => L47_0_x a1 a2 a3 a4 a5 a6 a7 a8 e (evH prg 13 [3, 4, 7, 45, 46, 47] ir47_l0 (L47_0_s a1 a2 a3 a4 a5 a6 a7 a8 v1 v2))) (fun s => evH prg 13 [3, 4, 7, 45, 46, 47] ir47_l0 (L47_0_s a1 a2 a3 a4 a5 a6 a7 a8 v1 v2) = evH prg 13 [3, 4, 7, 45, 46, 47] ir47_l0 (L47_0_s a1 a2 a3 a4 a5 a6 a7 a8 s.1 s.2)) r := by
 unfold L47_0 at h
 refine bi h (fun h1 h => ?_) fun h1 h => ?_
 ·
  refine bn h fun x2 h2 h => ?_
  refine bi h (fun h3 h => ?_) fun h3 h => ?_
  ·
   refine bn h fun r4 h4 h => ?_
   cases r4 with
   | k0 x4_0 x4_1 =>
    refine bi h (fun h5 h => ?_) fun h5 h => ?_
    ·
     rw [← sj h]
     exact rnd (n := 30) [(48, .d true), (49, .v (.ro (eSym x2))), (53, .d true), (57, .v (.tup [(vi .u8 x4_0), (vb x4_1)])), (64, .v (vs (v1 ++ (⟨([UInt8.ofNat (Int.toNat x4_0)] : List UInt8).toArray⟩ : ByteArray)))), (6000, .d true)] (apc (cv h1) (apc (ig eSym 6 .i64 h2) (apc (cv h3) (apc (((F49_ok x2 h4).cp rfl _) : CP prg 49 [(.agg ((List.take 4 (List.drop 1 (eSym x2))).map .p))] [bG a3, .cells 3 [(i6 a4)], bG a3, bI a5, bB a6, .cells 93 (ap (eGram a3) [(.sl 3 0 1 0 a7), (.sl 4 0 1 0 a7)]), .cells 89 [(.ptr 5 0)], .cells 89 [(.ptr 5 0)], mIS a8, .cells 94 [(.mp 8)], .row 48 6 0 (ra eSym []), bP a1, bP a1, .cells 48 ((eSym x2).map .p)] = some (.tup [(vi .u8 x4_0), (vb x4_1)])) (apc ((st_add h5) : binA .add (vs v1) (vs (⟨([UInt8.ofNat (Int.toNat x4_0)] : List UInt8).toArray⟩ : ByteArray)) = some (vs (v1 ++ (⟨([UInt8.ofNat (Int.toNat x4_0)] : List UInt8).toArray⟩ : ByteArray)))) (apc ((okT_of rfl (abl_cons rfl (abl_cons rfl (abl_cons rfl (abl_cons abl_row (abl_cons abl_row (abl_cons rfl (abl_cons rfl (abl_cons rfl (abl_cons (abl_map (fun _ => rfl) (fun _ => rfl)) (abl_cons rfl (abl_cons abl_row (abl_cons rfl (abl_cons rfl rfl)))))))))))))) : okT 13 [bG a3, .cells 3 [(i6 a4)], bG a3, bI a5, bB a6, .cells 93 (ap (eGram a3) [(.sl 3 0 1 0 a7), (.sl 4 0 1 0 a7)]), .cells 89 [(.ptr 5 0)], .cells 89 [(.ptr 5 0)], mIS a8, .cells 94 [(.mp 8)], .row 48 6 0 (ra eSym []), bP a1, bP a1, .cells 48 ((eSym x2).map .p), .row 5 1 0 [[(vi .u8 x4_0)]]] = true) apn)))))) (by kernel_rfl)
    ·
     cases h
  ·
   refine bi h (fun h4 h => ?_) fun h4 h => ?_
   ·
    refine bi h (fun h5 h => ?_) fun h5 h => ?_
    ·
     rw [← sj h]
     exact rnd (n := 30) [(48, .d true), (49, .v (.ro (eSym x2))), (53, .d false), (69, .v (.tup [(vs (mget b0 a8 x2.sort)), (vb (mhas a8 x2.sort))])), (71, .d true), (76, .v (vs (v1 ++ (mget b0 a8 x2.sort)))), (6000, .d true)] (apc (cv h1) (apc (ig eSym 6 .i64 h2) (apc (cv h3) (apc ((lk_row2 key_int (es := a8) (k := x2.sort) (z := b0) rfl rfl) : lkA [bG a3, .cells 3 [(i6 a4)], bG a3, bI a5, bB a6, .cells 93 (ap (eGram a3) [(.sl 3 0 1 0 a7), (.sl 4 0 1 0 a7)]), .cells 89 [(.ptr 5 0)], .cells 89 [(.ptr 5 0)], mIS a8, .cells 94 [(.mp 8)], .row 48 6 0 (ra eSym []), bP a1, bP a1, .cells 48 ((eSym x2).map .p)] [1] .false .false [(.val (.string ⟨([] : List UInt8).toArray⟩))] .true (.mp 8) (i6 x2.sort) = some (.tup [(vs (mget b0 a8 x2.sort)), (vb (mhas a8 x2.sort))])) (apc (cv h4) (apc ((st_add h5) : binA .add (vs v1) (vs (mget b0 a8 x2.sort)) = some (vs (v1 ++ (mget b0 a8 x2.sort)))) (apc ((okT_of rfl (abl_cons rfl (abl_cons rfl (abl_cons rfl (abl_cons abl_row (abl_cons abl_row (abl_cons rfl (abl_cons rfl (abl_cons rfl (abl_cons (abl_map (fun _ => rfl) (fun _ => rfl)) (abl_cons rfl (abl_cons abl_row (abl_cons rfl (abl_cons rfl rfl)))))))))))))) : okT 13 [bG a3, .cells 3 [(i6 a4)], bG a3, bI a5, bB a6, .cells 93 (ap (eGram a3) [(.sl 3 0 1 0 a7), (.sl 4 0 1 0 a7)]), .cells 89 [(.ptr 5 0)], .cells 89 [(.ptr 5 0)], mIS a8, .cells 94 [(.mp 8)], .row 48 6 0 (ra eSym []), bP a1, bP a1, .cells 48 ((eSym x2).map .p)] = true) apn))))))) (by kernel_rfl)
    ·
     cases h
   ·
    rw [← sj h]
    exact xret (n := 30) [(48, .d true), (49, .v (.ro (eSym x2))), (53, .d false), (69, .v (.tup [(vs (mget b0 a8 x2.sort)), (vb (mhas a8 x2.sort))])), (71, .d false), (6000, .d true)] (apc (cv h1) (apc (ig eSym 6 .i64 h2) (apc (cv h3) (apc ((lk_row2 key_int (es := a8) (k := x2.sort) (z := b0) rfl rfl) : lkA [bG a3, .cells 3 [(i6 a4)], bG a3, bI a5, bB a6, .cells 93 (ap (eGram a3) [(.sl 3 0 1 0 a7), (.sl 4 0 1 0 a7)]), .cells 89 [(.ptr 5 0)], .cells 89 [(.ptr 5 0)], mIS a8, .cells 94 [(.mp 8)], .row 48 6 0 (ra eSym []), bP a1, bP a1, .cells 48 ((eSym x2).map .p)] [1] .false .false [(.val (.string ⟨([] : List UInt8).toArray⟩))] .true (.mp 8) (i6 x2.sort) = some (.tup [(vs (mget b0 a8 x2.sort)), (vb (mhas a8 x2.sort))])) (apc (cv h4) apn))))) (by kernel_rfl)
 ·
  rw [← sj h]
  exact xbrk (n := 30) [(48, .d false), (6000, .d true)] (apc (cv h1) apn) (by kernel_rfl)
theorem L47_0_run (a1 : ProdD) (a2 : Int) (a3 : GramD) (a4 : Int) (a5 : List Int) (a6 : List Bool) (a7 : Nat) (a8 : List (Int × ByteArray)) (s0 : ByteArray × Int) (e : E_L47_0) (h : runL (fun s => L47_0 a1 a2 a8 s.1 s.2) s0 = some e) : L47_0_x a1 a2 a3 a4 a5 a6 a7 a8 e (evH prg 13 [3, 4, 7, 45, 46, 47] ir47_l0 (L47_0_s a1 a2 a3 a4 a5 a6 a7 a8 s0.1 s0.2)) := by
  have q := @loop_sound' (ByteArray × Int) E_L47_0 (fun s => L47_0 a1 a2 a8 s.1 s.2) (fun s => evH prg 13 [3, 4, 7, 45, 46, 47] ir47_l0 (L47_0_s a1 a2 a3 a4 a5 a6 a7 a8 s.1 s.2)) (L47_0_x a1 a2 a3 a4 a5 a6 a7 a8) (fun s r h => L47_0_ok a1 a2 a3 a4 a5 a6 a7 a8 s.1 s.2 h) s0 e h
  exact q
inductive R_F47 where
  | k0 (x0 : Bool) (x1 : List (Int × ByteArray))
  | k1 (x0 : Int) (x1 : Int) (x2 : Int) (x3 : Int) (x4 : Int) (x5 : Int)
noncomputable def F47 (a1 : ProdD) (a3 : Int) (a4 : List Int) (a5 : List Bool) (a6 : Nat) (a7 : List (Int × ByteArray)) : Option R_F47 :=
  (bif (decide (a6 ≤ a4.length)) then (bif (decide (a6 ≤ a5.length)) then ((F48 (a4.take a6) a1).bind fun x3 => (bif (decide (x3 < 0)) then (some (.k0 false a7)) else ((ixN a6 a3).bind fun x5 => ((a4[x5]?).bind fun x6 => (bif (decide (x3 > x6)) then (some (.k0 false a7)) else ((ixN a6 a1.left).bind fun x8 => ((a4[x8]?).bind fun x9 => (bif (x3 != x9) then (some (.k0 false a7)) else ((runL (fun s => L47_0 a1 (a1.right.length : Int) a7 s.1 s.2) ((⟨([] : List UInt8).toArray⟩ : ByteArray), 0)).bind fun r11 => match r11 with | .k0 x11_0 x11_1 x11_2 x11_3 x11_4 x11_5 => (some (.k1 x11_0 x11_1 x11_2 x11_3 x11_4 x11_5)) | .k1 x11_0 => (bif (mhas a7 a1.left) then (bif (Op.bytesLess (mget (⟨([] : List UInt8).toArray⟩ : ByteArray) a7 a1.left).toList x11_0.toList || (mget (⟨([] : List UInt8).toArray⟩ : ByteArray) a7 a1.left).toList == x11_0.toList) then (some (.k0 false a7)) else (some (.k0 true (mput a1.left x11_0 a7)))) else (some (.k0 true (mput a1.left x11_0 a7))))))))))))) else none) else none)
def F47_v (a1 : ProdD) (a2 : GramD) (a3 : Int) (a4 : List Int) (a5 : List Bool) (a6 : Nat) (a7 : List (Int × ByteArray)) (r : R_F47) : AV := match r with | .k0 x0 x1 => (vb x0) | .k1 x0 x1 x2 x3 x4 x5 => (vb false)
def F47_h (a1 : ProdD) (a2 : GramD) (a3 : Int) (a4 : List Int) (a5 : List Bool) (a6 : Nat) (a7 : List (Int × ByteArray)) (r : R_F47) : List AB := match r with | .k0 x0 x1 => [bG a2, .cells 3 [(i6 a3)], bG a2, bI a4, bB a5, .cells 93 (ap (eGram a2) [(.sl 3 0 1 0 a6), (.sl 4 0 1 0 a6)]), .cells 89 [(.ptr 5 0)], .cells 89 [(.ptr 5 0)], mIS x1, .cells 94 [(.mp 8)], .row 48 6 0 (ra eSym []), bP a1, bP a1] | .k1 x0 x1 x2 x3 x4 x5 => [bG a2, .cells 3 [(i6 a3)], bG a2, bI a4, bB a5, .cells 93 (ap (eGram a2) [(.sl 3 0 1 0 a6), (.sl 4 0 1 0 a6)]), .cells 89 [(.ptr 5 0)], .cells 89 [(.ptr 5 0)], mIS a7, .cells 94 [(.mp 8)], .row 48 6 0 (ra eSym []), bP a1, bP a1, .cells 48 [(i6 x0), (vi .u64 x1), (vi .u64 x2), (vi .u64 x3), (vi .u64 x4), (i6 x5)]]
theorem F47_ok (a1 : ProdD) (a2 : GramD) (a3 : Int) (a4 : List Int) (a5 : List Bool) (a6 : Nat) (a7 : List (Int × ByteArray)) {r : R_F47} (h : F47 a1 a3 a4 a5 a6 a7 = some r) : CS prg 47 [(aP a1), (.ptr 7 0), (.ptr 1 0), (.ptr 9 0)] [bG a2, .cells 3 [(i6 a3)], bG a2, bI a4, bB a5, .cells 93 (ap (eGram a2) [(.sl 3 0 1 0 a6), (.sl 4 0 1 0 a6)]), .cells 89 [(.ptr 5 0)], .cells 89 [(.ptr 5 0)], mIS a7, .cells 94 [(.mp 8)], .row 48 6 0 (ra eSym []), bP a1] = some (F47_v a1 a2 a3 a4 a5 a6 a7 r, F47_h a1 a2 a3 a4 a5 a6 a7 r) := by
 unfold F47 at h
 refine bi h (fun h1 h => ?_) fun h1 h => ?_
 ·
  refine bi h (fun h2 h => ?_) fun h2 h => ?_
  ·
   refine bn h fun x3 h3 h => ?_
   refine bi h (fun h4 h => ?_) fun h4 h => ?_
   ·
    rw [← sj h]
    exact fcs (n := 30) [(18, .v (i6 x3)), (20, .d true)] (apc (((F48_ok a2 (a4.take a6) (a5.take a6) a1 h3).own rfl (purAs_cons (purA_ptr rfl (mapO_con rfl (mapO_con rfl (mapO_con rfl (mapO_con rfl (mapO_con rfl (mapO_con (purP_sl rfl h1) (mapO_con (purP_sl rfl h2) rfl)))))))) (purAs_cons rfl purAs_nil)) rfl) : CP prg 48 [(.ptr 5 0), (aP a1)] [bG a2, .cells 3 [(i6 a3)], bG a2, bI a4, bB a5, .cells 93 (ap (eGram a2) [(.sl 3 0 1 0 a6), (.sl 4 0 1 0 a6)]), .cells 89 [(.ptr 5 0)], .cells 89 [(.ptr 5 0)], mIS a7, .cells 94 [(.mp 8)], .row 48 6 0 (ra eSym []), bP a1, bP a1] = some (i6 x3)) (apc (cv h4) apn)) (by kernel_rfl)
   ·
    refine bn h fun x5 h5 h => ?_
    refine bn h fun x6 h6 h => ?_
    refine bi h (fun h7 h => ?_) fun h7 h => ?_
    ·
     rw [← sj h]
     exact fcs (n := 30) [(18, .v (i6 x3)), (20, .d false), (28, .v (.rp 3 0 1 x5 0)), (29, .v (i6 x6)), (30, .d true)] (apc (((F48_ok a2 (a4.take a6) (a5.take a6) a1 h3).own rfl (purAs_cons (purA_ptr rfl (mapO_con rfl (mapO_con rfl (mapO_con rfl (mapO_con rfl (mapO_con rfl (mapO_con (purP_sl rfl h1) (mapO_con (purP_sl rfl h2) rfl)))))))) (purAs_cons rfl purAs_nil)) rfl) : CP prg 48 [(.ptr 5 0), (aP a1)] [bG a2, .cells 3 [(i6 a3)], bG a2, bI a4, bB a5, .cells 93 (ap (eGram a2) [(.sl 3 0 1 0 a6), (.sl 4 0 1 0 a6)]), .cells 89 [(.ptr 5 0)], .cells 89 [(.ptr 5 0)], mIS a7, .cells 94 [(.mp 8)], .row 48 6 0 (ra eSym []), bP a1, bP a1] = some (i6 x3)) (apc (cv h4) (apc ((idx_sl h5) : idxA 1 (.sl 3 0 1 0 a6) (i6 a3) = some (.rp 3 0 1 x5 0)) (apc ((ld_row rfl h6 rfl) : ldA [bG a2, .cells 3 [(i6 a3)], bG a2, bI a4, bB a5, .cells 93 (ap (eGram a2) [(.sl 3 0 1 0 a6), (.sl 4 0 1 0 a6)]), .cells 89 [(.ptr 5 0)], .cells 89 [(.ptr 5 0)], mIS a7, .cells 94 [(.mp 8)], .row 48 6 0 (ra eSym []), bP a1, bP a1] .false 1 (.rp 3 0 1 x5 0) = some (i6 x6)) (apc (cv h7) apn))))) (by kernel_rfl)
    ·
     refine bn h fun x8 h8 h => ?_
     refine bn h fun x9 h9 h => ?_
     refine bi h (fun h10 h => ?_) fun h10 h => ?_
     ·
      rw [← sj h]
      exact fcs (n := 30) [(18, .v (i6 x3)), (20, .d false), (28, .v (.rp 3 0 1 x5 0)), (29, .v (i6 x6)), (30, .d false), (40, .v (.rp 3 0 1 x8 0)), (41, .v (i6 x9)), (42, .d true)] (apc (((F48_ok a2 (a4.take a6) (a5.take a6) a1 h3).own rfl (purAs_cons (purA_ptr rfl (mapO_con rfl (mapO_con rfl (mapO_con rfl (mapO_con rfl (mapO_con rfl (mapO_con (purP_sl rfl h1) (mapO_con (purP_sl rfl h2) rfl)))))))) (purAs_cons rfl purAs_nil)) rfl) : CP prg 48 [(.ptr 5 0), (aP a1)] [bG a2, .cells 3 [(i6 a3)], bG a2, bI a4, bB a5, .cells 93 (ap (eGram a2) [(.sl 3 0 1 0 a6), (.sl 4 0 1 0 a6)]), .cells 89 [(.ptr 5 0)], .cells 89 [(.ptr 5 0)], mIS a7, .cells 94 [(.mp 8)], .row 48 6 0 (ra eSym []), bP a1, bP a1] = some (i6 x3)) (apc (cv h4) (apc ((idx_sl h5) : idxA 1 (.sl 3 0 1 0 a6) (i6 a3) = some (.rp 3 0 1 x5 0)) (apc ((ld_row rfl h6 rfl) : ldA [bG a2, .cells 3 [(i6 a3)], bG a2, bI a4, bB a5, .cells 93 (ap (eGram a2) [(.sl 3 0 1 0 a6), (.sl 4 0 1 0 a6)]), .cells 89 [(.ptr 5 0)], .cells 89 [(.ptr 5 0)], mIS a7, .cells 94 [(.mp 8)], .row 48 6 0 (ra eSym []), bP a1, bP a1] .false 1 (.rp 3 0 1 x5 0) = some (i6 x6)) (apc (cv h7) (apc ((idx_sl h8) : idxA 1 (.sl 3 0 1 0 a6) (i6 a1.left) = some (.rp 3 0 1 x8 0)) (apc ((ld_row rfl h9 rfl) : ldA [bG a2, .cells 3 [(i6 a3)], bG a2, bI a4, bB a5, .cells 93 (ap (eGram a2) [(.sl 3 0 1 0 a6), (.sl 4 0 1 0 a6)]), .cells 89 [(.ptr 5 0)], .cells 89 [(.ptr 5 0)], mIS a7, .cells 94 [(.mp 8)], .row 48 6 0 (ra eSym []), bP a1, bP a1] .false 1 (.rp 3 0 1 x8 0) = some (i6 x9)) (apc (cv h10) apn)))))))) (by kernel_rfl)
     ·
      refine bn h fun r11 h11 h => ?_
      cases r11 with
      | k0 x11_0 x11_1 x11_2 x11_3 x11_4 x11_5 =>
       obtain ⟨g11, e11⟩ := L47_0_run a1 (a1.right.length : Int) a2 a3 a4 a5 a6 a7 (b0, 0) _ h11
       rw [← sj h]
       exact fcs (n := 30) [(18, .v (i6 x3)), (20, .d false), (28, .v (.rp 3 0 1 x5 0)), (29, .v (i6 x6)), (30, .d false), (40, .v (.rp 3 0 1 x8 0)), (41, .v (i6 x9)), (42, .d false), (46, .v (i6 (a1.right.length : Int))), (2000, .l .ret ⟨fr 95 g11 [(5, (vb false))], [bG a2, .cells 3 [(i6 a3)], bG a2, bI a4, bB a5, .cells 93 (ap (eGram a2) [(.sl 3 0 1 0 a6), (.sl 4 0 1 0 a6)]), .cells 89 [(.ptr 5 0)], .cells 89 [(.ptr 5 0)], mIS a7, .cells 94 [(.mp 8)], .row 48 6 0 (ra eSym []), bP a1, bP a1, .cells 48 [(i6 x11_0), (vi .u64 x11_1), (vi .u64 x11_2), (vi .u64 x11_3), (vi .u64 x11_4), (i6 x11_5)]]⟩), (6000, .d true)] (apc (((F48_ok a2 (a4.take a6) (a5.take a6) a1 h3).own rfl (purAs_cons (purA_ptr rfl (mapO_con rfl (mapO_con rfl (mapO_con rfl (mapO_con rfl (mapO_con rfl (mapO_con (purP_sl rfl h1) (mapO_con (purP_sl rfl h2) rfl)))))))) (purAs_cons rfl purAs_nil)) rfl) : CP prg 48 [(.ptr 5 0), (aP a1)] [bG a2, .cells 3 [(i6 a3)], bG a2, bI a4, bB a5, .cells 93 (ap (eGram a2) [(.sl 3 0 1 0 a6), (.sl 4 0 1 0 a6)]), .cells 89 [(.ptr 5 0)], .cells 89 [(.ptr 5 0)], mIS a7, .cells 94 [(.mp 8)], .row 48 6 0 (ra eSym []), bP a1, bP a1] = some (i6 x3)) (apc (cv h4) (apc ((idx_sl h5) : idxA 1 (.sl 3 0 1 0 a6) (i6 a3) = some (.rp 3 0 1 x5 0)) (apc ((ld_row rfl h6 rfl) : ldA [bG a2, .cells 3 [(i6 a3)], bG a2, bI a4, bB a5, .cells 93 (ap (eGram a2) [(.sl 3 0 1 0 a6), (.sl 4 0 1 0 a6)]), .cells 89 [(.ptr 5 0)], .cells 89 [(.ptr 5 0)], mIS a7, .cells 94 [(.mp 8)], .row 48 6 0 (ra eSym []), bP a1, bP a1] .false 1 (.rp 3 0 1 x5 0) = some (i6 x6)) (apc (cv h7) (apc ((idx_sl h8) : idxA 1 (.sl 3 0 1 0 a6) (i6 a1.left) = some (.rp 3 0 1 x8 0)) (apc ((ld_row rfl h9 rfl) : ldA [bG a2, .cells 3 [(i6 a3)], bG a2, bI a4, bB a5, .cells 93 (ap (eGram a2) [(.sl 3 0 1 0 a6), (.sl 4 0 1 0 a6)]), .cells 89 [(.ptr 5 0)], .cells 89 [(.ptr 5 0)], mIS a7, .cells 94 [(.mp 8)], .row 48 6 0 (ra eSym []), bP a1, bP a1] .false 1 (.rp 3 0 1 x8 0) = some (i6 x9)) (apc (cv h10) (apc (lg a1.right eSym 6) (apc ((okT_of rfl (abl_cons rfl (abl_cons rfl (abl_cons rfl (abl_cons abl_row (abl_cons abl_row (abl_cons rfl (abl_cons rfl (abl_cons rfl (abl_cons (abl_map (fun _ => rfl) (fun _ => rfl)) (abl_cons rfl (abl_cons abl_row (abl_cons rfl (abl_cons rfl rfl)))))))))))))) : okT 13 [bG a2, .cells 3 [(i6 a3)], bG a2, bI a4, bB a5, .cells 93 (ap (eGram a2) [(.sl 3 0 1 0 a6), (.sl 4 0 1 0 a6)]), .cells 89 [(.ptr 5 0)], .cells 89 [(.ptr 5 0)], mIS a7, .cells 94 [(.mp 8)], .row 48 6 0 (ra eSym []), bP a1, bP a1] = true) (apc (e11 : evH prg 13 [3, 4, 7, 45, 46, 47] ir47_l0 (L47_0_s a1 (a1.right.length : Int) a2 a3 a4 a5 a6 a7 b0 0) = some (.ret, ⟨fr 95 g11 [(5, (vb false))], [bG a2, .cells 3 [(i6 a3)], bG a2, bI a4, bB a5, .cells 93 (ap (eGram a2) [(.sl 3 0 1 0 a6), (.sl 4 0 1 0 a6)]), .cells 89 [(.ptr 5 0)], .cells 89 [(.ptr 5 0)], mIS a7, .cells 94 [(.mp 8)], .row 48 6 0 (ra eSym []), bP a1, bP a1, .cells 48 [(i6 x11_0), (vi .u64 x11_1), (vi .u64 x11_2), (vi .u64 x11_3), (vi .u64 x11_4), (i6 x11_5)]]⟩)) apn))))))))))) (by kernel_rfl)
      | k1 x11_0 =>
       obtain ⟨g11, e11⟩ := L47_0_run a1 (a1.right.length : Int) a2 a3 a4 a5 a6 a7 (b0, 0) _ h11
       refine bi h (fun h12 h => ?_) fun h12 h => ?_
       ·
        refine bi h (fun h13 h => ?_) fun h13 h => ?_
        ·
         rw [← sj h]
         exact fcs (n := 30) [(18, .v (i6 x3)), (20, .d false), (28, .v (.rp 3 0 1 x5 0)), (29, .v (i6 x6)), (30, .d false), (40, .v (.rp 3 0 1 x8 0)), (41, .v (i6 x9)), (42, .d false), (46, .v (i6 (a1.right.length : Int))), (2000, .l (.brk 0) ⟨fr 95 g11 [(3, (.ptr 9 0)), (4, (.ptr 12 0)), (7, (vs x11_0)), (45, (.p (.lst 6 (a1.right.map eSym))))], [bG a2, .cells 3 [(i6 a3)], bG a2, bI a4, bB a5, .cells 93 (ap (eGram a2) [(.sl 3 0 1 0 a6), (.sl 4 0 1 0 a6)]), .cells 89 [(.ptr 5 0)], .cells 89 [(.ptr 5 0)], mIS a7, .cells 94 [(.mp 8)], .row 48 6 0 (ra eSym []), bP a1, bP a1]⟩), (82, .v (.tup [(vs (mget b0 a7 a1.left)), (vb (mhas a7 a1.left))])), (84, .d true), (89, .d true), (6000, .d true)] (apc (((F48_ok a2 (a4.take a6) (a5.take a6) a1 h3).own rfl (purAs_cons (purA_ptr rfl (mapO_con rfl (mapO_con rfl (mapO_con rfl (mapO_con rfl (mapO_con rfl (mapO_con (purP_sl rfl h1) (mapO_con (purP_sl rfl h2) rfl)))))))) (purAs_cons rfl purAs_nil)) rfl) : CP prg 48 [(.ptr 5 0), (aP a1)] [bG a2, .cells 3 [(i6 a3)], bG a2, bI a4, bB a5, .cells 93 (ap (eGram a2) [(.sl 3 0 1 0 a6), (.sl 4 0 1 0 a6)]), .cells 89 [(.ptr 5 0)], .cells 89 [(.ptr 5 0)], mIS a7, .cells 94 [(.mp 8)], .row 48 6 0 (ra eSym []), bP a1, bP a1] = some (i6 x3)) (apc (cv h4) (apc ((idx_sl h5) : idxA 1 (.sl 3 0 1 0 a6) (i6 a3) = some (.rp 3 0 1 x5 0)) (apc ((ld_row rfl h6 rfl) : ldA [bG a2, .cells 3 [(i6 a3)], bG a2, bI a4, bB a5, .cells 93 (ap (eGram a2) [(.sl 3 0 1 0 a6), (.sl 4 0 1 0 a6)]), .cells 89 [(.ptr 5 0)], .cells 89 [(.ptr 5 0)], mIS a7, .cells 94 [(.mp 8)], .row 48 6 0 (ra eSym []), bP a1, bP a1] .false 1 (.rp 3 0 1 x5 0) = some (i6 x6)) (apc (cv h7) (apc ((idx_sl h8) : idxA 1 (.sl 3 0 1 0 a6) (i6 a1.left) = some (.rp 3 0 1 x8 0)) (apc ((ld_row rfl h9 rfl) : ldA [bG a2, .cells 3 [(i6 a3)], bG a2, bI a4, bB a5, .cells 93 (ap (eGram a2) [(.sl 3 0 1 0 a6), (.sl 4 0 1 0 a6)]), .cells 89 [(.ptr 5 0)], .cells 89 [(.ptr 5 0)], mIS a7, .cells 94 [(.mp 8)], .row 48 6 0 (ra eSym []), bP a1, bP a1] .false 1 (.rp 3 0 1 x8 0) = some (i6 x9)) (apc (cv h10) (apc (lg a1.right eSym 6) (apc ((okT_of rfl (abl_cons rfl (abl_cons rfl (abl_cons rfl (abl_cons abl_row (abl_cons abl_row (abl_cons rfl (abl_cons rfl (abl_cons rfl (abl_cons (abl_map (fun _ => rfl) (fun _ => rfl)) (abl_cons rfl (abl_cons abl_row (abl_cons rfl (abl_cons rfl rfl)))))))))))))) : okT 13 [bG a2, .cells 3 [(i6 a3)], bG a2, bI a4, bB a5, .cells 93 (ap (eGram a2) [(.sl 3 0 1 0 a6), (.sl 4 0 1 0 a6)]), .cells 89 [(.ptr 5 0)], .cells 89 [(.ptr 5 0)], mIS a7, .cells 94 [(.mp 8)], .row 48 6 0 (ra eSym []), bP a1, bP a1] = true) (apc (e11 : evH prg 13 [3, 4, 7, 45, 46, 47] ir47_l0 (L47_0_s a1 (a1.right.length : Int) a2 a3 a4 a5 a6 a7 b0 0) = some ((.brk 0), ⟨fr 95 g11 [(3, (.ptr 9 0)), (4, (.ptr 12 0)), (7, (vs x11_0)), (45, (.p (.lst 6 (a1.right.map eSym))))], [bG a2, .cells 3 [(i6 a3)], bG a2, bI a4, bB a5, .cells 93 (ap (eGram a2) [(.sl 3 0 1 0 a6), (.sl 4 0 1 0 a6)]), .cells 89 [(.ptr 5 0)], .cells 89 [(.ptr 5 0)], mIS a7, .cells 94 [(.mp 8)], .row 48 6 0 (ra eSym []), bP a1, bP a1]⟩)) (apc ((lk_row2 key_int (es := a7) (k := a1.left) (z := b0) rfl rfl) : lkA [bG a2, .cells 3 [(i6 a3)], bG a2, bI a4, bB a5, .cells 93 (ap (eGram a2) [(.sl 3 0 1 0 a6), (.sl 4 0 1 0 a6)]), .cells 89 [(.ptr 5 0)], .cells 89 [(.ptr 5 0)], mIS a7, .cells 94 [(.mp 8)], .row 48 6 0 (ra eSym []), bP a1, bP a1] [1] .false .false [(.val (.string ⟨([] : List UInt8).toArray⟩))] .true (.mp 8) (i6 a1.left) = some (.tup [(vs (mget b0 a7 a1.left)), (vb (mhas a7 a1.left))])) (apc (cv h12) (apc (cv h13) apn)))))))))))))) (by kernel_rfl)
        ·
         rw [← sj h]
         exact fcs (n := 30) [(18, .v (i6 x3)), (20, .d false), (28, .v (.rp 3 0 1 x5 0)), (29, .v (i6 x6)), (30, .d false), (40, .v (.rp 3 0 1 x8 0)), (41, .v (i6 x9)), (42, .d false), (46, .v (i6 (a1.right.length : Int))), (2000, .l (.brk 0) ⟨fr 95 g11 [(3, (.ptr 9 0)), (4, (.ptr 12 0)), (7, (vs x11_0)), (45, (.p (.lst 6 (a1.right.map eSym))))], [bG a2, .cells 3 [(i6 a3)], bG a2, bI a4, bB a5, .cells 93 (ap (eGram a2) [(.sl 3 0 1 0 a6), (.sl 4 0 1 0 a6)]), .cells 89 [(.ptr 5 0)], .cells 89 [(.ptr 5 0)], mIS a7, .cells 94 [(.mp 8)], .row 48 6 0 (ra eSym []), bP a1, bP a1]⟩), (82, .v (.tup [(vs (mget b0 a7 a1.left)), (vb (mhas a7 a1.left))])), (84, .d true), (89, .d false), (7094, .r ud [bG a2, .cells 3 [(i6 a3)], bG a2, bI a4, bB a5, .cells 93 (ap (eGram a2) [(.sl 3 0 1 0 a6), (.sl 4 0 1 0 a6)]), .cells 89 [(.ptr 5 0)], .cells 89 [(.ptr 5 0)], .map (mrow (fun n => vi .i64 n) (fun s => vs s) (mput a1.left x11_0 a7)), .cells 94 [(.mp 8)], .row 48 6 0 (ra eSym []), bP a1, bP a1]), (6000, .d true)] (apc (((F48_ok a2 (a4.take a6) (a5.take a6) a1 h3).own rfl (purAs_cons (purA_ptr rfl (mapO_con rfl (mapO_con rfl (mapO_con rfl (mapO_con rfl (mapO_con rfl (mapO_con (purP_sl rfl h1) (mapO_con (purP_sl rfl h2) rfl)))))))) (purAs_cons rfl purAs_nil)) rfl) : CP prg 48 [(.ptr 5 0), (aP a1)] [bG a2, .cells 3 [(i6 a3)], bG a2, bI a4, bB a5, .cells 93 (ap (eGram a2) [(.sl 3 0 1 0 a6), (.sl 4 0 1 0 a6)]), .cells 89 [(.ptr 5 0)], .cells 89 [(.ptr 5 0)], mIS a7, .cells 94 [(.mp 8)], .row 48 6 0 (ra eSym []), bP a1, bP a1] = some (i6 x3)) (apc (cv h4) (apc ((idx_sl h5) : idxA 1 (.sl 3 0 1 0 a6) (i6 a3) = some (.rp 3 0 1 x5 0)) (apc ((ld_row rfl h6 rfl) : ldA [bG a2, .cells 3 [(i6 a3)], bG a2, bI a4, bB a5, .cells 93 (ap (eGram a2) [(.sl 3 0 1 0 a6), (.sl 4 0 1 0 a6)]), .cells 89 [(.ptr 5 0)], .cells 89 [(.ptr 5 0)], mIS a7, .cells 94 [(.mp 8)], .row 48 6 0 (ra eSym []), bP a1, bP a1] .false 1 (.rp 3 0 1 x5 0) = some (i6 x6)) (apc (cv h7) (apc ((idx_sl h8) : idxA 1 (.sl 3 0 1 0 a6) (i6 a1.left) = some (.rp 3 0 1 x8 0)) (apc ((ld_row rfl h9 rfl) : ldA [bG a2, .cells 3 [(i6 a3)], bG a2, bI a4, bB a5, .cells 93 (ap (eGram a2) [(.sl 3 0 1 0 a6), (.sl 4 0 1 0 a6)]), .cells 89 [(.ptr 5 0)], .cells 89 [(.ptr 5 0)], mIS a7, .cells 94 [(.mp 8)], .row 48 6 0 (ra eSym []), bP a1, bP a1] .false 1 (.rp 3 0 1 x8 0) = some (i6 x9)) (apc (cv h10) (apc (lg a1.right eSym 6) (apc ((okT_of rfl (abl_cons rfl (abl_cons rfl (abl_cons rfl (abl_cons abl_row (abl_cons abl_row (abl_cons rfl (abl_cons rfl (abl_cons rfl (abl_cons (abl_map (fun _ => rfl) (fun _ => rfl)) (abl_cons rfl (abl_cons abl_row (abl_cons rfl (abl_cons rfl rfl)))))))))))))) : okT 13 [bG a2, .cells 3 [(i6 a3)], bG a2, bI a4, bB a5, .cells 93 (ap (eGram a2) [(.sl 3 0 1 0 a6), (.sl 4 0 1 0 a6)]), .cells 89 [(.ptr 5 0)], .cells 89 [(.ptr 5 0)], mIS a7, .cells 94 [(.mp 8)], .row 48 6 0 (ra eSym []), bP a1, bP a1] = true) (apc (e11 : evH prg 13 [3, 4, 7, 45, 46, 47] ir47_l0 (L47_0_s a1 (a1.right.length : Int) a2 a3 a4 a5 a6 a7 b0 0) = some ((.brk 0), ⟨fr 95 g11 [(3, (.ptr 9 0)), (4, (.ptr 12 0)), (7, (vs x11_0)), (45, (.p (.lst 6 (a1.right.map eSym))))], [bG a2, .cells 3 [(i6 a3)], bG a2, bI a4, bB a5, .cells 93 (ap (eGram a2) [(.sl 3 0 1 0 a6), (.sl 4 0 1 0 a6)]), .cells 89 [(.ptr 5 0)], .cells 89 [(.ptr 5 0)], mIS a7, .cells 94 [(.mp 8)], .row 48 6 0 (ra eSym []), bP a1, bP a1]⟩)) (apc ((lk_row2 key_int (es := a7) (k := a1.left) (z := b0) rfl rfl) : lkA [bG a2, .cells 3 [(i6 a3)], bG a2, bI a4, bB a5, .cells 93 (ap (eGram a2) [(.sl 3 0 1 0 a6), (.sl 4 0 1 0 a6)]), .cells 89 [(.ptr 5 0)], .cells 89 [(.ptr 5 0)], mIS a7, .cells 94 [(.mp 8)], .row 48 6 0 (ra eSym []), bP a1, bP a1] [1] .false .false [(.val (.string ⟨([] : List UInt8).toArray⟩))] .true (.mp 8) (i6 a1.left) = some (.tup [(vs (mget b0 a7 a1.left)), (vb (mhas a7 a1.left))])) (apc (cv h12) (apc (cv h13) (apc (⟨up_row key_int (es := a7) (k := a1.left) (v := x11_0) rfl, rfl⟩ : upA [bG a2, .cells 3 [(i6 a3)], bG a2, bI a4, bB a5, .cells 93 (ap (eGram a2) [(.sl 3 0 1 0 a6), (.sl 4 0 1 0 a6)]), .cells 89 [(.ptr 5 0)], .cells 89 [(.ptr 5 0)], mIS a7, .cells 94 [(.mp 8)], .row 48 6 0 (ra eSym []), bP a1, bP a1] [1] .false (.mp 8) (i6 a1.left) (vs x11_0) = some [bG a2, .cells 3 [(i6 a3)], bG a2, bI a4, bB a5, .cells 93 (ap (eGram a2) [(.sl 3 0 1 0 a6), (.sl 4 0 1 0 a6)]), .cells 89 [(.ptr 5 0)], .cells 89 [(.ptr 5 0)], .map (mrow (fun n => vi .i64 n) (fun s => vs s) (mput a1.left x11_0 a7)), .cells 94 [(.mp 8)], .row 48 6 0 (ra eSym []), bP a1, bP a1] ∧ ud = ud) apn))))))))))))))) (by kernel_rfl)
       ·
        rw [← sj h]
        exact fcs (n := 30) [(18, .v (i6 x3)), (20, .d false), (28, .v (.rp 3 0 1 x5 0)), (29, .v (i6 x6)), (30, .d false), (40, .v (.rp 3 0 1 x8 0)), (41, .v (i6 x9)), (42, .d false), (46, .v (i6 (a1.right.length : Int))), (2000, .l (.brk 0) ⟨fr 95 g11 [(3, (.ptr 9 0)), (4, (.ptr 12 0)), (7, (vs x11_0)), (45, (.p (.lst 6 (a1.right.map eSym))))], [bG a2, .cells 3 [(i6 a3)], bG a2, bI a4, bB a5, .cells 93 (ap (eGram a2) [(.sl 3 0 1 0 a6), (.sl 4 0 1 0 a6)]), .cells 89 [(.ptr 5 0)], .cells 89 [(.ptr 5 0)], mIS a7, .cells 94 [(.mp 8)], .row 48 6 0 (ra eSym []), bP a1, bP a1]⟩), (82, .v (.tup [(vs (mget b0 a7 a1.left)), (vb (mhas a7 a1.left))])), (84, .d false), (7094, .r ud [bG a2, .cells 3 [(i6 a3)], bG a2, bI a4, bB a5, .cells 93 (ap (eGram a2) [(.sl 3 0 1 0 a6), (.sl 4 0 1 0 a6)]), .cells 89 [(.ptr 5 0)], .cells 89 [(.ptr 5 0)], .map (mrow (fun n => vi .i64 n) (fun s => vs s) (mput a1.left x11_0 a7)), .cells 94 [(.mp 8)], .row 48 6 0 (ra eSym []), bP a1, bP a1]), (6000, .d true)] (apc (((F48_ok a2 (a4.take a6) (a5.take a6) a1 h3).own rfl (purAs_cons (purA_ptr rfl (mapO_con rfl (mapO_con rfl (mapO_con rfl (mapO_con rfl (mapO_con rfl (mapO_con (purP_sl rfl h1) (mapO_con (purP_sl rfl h2) rfl)))))))) (purAs_cons rfl purAs_nil)) rfl) : CP prg 48 [(.ptr 5 0), (aP a1)] [bG a2, .cells 3 [(i6 a3)], bG a2, bI a4, bB a5, .cells 93 (ap (eGram a2) [(.sl 3 0 1 0 a6), (.sl 4 0 1 0 a6)]), .cells 89 [(.ptr 5 0)], .cells 89 [(.ptr 5 0)], mIS a7, .cells 94 [(.mp 8)], .row 48 6 0 (ra eSym []), bP a1, bP a1] = some (i6 x3)) (apc (cv h4) (apc ((idx_sl h5) : idxA 1 (.sl 3 0 1 0 a6) (i6 a3) = some (.rp 3 0 1 x5 0)) (apc ((ld_row rfl h6 rfl) : ldA [bG a2, .cells 3 [(i6 a3)], bG a2, bI a4, bB a5, .cells 93 (ap (eGram a2) [(.sl 3 0 1 0 a6), (.sl 4 0 1 0 a6)]), .cells 89 [(.ptr 5 0)], .cells 89 [(.ptr 5 0)], mIS a7, .cells 94 [(.mp 8)], .row 48 6 0 (ra eSym []), bP a1, bP a1] .false 1 (.rp 3 0 1 x5 0) = some (i6 x6)) (apc (cv h7) (apc ((idx_sl h8) : idxA 1 (.sl 3 0 1 0 a6) (i6 a1.left) = some (.rp 3 0 1 x8 0)) (apc ((ld_row rfl h9 rfl) : ldA [bG a2, .cells 3 [(i6 a3)], bG a2, bI a4, bB a5, .cells 93 (ap (eGram a2) [(.sl 3 0 1 0 a6), (.sl 4 0 1 0 a6)]), .cells 89 [(.ptr 5 0)], .cells 89 [(.ptr 5 0)], mIS a7, .cells 94 [(.mp 8)], .row 48 6 0 (ra eSym []), bP a1, bP a1] .false 1 (.rp 3 0 1 x8 0) = some (i6 x9)) (apc (cv h10) (apc (lg a1.right eSym 6) (apc ((okT_of rfl (abl_cons rfl (abl_cons rfl (abl_cons rfl (abl_cons abl_row (abl_cons abl_row (abl_cons rfl (abl_cons rfl (abl_cons rfl (abl_cons (abl_map (fun _ => rfl) (fun _ => rfl)) (abl_cons rfl (abl_cons abl_row (abl_cons rfl (abl_cons rfl rfl)))))))))))))) : okT 13 [bG a2, .cells 3 [(i6 a3)], bG a2, bI a4, bB a5, .cells 93 (ap (eGram a2) [(.sl 3 0 1 0 a6), (.sl 4 0 1 0 a6)]), .cells 89 [(.ptr 5 0)], .cells 89 [(.ptr 5 0)], mIS a7, .cells 94 [(.mp 8)], .row 48 6 0 (ra eSym []), bP a1, bP a1] = true) (apc (e11 : evH prg 13 [3, 4, 7, 45, 46, 47] ir47_l0 (L47_0_s a1 (a1.right.length : Int) a2 a3 a4 a5 a6 a7 b0 0) = some ((.brk 0), ⟨fr 95 g11 [(3, (.ptr 9 0)), (4, (.ptr 12 0)), (7, (vs x11_0)), (45, (.p (.lst 6 (a1.right.map eSym))))], [bG a2, .cells 3 [(i6 a3)], bG a2, bI a4, bB a5, .cells 93 (ap (eGram a2) [(.sl 3 0 1 0 a6), (.sl 4 0 1 0 a6)]), .cells 89 [(.ptr 5 0)], .cells 89 [(.ptr 5 0)], mIS a7, .cells 94 [(.mp 8)], .row 48 6 0 (ra eSym []), bP a1, bP a1]⟩)) (apc ((lk_row2 key_int (es := a7) (k := a1.left) (z := b0) rfl rfl) : lkA [bG a2, .cells 3 [(i6 a3)], bG a2, bI a4, bB a5, .cells 93 (ap (eGram a2) [(.sl 3 0 1 0 a6), (.sl 4 0 1 0 a6)]), .cells 89 [(.ptr 5 0)], .cells 89 [(.ptr 5 0)], mIS a7, .cells 94 [(.mp 8)], .row 48 6 0 (ra eSym []), bP a1, bP a1] [1] .false .false [(.val (.string ⟨([] : List UInt8).toArray⟩))] .true (.mp 8) (i6 a1.left) = some (.tup [(vs (mget b0 a7 a1.left)), (vb (mhas a7 a1.left))])) (apc (cv h12) (apc (⟨up_row key_int (es := a7) (k := a1.left) (v := x11_0) rfl, rfl⟩ : upA [bG a2, .cells 3 [(i6 a3)], bG a2, bI a4, bB a5, .cells 93 (ap (eGram a2) [(.sl 3 0 1 0 a6), (.sl 4 0 1 0 a6)]), .cells 89 [(.ptr 5 0)], .cells 89 [(.ptr 5 0)], mIS a7, .cells 94 [(.mp 8)], .row 48 6 0 (ra eSym []), bP a1, bP a1] [1] .false (.mp 8) (i6 a1.left) (vs x11_0) = some [bG a2, .cells 3 [(i6 a3)], bG a2, bI a4, bB a5, .cells 93 (ap (eGram a2) [(.sl 3 0 1 0 a6), (.sl 4 0 1 0 a6)]), .cells 89 [(.ptr 5 0)], .cells 89 [(.ptr 5 0)], .map (mrow (fun n => vi .i64 n) (fun s => vs s) (mput a1.left x11_0 a7)), .cells 94 [(.mp 8)], .row 48 6 0 (ra eSym []), bP a1, bP a1] ∧ ud = ud) apn)))))))))))))) (by kernel_rfl)
  ·
   cases h
 ·
  cases h
inductive E_L46_0_3 where
  | k0 (x0 : Bool) (x1 : List (Int × ByteArray))
noncomputable def L46_0_3 (a1 : GramD) (a2 : Int) (a3 : Int) (a4 : List Int) (a5 : List Bool) (a6 : Nat) (v1 : Bool) (v2 : Int) (v3 : List (Int × ByteArray)) : Option (E_L46_0_3 ⊕ (Bool × Int × (List (Int × ByteArray)))) :=
  (bif (decide (v2 < a2)) then ((getI a1.prods v2).bind fun x2 => ((F54 x2).bind fun x3 => (bif x3 then ((F47 x2 a3 a4 a5 a6 v3).bind fun r5 => match r5 with | .k0 x5_0 x5_1 => (bif x5_0 then (some (.inr (true, (IntKind.wrap .i64 (v2 + 1)), x5_1))) else (some (.inr (v1, (IntKind.wrap .i64 (v2 + 1)), x5_1)))) | .k1 x5_0 x5_1 x5_2 x5_3 x5_4 x5_5 => (some (.inr (v1, (IntKind.wrap .i64 (v2 + 1)), v3)))) else (some (.inr (v1, (IntKind.wrap .i64 (v2 + 1)), v3)))))) else (some (.inl (.k0 v1 v3))))
def L46_0_3_s (a1 : GramD) (a2 : Int) (a3 : Int) (a4 : List Int) (a5 : List Bool) (a6 : Nat) (v1 : Bool) (v2 : Int) (v3 : List (Int × ByteArray)) : St := ⟨fr 27 ug [(0, (.ptr 5 0)), (1, (.fn 47 [(.ptr 7 0), (.ptr 1 0), (.ptr 9 0)])), (4, (vb v1)), (11, (.p (.lst 7 (a1.prods.map eProd)))), (12, (i6 a2)), (13, (i6 v2))], [bG a1, .cells 3 [(i6 a3)], bG a1, bI a4, bB a5, .cells 93 (ap (eGram a1) [(.sl 3 0 1 0 a6), (.sl 4 0 1 0 a6)]), .cells 89 [(.ptr 5 0)], .cells 89 [(.ptr 5 0)], mIS v3, .cells 94 [(.mp 8)]]⟩
def L46_0_3_x (a1 : GramD) (a2 : Int) (a3 : Int) (a4 : List Int) (a5 : List Bool) (a6 : Nat) (e : E_L46_0_3) (r : Option (Out × St)) : Prop := match e with | .k0 x0 x1 => ∃ g, r = some ((.brk 2), ⟨fr 27 g [(0, (.ptr 5 0)), (1, (.fn 47 [(.ptr 7 0), (.ptr 1 0), (.ptr 9 0)])), (4, (vb x0)), (11, (.p (.lst 7 (a1.prods.map eProd))))], [bG a1, .cells 3 [(i6 a3)], bG a1, bI a4, bB a5, .cells 93 (ap (eGram a1) [(.sl 3 0 1 0 a6), (.sl 4 0 1 0 a6)]), .cells 89 [(.ptr 5 0)], .cells 89 [(.ptr 5 0)], mIS x1, .cells 94 [(.mp 8)]]⟩)
theorem L46_0_3_ok (a1 : GramD) (a2 : Int) (a3 : Int) (a4 : List Int) (a5 : List Bool) (a6 : Nat) (v1 : Bool) (v2 : Int) (v3 : List (Int × ByteArray)) {r : E_L46_0_3 ⊕ (Bool × Int × (List (Int × ByteArray)))} (h : L46_0_3 a1 a2 a3 a4 a5 a6 v1 v2 v3 = some r) : OkR (fun e => L46_0_3_x a1 a2 a3 a4 a5 a6 e (evH prg 10 [0, 1, 4, 11, 12, 13] ir46_l0 (L46_0_3_s a1 a2 a3 a4 a5 a6 v1 v2 v3))) (fun s => evH prg 10 [0, 1, 4, 11, 12, 13] ir46_l0 (L46_0_3_s a1 a2 a3 a4 a5 a6 v1 v2 v3) = evH prg 10 [0, 1, 4, 11, 12, 13] ir46_l0 (L46_0_3_s a1 a2 a3 a4 a5 a6 s.1 s.2.1 s.2.2)) r := by
 unfold L46_0_3 at h
 refine bi h (fun h1 h => ?_) fun h1 h => ?_
 ·
  refine bn h fun x2 h2 h => ?_
  refine bn h fun x3 h3 h => ?_
  refine bi h (fun h4 h => ?_) fun h4 h => ?_
  ·
   refine bn h fun r5 h5 h => ?_
   cases r5 with
   | k0 x5_0 x5_1 =>
    refine bi h (fun h6 h => ?_) fun h6 h => ?_
    ·
     rw [← sj h]
     exact rnd (n := 30) [(14, .d true), (15, .v (.ro (eProd x2))), (18, .v (vb true)), (22, .r (vb true) [bG a1, .cells 3 [(i6 a3)], bG a1, bI a4, bB a5, .cells 93 (ap (eGram a1) [(.sl 3 0 1 0 a6), (.sl 4 0 1 0 a6)]), .cells 89 [(.ptr 5 0)], .cells 89 [(.ptr 5 0)], mIS x5_1, .cells 94 [(.mp 8)], .row 48 6 0 (ra eSym []), bP x2, bP x2]), (6000, .d true)] (apc (cv h1) (apc (ig eProd 7 .i64 h2) (apc ((((F54_ok x2 h3).cp rfl _).trans (congrArg (fun z => some (vb z)) h4)) : CP prg 54 [(aP x2)] [bG a1, .cells 3 [(i6 a3)], bG a1, bI a4, bB a5, .cells 93 (ap (eGram a1) [(.sl 3 0 1 0 a6), (.sl 4 0 1 0 a6)]), .cells 89 [(.ptr 5 0)], .cells 89 [(.ptr 5 0)], mIS v3, .cells 94 [(.mp 8)], .row 48 6 0 (ra eSym []), bP x2] = some (vb true)) (apc (((F47_ok x2 a1 a3 a4 a5 a6 v3 h5).trans (congrArg (fun z => some (vb z, ([bG a1, .cells 3 [(i6 a3)], bG a1, bI a4, bB a5, .cells 93 (ap (eGram a1) [(.sl 3 0 1 0 a6), (.sl 4 0 1 0 a6)]), .cells 89 [(.ptr 5 0)], .cells 89 [(.ptr 5 0)], mIS x5_1, .cells 94 [(.mp 8)], .row 48 6 0 (ra eSym []), bP x2, bP x2] : List AB))) h6)) : CS prg 47 [(aP x2), (.ptr 7 0), (.ptr 1 0), (.ptr 9 0)] [bG a1, .cells 3 [(i6 a3)], bG a1, bI a4, bB a5, .cells 93 (ap (eGram a1) [(.sl 3 0 1 0 a6), (.sl 4 0 1 0 a6)]), .cells 89 [(.ptr 5 0)], .cells 89 [(.ptr 5 0)], mIS v3, .cells 94 [(.mp 8)], .row 48 6 0 (ra eSym []), bP x2] = some (vb true, [bG a1, .cells 3 [(i6 a3)], bG a1, bI a4, bB a5, .cells 93 (ap (eGram a1) [(.sl 3 0 1 0 a6), (.sl 4 0 1 0 a6)]), .cells 89 [(.ptr 5 0)], .cells 89 [(.ptr 5 0)], mIS x5_1, .cells 94 [(.mp 8)], .row 48 6 0 (ra eSym []), bP x2, bP x2])) (apc ((okT_of rfl (abl_cons rfl (abl_cons rfl (abl_cons rfl (abl_cons abl_row (abl_cons abl_row (abl_cons rfl (abl_cons rfl (abl_cons rfl (abl_cons (abl_map (fun _ => rfl) (fun _ => rfl)) (abl_cons rfl rfl))))))))))) : okT 10 [bG a1, .cells 3 [(i6 a3)], bG a1, bI a4, bB a5, .cells 93 (ap (eGram a1) [(.sl 3 0 1 0 a6), (.sl 4 0 1 0 a6)]), .cells 89 [(.ptr 5 0)], .cells 89 [(.ptr 5 0)], mIS x5_1, .cells 94 [(.mp 8)], .row 48 6 0 (ra eSym []), bP x2, bP x2] = true) apn))))) (by kernel_rfl)
    ·
     rw [← sj h]
     exact rnd (n := 30) [(14, .d true), (15, .v (.ro (eProd x2))), (18, .v (vb true)), (22, .r (vb false) [bG a1, .cells 3 [(i6 a3)], bG a1, bI a4, bB a5, .cells 93 (ap (eGram a1) [(.sl 3 0 1 0 a6), (.sl 4 0 1 0 a6)]), .cells 89 [(.ptr 5 0)], .cells 89 [(.ptr 5 0)], mIS x5_1, .cells 94 [(.mp 8)], .row 48 6 0 (ra eSym []), bP x2, bP x2]), (6000, .d true)] (apc (cv h1) (apc (ig eProd 7 .i64 h2) (apc ((((F54_ok x2 h3).cp rfl _).trans (congrArg (fun z => some (vb z)) h4)) : CP prg 54 [(aP x2)] [bG a1, .cells 3 [(i6 a3)], bG a1, bI a4, bB a5, .cells 93 (ap (eGram a1) [(.sl 3 0 1 0 a6), (.sl 4 0 1 0 a6)]), .cells 89 [(.ptr 5 0)], .cells 89 [(.ptr 5 0)], mIS v3, .cells 94 [(.mp 8)], .row 48 6 0 (ra eSym []), bP x2] = some (vb true)) (apc (((F47_ok x2 a1 a3 a4 a5 a6 v3 h5).trans (congrArg (fun z => some (vb z, ([bG a1, .cells 3 [(i6 a3)], bG a1, bI a4, bB a5, .cells 93 (ap (eGram a1) [(.sl 3 0 1 0 a6), (.sl 4 0 1 0 a6)]), .cells 89 [(.ptr 5 0)], .cells 89 [(.ptr 5 0)], mIS x5_1, .cells 94 [(.mp 8)], .row 48 6 0 (ra eSym []), bP x2, bP x2] : List AB))) h6)) : CS prg 47 [(aP x2), (.ptr 7 0), (.ptr 1 0), (.ptr 9 0)] [bG a1, .cells 3 [(i6 a3)], bG a1, bI a4, bB a5, .cells 93 (ap (eGram a1) [(.sl 3 0 1 0 a6), (.sl 4 0 1 0 a6)]), .cells 89 [(.ptr 5 0)], .cells 89 [(.ptr 5 0)], mIS v3, .cells 94 [(.mp 8)], .row 48 6 0 (ra eSym []), bP x2] = some (vb false, [bG a1, .cells 3 [(i6 a3)], bG a1, bI a4, bB a5, .cells 93 (ap (eGram a1) [(.sl 3 0 1 0 a6), (.sl 4 0 1 0 a6)]), .cells 89 [(.ptr 5 0)], .cells 89 [(.ptr 5 0)], mIS x5_1, .cells 94 [(.mp 8)], .row 48 6 0 (ra eSym []), bP x2, bP x2])) (apc ((okT_of rfl (abl_cons rfl (abl_cons rfl (abl_cons rfl (abl_cons abl_row (abl_cons abl_row (abl_cons rfl (abl_cons rfl (abl_cons rfl (abl_cons (abl_map (fun _ => rfl) (fun _ => rfl)) (abl_cons rfl rfl))))))))))) : okT 10 [bG a1, .cells 3 [(i6 a3)], bG a1, bI a4, bB a5, .cells 93 (ap (eGram a1) [(.sl 3 0 1 0 a6), (.sl 4 0 1 0 a6)]), .cells 89 [(.ptr 5 0)], .cells 89 [(.ptr 5 0)], mIS x5_1, .cells 94 [(.mp 8)], .row 48 6 0 (ra eSym []), bP x2, bP x2] = true) apn))))) (by kernel_rfl)
   | k1 x5_0 x5_1 x5_2 x5_3 x5_4 x5_5 =>
    rw [← sj h]
    exact rnd (n := 30) [(14, .d true), (15, .v (.ro (eProd x2))), (18, .v (vb true)), (22, .r (vb false) [bG a1, .cells 3 [(i6 a3)], bG a1, bI a4, bB a5, .cells 93 (ap (eGram a1) [(.sl 3 0 1 0 a6), (.sl 4 0 1 0 a6)]), .cells 89 [(.ptr 5 0)], .cells 89 [(.ptr 5 0)], mIS v3, .cells 94 [(.mp 8)], .row 48 6 0 (ra eSym []), bP x2, bP x2, .cells 48 [(i6 x5_0), (vi .u64 x5_1), (vi .u64 x5_2), (vi .u64 x5_3), (vi .u64 x5_4), (i6 x5_5)]]), (6000, .d true)] (apc (cv h1) (apc (ig eProd 7 .i64 h2) (apc ((((F54_ok x2 h3).cp rfl _).trans (congrArg (fun z => some (vb z)) h4)) : CP prg 54 [(aP x2)] [bG a1, .cells 3 [(i6 a3)], bG a1, bI a4, bB a5, .cells 93 (ap (eGram a1) [(.sl 3 0 1 0 a6), (.sl 4 0 1 0 a6)]), .cells 89 [(.ptr 5 0)], .cells 89 [(.ptr 5 0)], mIS v3, .cells 94 [(.mp 8)], .row 48 6 0 (ra eSym []), bP x2] = some (vb true)) (apc ((F47_ok x2 a1 a3 a4 a5 a6 v3 h5) : CS prg 47 [(aP x2), (.ptr 7 0), (.ptr 1 0), (.ptr 9 0)] [bG a1, .cells 3 [(i6 a3)], bG a1, bI a4, bB a5, .cells 93 (ap (eGram a1) [(.sl 3 0 1 0 a6), (.sl 4 0 1 0 a6)]), .cells 89 [(.ptr 5 0)], .cells 89 [(.ptr 5 0)], mIS v3, .cells 94 [(.mp 8)], .row 48 6 0 (ra eSym []), bP x2] = some ((vb false), [bG a1, .cells 3 [(i6 a3)], bG a1, bI a4, bB a5, .cells 93 (ap (eGram a1) [(.sl 3 0 1 0 a6), (.sl 4 0 1 0 a6)]), .cells 89 [(.ptr 5 0)], .cells 89 [(.ptr 5 0)], mIS v3, .cells 94 [(.mp 8)], .row 48 6 0 (ra eSym []), bP x2, bP x2, .cells 48 [(i6 x5_0), (vi .u64 x5_1), (vi .u64 x5_2), (vi .u64 x5_3), (vi .u64 x5_4), (i6 x5_5)]])) (apc ((okT_of rfl (abl_cons rfl (abl_cons rfl (abl_cons rfl (abl_cons abl_row (abl_cons abl_row (abl_cons rfl (abl_cons rfl (abl_cons rfl (abl_cons (abl_map (fun _ => rfl) (fun _ => rfl)) (abl_cons rfl rfl))))))))))) : okT 10 [bG a1, .cells 3 [(i6 a3)], bG a1, bI a4, bB a5, .cells 93 (ap (eGram a1) [(.sl 3 0 1 0 a6), (.sl 4 0 1 0 a6)]), .cells 89 [(.ptr 5 0)], .cells 89 [(.ptr 5 0)], mIS v3, .cells 94 [(.mp 8)], .row 48 6 0 (ra eSym []), bP x2, bP x2, .cells 48 [(i6 x5_0), (vi .u64 x5_1), (vi .u64 x5_2), (vi .u64 x5_3), (vi .u64 x5_4), (i6 x5_5)]] = true) apn))))) (by kernel_rfl)
  ·
   rw [← sj h]
   exact rnd (n := 30) [(14, .d true), (15, .v (.ro (eProd x2))), (18, .v (vb false)), (6000, .d true)] (apc (cv h1) (apc (ig eProd 7 .i64 h2) (apc ((((F54_ok x2 h3).cp rfl _).trans (congrArg (fun z => some (vb z)) h4)) : CP prg 54 [(aP x2)] [bG a1, .cells 3 [(i6 a3)], bG a1, bI a4, bB a5, .cells 93 (ap (eGram a1) [(.sl 3 0 1 0 a6), (.sl 4 0 1 0 a6)]), .cells 89 [(.ptr 5 0)], .cells 89 [(.ptr 5 0)], mIS v3, .cells 94 [(.mp 8)], .row 48 6 0 (ra eSym []), bP x2] = some (vb false)) (apc ((okT_of rfl (abl_cons rfl (abl_cons rfl (abl_cons rfl (abl_cons abl_row (abl_cons abl_row (abl_cons rfl (abl_cons rfl (abl_cons rfl (abl_cons (abl_map (fun _ => rfl) (fun _ => rfl)) (abl_cons rfl rfl))))))))))) : okT 10 [bG a1, .cells 3 [(i6 a3)], bG a1, bI a4, bB a5, .cells 93 (ap (eGram a1) [(.sl 3 0 1 0 a6), (.sl 4 0 1 0 a6)]), .cells 89 [(.ptr 5 0)], .cells 89 [(.ptr 5 0)], mIS v3, .cells 94 [(.mp 8)], .row 48 6 0 (ra eSym []), bP x2] = true) apn)))) (by kernel_rfl)
 ·
  rw [← sj h]
  exact xbrk (n := 30) [(14, .d false), (6000, .d true)] (apc (cv h1) apn) (by kernel_rfl)
theorem L46_0_3_run (a1 : GramD) (a2 : Int) (a3 : Int) (a4 : List Int) (a5 : List Bool) (a6 : Nat) (s0 : Bool × Int × (List (Int × ByteArray))) (e : E_L46_0_3) (h : runL (fun s => L46_0_3 a1 a2 a3 a4 a5 a6 s.1 s.2.1 s.2.2) s0 = some e) : L46_0_3_x a1 a2 a3 a4 a5 a6 e (evH prg 10 [0, 1, 4, 11, 12, 13] ir46_l0 (L46_0_3_s a1 a2 a3 a4 a5 a6 s0.1 s0.2.1 s0.2.2)) := by
  have q := @loop_sound' (Bool × Int × (List (Int × ByteArray))) E_L46_0_3 (fun s => L46_0_3 a1 a2 a3 a4 a5 a6 s.1 s.2.1 s.2.2) (fun s => evH prg 10 [0, 1, 4, 11, 12, 13] ir46_l0 (L46_0_3_s a1 a2 a3 a4 a5 a6 s.1 s.2.1 s.2.2)) (L46_0_3_x a1 a2 a3 a4 a5 a6) (fun s r h => L46_0_3_ok a1 a2 a3 a4 a5 a6 s.1 s.2.1 s.2.2 h) s0 e h
  exact q
inductive E_L46_1_3 where
  | k0 (x0 : List (Int × ByteArray))
noncomputable def L46_1_3 (a1 : GramD) (a2 : Int) (a3 : List Int) (a4 : List Bool) (a5 : Nat) (v1 : List (Int × ByteArray)) : Option (E_L46_1_3 ⊕ ((List (Int × ByteArray)))) :=
  ((runL (fun s => L46_0_3 a1 (a1.prods.length : Int) a2 a3 a4 a5 s.1 s.2.1 s.2.2) (false, 0, v1)).bind fun r1 => match r1 with | .k0 x1_0 x1_1 => (bif x1_0 then (some (.inr (x1_1))) else (some (.inl (.k0 x1_1)))))
def L46_1_3_s (a1 : GramD) (a2 : Int) (a3 : List Int) (a4 : List Bool) (a5 : Nat) (v1 : List (Int × ByteArray)) : St := ⟨fr 27 ug [(0, (.ptr 5 0)), (1, (.fn 47 [(.ptr 7 0), (.ptr 1 0), (.ptr 9 0)]))], [bG a1, .cells 3 [(i6 a2)], bG a1, bI a3, bB a4, .cells 93 (ap (eGram a1) [(.sl 3 0 1 0 a5), (.sl 4 0 1 0 a5)]), .cells 89 [(.ptr 5 0)], .cells 89 [(.ptr 5 0)], mIS v1, .cells 94 [(.mp 8)]]⟩
def L46_1_3_x (a1 : GramD) (a2 : Int) (a3 : List Int) (a4 : List Bool) (a5 : Nat) (e : E_L46_1_3) (r : Option (Out × St)) : Prop := match e with | .k0 x0 => ∃ g, r = some ((.brk 0), ⟨fr 27 g [], [bG a1, .cells 3 [(i6 a2)], bG a1, bI a3, bB a4, .cells 93 (ap (eGram a1) [(.sl 3 0 1 0 a5), (.sl 4 0 1 0 a5)]), .cells 89 [(.ptr 5 0)], .cells 89 [(.ptr 5 0)], mIS x0, .cells 94 [(.mp 8)]]⟩)
theorem L46_1_3_ok (a1 : GramD) (a2 : Int) (a3 : List Int) (a4 : List Bool) (a5 : Nat) (v1 : List (Int × ByteArray)) {r : E_L46_1_3 ⊕ ((List (Int × ByteArray)))} (h : L46_1_3 a1 a2 a3 a4 a5 v1 = some r) : OkR (fun e => L46_1_3_x a1 a2 a3 a4 a5 e (evH prg 10 [0, 1] ir46_l1 (L46_1_3_s a1 a2 a3 a4 a5 v1))) (fun s => evH prg 10 [0, 1] ir46_l1 (L46_1_3_s a1 a2 a3 a4 a5 v1) = evH prg 10 [0, 1] ir46_l1 (L46_1_3_s a1 a2 a3 a4 a5 s)) r := by
 unfold L46_1_3 at h
 refine bn h fun r1 h1 h => ?_
 cases r1 with
 | k0 x1_0 x1_1 =>
  obtain ⟨g1, e1⟩ := L46_0_3_run a1 (a1.prods.length : Int) a2 a3 a4 a5 (false, 0, v1) _ h1
  refine bi h (fun h2 h => ?_) fun h2 h => ?_
  ·
   rw [← sj h]
   exact rnd (n := 30) [(12, .v (i6 (a1.prods.length : Int))), (2002, .l (.brk 2) ⟨fr 27 g1 [(0, (.ptr 5 0)), (1, (.fn 47 [(.ptr 7 0), (.ptr 1 0), (.ptr 9 0)])), (4, (vb x1_0)), (11, (.p (.lst 7 (a1.prods.map eProd))))], [bG a1, .cells 3 [(i6 a2)], bG a1, bI a3, bB a4, .cells 93 (ap (eGram a1) [(.sl 3 0 1 0 a5), (.sl 4 0 1 0 a5)]), .cells 89 [(.ptr 5 0)], .cells 89 [(.ptr 5 0)], mIS x1_1, .cells 94 [(.mp 8)]]⟩), (25, .d true), (6000, .d true)] (apc (lg a1.prods eProd 7) (apc ((okT_of rfl (abl_cons rfl (abl_cons rfl (abl_cons rfl (abl_cons abl_row (abl_cons abl_row (abl_cons rfl (abl_cons rfl (abl_cons rfl (abl_cons (abl_map (fun _ => rfl) (fun _ => rfl)) (abl_cons rfl rfl))))))))))) : okT 10 [bG a1, .cells 3 [(i6 a2)], bG a1, bI a3, bB a4, .cells 93 (ap (eGram a1) [(.sl 3 0 1 0 a5), (.sl 4 0 1 0 a5)]), .cells 89 [(.ptr 5 0)], .cells 89 [(.ptr 5 0)], mIS v1, .cells 94 [(.mp 8)]] = true) (apc (e1 : evH prg 10 [0, 1, 4, 11, 12, 13] ir46_l0 (L46_0_3_s a1 (a1.prods.length : Int) a2 a3 a4 a5 false 0 v1) = some ((.brk 2), ⟨fr 27 g1 [(0, (.ptr 5 0)), (1, (.fn 47 [(.ptr 7 0), (.ptr 1 0), (.ptr 9 0)])), (4, (vb x1_0)), (11, (.p (.lst 7 (a1.prods.map eProd))))], [bG a1, .cells 3 [(i6 a2)], bG a1, bI a3, bB a4, .cells 93 (ap (eGram a1) [(.sl 3 0 1 0 a5), (.sl 4 0 1 0 a5)]), .cells 89 [(.ptr 5 0)], .cells 89 [(.ptr 5 0)], mIS x1_1, .cells 94 [(.mp 8)]]⟩)) (apc (cv h2) (apc ((okT_of rfl (abl_cons rfl (abl_cons rfl (abl_cons rfl (abl_cons abl_row (abl_cons abl_row (abl_cons rfl (abl_cons rfl (abl_cons rfl (abl_cons (abl_map (fun _ => rfl) (fun _ => rfl)) (abl_cons rfl rfl))))))))))) : okT 10 [bG a1, .cells 3 [(i6 a2)], bG a1, bI a3, bB a4, .cells 93 (ap (eGram a1) [(.sl 3 0 1 0 a5), (.sl 4 0 1 0 a5)]), .cells 89 [(.ptr 5 0)], .cells 89 [(.ptr 5 0)], mIS x1_1, .cells 94 [(.mp 8)]] = true) apn))))) (by kernel_rfl)
  ·
   rw [← sj h]
   exact xbrk (n := 30) [(12, .v (i6 (a1.prods.length : Int))), (2002, .l (.brk 2) ⟨fr 27 g1 [(0, (.ptr 5 0)), (1, (.fn 47 [(.ptr 7 0), (.ptr 1 0), (.ptr 9 0)])), (4, (vb x1_0)), (11, (.p (.lst 7 (a1.prods.map eProd))))], [bG a1, .cells 3 [(i6 a2)], bG a1, bI a3, bB a4, .cells 93 (ap (eGram a1) [(.sl 3 0 1 0 a5), (.sl 4 0 1 0 a5)]), .cells 89 [(.ptr 5 0)], .cells 89 [(.ptr 5 0)], mIS x1_1, .cells 94 [(.mp 8)]]⟩), (25, .d false), (6000, .d true)] (apc (lg a1.prods eProd 7) (apc ((okT_of rfl (abl_cons rfl (abl_cons rfl (abl_cons rfl (abl_cons abl_row (abl_cons abl_row (abl_cons rfl (abl_cons rfl (abl_cons rfl (abl_cons (abl_map (fun _ => rfl) (fun _ => rfl)) (abl_cons rfl rfl))))))))))) : okT 10 [bG a1, .cells 3 [(i6 a2)], bG a1, bI a3, bB a4, .cells 93 (ap (eGram a1) [(.sl 3 0 1 0 a5), (.sl 4 0 1 0 a5)]), .cells 89 [(.ptr 5 0)], .cells 89 [(.ptr 5 0)], mIS v1, .cells 94 [(.mp 8)]] = true) (apc (e1 : evH prg 10 [0, 1, 4, 11, 12, 13] ir46_l0 (L46_0_3_s a1 (a1.prods.length : Int) a2 a3 a4 a5 false 0 v1) = some ((.brk 2), ⟨fr 27 g1 [(0, (.ptr 5 0)), (1, (.fn 47 [(.ptr 7 0), (.ptr 1 0), (.ptr 9 0)])), (4, (vb x1_0)), (11, (.p (.lst 7 (a1.prods.map eProd))))], [bG a1, .cells 3 [(i6 a2)], bG a1, bI a3, bB a4, .cells 93 (ap (eGram a1) [(.sl 3 0 1 0 a5), (.sl 4 0 1 0 a5)]), .cells 89 [(.ptr 5 0)], .cells 89 [(.ptr 5 0)], mIS x1_1, .cells 94 [(.mp 8)]]⟩)) (apc (cv h2) apn)))) (by kernel_rfl)
theorem L46_1_3_run (a1 : GramD) (a2 : Int) (a3 : List Int) (a4 : List Bool) (a5 : Nat) (s0 : (List (Int × ByteArray))) (e : E_L46_1_3) (h : runL (fun s => L46_1_3 a1 a2 a3 a4 a5 s) s0 = some e) : L46_1_3_x a1 a2 a3 a4 a5 e (evH prg 10 [0, 1] ir46_l1 (L46_1_3_s a1 a2 a3 a4 a5 s0)) := by
  have q := @loop_sound' ((List (Int × ByteArray))) E_L46_1_3 (fun s => L46_1_3 a1 a2 a3 a4 a5 s) (fun s => evH prg 10 [0, 1] ir46_l1 (L46_1_3_s a1 a2 a3 a4 a5 s)) (L46_1_3_x a1 a2 a3 a4 a5) (fun s r h => L46_1_3_ok a1 a2 a3 a4 a5 s h) s0 e h
  exact q
noncomputable def F46_3 (a1 : GramD) (a2 : Int) (a3 : List Int) (a4 : List Bool) (a5 : Nat) : Option (List (Int × ByteArray)) :=
  ((runL (fun s => L46_1_3 a1 a2 a3 a4 a5 s) []).bind fun r1 => match r1 with | .k0 x1_0 => (some x1_0))
def F46_3_v (a1 : GramD) (a2 : Int) (a3 : List Int) (a4 : List Bool) (a5 : Nat) (x0 : (List (Int × ByteArray))) : AV := (.tup [])
def F46_3_h (a1 : GramD) (a2 : Int) (a3 : List Int) (a4 : List Bool) (a5 : Nat) (x0 : (List (Int × ByteArray))) : List AB := [bG a1, .cells 3 [(i6 a2)], bG a1, bI a3, bB a4, .cells 93 (ap (eGram a1) [(.sl 3 0 1 0 a5), (.sl 4 0 1 0 a5)]), .cells 89 [(.ptr 5 0)], .cells 89 [(.ptr 5 0)], mIS x0, .cells 94 [(.mp 8)]]
theorem F46_3_ok (a1 : GramD) (a2 : Int) (a3 : List Int) (a4 : List Bool) (a5 : Nat) {r : (List (Int × ByteArray))} (h : F46_3 a1 a2 a3 a4 a5 = some r) : CS prg 46 [(.ptr 5 0), (.fn 47 [(.ptr 7 0), (.ptr 1 0), (.ptr 9 0)])] [bG a1, .cells 3 [(i6 a2)], bG a1, bI a3, bB a4, .cells 93 (ap (eGram a1) [(.sl 3 0 1 0 a5), (.sl 4 0 1 0 a5)]), .cells 89 [(.ptr 5 0)], .cells 89 [(.ptr 5 0)], .map [], .cells 94 [(.mp 8)]] = some (F46_3_v a1 a2 a3 a4 a5 r, F46_3_h a1 a2 a3 a4 a5 r) := by
 unfold F46_3 at h
 refine bn h fun r1 h1 h => ?_
 cases r1 with
 | k0 x1_0 =>
  obtain ⟨g1, e1⟩ := L46_1_3_run a1 a2 a3 a4 a5 [] _ h1
  rw [← sj h]
  exact fcs (n := 30) [(2000, .l (.brk 0) ⟨fr 27 g1 [], [bG a1, .cells 3 [(i6 a2)], bG a1, bI a3, bB a4, .cells 93 (ap (eGram a1) [(.sl 3 0 1 0 a5), (.sl 4 0 1 0 a5)]), .cells 89 [(.ptr 5 0)], .cells 89 [(.ptr 5 0)], mIS x1_0, .cells 94 [(.mp 8)]]⟩), (6000, .d true)] (apc ((okT_of rfl (abl_cons rfl (abl_cons rfl (abl_cons rfl (abl_cons abl_row (abl_cons abl_row (abl_cons rfl (abl_cons rfl (abl_cons rfl (abl_cons rfl (abl_cons rfl rfl))))))))))) : okT 10 [bG a1, .cells 3 [(i6 a2)], bG a1, bI a3, bB a4, .cells 93 (ap (eGram a1) [(.sl 3 0 1 0 a5), (.sl 4 0 1 0 a5)]), .cells 89 [(.ptr 5 0)], .cells 89 [(.ptr 5 0)], .map [], .cells 94 [(.mp 8)]] = true) (apc (e1 : evH prg 10 [0, 1] ir46_l1 (L46_1_3_s a1 a2 a3 a4 a5 ([])) = some ((.brk 0), ⟨fr 27 g1 [], [bG a1, .cells 3 [(i6 a2)], bG a1, bI a3, bB a4, .cells 93 (ap (eGram a1) [(.sl 3 0 1 0 a5), (.sl 4 0 1 0 a5)]), .cells 89 [(.ptr 5 0)], .cells 89 [(.ptr 5 0)], mIS x1_0, .cells 94 [(.mp 8)]]⟩)) apn)) (by kernel_rfl)
inductive R_F14 where
  | k0 (x0 : ByteArray) (x1 : Int)
noncomputable def F14 (a1 : GramD) (a2 : Int) : Option R_F14 :=
  ((F45_2 a1).bind fun r1 => match r1 with | .k0 x1_0 => (bif (x1_0 != 0) then (some (.k0 (⟨([] : List UInt8).toArray⟩ : ByteArray) x1_0)) else (bif (decide (a2 < 0)) then (some (.k0 (⟨([] : List UInt8).toArray⟩ : ByteArray) 4)) else (bif (decide (a2 ≥ (a1.sorts.length : Int))) then (some (.k0 (⟨([] : List UInt8).toArray⟩ : ByteArray) 4)) else none))) | .k1 x1_0 x1_1 => (bif (decide (a2 < 0)) then (some (.k0 (⟨([] : List UInt8).toArray⟩ : ByteArray) 4)) else (bif (decide (a2 ≥ (a1.sorts.length : Int))) then (some (.k0 (⟨([] : List UInt8).toArray⟩ : ByteArray) 4)) else ((ixN (Int.toNat (a1.sorts.length : Int)) a2).bind fun x4 => ((x1_0[x4]?).bind fun x5 => (bif (decide (x5 < 0)) then (some (.k0 (⟨([] : List UInt8).toArray⟩ : ByteArray) 161)) else (bif (decide (x5 > 1048576)) then (some (.k0 (⟨([] : List UInt8).toArray⟩ : ByteArray) 3)) else ((F46_3 a1 a2 x1_0 x1_1 (Int.toNat (a1.sorts.length : Int))).bind fun x8 => (some (.k0 (mget (⟨([] : List UInt8).toArray⟩ : ByteArray) x8 a2) 0))))))))))
def F14_v (a1 : GramD) (a2 : Int) (r : R_F14) : AV := match r with | .k0 x0 x1 => (.tup [(vs x0), (i6 x1)])
theorem F14_ok (a1 : GramD) (a2 : Int) {r : R_F14} (h : F14 a1 a2 = some r) : PR1 prg 14 [(aG a1), (i6 a2)] (F14_v a1 a2 r) := by
 unfold F14 at h
 refine bn h fun r1 h1 h => ?_
 cases r1 with
 | k0 x1_0 =>
  refine bi h (fun h2 h => ?_) fun h2 h => ?_
  ·
   rw [← sj h]
   exact fpr (n := 30) [(11, .r (.tup [(.p (.val (.pointer .none))), (i6 x1_0)]) [bG a1, .cells 3 [(i6 a2)], bG a1]), (16, .d true)] (apc ((F45_2_ok a1 a2 h1) : CS prg 45 [(aG a1)] [bG a1, .cells 3 [(i6 a2)]] = some ((.tup [(.p (.val (.pointer .none))), (i6 x1_0)]), [bG a1, .cells 3 [(i6 a2)], bG a1])) (apc (cv h2) apn)) rfl (by kernel_rfl)
  ·
   refine bi h (fun h3 h => ?_) fun h3 h => ?_
   ·
    rw [← sj h]
    exact fpr (n := 30) [(11, .r (.tup [(.p (.val (.pointer .none))), (i6 x1_0)]) [bG a1, .cells 3 [(i6 a2)], bG a1]), (16, .d false), (20, .d true)] (apc ((F45_2_ok a1 a2 h1) : CS prg 45 [(aG a1)] [bG a1, .cells 3 [(i6 a2)]] = some ((.tup [(.p (.val (.pointer .none))), (i6 x1_0)]), [bG a1, .cells 3 [(i6 a2)], bG a1])) (apc (cv h2) (apc (cv h3) apn))) rfl (by kernel_rfl)
   ·
    refine bi h (fun h4 h => ?_) fun h4 h => ?_
    ·
     rw [← sj h]
     exact fpr (n := 30) [(11, .r (.tup [(.p (.val (.pointer .none))), (i6 x1_0)]) [bG a1, .cells 3 [(i6 a2)], bG a1]), (16, .d false), (20, .d false), (25, .v (i6 (a1.sorts.length : Int))), (26, .d true)] (apc ((F45_2_ok a1 a2 h1) : CS prg 45 [(aG a1)] [bG a1, .cells 3 [(i6 a2)]] = some ((.tup [(.p (.val (.pointer .none))), (i6 x1_0)]), [bG a1, .cells 3 [(i6 a2)], bG a1])) (apc (cv h2) (apc (cv h3) (apc (lg a1.sorts eStr 1) (apc (cv h4) apn))))) rfl (by kernel_rfl)
    ·
     cases h
 | k1 x1_0 x1_1 =>
  refine bi h (fun h2 h => ?_) fun h2 h => ?_
  ·
   rw [← sj h]
   exact fpr (n := 30) [(11, .r (.tup [(.ptr 5 0), (i6 0)]) [bG a1, .cells 3 [(i6 a2)], bG a1, bI x1_0, bB x1_1, .cells 93 (ap (eGram a1) [(.sl 3 0 1 0 (Int.toNat (a1.sorts.length : Int))), (.sl 4 0 1 0 (Int.toNat (a1.sorts.length : Int)))]), .cells 89 [(.ptr 5 0)]]), (20, .d true)] (apc ((F45_2_ok a1 a2 h1) : CS prg 45 [(aG a1)] [bG a1, .cells 3 [(i6 a2)]] = some ((.tup [(.ptr 5 0), (i6 0)]), [bG a1, .cells 3 [(i6 a2)], bG a1, bI x1_0, bB x1_1, .cells 93 (ap (eGram a1) [(.sl 3 0 1 0 (Int.toNat (a1.sorts.length : Int))), (.sl 4 0 1 0 (Int.toNat (a1.sorts.length : Int)))]), .cells 89 [(.ptr 5 0)]])) (apc (cv h2) apn)) rfl (by kernel_rfl)
  ·
   refine bi h (fun h3 h => ?_) fun h3 h => ?_
   ·
    rw [← sj h]
    exact fpr (n := 30) [(11, .r (.tup [(.ptr 5 0), (i6 0)]) [bG a1, .cells 3 [(i6 a2)], bG a1, bI x1_0, bB x1_1, .cells 93 (ap (eGram a1) [(.sl 3 0 1 0 (Int.toNat (a1.sorts.length : Int))), (.sl 4 0 1 0 (Int.toNat (a1.sorts.length : Int)))]), .cells 89 [(.ptr 5 0)]]), (20, .d false), (25, .v (i6 (a1.sorts.length : Int))), (26, .d true)] (apc ((F45_2_ok a1 a2 h1) : CS prg 45 [(aG a1)] [bG a1, .cells 3 [(i6 a2)]] = some ((.tup [(.ptr 5 0), (i6 0)]), [bG a1, .cells 3 [(i6 a2)], bG a1, bI x1_0, bB x1_1, .cells 93 (ap (eGram a1) [(.sl 3 0 1 0 (Int.toNat (a1.sorts.length : Int))), (.sl 4 0 1 0 (Int.toNat (a1.sorts.length : Int)))]), .cells 89 [(.ptr 5 0)]])) (apc (cv h2) (apc (lg a1.sorts eStr 1) (apc (cv h3) apn)))) rfl (by kernel_rfl)
   ·
    refine bn h fun x4 h4 h => ?_
    refine bn h fun x5 h5 h => ?_
    refine bi h (fun h6 h => ?_) fun h6 h => ?_
    ·
     rw [← sj h]
     exact fpr (n := 30) [(11, .r (.tup [(.ptr 5 0), (i6 0)]) [bG a1, .cells 3 [(i6 a2)], bG a1, bI x1_0, bB x1_1, .cells 93 (ap (eGram a1) [(.sl 3 0 1 0 (Int.toNat (a1.sorts.length : Int))), (.sl 4 0 1 0 (Int.toNat (a1.sorts.length : Int)))]), .cells 89 [(.ptr 5 0)]]), (20, .d false), (25, .v (i6 (a1.sorts.length : Int))), (26, .d false), (34, .v (.rp 3 0 1 x4 0)), (35, .v (i6 x5)), (36, .d true)] (apc ((F45_2_ok a1 a2 h1) : CS prg 45 [(aG a1)] [bG a1, .cells 3 [(i6 a2)]] = some ((.tup [(.ptr 5 0), (i6 0)]), [bG a1, .cells 3 [(i6 a2)], bG a1, bI x1_0, bB x1_1, .cells 93 (ap (eGram a1) [(.sl 3 0 1 0 (Int.toNat (a1.sorts.length : Int))), (.sl 4 0 1 0 (Int.toNat (a1.sorts.length : Int)))]), .cells 89 [(.ptr 5 0)]])) (apc (cv h2) (apc (lg a1.sorts eStr 1) (apc (cv h3) (apc ((idx_sl h4) : idxA 1 (.sl 3 0 1 0 (Int.toNat (a1.sorts.length : Int))) (i6 a2) = some (.rp 3 0 1 x4 0)) (apc ((ld_row rfl h5 rfl) : ldA [bG a1, .cells 3 [(i6 a2)], bG a1, bI x1_0, bB x1_1, .cells 93 (ap (eGram a1) [(.sl 3 0 1 0 (Int.toNat (a1.sorts.length : Int))), (.sl 4 0 1 0 (Int.toNat (a1.sorts.length : Int)))]), .cells 89 [(.ptr 5 0)], .cells 89 [(.ptr 5 0)]] .false 1 (.rp 3 0 1 x4 0) = some (i6 x5)) (apc (cv h6) apn))))))) rfl (by kernel_rfl)
    ·
     refine bi h (fun h7 h => ?_) fun h7 h => ?_
     ·
      rw [← sj h]
      exact fpr (n := 30) [(11, .r (.tup [(.ptr 5 0), (i6 0)]) [bG a1, .cells 3 [(i6 a2)], bG a1, bI x1_0, bB x1_1, .cells 93 (ap (eGram a1) [(.sl 3 0 1 0 (Int.toNat (a1.sorts.length : Int))), (.sl 4 0 1 0 (Int.toNat (a1.sorts.length : Int)))]), .cells 89 [(.ptr 5 0)]]), (20, .d false), (25, .v (i6 (a1.sorts.length : Int))), (26, .d false), (34, .v (.rp 3 0 1 x4 0)), (35, .v (i6 x5)), (36, .d false), (43, .v (.rp 3 0 1 x4 0)), (44, .v (i6 x5)), (45, .d true)] (apc ((F45_2_ok a1 a2 h1) : CS prg 45 [(aG a1)] [bG a1, .cells 3 [(i6 a2)]] = some ((.tup [(.ptr 5 0), (i6 0)]), [bG a1, .cells 3 [(i6 a2)], bG a1, bI x1_0, bB x1_1, .cells 93 (ap (eGram a1) [(.sl 3 0 1 0 (Int.toNat (a1.sorts.length : Int))), (.sl 4 0 1 0 (Int.toNat (a1.sorts.length : Int)))]), .cells 89 [(.ptr 5 0)]])) (apc (cv h2) (apc (lg a1.sorts eStr 1) (apc (cv h3) (apc ((idx_sl h4) : idxA 1 (.sl 3 0 1 0 (Int.toNat (a1.sorts.length : Int))) (i6 a2) = some (.rp 3 0 1 x4 0)) (apc ((ld_row rfl h5 rfl) : ldA [bG a1, .cells 3 [(i6 a2)], bG a1, bI x1_0, bB x1_1, .cells 93 (ap (eGram a1) [(.sl 3 0 1 0 (Int.toNat (a1.sorts.length : Int))), (.sl 4 0 1 0 (Int.toNat (a1.sorts.length : Int)))]), .cells 89 [(.ptr 5 0)], .cells 89 [(.ptr 5 0)]] .false 1 (.rp 3 0 1 x4 0) = some (i6 x5)) (apc (cv h6) (apc ((idx_sl h4) : idxA 1 (.sl 3 0 1 0 (Int.toNat (a1.sorts.length : Int))) (i6 a2) = some (.rp 3 0 1 x4 0)) (apc ((ld_row rfl h5 rfl) : ldA [bG a1, .cells 3 [(i6 a2)], bG a1, bI x1_0, bB x1_1, .cells 93 (ap (eGram a1) [(.sl 3 0 1 0 (Int.toNat (a1.sorts.length : Int))), (.sl 4 0 1 0 (Int.toNat (a1.sorts.length : Int)))]), .cells 89 [(.ptr 5 0)], .cells 89 [(.ptr 5 0)]] .false 1 (.rp 3 0 1 x4 0) = some (i6 x5)) (apc (cv h7) apn)))))))))) rfl (by kernel_rfl)
     ·
      refine bn h fun x8 h8 h => ?_
      rw [← sj h]
      exact fpr (n := 30) [(11, .r (.tup [(.ptr 5 0), (i6 0)]) [bG a1, .cells 3 [(i6 a2)], bG a1, bI x1_0, bB x1_1, .cells 93 (ap (eGram a1) [(.sl 3 0 1 0 (Int.toNat (a1.sorts.length : Int))), (.sl 4 0 1 0 (Int.toNat (a1.sorts.length : Int)))]), .cells 89 [(.ptr 5 0)]]), (20, .d false), (25, .v (i6 (a1.sorts.length : Int))), (26, .d false), (34, .v (.rp 3 0 1 x4 0)), (35, .v (i6 x5)), (36, .d false), (43, .v (.rp 3 0 1 x4 0)), (44, .v (i6 x5)), (45, .d false), (49, .r (.tup []) [bG a1, .cells 3 [(i6 a2)], bG a1, bI x1_0, bB x1_1, .cells 93 (ap (eGram a1) [(.sl 3 0 1 0 (Int.toNat (a1.sorts.length : Int))), (.sl 4 0 1 0 (Int.toNat (a1.sorts.length : Int)))]), .cells 89 [(.ptr 5 0)], .cells 89 [(.ptr 5 0)], mIS x8, .cells 94 [(.mp 8)]]), (52, .v (vs (mget b0 x8 a2)))] (apc ((F45_2_ok a1 a2 h1) : CS prg 45 [(aG a1)] [bG a1, .cells 3 [(i6 a2)]] = some ((.tup [(.ptr 5 0), (i6 0)]), [bG a1, .cells 3 [(i6 a2)], bG a1, bI x1_0, bB x1_1, .cells 93 (ap (eGram a1) [(.sl 3 0 1 0 (Int.toNat (a1.sorts.length : Int))), (.sl 4 0 1 0 (Int.toNat (a1.sorts.length : Int)))]), .cells 89 [(.ptr 5 0)]])) (apc (cv h2) (apc (lg a1.sorts eStr 1) (apc (cv h3) (apc ((idx_sl h4) : idxA 1 (.sl 3 0 1 0 (Int.toNat (a1.sorts.length : Int))) (i6 a2) = some (.rp 3 0 1 x4 0)) (apc ((ld_row rfl h5 rfl) : ldA [bG a1, .cells 3 [(i6 a2)], bG a1, bI x1_0, bB x1_1, .cells 93 (ap (eGram a1) [(.sl 3 0 1 0 (Int.toNat (a1.sorts.length : Int))), (.sl 4 0 1 0 (Int.toNat (a1.sorts.length : Int)))]), .cells 89 [(.ptr 5 0)], .cells 89 [(.ptr 5 0)]] .false 1 (.rp 3 0 1 x4 0) = some (i6 x5)) (apc (cv h6) (apc ((idx_sl h4) : idxA 1 (.sl 3 0 1 0 (Int.toNat (a1.sorts.length : Int))) (i6 a2) = some (.rp 3 0 1 x4 0)) (apc ((ld_row rfl h5 rfl) : ldA [bG a1, .cells 3 [(i6 a2)], bG a1, bI x1_0, bB x1_1, .cells 93 (ap (eGram a1) [(.sl 3 0 1 0 (Int.toNat (a1.sorts.length : Int))), (.sl 4 0 1 0 (Int.toNat (a1.sorts.length : Int)))]), .cells 89 [(.ptr 5 0)], .cells 89 [(.ptr 5 0)]] .false 1 (.rp 3 0 1 x4 0) = some (i6 x5)) (apc (cv h7) (apc ((F46_3_ok a1 a2 x1_0 x1_1 (Int.toNat (a1.sorts.length : Int)) h8) : CS prg 46 [(.ptr 5 0), (.fn 47 [(.ptr 7 0), (.ptr 1 0), (.ptr 9 0)])] [bG a1, .cells 3 [(i6 a2)], bG a1, bI x1_0, bB x1_1, .cells 93 (ap (eGram a1) [(.sl 3 0 1 0 (Int.toNat (a1.sorts.length : Int))), (.sl 4 0 1 0 (Int.toNat (a1.sorts.length : Int)))]), .cells 89 [(.ptr 5 0)], .cells 89 [(.ptr 5 0)], .map [], .cells 94 [(.mp 8)]] = some ((.tup []), [bG a1, .cells 3 [(i6 a2)], bG a1, bI x1_0, bB x1_1, .cells 93 (ap (eGram a1) [(.sl 3 0 1 0 (Int.toNat (a1.sorts.length : Int))), (.sl 4 0 1 0 (Int.toNat (a1.sorts.length : Int)))]), .cells 89 [(.ptr 5 0)], .cells 89 [(.ptr 5 0)], mIS x8, .cells 94 [(.mp 8)]])) (apc ((lk_row key_int (es := x8) (k := a2) (z := b0) rfl rfl) : lkA [bG a1, .cells 3 [(i6 a2)], bG a1, bI x1_0, bB x1_1, .cells 93 (ap (eGram a1) [(.sl 3 0 1 0 (Int.toNat (a1.sorts.length : Int))), (.sl 4 0 1 0 (Int.toNat (a1.sorts.length : Int)))]), .cells 89 [(.ptr 5 0)], .cells 89 [(.ptr 5 0)], mIS x8, .cells 94 [(.mp 8)]] [1] .false .false [(.val (.string ⟨([] : List UInt8).toArray⟩))] .false (.mp 8) (i6 a2) = some (vs (mget b0 x8 a2))) apn)))))))))))) rfl (by kernel_rfl)
noncomputable def F15 (a1 : Int) : Option Int :=
  (some a1)
def F15_v (a1 : Int) (x0 : Int) : AV := (i6 x0)
theorem F15_ok (a1 : Int) {r : Int} (h : F15 a1 = some r) : PR1 prg 15 [(i6 a1)] (F15_v a1 r) := by
 unfold F15 at h
 rw [← sj h]
 exact fpr (n := 30) [] apn rfl (by kernel_rfl)
inductive E_L16_2 where
  | k0 (x0 : List Int)
noncomputable def L16_2 (a1 : Nat) (v1 : Int) (v2 : List Int) : Option (E_L16_2 ⊕ (Int × (List Int))) :=
  (bif (decide (v1 < ((a1 : Nat) : Int))) then ((ixN a1 v1).bind fun x2 => ((v2[x2]?).bind fun x3 => (some (.inr ((IntKind.wrap .i64 (v1 + 1)), (v2.set x2 (-1))))))) else (some (.inl (.k0 v2))))
def L16_2_s (a1 : Nat) (a2 : GramD) (v1 : Int) (v2 : List Int) : St := ⟨fr 67 ug [(1, (.ptr 0 0)), (3, (.sl 2 0 1 0 a1)), (4, (i6 v1))], [bG a2, bI [], bI v2]⟩
def L16_2_x (a1 : Nat) (a2 : GramD) (e : E_L16_2) (r : Option (Out × St)) : Prop := match e with | .k0 x0 => ∃ g, r = some ((.brk 0), ⟨fr 67 g [(1, (.ptr 0 0)), (3, (.sl 2 0 1 0 a1))], [bG a2, bI [], bI x0]⟩)
theorem L16_2_ok (a1 : Nat) (a2 : GramD) (v1 : Int) (v2 : List Int) {r : E_L16_2 ⊕ (Int × (List Int))} (h : L16_2 a1 v1 v2 = some r) : OkR (fun e => L16_2_x a1 a2 e (evH prg 3 [1, 3, 4] ir16_l2 (L16_2_s a1 a2 v1 v2))) (fun s => evH prg 3 [1, 3, 4] ir16_l2 (L16_2_s a1 a2 v1 v2) = evH prg 3 [1, 3, 4] ir16_l2 (L16_2_s a1 a2 s.1 s.2)) r := by
 unfold L16_2 at h
 refine bi h (fun h1 h => ?_) fun h1 h => ?_
 ·
  refine bn h fun x2 h2 h => ?_
  refine bn h fun x3 h3 h => ?_
  rw [← sj h]
  exact rnd (n := 30) [(16, .d true), (21, .v (.rp 2 0 1 x2 0)), (1021, .r ud [bG a2, bI [], .row 3 1 0 (ra eI64 (v2.set x2 (-1)))]), (6000, .d true)] (apc (cv h1) (apc ((idx_sl h2) : idxA 1 (.sl 2 0 1 0 a1) (i6 v1) = some (.rp 2 0 1 x2 0)) (apc (⟨st_row (v' := (-1)) rfl h3 rfl rfl (Nat.le_of_ble_eq_true rfl) rfl, rfl⟩ : stA [bG a2, bI [], bI v2] 1 (.rp 2 0 1 x2 0) (i6 (-1)) = some [bG a2, bI [], .row 3 1 0 (ra eI64 (v2.set x2 (-1)))] ∧ ud = ud) (apc ((okT_of rfl (abl_cons rfl (abl_cons abl_row (abl_cons abl_row rfl)))) : okT 3 [bG a2, bI [], .row 3 1 0 (ra eI64 (v2.set x2 (-1)))] = true) apn)))) (by kernel_rfl)
 ·
  rw [← sj h]
  exact xbrk (n := 30) [(16, .d false), (6000, .d true)] (apc (cv h1) apn) (by kernel_rfl)
theorem L16_2_run (a1 : Nat) (a2 : GramD) (s0 : Int × (List Int)) (e : E_L16_2) (h : runL (fun s => L16_2 a1 s.1 s.2) s0 = some e) : L16_2_x a1 a2 e (evH prg 3 [1, 3, 4] ir16_l2 (L16_2_s a1 a2 s0.1 s0.2)) := by
  have q := @loop_sound' (Int × (List Int)) E_L16_2 (fun s => L16_2 a1 s.1 s.2) (fun s => evH prg 3 [1, 3, 4] ir16_l2 (L16_2_s a1 a2 s.1 s.2)) (L16_2_x a1 a2) (fun s r h => L16_2_ok a1 a2 s.1 s.2 h) s0 e h
  exact q
inductive E_L50_0 where
  | k0
  | k1 (x0 : Int)
noncomputable def L50_0 (a1 : List Int) (a2 : ProdD) (v1 : Int) (v2 : Int) : Option (E_L50_0 ⊕ (Int × Int)) :=
  (bif (decide (v2 < (a2.right.length : Int))) then ((getI a2.right v2).bind fun x2 => (bif (x2.kind == 1) then ((getI a1 x2.sort).bind fun x4 => (bif (decide (x4 < 0)) then (some (.inl (.k0))) else (some (.inr ((if 1048577 < (IntKind.wrap .i64 (v1 + x4)) then 1048577 else (IntKind.wrap .i64 (v1 + x4))), (IntKind.wrap .i64 (v2 + 1))))))) else (some (.inr ((if 1048577 < (IntKind.wrap .i64 (v1 + 1)) then 1048577 else (IntKind.wrap .i64 (v1 + 1))), (IntKind.wrap .i64 (v2 + 1))))))) else (some (.inl (.k1 v1))))
def L50_0_s (a1 : List Int) (a2 : ProdD) (v1 : Int) (v2 : Int) : St := ⟨fr 38 ug [(1, (.p (.lst 1 (a1.map eI64)))), (2, (.ptr 0 0)), (5, (i6 v1)), (6, (i6 v2))], [bP a2]⟩
def L50_0_x (a1 : List Int) (a2 : ProdD) (e : E_L50_0) (r : Option (Out × St)) : Prop := match e with | .k0 => ∃ g y, r = some (.ret, ⟨fr 38 g [(4, (i6 (-1)))], y⟩) | .k1 x0 => ∃ g, r = some ((.brk 0), ⟨fr 38 g [(5, (i6 x0))], [bP a2]⟩)
theorem L50_0_ok (a1 : List Int) (a2 : ProdD) (v1 : Int) (v2 : Int) {r : E_L50_0 ⊕ (Int × Int)} (h : L50_0 a1 a2 v1 v2 = some r) : OkR (fun e => L50_0_x a1 a2 e (evH prg 1 [1, 2, 5, 6] ir50_l0 (L50_0_s a1 a2 v1 v2))) (fun s => evH prg 1 [1, 2, 5, 6] ir50_l0 (L50_0_s a1 a2 v1 v2) = evH prg 1 [1, 2, 5, 6] ir50_l0 (L50_0_s a1 a2 s.1 s.2)) r := by
 unfold L50_0 at h
 refine bi h (fun h1 h => ?_) fun h1 h => ?_
 ·
  refine bn h fun x2 h2 h => ?_
  refine bi h (fun h3 h => ?_) fun h3 h => ?_
  ·
   refine bn h fun x4 h4 h => ?_
   refine bi h (fun h5 h => ?_) fun h5 h => ?_
   ·
    rw [← sj h]
    exact xretY (n := 30) [(11, .v (i6 (a2.right.length : Int))), (12, .d true), (18, .v (.ro (eSym x2))), (21, .d true), (26, .v (.ro (eSym x2))), (29, .v (.ro [.val (.int .i64 x4)])), (32, .d true), (6000, .d true)] (apc (lg a2.right eSym 6) (apc (cv h1) (apc (ig eSym 6 .i64 h2) (apc (cv h3) (apc (ig eSym 6 .i64 h2) (apc (ig eI64 1 .i64 h4) (apc (cv h5) apn))))))) (by kernel_rfl)
   ·
    rw [← sj h]
    exact rnd (n := 30) [(11, .v (i6 (a2.right.length : Int))), (12, .d true), (18, .v (.ro (eSym x2))), (21, .d true), (26, .v (.ro (eSym x2))), (29, .v (.ro [.val (.int .i64 x4)])), (32, .d false), (6000, .d true)] (apc (lg a2.right eSym 6) (apc (cv h1) (apc (ig eSym 6 .i64 h2) (apc (cv h3) (apc (ig eSym 6 .i64 h2) (apc (ig eI64 1 .i64 h4) (apc (cv h5) (apc ((okT_of rfl (abl_cons rfl rfl)) : okT 1 [bP a2] = true) apn)))))))) (by kernel_rfl)
  ·
   rw [← sj h]
   exact rnd (n := 30) [(11, .v (i6 (a2.right.length : Int))), (12, .d true), (18, .v (.ro (eSym x2))), (21, .d false), (6000, .d true)] (apc (lg a2.right eSym 6) (apc (cv h1) (apc (ig eSym 6 .i64 h2) (apc (cv h3) (apc ((okT_of rfl (abl_cons rfl rfl)) : okT 1 [bP a2] = true) apn))))) (by kernel_rfl)
 ·
  rw [← sj h]
  exact xbrk (n := 30) [(11, .v (i6 (a2.right.length : Int))), (12, .d false), (6000, .d true)] (apc (lg a2.right eSym 6) (apc (cv h1) apn)) (by kernel_rfl)
theorem L50_0_run (a1 : List Int) (a2 : ProdD) (s0 : Int × Int) (e : E_L50_0) (h : runL (fun s => L50_0 a1 a2 s.1 s.2) s0 = some e) : L50_0_x a1 a2 e (evH prg 1 [1, 2, 5, 6] ir50_l0 (L50_0_s a1 a2 s0.1 s0.2)) := by
  have q := @loop_sound' (Int × Int) E_L50_0 (fun s => L50_0 a1 a2 s.1 s.2) (fun s => evH prg 1 [1, 2, 5, 6] ir50_l0 (L50_0_s a1 a2 s.1 s.2)) (L50_0_x a1 a2) (fun s r h => L50_0_ok a1 a2 s.1 s.2 h) s0 e h
  exact q
noncomputable def F50 (a1 : ProdD) (a2 : List Int) : Option Int :=
  ((runL (fun s => L50_0 a2 a1 s.1 s.2) (0, 0)).bind fun r1 => match r1 with | .k0 => (some (-1)) | .k1 x1_0 => (some x1_0))
def F50_v (a1 : ProdD) (a2 : List Int) (x0 : Int) : AV := (i6 x0)
theorem F50_ok (a1 : ProdD) (a2 : List Int) {r : Int} (h : F50 a1 a2 = some r) : PR1 prg 50 [(aP a1), (.p (.lst 1 (a2.map eI64)))] (F50_v a1 a2 r) := by
 unfold F50 at h
 refine bn h fun r1 h1 h => ?_
 cases r1 with
 | k0 =>
  obtain ⟨g1, y1, e1⟩ := L50_0_run a2 a1 (0, 0) _ h1
  rw [← sj h]
  exact fpr (n := 30) [(2000, .l .ret ⟨fr 38 g1 [(4, (i6 (-1)))], y1⟩), (6000, .d true)] (apc ((okT_of rfl (abl_cons rfl rfl)) : okT 1 [bP a1] = true) (apc (e1 : evH prg 1 [1, 2, 5, 6] ir50_l0 (L50_0_s a2 a1 0 0) = some (.ret, ⟨fr 38 g1 [(4, (i6 (-1)))], y1⟩)) apn)) rfl (by kernel_rfl)
 | k1 x1_0 =>
  obtain ⟨g1, e1⟩ := L50_0_run a2 a1 (0, 0) _ h1
  rw [← sj h]
  exact fpr (n := 30) [(2000, .l (.brk 0) ⟨fr 38 g1 [(5, (i6 x1_0))], [bP a1]⟩), (6000, .d true)] (apc ((okT_of rfl (abl_cons rfl rfl)) : okT 1 [bP a1] = true) (apc (e1 : evH prg 1 [1, 2, 5, 6] ir50_l0 (L50_0_s a2 a1 0 0) = some ((.brk 0), ⟨fr 38 g1 [(5, (i6 x1_0))], [bP a1]⟩)) apn)) rfl (by kernel_rfl)
noncomputable def F51 (a1 : ProdD) : Option Bool :=
  (some (a1.role != 11))
def F51_v (a1 : ProdD) (x0 : Bool) : AV := (vb x0)
theorem F51_ok (a1 : ProdD) {r : Bool} (h : F51 a1 = some r) : PR1 prg 51 [(aP a1)] (F51_v a1 r) := by
 unfold F51 at h
 rw [← sj h]
 exact fpr (n := 30) [] apn rfl (by kernel_rfl)
inductive E_L16_0 where
  | k0 (x0 : Bool) (x1 : List Int)
noncomputable def L16_0 (a1 : Nat) (a2 : GramD) (v1 : Bool) (v2 : Int) (v3 : List Int) : Option (E_L16_0 ⊕ (Bool × Int × (List Int))) :=
  (bif (decide (v2 < (a2.prods.length : Int))) then ((getI a2.prods v2).bind fun x2 => (bif (decide (a1 ≤ v3.length)) then ((F50 x2 (v3.take a1)).bind fun x4 => ((F51 x2).bind fun x5 => (bif x5 then (bif (decide (x4 ≥ 0)) then ((ixN a1 x2.left).bind fun x8 => ((v3[x8]?).bind fun x9 => (bif (decide (x9 < 0)) then (some (.inr (true, (IntKind.wrap .i64 (v2 + 1)), (v3.set x8 x4)))) else (bif (decide (x4 < x9)) then (some (.inr (true, (IntKind.wrap .i64 (v2 + 1)), (v3.set x8 x4)))) else (some (.inr (v1, (IntKind.wrap .i64 (v2 + 1)), v3))))))) else (some (.inr (v1, (IntKind.wrap .i64 (v2 + 1)), v3)))) else (some (.inr (v1, (IntKind.wrap .i64 (v2 + 1)), v3)))))) else none)) else (some (.inl (.k0 v1 v3))))
def L16_0_s (a1 : Nat) (a2 : GramD) (v1 : Bool) (v2 : Int) (v3 : List Int) : St := ⟨fr 67 ug [(1, (.ptr 0 0)), (3, (.sl 2 0 1 0 a1)), (5, (vb v1)), (6, (i6 v2))], [bG a2, bI [], bI v3]⟩
def L16_0_x (a1 : Nat) (a2 : GramD) (e : E_L16_0) (r : Option (Out × St)) : Prop := match e with | .k0 x0 x1 => ∃ g, r = some ((.brk 4), ⟨fr 67 g [(1, (.ptr 0 0)), (3, (.sl 2 0 1 0 a1)), (5, (vb x0))], [bG a2, bI [], bI x1]⟩)
theorem L16_0_ok (a1 : Nat) (a2 : GramD) (v1 : Bool) (v2 : Int) (v3 : List Int) {r : E_L16_0 ⊕ (Bool × Int × (List Int))} (h : L16_0 a1 a2 v1 v2 v3 = some r) : OkR (fun e => L16_0_x a1 a2 e (evH prg 3 [1, 3, 5, 6] ir16_l0 (L16_0_s a1 a2 v1 v2 v3))) (fun s => evH prg 3 [1, 3, 5, 6] ir16_l0 (L16_0_s a1 a2 v1 v2 v3) = evH prg 3 [1, 3, 5, 6] ir16_l0 (L16_0_s a1 a2 s.1 s.2.1 s.2.2)) r := by
 unfold L16_0 at h
 refine bi h (fun h1 h => ?_) fun h1 h => ?_
 ·
  refine bn h fun x2 h2 h => ?_
  refine bi h (fun h3 h => ?_) fun h3 h => ?_
  ·
   refine bn h fun x4 h4 h => ?_
   refine bn h fun x5 h5 h => ?_
   refine bi h (fun h6 h => ?_) fun h6 h => ?_
   ·
    refine bi h (fun h7 h => ?_) fun h7 h => ?_
    ·
     refine bn h fun x8 h8 h => ?_
     refine bn h fun x9 h9 h => ?_
     refine bi h (fun h10 h => ?_) fun h10 h => ?_
     ·
      rw [← sj h]
      exact rnd (n := 30) [(26, .v (i6 (a2.prods.length : Int))), (27, .d true), (33, .v (.ro (eProd x2))), (37, .v (i6 x4)), (39, .v (vb true)), (42, .d true), (48, .v (.rp 2 0 1 x8 0)), (49, .v (i6 x9)), (50, .d true), (65, .v (.rp 2 0 1 x8 0)), (1065, .r ud [bG a2, bI [], .row 3 1 0 (ra eI64 (v3.set x8 x4)), .row 48 6 0 (ra eSym []), bP x2]), (6000, .d true)] (apc (lg a2.prods eProd 7) (apc (cv h1) (apc (ig eProd 7 .i64 h2) (apc (((F50_ok x2 (v3.take a1) h4).own rfl (purAs_cons rfl (purAs_cons (purA_sl rfl h3) purAs_nil)) rfl) : CP prg 50 [(aP x2), (.sl 2 0 1 0 a1)] [bG a2, bI [], bI v3, .row 48 6 0 (ra eSym []), bP x2] = some (i6 x4)) (apc ((((F51_ok x2 h5).cp rfl _).trans (congrArg (fun z => some (vb z)) h6)) : CP prg 51 [(aP x2)] [bG a2, bI [], bI v3, .row 48 6 0 (ra eSym []), bP x2] = some (vb true)) (apc (cv h7) (apc ((idx_sl h8) : idxA 1 (.sl 2 0 1 0 a1) (i6 x2.left) = some (.rp 2 0 1 x8 0)) (apc ((ld_row rfl h9 rfl) : ldA [bG a2, bI [], bI v3, .row 48 6 0 (ra eSym []), bP x2] .false 1 (.rp 2 0 1 x8 0) = some (i6 x9)) (apc (cv h10) (apc ((idx_sl h8) : idxA 1 (.sl 2 0 1 0 a1) (i6 x2.left) = some (.rp 2 0 1 x8 0)) (apc (⟨st_row (v' := x4) rfl h9 rfl rfl (Nat.le_of_ble_eq_true rfl) rfl, rfl⟩ : stA [bG a2, bI [], bI v3, .row 48 6 0 (ra eSym []), bP x2] 1 (.rp 2 0 1 x8 0) (i6 x4) = some [bG a2, bI [], .row 3 1 0 (ra eI64 (v3.set x8 x4)), .row 48 6 0 (ra eSym []), bP x2] ∧ ud = ud) (apc ((okT_of rfl (abl_cons rfl (abl_cons abl_row (abl_cons abl_row rfl)))) : okT 3 [bG a2, bI [], .row 3 1 0 (ra eI64 (v3.set x8 x4)), .row 48 6 0 (ra eSym []), bP x2] = true) apn)))))))))))) (by kernel_rfl)
     ·
      refine bi h (fun h11 h => ?_) fun h11 h => ?_
      ·
       rw [← sj h]
       exact rnd (n := 30) [(26, .v (i6 (a2.prods.length : Int))), (27, .d true), (33, .v (.ro (eProd x2))), (37, .v (i6 x4)), (39, .v (vb true)), (42, .d true), (48, .v (.rp 2 0 1 x8 0)), (49, .v (i6 x9)), (50, .d false), (56, .v (.rp 2 0 1 x8 0)), (57, .v (i6 x9)), (58, .d true), (65, .v (.rp 2 0 1 x8 0)), (1065, .r ud [bG a2, bI [], .row 3 1 0 (ra eI64 (v3.set x8 x4)), .row 48 6 0 (ra eSym []), bP x2]), (6000, .d true)] (apc (lg a2.prods eProd 7) (apc (cv h1) (apc (ig eProd 7 .i64 h2) (apc (((F50_ok x2 (v3.take a1) h4).own rfl (purAs_cons rfl (purAs_cons (purA_sl rfl h3) purAs_nil)) rfl) : CP prg 50 [(aP x2), (.sl 2 0 1 0 a1)] [bG a2, bI [], bI v3, .row 48 6 0 (ra eSym []), bP x2] = some (i6 x4)) (apc ((((F51_ok x2 h5).cp rfl _).trans (congrArg (fun z => some (vb z)) h6)) : CP prg 51 [(aP x2)] [bG a2, bI [], bI v3, .row 48 6 0 (ra eSym []), bP x2] = some (vb true)) (apc (cv h7) (apc ((idx_sl h8) : idxA 1 (.sl 2 0 1 0 a1) (i6 x2.left) = some (.rp 2 0 1 x8 0)) (apc ((ld_row rfl h9 rfl) : ldA [bG a2, bI [], bI v3, .row 48 6 0 (ra eSym []), bP x2] .false 1 (.rp 2 0 1 x8 0) = some (i6 x9)) (apc (cv h10) (apc ((idx_sl h8) : idxA 1 (.sl 2 0 1 0 a1) (i6 x2.left) = some (.rp 2 0 1 x8 0)) (apc ((ld_row rfl h9 rfl) : ldA [bG a2, bI [], bI v3, .row 48 6 0 (ra eSym []), bP x2] .false 1 (.rp 2 0 1 x8 0) = some (i6 x9)) (apc (cv h11) (apc ((idx_sl h8) : idxA 1 (.sl 2 0 1 0 a1) (i6 x2.left) = some (.rp 2 0 1 x8 0)) (apc (⟨st_row (v' := x4) rfl h9 rfl rfl (Nat.le_of_ble_eq_true rfl) rfl, rfl⟩ : stA [bG a2, bI [], bI v3, .row 48 6 0 (ra eSym []), bP x2] 1 (.rp 2 0 1 x8 0) (i6 x4) = some [bG a2, bI [], .row 3 1 0 (ra eI64 (v3.set x8 x4)), .row 48 6 0 (ra eSym []), bP x2] ∧ ud = ud) (apc ((okT_of rfl (abl_cons rfl (abl_cons abl_row (abl_cons abl_row rfl)))) : okT 3 [bG a2, bI [], .row 3 1 0 (ra eI64 (v3.set x8 x4)), .row 48 6 0 (ra eSym []), bP x2] = true) apn))))))))))))))) (by kernel_rfl)
      ·
       rw [← sj h]
       exact rnd (n := 30) [(26, .v (i6 (a2.prods.length : Int))), (27, .d true), (33, .v (.ro (eProd x2))), (37, .v (i6 x4)), (39, .v (vb true)), (42, .d true), (48, .v (.rp 2 0 1 x8 0)), (49, .v (i6 x9)), (50, .d false), (56, .v (.rp 2 0 1 x8 0)), (57, .v (i6 x9)), (58, .d false), (6000, .d true)] (apc (lg a2.prods eProd 7) (apc (cv h1) (apc (ig eProd 7 .i64 h2) (apc (((F50_ok x2 (v3.take a1) h4).own rfl (purAs_cons rfl (purAs_cons (purA_sl rfl h3) purAs_nil)) rfl) : CP prg 50 [(aP x2), (.sl 2 0 1 0 a1)] [bG a2, bI [], bI v3, .row 48 6 0 (ra eSym []), bP x2] = some (i6 x4)) (apc ((((F51_ok x2 h5).cp rfl _).trans (congrArg (fun z => some (vb z)) h6)) : CP prg 51 [(aP x2)] [bG a2, bI [], bI v3, .row 48 6 0 (ra eSym []), bP x2] = some (vb true)) (apc (cv h7) (apc ((idx_sl h8) : idxA 1 (.sl 2 0 1 0 a1) (i6 x2.left) = some (.rp 2 0 1 x8 0)) (apc ((ld_row rfl h9 rfl) : ldA [bG a2, bI [], bI v3, .row 48 6 0 (ra eSym []), bP x2] .false 1 (.rp 2 0 1 x8 0) = some (i6 x9)) (apc (cv h10) (apc ((idx_sl h8) : idxA 1 (.sl 2 0 1 0 a1) (i6 x2.left) = some (.rp 2 0 1 x8 0)) (apc ((ld_row rfl h9 rfl) : ldA [bG a2, bI [], bI v3, .row 48 6 0 (ra eSym []), bP x2] .false 1 (.rp 2 0 1 x8 0) = some (i6 x9)) (apc (cv h11) (apc ((okT_of rfl (abl_cons rfl (abl_cons abl_row (abl_cons abl_row rfl)))) : okT 3 [bG a2, bI [], bI v3, .row 48 6 0 (ra eSym []), bP x2] = true) apn))))))))))))) (by kernel_rfl)
    ·
     rw [← sj h]
     exact rnd (n := 30) [(26, .v (i6 (a2.prods.length : Int))), (27, .d true), (33, .v (.ro (eProd x2))), (37, .v (i6 x4)), (39, .v (vb true)), (42, .d false), (6000, .d true)] (apc (lg a2.prods eProd 7) (apc (cv h1) (apc (ig eProd 7 .i64 h2) (apc (((F50_ok x2 (v3.take a1) h4).own rfl (purAs_cons rfl (purAs_cons (purA_sl rfl h3) purAs_nil)) rfl) : CP prg 50 [(aP x2), (.sl 2 0 1 0 a1)] [bG a2, bI [], bI v3, .row 48 6 0 (ra eSym []), bP x2] = some (i6 x4)) (apc ((((F51_ok x2 h5).cp rfl _).trans (congrArg (fun z => some (vb z)) h6)) : CP prg 51 [(aP x2)] [bG a2, bI [], bI v3, .row 48 6 0 (ra eSym []), bP x2] = some (vb true)) (apc (cv h7) (apc ((okT_of rfl (abl_cons rfl (abl_cons abl_row (abl_cons abl_row rfl)))) : okT 3 [bG a2, bI [], bI v3, .row 48 6 0 (ra eSym []), bP x2] = true) apn))))))) (by kernel_rfl)
   ·
    rw [← sj h]
    exact rnd (n := 30) [(26, .v (i6 (a2.prods.length : Int))), (27, .d true), (33, .v (.ro (eProd x2))), (37, .v (i6 x4)), (39, .v (vb false)), (6000, .d true)] (apc (lg a2.prods eProd 7) (apc (cv h1) (apc (ig eProd 7 .i64 h2) (apc (((F50_ok x2 (v3.take a1) h4).own rfl (purAs_cons rfl (purAs_cons (purA_sl rfl h3) purAs_nil)) rfl) : CP prg 50 [(aP x2), (.sl 2 0 1 0 a1)] [bG a2, bI [], bI v3, .row 48 6 0 (ra eSym []), bP x2] = some (i6 x4)) (apc ((((F51_ok x2 h5).cp rfl _).trans (congrArg (fun z => some (vb z)) h6)) : CP prg 51 [(aP x2)] [bG a2, bI [], bI v3, .row 48 6 0 (ra eSym []), bP x2] = some (vb false)) (apc ((okT_of rfl (abl_cons rfl (abl_cons abl_row (abl_cons abl_row rfl)))) : okT 3 [bG a2, bI [], bI v3, .row 48 6 0 (ra eSym []), bP x2] = true) apn)))))) (by kernel_rfl)
  ·
   cases h
 ·
  rw [← sj h]
  exact xbrk (n := 30) [(26, .v (i6 (a2.prods.length : Int))), (27, .d false), (6000, .d true)] (apc (lg a2.prods eProd 7) (apc (cv h1) apn)) (by kernel_rfl)
theorem L16_0_run (a1 : Nat) (a2 : GramD) (s0 : Bool × Int × (List Int)) (e : E_L16_0) (h : runL (fun s => L16_0 a1 a2 s.1 s.2.1 s.2.2) s0 = some e) : L16_0_x a1 a2 e (evH prg 3 [1, 3, 5, 6] ir16_l0 (L16_0_s a1 a2 s0.1 s0.2.1 s0.2.2)) := by
  have q := @loop_sound' (Bool × Int × (List Int)) E_L16_0 (fun s => L16_0 a1 a2 s.1 s.2.1 s.2.2) (fun s => evH prg 3 [1, 3, 5, 6] ir16_l0 (L16_0_s a1 a2 s.1 s.2.1 s.2.2)) (L16_0_x a1 a2) (fun s r h => L16_0_ok a1 a2 s.1 s.2.1 s.2.2 h) s0 e h
  exact q
inductive E_L16_1 where
  | k0 (x0 : List Int)
noncomputable def L16_1 (a1 : Nat) (a2 : GramD) (v1 : Bool) (v2 : List Int) : Option (E_L16_1 ⊕ (Bool × (List Int))) :=
  (bif v1 then ((runL (fun s => L16_0 a1 a2 s.1 s.2.1 s.2.2) (false, 0, v2)).bind fun r2 => match r2 with | .k0 x2_0 x2_1 => (some (.inr (x2_0, x2_1)))) else (some (.inl (.k0 v2))))
def L16_1_s (a1 : Nat) (a2 : GramD) (v1 : Bool) (v2 : List Int) : St := ⟨fr 67 ug [(1, (.ptr 0 0)), (3, (.sl 2 0 1 0 a1)), (5, (vb v1))], [bG a2, bI [], bI v2]⟩
def L16_1_x (a1 : Nat) (a2 : GramD) (e : E_L16_1) (r : Option (Out × St)) : Prop := match e with | .k0 x0 => ∃ g, r = some ((.brk 2), ⟨fr 67 g [(1, (.ptr 0 0)), (3, (.sl 2 0 1 0 a1))], [bG a2, bI [], bI x0]⟩)
theorem L16_1_ok (a1 : Nat) (a2 : GramD) (v1 : Bool) (v2 : List Int) {r : E_L16_1 ⊕ (Bool × (List Int))} (h : L16_1 a1 a2 v1 v2 = some r) : OkR (fun e => L16_1_x a1 a2 e (evH prg 3 [1, 3, 5] ir16_l1 (L16_1_s a1 a2 v1 v2))) (fun s => evH prg 3 [1, 3, 5] ir16_l1 (L16_1_s a1 a2 v1 v2) = evH prg 3 [1, 3, 5] ir16_l1 (L16_1_s a1 a2 s.1 s.2)) r := by
 unfold L16_1 at h
 refine bi h (fun h1 h => ?_) fun h1 h => ?_
 ·
  refine bn h fun r2 h2 h => ?_
  cases r2 with
  | k0 x2_0 x2_1 =>
   obtain ⟨g2, e2⟩ := L16_0_run a1 a2 (false, 0, v2) _ h2
   rw [← sj h]
   exact rnd (n := 30) [(22, .d true), (2004, .l (.brk 4) ⟨fr 67 g2 [(1, (.ptr 0 0)), (3, (.sl 2 0 1 0 a1)), (5, (vb x2_0))], [bG a2, bI [], bI x2_1]⟩), (6000, .d true)] (apc (cv h1) (apc ((okT_of rfl (abl_cons rfl (abl_cons abl_row (abl_cons abl_row rfl)))) : okT 3 [bG a2, bI [], bI v2] = true) (apc (e2 : evH prg 3 [1, 3, 5, 6] ir16_l0 (L16_0_s a1 a2 false 0 v2) = some ((.brk 4), ⟨fr 67 g2 [(1, (.ptr 0 0)), (3, (.sl 2 0 1 0 a1)), (5, (vb x2_0))], [bG a2, bI [], bI x2_1]⟩)) (apc ((okT_of rfl (abl_cons rfl (abl_cons abl_row (abl_cons abl_row rfl)))) : okT 3 [bG a2, bI [], bI x2_1] = true) apn)))) (by kernel_rfl)
 ·
  rw [← sj h]
  exact xbrk (n := 30) [(22, .d false), (6000, .d true)] (apc (cv h1) apn) (by kernel_rfl)
theorem L16_1_run (a1 : Nat) (a2 : GramD) (s0 : Bool × (List Int)) (e : E_L16_1) (h : runL (fun s => L16_1 a1 a2 s.1 s.2) s0 = some e) : L16_1_x a1 a2 e (evH prg 3 [1, 3, 5] ir16_l1 (L16_1_s a1 a2 s0.1 s0.2)) := by
  have q := @loop_sound' (Bool × (List Int)) E_L16_1 (fun s => L16_1 a1 a2 s.1 s.2) (fun s => evH prg 3 [1, 3, 5] ir16_l1 (L16_1_s a1 a2 s.1 s.2)) (L16_1_x a1 a2) (fun s r h => L16_1_ok a1 a2 s.1 s.2 h) s0 e h
  exact q
noncomputable def F16 (a1 : GramD) : Option (List Int) :=
  (bif (mkOk (a1.sorts.length : Int) 8) then ((runL (fun s => L16_2 (Int.toNat (a1.sorts.length : Int)) s.1 s.2) (0, (List.replicate (Int.toNat (a1.sorts.length : Int)) 0))).bind fun r2 => match r2 with | .k0 x2_0 => ((runL (fun s => L16_1 (Int.toNat (a1.sorts.length : Int)) a1 s.1 s.2) (true, x2_0)).bind fun r3 => match r3 with | .k0 x3_0 => (bif (decide ((Int.toNat (a1.sorts.length : Int)) ≤ x3_0.length)) then (some (x3_0.take (Int.toNat (a1.sorts.length : Int)))) else none))) else none)
def F16_v (a1 : GramD) (x0 : (List Int)) : AV := (.p (.lst 1 (x0.map eI64)))
theorem F16_ok (a1 : GramD) {r : (List Int)} (h : F16 a1 = some r) : PR1 prg 16 [(aG a1)] (F16_v a1 r) := by
 unfold F16 at h
 refine bi h (fun h1 h => ?_) fun h1 h => ?_
 ·
  refine bn h fun r2 h2 h => ?_
  cases r2 with
  | k0 x2_0 =>
   obtain ⟨g2, e2⟩ := L16_2_run (Int.toNat (a1.sorts.length : Int)) a1 (0, (List.replicate (Int.toNat (a1.sorts.length : Int)) 0)) _ h2
   refine bn h fun r3 h3 h => ?_
   cases r3 with
   | k0 x3_0 =>
    obtain ⟨g3, e3⟩ := L16_1_run (Int.toNat (a1.sorts.length : Int)) a1 (true, x2_0) _ h3
    refine bi h (fun h4 h => ?_) fun h4 h => ?_
    ·
     rw [← sj h]
     exact fpo (n := 30) (v := (.sl 2 0 1 0 (Int.toNat (a1.sorts.length : Int)))) (h' := [bG a1, bI [], bI x3_0]) [(11, .v (i6 (a1.sorts.length : Int))), (12, .r (.sl 2 0 1 0 (Int.toNat (a1.sorts.length : Int))) [bG a1, bI [], .row 3 1 0 (ra eI64 (List.replicate (Int.toNat (a1.sorts.length : Int)) 0))]), (2000, .l (.brk 0) ⟨fr 67 g2 [(1, (.ptr 0 0)), (3, (.sl 2 0 1 0 (Int.toNat (a1.sorts.length : Int))))], [bG a1, bI [], bI x2_0]⟩), (2002, .l (.brk 2) ⟨fr 67 g3 [(1, (.ptr 0 0)), (3, (.sl 2 0 1 0 (Int.toNat (a1.sorts.length : Int))))], [bG a1, bI [], bI x3_0]⟩), (6000, .d true)] (apc (lg a1.sorts eStr 1) (apc ((mk_row' (h := [bG a1, bI []]) (e := eI64) (z := 0) h1 rfl) : (mkA 3 1 8 [.val (.int .i64 0)] (i6 (a1.sorts.length : Int)) (i6 (a1.sorts.length : Int)) 2).map (fun x => (x.1, [bG a1, bI []] ++ [x.2])) = some ((.sl 2 0 1 0 (Int.toNat (a1.sorts.length : Int))), [bG a1, bI [], .row 3 1 0 (ra eI64 (List.replicate (Int.toNat (a1.sorts.length : Int)) 0))])) (apc ((okT_of rfl (abl_cons rfl (abl_cons abl_row (abl_cons abl_row rfl)))) : okT 3 [bG a1, bI [], .row 3 1 0 (ra eI64 (List.replicate (Int.toNat (a1.sorts.length : Int)) 0))] = true) (apc (e2 : evH prg 3 [1, 3, 4] ir16_l2 (L16_2_s (Int.toNat (a1.sorts.length : Int)) a1 0 (List.replicate (Int.toNat (a1.sorts.length : Int)) 0)) = some ((.brk 0), ⟨fr 67 g2 [(1, (.ptr 0 0)), (3, (.sl 2 0 1 0 (Int.toNat (a1.sorts.length : Int))))], [bG a1, bI [], bI x2_0]⟩)) (apc ((okT_of rfl (abl_cons rfl (abl_cons abl_row (abl_cons abl_row rfl)))) : okT 3 [bG a1, bI [], bI x2_0] = true) (apc (e3 : evH prg 3 [1, 3, 5] ir16_l1 (L16_1_s (Int.toNat (a1.sorts.length : Int)) a1 true x2_0) = some ((.brk 2), ⟨fr 67 g3 [(1, (.ptr 0 0)), (3, (.sl 2 0 1 0 (Int.toNat (a1.sorts.length : Int))))], [bG a1, bI [], bI x3_0]⟩)) apn)))))) (purA_sl rfl h4) (by kernel_rfl)
    ·
     cases h
 ·
  cases h
inductive E_L3_0 where
  | k0
  | k1
noncomputable def L3_0 (a2 : List Int) (a3 : List Int) (v1 : Int) : Option (E_L3_0 ⊕ (Int)) :=
  (bif (decide (v1 < (a3.length : Int))) then ((getI a2 v1).bind fun x2 => ((getI a3 v1).bind fun x3 => (bif (x2 != x3) then (some (.inl (.k0))) else (some (.inr ((IntKind.wrap .i64 (v1 + 1)))))))) else (some (.inl (.k1))))
def L3_0_s (a1 : Int) (a2 : List Int) (a3 : List Int) (a4 : GramD) (v1 : Int) : St := ⟨fr 130 ug [(1, (i6 a1)), (2, (.ptr 0 0)), (6, (.p (.lst 1 (a2.map eI64)))), (10, (.p (.lst 1 (a3.map eI64)))), (11, (i6 v1))], [bG a4]⟩
def L3_0_x (a1 : Int) (a2 : List Int) (a3 : List Int) (a4 : GramD) (e : E_L3_0) (r : Option (Out × St)) : Prop := match e with | .k0 => ∃ g y, r = some (.ret, ⟨fr 130 g [(4, (vb false))], y⟩) | .k1 => ∃ g, r = some ((.brk 0), ⟨fr 130 g [(1, (i6 a1)), (2, (.ptr 0 0)), (6, (.p (.lst 1 (a2.map eI64)))), (10, (.p (.lst 1 (a3.map eI64))))], [bG a4]⟩)
theorem L3_0_ok (a1 : Int) (a2 : List Int) (a3 : List Int) (a4 : GramD) (v1 : Int) {r : E_L3_0 ⊕ (Int)} (h : L3_0 a2 a3 v1 = some r) : OkR (fun e => L3_0_x a1 a2 a3 a4 e (evH prg 1 [1, 2, 6, 10, 11] ir3_l0 (L3_0_s a1 a2 a3 a4 v1))) (fun s => evH prg 1 [1, 2, 6, 10, 11] ir3_l0 (L3_0_s a1 a2 a3 a4 v1) = evH prg 1 [1, 2, 6, 10, 11] ir3_l0 (L3_0_s a1 a2 a3 a4 s)) r := by
 unfold L3_0 at h
 refine bi h (fun h1 h => ?_) fun h1 h => ?_
 ·
  refine bn h fun x2 h2 h => ?_
  refine bn h fun x3 h3 h => ?_
  refine bi h (fun h4 h => ?_) fun h4 h => ?_
  ·
   rw [← sj h]
   exact xretY (n := 30) [(70, .v (i6 (a3.length : Int))), (71, .d true), (76, .v (.ro [.val (.int .i64 x2)])), (80, .v (.ro [.val (.int .i64 x3)])), (82, .d true), (6000, .d true)] (apc (lg a3 eI64 1) (apc (cv h1) (apc (ig eI64 1 .i64 h2) (apc (ig eI64 1 .i64 h3) (apc (cv h4) apn))))) (by kernel_rfl)
  ·
   rw [← sj h]
   exact rnd (n := 30) [(70, .v (i6 (a3.length : Int))), (71, .d true), (76, .v (.ro [.val (.int .i64 x2)])), (80, .v (.ro [.val (.int .i64 x3)])), (82, .d false), (6000, .d true)] (apc (lg a3 eI64 1) (apc (cv h1) (apc (ig eI64 1 .i64 h2) (apc (ig eI64 1 .i64 h3) (apc (cv h4) (apc ((okT_of rfl (abl_cons rfl rfl)) : okT 1 [bG a4] = true) apn)))))) (by kernel_rfl)
 ·
  rw [← sj h]
  exact xbrk (n := 30) [(70, .v (i6 (a3.length : Int))), (71, .d false), (6000, .d true)] (apc (lg a3 eI64 1) (apc (cv h1) apn)) (by kernel_rfl)
theorem L3_0_run (a1 : Int) (a2 : List Int) (a3 : List Int) (a4 : GramD) (s0 : Int) (e : E_L3_0) (h : runL (fun s => L3_0 a2 a3 s) s0 = some e) : L3_0_x a1 a2 a3 a4 e (evH prg 1 [1, 2, 6, 10, 11] ir3_l0 (L3_0_s a1 a2 a3 a4 s0)) := by
  have q := @loop_sound' (Int) E_L3_0 (fun s => L3_0 a2 a3 s) (fun s => evH prg 1 [1, 2, 6, 10, 11] ir3_l0 (L3_0_s a1 a2 a3 a4 s)) (L3_0_x a1 a2 a3 a4) (fun s r h => L3_0_ok a1 a2 a3 a4 s h) s0 e h
  exact q
noncomputable def F71 (a1 : SymD) (a2 : Int) : Option Bool :=
  (bif ((IntKind.wrap .i64 (Int.tdiv a2 64)) == 0) then (bif (decide ((Int.tmod a2 64) < 0)) then none else (some ((Int.tmod (Int.fdiv a1.a (2 ^ (min (Int.toNat (Int.tmod a2 64)) (IntKind.bits .u64)))) 2) == 1))) else (bif ((IntKind.wrap .i64 (Int.tdiv a2 64)) == 1) then (bif (decide ((Int.tmod a2 64) < 0)) then none else (some ((Int.tmod (Int.fdiv a1.b (2 ^ (min (Int.toNat (Int.tmod a2 64)) (IntKind.bits .u64)))) 2) == 1))) else (bif ((IntKind.wrap .i64 (Int.tdiv a2 64)) == 2) then (bif (decide ((Int.tmod a2 64) < 0)) then none else (some ((Int.tmod (Int.fdiv a1.c (2 ^ (min (Int.toNat (Int.tmod a2 64)) (IntKind.bits .u64)))) 2) == 1))) else (bif ((IntKind.wrap .i64 (Int.tdiv a2 64)) == 3) then (bif (decide ((Int.tmod a2 64) < 0)) then none else (some ((Int.tmod (Int.fdiv a1.d (2 ^ (min (Int.toNat (Int.tmod a2 64)) (IntKind.bits .u64)))) 2) == 1))) else none))))
def F71_v (a1 : SymD) (a2 : Int) (x0 : Bool) : AV := (vb x0)
theorem F71_ok (a1 : SymD) (a2 : Int) {r : Bool} (h : F71 a1 a2 = some r) : PR1 prg 71 [(.agg ((List.take 4 (List.drop 1 (eSym a1))).map .p)), (i6 a2)] (F71_v a1 a2 r) := by
 unfold F71 at h
 refine bi h (fun h1 h => ?_) fun h1 h => ?_
 ·
  refine bi h (fun h2 h => ?_) fun h2 h => ?_
  ·
   cases h
  ·
   rw [← sj h]
   exact fpr (n := 30) [(7, .v (.ptr 0 0)), (11, .v (vi .u64 (Int.fdiv a1.a (2 ^ (min (Int.toNat (Int.tmod a2 64)) (IntKind.bits .u64))))))] (apc ((ix_lit h1 (fun z => ixP 4 1 (.ptr 0 0) (i6 z)) rfl) : ixP 4 1 (.ptr 0 0) (i6 (w6 (Int.tdiv a2 64))) = some (.ptr 0 0)) (apc ((sh_shr (of_decide_eq_false h2)) : binA .shr (vi .u64 a1.a) (i6 (Int.tmod a2 64)) = some (vi .u64 (Int.fdiv a1.a (2 ^ (min (Int.toNat (Int.tmod a2 64)) (IntKind.bits .u64)))))) apn)) rfl (by kernel_rfl)
 ·
  refine bi h (fun h2 h => ?_) fun h2 h => ?_
  ·
   refine bi h (fun h3 h => ?_) fun h3 h => ?_
   ·
    cases h
   ·
    rw [← sj h]
    exact fpr (n := 30) [(7, .v (.ptr 0 1)), (11, .v (vi .u64 (Int.fdiv a1.b (2 ^ (min (Int.toNat (Int.tmod a2 64)) (IntKind.bits .u64))))))] (apc ((ix_lit h2 (fun z => ixP 4 1 (.ptr 0 0) (i6 z)) rfl) : ixP 4 1 (.ptr 0 0) (i6 (w6 (Int.tdiv a2 64))) = some (.ptr 0 1)) (apc ((sh_shr (of_decide_eq_false h3)) : binA .shr (vi .u64 a1.b) (i6 (Int.tmod a2 64)) = some (vi .u64 (Int.fdiv a1.b (2 ^ (min (Int.toNat (Int.tmod a2 64)) (IntKind.bits .u64)))))) apn)) rfl (by kernel_rfl)
  ·
   refine bi h (fun h3 h => ?_) fun h3 h => ?_
   ·
    refine bi h (fun h4 h => ?_) fun h4 h => ?_
    ·
     cases h
    ·
     rw [← sj h]
     exact fpr (n := 30) [(7, .v (.ptr 0 2)), (11, .v (vi .u64 (Int.fdiv a1.c (2 ^ (min (Int.toNat (Int.tmod a2 64)) (IntKind.bits .u64))))))] (apc ((ix_lit h3 (fun z => ixP 4 1 (.ptr 0 0) (i6 z)) rfl) : ixP 4 1 (.ptr 0 0) (i6 (w6 (Int.tdiv a2 64))) = some (.ptr 0 2)) (apc ((sh_shr (of_decide_eq_false h4)) : binA .shr (vi .u64 a1.c) (i6 (Int.tmod a2 64)) = some (vi .u64 (Int.fdiv a1.c (2 ^ (min (Int.toNat (Int.tmod a2 64)) (IntKind.bits .u64)))))) apn)) rfl (by kernel_rfl)
   ·
    refine bi h (fun h4 h => ?_) fun h4 h => ?_
    ·
     refine bi h (fun h5 h => ?_) fun h5 h => ?_
     ·
      cases h
     ·
      rw [← sj h]
      exact fpr (n := 30) [(7, .v (.ptr 0 3)), (11, .v (vi .u64 (Int.fdiv a1.d (2 ^ (min (Int.toNat (Int.tmod a2 64)) (IntKind.bits .u64))))))] (apc ((ix_lit h4 (fun z => ixP 4 1 (.ptr 0 0) (i6 z)) rfl) : ixP 4 1 (.ptr 0 0) (i6 (w6 (Int.tdiv a2 64))) = some (.ptr 0 3)) (apc ((sh_shr (of_decide_eq_false h5)) : binA .shr (vi .u64 a1.d) (i6 (Int.tmod a2 64)) = some (vi .u64 (Int.fdiv a1.d (2 ^ (min (Int.toNat (Int.tmod a2 64)) (IntKind.bits .u64)))))) apn)) rfl (by kernel_rfl)
    ·
     cases h
inductive E_L52_0 where
  | k0 (x0 : Nat) (x1 : Nat) (x2 : List Int)
noncomputable def L52_0 (a1 : SymD) (v1 : Nat) (v2 : Nat) (v3 : Int) (v4 : List Int) : Option (E_L52_0 ⊕ (Nat × Nat × Int × (List Int))) :=
  (bif (decide (v3 < 256)) then ((F71 a1 v3).bind fun x2 => (bif x2 then (bif (apOk v2 1 v4.length 1) then (bif (decide (v2 + 1 ≤ v4.length)) then (some (.inr (v1, (v2 + 1), (IntKind.wrap .i64 (v3 + 1)), (splice v4 v2 [(IntKind.wrap .u8 v3)])))) else (some (.inr ((v1 + 1), (v2 + 1), (IntKind.wrap .i64 (v3 + 1)), (v4.take v2 ++ [(IntKind.wrap .u8 v3)]))))) else none) else (some (.inr (v1, v2, (IntKind.wrap .i64 (v3 + 1)), v4))))) else (some (.inl (.k0 v1 v2 v4))))
def L52_0_s (a1 : SymD) (v1 : Nat) (v2 : Nat) (v3 : Int) (v4 : List Int) : St := ⟨fr 18 ug [(1, (.ptr 0 0)), (3, (.sl 2 v1 1 0 v2)), (4, (i6 v3))], [.cells 46 ((List.take 4 (List.drop 1 (eSym a1))).map .p), .row 5 1 0 (ra eU8 []), .row 5 1 v1 (ra eU8 v4)]⟩
def L52_0_x (a1 : SymD) (e : E_L52_0) (r : Option (Out × St)) : Prop := match e with | .k0 x0 x1 x2 => ∃ g, r = some ((.brk 0), ⟨fr 18 g [(3, (.sl 2 x0 1 0 x1))], [.cells 46 ((List.take 4 (List.drop 1 (eSym a1))).map .p), .row 5 1 0 (ra eU8 []), .row 5 1 x0 (ra eU8 x2)]⟩)
theorem L52_0_ok (a1 : SymD) (v1 : Nat) (v2 : Nat) (v3 : Int) (v4 : List Int) {r : E_L52_0 ⊕ (Nat × Nat × Int × (List Int))} (h : L52_0 a1 v1 v2 v3 v4 = some r) : OkR (fun e => L52_0_x a1 e (evH prg 3 [1, 3, 4] ir52_l0 (L52_0_s a1 v1 v2 v3 v4))) (fun s => evH prg 3 [1, 3, 4] ir52_l0 (L52_0_s a1 v1 v2 v3 v4) = evH prg 3 [1, 3, 4] ir52_l0 (L52_0_s a1 s.1 s.2.1 s.2.2.1 s.2.2.2)) r := by
 unfold L52_0 at h
 refine bi h (fun h1 h => ?_) fun h1 h => ?_
 ·
  refine bn h fun x2 h2 h => ?_
  refine bi h (fun h3 h => ?_) fun h3 h => ?_
  ·
   refine bi h (fun h4 h => ?_) fun h4 h => ?_
   ·
    refine bi h (fun h5 h => ?_) fun h5 h => ?_
    ·
     rw [← sj h]
     exact rnd (n := 30) [(6, .d true), (11, .v (vb true)), (16, .r (.sl 2 v1 1 0 (v2 + 1)) [.cells 46 ((List.take 4 (List.drop 1 (eSym a1))).map .p), .row 5 1 0 (ra eU8 []), .row 5 1 v1 (ra eU8 (splice v4 v2 [(IntKind.wrap .u8 v3)])), .row 5 1 0 [[(vi .u8 (IntKind.wrap .u8 v3))]]]), (6000, .d true)] (apc (cv h1) (apc ((((F71_ok a1 v3 h2).cp rfl _).trans (congrArg (fun z => some (vb z)) h3)) : CP prg 71 [(.agg ((List.take 4 (List.drop 1 (eSym a1))).map .p)), (i6 v3)] [.cells 46 ((List.take 4 (List.drop 1 (eSym a1))).map .p), .row 5 1 0 (ra eU8 []), .row 5 1 v1 (ra eU8 v4)] = some (vb true)) (apc ((ap_in (e := eU8) (xs := v4) (news := [(IntKind.wrap .u8 v3)]) rfl (rows_x (e := eU8) (xs := [(IntKind.wrap .u8 v3)]) rfl) rfl h4 h5) : appA [.cells 46 ((List.take 4 (List.drop 1 (eSym a1))).map .p), .row 5 1 0 (ra eU8 []), .row 5 1 v1 (ra eU8 v4), .row 5 1 0 [[(vi .u8 (IntKind.wrap .u8 v3))]]] 5 1 1 (.sl 2 v1 1 0 v2) (.sl 3 0 1 0 1) = some ((.sl 2 v1 1 0 (v2 + 1)), [.cells 46 ((List.take 4 (List.drop 1 (eSym a1))).map .p), .row 5 1 0 (ra eU8 []), .row 5 1 v1 (ra eU8 (splice v4 v2 [(IntKind.wrap .u8 v3)])), .row 5 1 0 [[(vi .u8 (IntKind.wrap .u8 v3))]]])) (apc ((okT_of rfl (abl_cons rfl (abl_cons abl_row (abl_cons abl_row rfl)))) : okT 3 [.cells 46 ((List.take 4 (List.drop 1 (eSym a1))).map .p), .row 5 1 0 (ra eU8 []), .row 5 1 v1 (ra eU8 (splice v4 v2 [(IntKind.wrap .u8 v3)])), .row 5 1 0 [[(vi .u8 (IntKind.wrap .u8 v3))]]] = true) apn)))) (by kernel_rfl)
    ·
     rw [← sj h]
     exact rnd (n := 30) [(6, .d true), (11, .v (vb true)), (16, .r (.sl 2 (v1 + 1) 1 0 (v2 + 1)) [.cells 46 ((List.take 4 (List.drop 1 (eSym a1))).map .p), .row 5 1 0 (ra eU8 []), .row 5 1 (v1 + 1) (ra eU8 (v4.take v2 ++ [(IntKind.wrap .u8 v3)])), .row 5 1 0 [[(vi .u8 (IntKind.wrap .u8 v3))]]]), (6000, .d true)] (apc (cv h1) (apc ((((F71_ok a1 v3 h2).cp rfl _).trans (congrArg (fun z => some (vb z)) h3)) : CP prg 71 [(.agg ((List.take 4 (List.drop 1 (eSym a1))).map .p)), (i6 v3)] [.cells 46 ((List.take 4 (List.drop 1 (eSym a1))).map .p), .row 5 1 0 (ra eU8 []), .row 5 1 v1 (ra eU8 v4)] = some (vb true)) (apc ((ap_out (e := eU8) (xs := v4) (news := [(IntKind.wrap .u8 v3)]) rfl (rows_x (e := eU8) (xs := [(IntKind.wrap .u8 v3)]) rfl) rfl h4 h5) : appA [.cells 46 ((List.take 4 (List.drop 1 (eSym a1))).map .p), .row 5 1 0 (ra eU8 []), .row 5 1 v1 (ra eU8 v4), .row 5 1 0 [[(vi .u8 (IntKind.wrap .u8 v3))]]] 5 1 1 (.sl 2 v1 1 0 v2) (.sl 3 0 1 0 1) = some ((.sl 2 (v1 + 1) 1 0 (v2 + 1)), [.cells 46 ((List.take 4 (List.drop 1 (eSym a1))).map .p), .row 5 1 0 (ra eU8 []), .row 5 1 (v1 + 1) (ra eU8 (v4.take v2 ++ [(IntKind.wrap .u8 v3)])), .row 5 1 0 [[(vi .u8 (IntKind.wrap .u8 v3))]]])) (apc ((okT_of rfl (abl_cons rfl (abl_cons abl_row (abl_cons abl_row rfl)))) : okT 3 [.cells 46 ((List.take 4 (List.drop 1 (eSym a1))).map .p), .row 5 1 0 (ra eU8 []), .row 5 1 (v1 + 1) (ra eU8 (v4.take v2 ++ [(IntKind.wrap .u8 v3)])), .row 5 1 0 [[(vi .u8 (IntKind.wrap .u8 v3))]]] = true) apn)))) (by kernel_rfl)
   ·
    cases h
  ·
   rw [← sj h]
   exact rnd (n := 30) [(6, .d true), (11, .v (vb false)), (6000, .d true)] (apc (cv h1) (apc ((((F71_ok a1 v3 h2).cp rfl _).trans (congrArg (fun z => some (vb z)) h3)) : CP prg 71 [(.agg ((List.take 4 (List.drop 1 (eSym a1))).map .p)), (i6 v3)] [.cells 46 ((List.take 4 (List.drop 1 (eSym a1))).map .p), .row 5 1 0 (ra eU8 []), .row 5 1 v1 (ra eU8 v4)] = some (vb false)) (apc ((okT_of rfl (abl_cons rfl (abl_cons abl_row (abl_cons abl_row rfl)))) : okT 3 [.cells 46 ((List.take 4 (List.drop 1 (eSym a1))).map .p), .row 5 1 0 (ra eU8 []), .row 5 1 v1 (ra eU8 v4)] = true) apn))) (by kernel_rfl)
 ·
  rw [← sj h]
  exact xbrk (n := 30) [(6, .d false), (6000, .d true)] (apc (cv h1) apn) (by kernel_rfl)
theorem L52_0_run (a1 : SymD) (s0 : Nat × Nat × Int × (List Int)) (e : E_L52_0) (h : runL (fun s => L52_0 a1 s.1 s.2.1 s.2.2.1 s.2.2.2) s0 = some e) : L52_0_x a1 e (evH prg 3 [1, 3, 4] ir52_l0 (L52_0_s a1 s0.1 s0.2.1 s0.2.2.1 s0.2.2.2)) := by
  have q := @loop_sound' (Nat × Nat × Int × (List Int)) E_L52_0 (fun s => L52_0 a1 s.1 s.2.1 s.2.2.1 s.2.2.2) (fun s => evH prg 3 [1, 3, 4] ir52_l0 (L52_0_s a1 s.1 s.2.1 s.2.2.1 s.2.2.2)) (L52_0_x a1) (fun s r h => L52_0_ok a1 s.1 s.2.1 s.2.2.1 s.2.2.2 h) s0 e h
  exact q
noncomputable def F52 (a1 : SymD) : Option (List Int) :=
  ((runL (fun s => L52_0 a1 s.1 s.2.1 s.2.2.1 s.2.2.2) (0, 0, 0, [])).bind fun r1 => match r1 with | .k0 x1_0 x1_1 x1_2 => (bif (decide (x1_1 ≤ x1_2.length)) then (some (x1_2.take x1_1)) else none))
def F52_v (a1 : SymD) (x0 : (List Int)) : AV := (.p (.lst 1 (x0.map eU8)))
theorem F52_ok (a1 : SymD) {r : (List Int)} (h : F52 a1 = some r) : PR1 prg 52 [(.agg ((List.take 4 (List.drop 1 (eSym a1))).map .p))] (F52_v a1 r) := by
 unfold F52 at h
 refine bn h fun r1 h1 h => ?_
 cases r1 with
 | k0 x1_0 x1_1 x1_2 =>
  obtain ⟨g1, e1⟩ := L52_0_run a1 (0, 0, 0, []) _ h1
  refine bi h (fun h2 h => ?_) fun h2 h => ?_
  ·
   rw [← sj h]
   exact fpo (n := 30) (v := (.sl 2 x1_0 1 0 x1_1)) (h' := [.cells 46 ((List.take 4 (List.drop 1 (eSym a1))).map .p), .row 5 1 0 (ra eU8 []), .row 5 1 x1_0 (ra eU8 x1_2)]) [(2000, .l (.brk 0) ⟨fr 18 g1 [(3, (.sl 2 x1_0 1 0 x1_1))], [.cells 46 ((List.take 4 (List.drop 1 (eSym a1))).map .p), .row 5 1 0 (ra eU8 []), .row 5 1 x1_0 (ra eU8 x1_2)]⟩), (6000, .d true)] (apc ((okT_of rfl (abl_cons rfl (abl_cons abl_row (abl_cons abl_row rfl)))) : okT 3 [.cells 46 ((List.take 4 (List.drop 1 (eSym a1))).map .p), .row 5 1 0 (ra eU8 []), .row 5 1 0 (ra eU8 [])] = true) (apc (e1 : evH prg 3 [1, 3, 4] ir52_l0 (L52_0_s a1 0 0 0 ([])) = some ((.brk 0), ⟨fr 18 g1 [(3, (.sl 2 x1_0 1 0 x1_1))], [.cells 46 ((List.take 4 (List.drop 1 (eSym a1))).map .p), .row 5 1 0 (ra eU8 []), .row 5 1 x1_0 (ra eU8 x1_2)]⟩)) apn)) (purA_sl rfl h2) (by kernel_rfl)
  ·
   cases h
inductive E_L17_0 where
  | k0 (x0 : Bool) (x1 : ByteArray)
noncomputable def L17_0 (a3 : Nat) (a7 : List ByteArray) (a8 : List Bool) (a9 : ProdD) (v1 : Bool) (v2 : ByteArray) (v3 : Int) : Option (E_L17_0 ⊕ (Bool × ByteArray × Int)) :=
  (bif (decide (v3 < (a9.right.length : Int))) then (bif v1 then ((getI a9.right v3).bind fun x3 => (bif (x3.kind == 1) then ((ixN a3 x3.sort).bind fun x5 => ((a7[x5]?).bind fun x6 => (bif (decide (v2.size + x6.size ≤ 9223372036854775807)) then ((a8[x5]?).bind fun x8 => (bif x8 then (some (.inr (true, (v2 ++ x6), (IntKind.wrap .i64 (v3 + 1))))) else (some (.inr (false, (v2 ++ x6), (IntKind.wrap .i64 (v3 + 1))))))) else none))) else ((F52 x3).bind fun x5 => (bif (sl_ok 0 1 x5.length) then (bif (decide (v2.size + (bstr ((x5.take (Int.toNat 1)).drop (Int.toNat 0))).size ≤ 9223372036854775807)) then (some (.inr (v1, (v2 ++ (bstr ((x5.take (Int.toNat 1)).drop (Int.toNat 0)))), (IntKind.wrap .i64 (v3 + 1))))) else none) else none)))) else (some (.inl (.k0 v1 v2)))) else (some (.inl (.k0 v1 v2))))
def L17_0_s (a1 : Int) (a2 : List Int) (a3 : Nat) (a4 : Bool) (a5 : Int) (a6 : GramD) (a7 : List ByteArray) (a8 : List Bool) (a9 : ProdD) (v1 : Bool) (v2 : ByteArray) (v3 : Int) : St := ⟨fr 156 ug [(1, (i6 a1)), (2, (.ptr 0 0)), (6, (.p (.lst 1 (a2.map eI64)))), (7, (.sl 1 0 1 0 a3)), (8, (.sl 2 0 1 0 a3)), (9, (vb a4)), (10, (i6 a5)), (11, (.ptr 4 0)), (13, (vb v1)), (14, (vs v2)), (15, (i6 v3))], [bG a6, .row 9 1 0 (ra eStr a7), bB a8, .row 48 6 0 (ra eSym []), bP a9]⟩
def L17_0_x (a1 : Int) (a2 : List Int) (a3 : Nat) (a4 : Bool) (a5 : Int) (a6 : GramD) (a7 : List ByteArray) (a8 : List Bool) (a9 : ProdD) (e : E_L17_0) (r : Option (Out × St)) : Prop := match e with | .k0 x0 x1 => ∃ g, r = some ((.brk 4), ⟨fr 156 g [(1, (i6 a1)), (2, (.ptr 0 0)), (6, (.p (.lst 1 (a2.map eI64)))), (7, (.sl 1 0 1 0 a3)), (8, (.sl 2 0 1 0 a3)), (9, (vb a4)), (10, (i6 a5)), (11, (.ptr 4 0)), (13, (vb x0)), (14, (vs x1))], [bG a6, .row 9 1 0 (ra eStr a7), bB a8, .row 48 6 0 (ra eSym []), bP a9]⟩)
theorem L17_0_ok (a1 : Int) (a2 : List Int) (a3 : Nat) (a4 : Bool) (a5 : Int) (a6 : GramD) (a7 : List ByteArray) (a8 : List Bool) (a9 : ProdD) (v1 : Bool) (v2 : ByteArray) (v3 : Int) {r : E_L17_0 ⊕ (Bool × ByteArray × Int)} (h : L17_0 a3 a7 a8 a9 v1 v2 v3 = some r) : OkR (fun e => L17_0_x a1 a2 a3 a4 a5 a6 a7 a8 a9 e (evH prg 5 [1, 2, 6, 7, 8, 9, 10, 11, 13, 14, 15] ir17_l0 (L17_0_s a1 a2 a3 a4 a5 a6 a7 a8 a9 v1 v2 v3))) (fun s => evH prg 5 [1, 2, 6, 7, 8, 9, 10, 11, 13, 14, 15] ir17_l0 (L17_0_s a1 a2 a3 a4 a5 a6 a7 a8 a9 v1 v2 v3) = evH prg 5 [1, 2, 6, 7, 8, 9, 10, 11, 13, 14, 15] ir17_l0 (L17_0_s a1 a2 a3 a4 a5 a6 a7 a8 a9 s.1 s.2.1 s.2.2)) r := by
 unfold L17_0 at h
 refine bi h (fun h1 h => ?_) fun h1 h => ?_
 ·
  refine bi h (fun h2 h => ?_) fun h2 h => ?_
  ·
   refine bn h fun x3 h3 h => ?_
   refine bi h (fun h4 h => ?_) fun h4 h => ?_
   ·
    refine bn h fun x5 h5 h => ?_
    refine bn h fun x6 h6 h => ?_
    refine bi h (fun h7 h => ?_) fun h7 h => ?_
    ·
     refine bn h fun x8 h8 h => ?_
     refine bi h (fun h9 h => ?_) fun h9 h => ?_
     ·
      rw [← sj h]
      exact rnd (n := 30) [(91, .v (i6 (a9.right.length : Int))), (92, .d true), (94, .d true), (101, .v (.ro (eSym x3))), (105, .d true), (110, .v (.rp 1 0 1 x5 0)), (111, .v (vs x6)), (112, .v (vs (v2 ++ x6))), (116, .v (.rp 2 0 1 x5 0)), (117, .v (vb true)), (6000, .d true)] (apc (lg a9.right eSym 6) (apc (cv h1) (apc (cv h2) (apc (ig eSym 6 .i64 h3) (apc (cv h4) (apc ((idx_sl h5) : idxA 1 (.sl 1 0 1 0 a3) (i6 x3.sort) = some (.rp 1 0 1 x5 0)) (apc ((ld_row rfl h6 rfl) : ldA [bG a6, .row 9 1 0 (ra eStr a7), bB a8, .row 48 6 0 (ra eSym []), bP a9, .cells 48 ((eSym x3).map .p)] .false 1 (.rp 1 0 1 x5 0) = some (vs x6)) (apc ((st_add h7) : binA .add (vs v2) (vs x6) = some (vs (v2 ++ x6))) (apc ((idx_sl h5) : idxA 1 (.sl 2 0 1 0 a3) (i6 x3.sort) = some (.rp 2 0 1 x5 0)) (apc (((ld_row (V := vb x8) rfl h8 rfl).trans (congrArg (fun z => some (vb z)) h9)) : ldA [bG a6, .row 9 1 0 (ra eStr a7), bB a8, .row 48 6 0 (ra eSym []), bP a9, .cells 48 ((eSym x3).map .p)] .false 1 (.rp 2 0 1 x5 0) = some (vb true)) (apc ((okT_of rfl (abl_cons rfl (abl_cons abl_row (abl_cons abl_row (abl_cons abl_row (abl_cons rfl rfl)))))) : okT 5 [bG a6, .row 9 1 0 (ra eStr a7), bB a8, .row 48 6 0 (ra eSym []), bP a9, .cells 48 ((eSym x3).map .p)] = true) apn))))))))))) (by kernel_rfl)
     ·
      rw [← sj h]
      exact rnd (n := 30) [(91, .v (i6 (a9.right.length : Int))), (92, .d true), (94, .d true), (101, .v (.ro (eSym x3))), (105, .d true), (110, .v (.rp 1 0 1 x5 0)), (111, .v (vs x6)), (112, .v (vs (v2 ++ x6))), (116, .v (.rp 2 0 1 x5 0)), (117, .v (vb false)), (6000, .d true)] (apc (lg a9.right eSym 6) (apc (cv h1) (apc (cv h2) (apc (ig eSym 6 .i64 h3) (apc (cv h4) (apc ((idx_sl h5) : idxA 1 (.sl 1 0 1 0 a3) (i6 x3.sort) = some (.rp 1 0 1 x5 0)) (apc ((ld_row rfl h6 rfl) : ldA [bG a6, .row 9 1 0 (ra eStr a7), bB a8, .row 48 6 0 (ra eSym []), bP a9, .cells 48 ((eSym x3).map .p)] .false 1 (.rp 1 0 1 x5 0) = some (vs x6)) (apc ((st_add h7) : binA .add (vs v2) (vs x6) = some (vs (v2 ++ x6))) (apc ((idx_sl h5) : idxA 1 (.sl 2 0 1 0 a3) (i6 x3.sort) = some (.rp 2 0 1 x5 0)) (apc (((ld_row (V := vb x8) rfl h8 rfl).trans (congrArg (fun z => some (vb z)) h9)) : ldA [bG a6, .row 9 1 0 (ra eStr a7), bB a8, .row 48 6 0 (ra eSym []), bP a9, .cells 48 ((eSym x3).map .p)] .false 1 (.rp 2 0 1 x5 0) = some (vb false)) (apc ((okT_of rfl (abl_cons rfl (abl_cons abl_row (abl_cons abl_row (abl_cons abl_row (abl_cons rfl rfl)))))) : okT 5 [bG a6, .row 9 1 0 (ra eStr a7), bB a8, .row 48 6 0 (ra eSym []), bP a9, .cells 48 ((eSym x3).map .p)] = true) apn))))))))))) (by kernel_rfl)
    ·
     cases h
   ·
    refine bn h fun x5 h5 h => ?_
    refine bi h (fun h6 h => ?_) fun h6 h => ?_
    ·
     refine bi h (fun h7 h => ?_) fun h7 h => ?_
     ·
      rw [← sj h]
      exact rnd (n := 30) [(91, .v (i6 (a9.right.length : Int))), (92, .d true), (94, .d true), (101, .v (.ro (eSym x3))), (105, .d false), (121, .v (.p (.lst 1 (x5.map eU8)))), (122, .v (.p (.lst 1 (((x5.take (Int.toNat 1)).drop (Int.toNat 0)).map eU8)))), (123, .v (vs (bstr ((x5.take (Int.toNat 1)).drop (Int.toNat 0))))), (124, .v (vs (v2 ++ (bstr ((x5.take (Int.toNat 1)).drop (Int.toNat 0)))))), (6000, .d true)] (apc (lg a9.right eSym 6) (apc (cv h1) (apc (cv h2) (apc (ig eSym 6 .i64 h3) (apc (cv h4) (apc (((F52_ok x3 h5).cp rfl _) : CP prg 52 [(.agg ((List.take 4 (List.drop 1 (eSym x3))).map .p))] [bG a6, .row 9 1 0 (ra eStr a7), bB a8, .row 48 6 0 (ra eSym []), bP a9, .cells 48 ((eSym x3).map .p)] = some (.p (.lst 1 (x5.map eU8)))) (apc ((sl_lst h6) : slL 1 (.p (.lst 1 (x5.map eU8))) (some 0) (some 1) = some (.p (.lst 1 (((x5.take (Int.toNat 1)).drop (Int.toNat 0)).map eU8)))) (apc (cv_lst : cvB [bG a6, .row 9 1 0 (ra eStr a7), bB a8, .row 48 6 0 (ra eSym []), bP a9, .cells 48 ((eSym x3).map .p)] (.p (.lst 1 (((x5.take (Int.toNat 1)).drop (Int.toNat 0)).map eU8))) = some (vs (bstr ((x5.take (Int.toNat 1)).drop (Int.toNat 0))))) (apc ((st_add h7) : binA .add (vs v2) (vs (bstr ((x5.take (Int.toNat 1)).drop (Int.toNat 0)))) = some (vs (v2 ++ (bstr ((x5.take (Int.toNat 1)).drop (Int.toNat 0)))))) (apc ((okT_of rfl (abl_cons rfl (abl_cons abl_row (abl_cons abl_row (abl_cons abl_row (abl_cons rfl rfl)))))) : okT 5 [bG a6, .row 9 1 0 (ra eStr a7), bB a8, .row 48 6 0 (ra eSym []), bP a9, .cells 48 ((eSym x3).map .p)] = true) apn)))))))))) (by kernel_rfl)
     ·
      cases h
    ·
     cases h
  ·
   rw [← sj h]
   exact xbrk (n := 30) [(91, .v (i6 (a9.right.length : Int))), (92, .d true), (94, .d false), (6000, .d true)] (apc (lg a9.right eSym 6) (apc (cv h1) (apc (cv h2) apn))) (by kernel_rfl)
 ·
  rw [← sj h]
  exact xbrk (n := 30) [(91, .v (i6 (a9.right.length : Int))), (92, .d false), (6000, .d true)] (apc (lg a9.right eSym 6) (apc (cv h1) apn)) (by kernel_rfl)
theorem L17_0_run (a1 : Int) (a2 : List Int) (a3 : Nat) (a4 : Bool) (a5 : Int) (a6 : GramD) (a7 : List ByteArray) (a8 : List Bool) (a9 : ProdD) (s0 : Bool × ByteArray × Int) (e : E_L17_0) (h : runL (fun s => L17_0 a3 a7 a8 a9 s.1 s.2.1 s.2.2) s0 = some e) : L17_0_x a1 a2 a3 a4 a5 a6 a7 a8 a9 e (evH prg 5 [1, 2, 6, 7, 8, 9, 10, 11, 13, 14, 15] ir17_l0 (L17_0_s a1 a2 a3 a4 a5 a6 a7 a8 a9 s0.1 s0.2.1 s0.2.2)) := by
  have q := @loop_sound' (Bool × ByteArray × Int) E_L17_0 (fun s => L17_0 a3 a7 a8 a9 s.1 s.2.1 s.2.2) (fun s => evH prg 5 [1, 2, 6, 7, 8, 9, 10, 11, 13, 14, 15] ir17_l0 (L17_0_s a1 a2 a3 a4 a5 a6 a7 a8 a9 s.1 s.2.1 s.2.2)) (L17_0_x a1 a2 a3 a4 a5 a6 a7 a8 a9) (fun s r h => L17_0_ok a1 a2 a3 a4 a5 a6 a7 a8 a9 s.1 s.2.1 s.2.2 h) s0 e h
  exact q
inductive E_L17_0_2 where
  | k0
noncomputable def L17_0_2 (a9 : ProdD) : Option (E_L17_0_2 ⊕ (Unit)) :=
  (bif (decide (0 < (a9.right.length : Int))) then (some (.inl (.k0))) else (some (.inl (.k0))))
def L17_0_2_s (a1 : Int) (a2 : List Int) (a3 : Nat) (a4 : Bool) (a5 : Int) (a6 : GramD) (a7 : List ByteArray) (a8 : List Bool) (a9 : ProdD) : St := ⟨fr 156 ug [(1, (i6 a1)), (2, (.ptr 0 0)), (6, (.p (.lst 1 (a2.map eI64)))), (7, (.sl 1 0 1 0 a3)), (8, (.sl 2 0 1 0 a3)), (9, (vb a4)), (10, (i6 a5)), (11, (.ptr 4 0)), (13, (vb false)), (14, (vs b0)), (15, (i6 0))], [bG a6, .row 9 1 0 (ra eStr a7), bB a8, .row 48 6 0 (ra eSym []), bP a9]⟩
def L17_0_2_x (a1 : Int) (a2 : List Int) (a3 : Nat) (a4 : Bool) (a5 : Int) (a6 : GramD) (a7 : List ByteArray) (a8 : List Bool) (a9 : ProdD) (e : E_L17_0_2) (r : Option (Out × St)) : Prop := match e with | .k0 => ∃ g, r = some ((.brk 4), ⟨fr 156 g [(1, (i6 a1)), (2, (.ptr 0 0)), (6, (.p (.lst 1 (a2.map eI64)))), (7, (.sl 1 0 1 0 a3)), (8, (.sl 2 0 1 0 a3)), (9, (vb a4)), (10, (i6 a5)), (11, (.ptr 4 0)), (13, (vb false)), (14, (vs b0))], [bG a6, .row 9 1 0 (ra eStr a7), bB a8, .row 48 6 0 (ra eSym []), bP a9]⟩)
theorem L17_0_2_ok (a1 : Int) (a2 : List Int) (a3 : Nat) (a4 : Bool) (a5 : Int) (a6 : GramD) (a7 : List ByteArray) (a8 : List Bool) (a9 : ProdD) {r : E_L17_0_2 ⊕ (Unit)} (h : L17_0_2 a9 = some r) : OkR (fun e => L17_0_2_x a1 a2 a3 a4 a5 a6 a7 a8 a9 e (evH prg 5 [1, 2, 6, 7, 8, 9, 10, 11, 13, 14, 15] ir17_l0 (L17_0_2_s a1 a2 a3 a4 a5 a6 a7 a8 a9))) (fun s => evH prg 5 [1, 2, 6, 7, 8, 9, 10, 11, 13, 14, 15] ir17_l0 (L17_0_2_s a1 a2 a3 a4 a5 a6 a7 a8 a9) = evH prg 5 [1, 2, 6, 7, 8, 9, 10, 11, 13, 14, 15] ir17_l0 (L17_0_2_s a1 a2 a3 a4 a5 a6 a7 a8 a9)) r := by
 unfold L17_0_2 at h
 refine bi h (fun h1 h => ?_) fun h1 h => ?_
 ·
  rw [← sj h]
  exact xbrk (n := 30) [(91, .v (i6 (a9.right.length : Int))), (92, .d true), (6000, .d true)] (apc (lg a9.right eSym 6) (apc (cv h1) apn)) (by kernel_rfl)
 ·
  rw [← sj h]
  exact xbrk (n := 30) [(91, .v (i6 (a9.right.length : Int))), (92, .d false), (6000, .d true)] (apc (lg a9.right eSym 6) (apc (cv h1) apn)) (by kernel_rfl)
theorem L17_0_2_run (a1 : Int) (a2 : List Int) (a3 : Nat) (a4 : Bool) (a5 : Int) (a6 : GramD) (a7 : List ByteArray) (a8 : List Bool) (a9 : ProdD) (s0 : Unit) (e : E_L17_0_2) (h : runL (fun s => L17_0_2 a9) s0 = some e) : L17_0_2_x a1 a2 a3 a4 a5 a6 a7 a8 a9 e (evH prg 5 [1, 2, 6, 7, 8, 9, 10, 11, 13, 14, 15] ir17_l0 (L17_0_2_s a1 a2 a3 a4 a5 a6 a7 a8 a9)) := by
  have q := @loop_sound' (Unit) E_L17_0_2 (fun s => L17_0_2 a9) (fun s => evH prg 5 [1, 2, 6, 7, 8, 9, 10, 11, 13, 14, 15] ir17_l0 (L17_0_2_s a1 a2 a3 a4 a5 a6 a7 a8 a9)) (L17_0_2_x a1 a2 a3 a4 a5 a6 a7 a8 a9) (fun s r h => L17_0_2_ok a1 a2 a3 a4 a5 a6 a7 a8 a9 h) s0 e h
  exact q
end Go.Proofs.Tryd
