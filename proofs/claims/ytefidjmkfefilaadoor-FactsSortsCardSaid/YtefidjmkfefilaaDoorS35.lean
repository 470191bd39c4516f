/- Decompiled by a program: functions as plain data see them, part 3. -/
import Derived.Test.YtefidjmkfefilaaDoorS25
namespace Go.Proofs.Tryd
set_option linter.unusedSimpArgs false
set_option linter.unusedVariables false
open Go Go.Vs
inductive E_L28_5 where
  | k0 (x0 : Bool)
noncomputable def L28_5 (a2 : List Bool) (a6 : Int) (a9 : ProdD) (v1 : Bool) (v2 : Int) : Option (E_L28_5 ⊕ (Bool × Int)) :=
  (bif (decide (v2 < (a9.right.length : Int))) then ((getI a9.right v2).bind fun x2 => (bif v1 then (bif (v2 == a6) then (some (.inr (true, (IntKind.wrap .i64 (v2 + 1))))) else (bif (x2.kind == 1) then ((getI a2 x2.sort).bind fun x6 => (bif x6 then (some (.inr (true, (IntKind.wrap .i64 (v2 + 1))))) else (some (.inr (false, (IntKind.wrap .i64 (v2 + 1))))))) else (some (.inr (false, (IntKind.wrap .i64 (v2 + 1))))))) else (some (.inr (false, (IntKind.wrap .i64 (v2 + 1))))))) else (some (.inl (.k0 v1))))
def L28_5_s (a1 : List Int) (a2 : List Bool) (a3 : Int) (a4 : Nat) (a5 : Int) (a6 : Int) (a7 : GramD) (a8 : List Bool) (a9 : ProdD) (a10 : SymD) (v1 : Bool) (v2 : Int) : St := ⟨fr 173 ug [(1, (.ptr 0 0)), (3, (.p (.lst 1 (a1.map eI64)))), (4, (.p (.lst 1 (a2.map eBool)))), (5, (i6 a3)), (6, (.sl 2 0 1 0 a4)), (7, (i6 a5)), (8, (.ptr 4 0)), (9, (i6 a6)), (10, (.ptr 5 0)), (11, (vb v1)), (12, (i6 v2))], [bG a7, bB [], bB a8, .row 48 6 0 (ra eSym []), bP a9, .cells 48 ((eSym a10).map .p)]⟩
def L28_5_x (a1 : List Int) (a2 : List Bool) (a3 : Int) (a4 : Nat) (a5 : Int) (a6 : Int) (a7 : GramD) (a8 : List Bool) (a9 : ProdD) (a10 : SymD) (e : E_L28_5) (r : Option (Out × St)) : Prop := match e with | .k0 x0 => ∃ g, r = some ((.brk 4), ⟨fr 173 g [(1, (.ptr 0 0)), (3, (.p (.lst 1 (a1.map eI64)))), (4, (.p (.lst 1 (a2.map eBool)))), (5, (i6 a3)), (6, (.sl 2 0 1 0 a4)), (7, (i6 a5)), (8, (.ptr 4 0)), (9, (i6 a6)), (10, (.ptr 5 0)), (11, (vb x0))], [bG a7, bB [], bB a8, .row 48 6 0 (ra eSym []), bP a9, .cells 48 ((eSym a10).map .p)]⟩)
theorem L28_5_ok (a1 : List Int) (a2 : List Bool) (a3 : Int) (a4 : Nat) (a5 : Int) (a6 : Int) (a7 : GramD) (a8 : List Bool) (a9 : ProdD) (a10 : SymD) (v1 : Bool) (v2 : Int) {r : E_L28_5 ⊕ (Bool × Int)} (h : L28_5 a2 a6 a9 v1 v2 = some r) : OkR (fun e => L28_5_x a1 a2 a3 a4 a5 a6 a7 a8 a9 a10 e (evH prg 6 [1, 3, 4, 5, 6, 7, 8, 9, 10, 11, 12] ir28_l5 (L28_5_s a1 a2 a3 a4 a5 a6 a7 a8 a9 a10 v1 v2))) (fun s => evH prg 6 [1, 3, 4, 5, 6, 7, 8, 9, 10, 11, 12] ir28_l5 (L28_5_s a1 a2 a3 a4 a5 a6 a7 a8 a9 a10 v1 v2) = evH prg 6 [1, 3, 4, 5, 6, 7, 8, 9, 10, 11, 12] ir28_l5 (L28_5_s a1 a2 a3 a4 a5 a6 a7 a8 a9 a10 s.1 s.2)) r := by
 unfold L28_5 at h
 refine bi h (fun h1 h => ?_) fun h1 h => ?_
 ·
  refine bn h fun x2 h2 h => ?_
  refine bi h (fun h3 h => ?_) fun h3 h => ?_
  ·
   refine bi h (fun h4 h => ?_) fun h4 h => ?_
   ·
    rw [← sj h]
    exact rnd (n := 30) [(72, .v (i6 (a9.right.length : Int))), (73, .d true), (79, .v (.ro (eSym x2))), (81, .d true), (85, .d true), (6000, .d true)] (apc (lg a9.right eSym 6) (apc (cv h1) (apc (ig eSym 6 .i64 h2) (apc (cv h3) (apc (cv h4) (apc ((okT_of rfl (abl_cons rfl (abl_cons abl_row (abl_cons abl_row (abl_cons abl_row (abl_cons rfl (abl_cons rfl rfl))))))) : okT 6 [bG a7, bB [], bB a8, .row 48 6 0 (ra eSym []), bP a9, .cells 48 ((eSym a10).map .p), .cells 48 ((eSym x2).map .p)] = true) apn)))))) (by kernel_rfl)
   ·
    refine bi h (fun h5 h => ?_) fun h5 h => ?_
    ·
     refine bn h fun x6 h6 h => ?_
     refine bi h (fun h7 h => ?_) fun h7 h => ?_
     ·
      rw [← sj h]
      exact rnd (n := 30) [(72, .v (i6 (a9.right.length : Int))), (73, .d true), (79, .v (.ro (eSym x2))), (81, .d true), (85, .d false), (89, .d true), (94, .v (.ro [.val (.bool x6)])), (95, .d true), (6000, .d true)] (apc (lg a9.right eSym 6) (apc (cv h1) (apc (ig eSym 6 .i64 h2) (apc (cv h3) (apc (cv h4) (apc (cv h5) (apc (ig eBool 1 .i64 h6) (apc (cv h7) (apc ((okT_of rfl (abl_cons rfl (abl_cons abl_row (abl_cons abl_row (abl_cons abl_row (abl_cons rfl (abl_cons rfl rfl))))))) : okT 6 [bG a7, bB [], bB a8, .row 48 6 0 (ra eSym []), bP a9, .cells 48 ((eSym a10).map .p), .cells 48 ((eSym x2).map .p)] = true) apn))))))))) (by kernel_rfl)
     ·
      rw [← sj h]
      exact rnd (n := 30) [(72, .v (i6 (a9.right.length : Int))), (73, .d true), (79, .v (.ro (eSym x2))), (81, .d true), (85, .d false), (89, .d true), (94, .v (.ro [.val (.bool x6)])), (95, .d false), (6000, .d true)] (apc (lg a9.right eSym 6) (apc (cv h1) (apc (ig eSym 6 .i64 h2) (apc (cv h3) (apc (cv h4) (apc (cv h5) (apc (ig eBool 1 .i64 h6) (apc (cv h7) (apc ((okT_of rfl (abl_cons rfl (abl_cons abl_row (abl_cons abl_row (abl_cons abl_row (abl_cons rfl (abl_cons rfl rfl))))))) : okT 6 [bG a7, bB [], bB a8, .row 48 6 0 (ra eSym []), bP a9, .cells 48 ((eSym a10).map .p), .cells 48 ((eSym x2).map .p)] = true) apn))))))))) (by kernel_rfl)
    ·
     rw [← sj h]
     exact rnd (n := 30) [(72, .v (i6 (a9.right.length : Int))), (73, .d true), (79, .v (.ro (eSym x2))), (81, .d true), (85, .d false), (89, .d false), (6000, .d true)] (apc (lg a9.right eSym 6) (apc (cv h1) (apc (ig eSym 6 .i64 h2) (apc (cv h3) (apc (cv h4) (apc (cv h5) (apc ((okT_of rfl (abl_cons rfl (abl_cons abl_row (abl_cons abl_row (abl_cons abl_row (abl_cons rfl (abl_cons rfl rfl))))))) : okT 6 [bG a7, bB [], bB a8, .row 48 6 0 (ra eSym []), bP a9, .cells 48 ((eSym a10).map .p), .cells 48 ((eSym x2).map .p)] = true) apn))))))) (by kernel_rfl)
  ·
   rw [← sj h]
   exact rnd (n := 30) [(72, .v (i6 (a9.right.length : Int))), (73, .d true), (79, .v (.ro (eSym x2))), (81, .d false), (6000, .d true)] (apc (lg a9.right eSym 6) (apc (cv h1) (apc (ig eSym 6 .i64 h2) (apc (cv h3) (apc ((okT_of rfl (abl_cons rfl (abl_cons abl_row (abl_cons abl_row (abl_cons abl_row (abl_cons rfl (abl_cons rfl rfl))))))) : okT 6 [bG a7, bB [], bB a8, .row 48 6 0 (ra eSym []), bP a9, .cells 48 ((eSym a10).map .p), .cells 48 ((eSym x2).map .p)] = true) apn))))) (by kernel_rfl)
 ·
  rw [← sj h]
  exact xbrk (n := 30) [(72, .v (i6 (a9.right.length : Int))), (73, .d false), (6000, .d true)] (apc (lg a9.right eSym 6) (apc (cv h1) apn)) (by kernel_rfl)
theorem L28_5_run (a1 : List Int) (a2 : List Bool) (a3 : Int) (a4 : Nat) (a5 : Int) (a6 : Int) (a7 : GramD) (a8 : List Bool) (a9 : ProdD) (a10 : SymD) (s0 : Bool × Int) (e : E_L28_5) (h : runL (fun s => L28_5 a2 a6 a9 s.1 s.2) s0 = some e) : L28_5_x a1 a2 a3 a4 a5 a6 a7 a8 a9 a10 e (evH prg 6 [1, 3, 4, 5, 6, 7, 8, 9, 10, 11, 12] ir28_l5 (L28_5_s a1 a2 a3 a4 a5 a6 a7 a8 a9 a10 s0.1 s0.2)) := by
  have q := @loop_sound' (Bool × Int) E_L28_5 (fun s => L28_5 a2 a6 a9 s.1 s.2) (fun s => evH prg 6 [1, 3, 4, 5, 6, 7, 8, 9, 10, 11, 12] ir28_l5 (L28_5_s a1 a2 a3 a4 a5 a6 a7 a8 a9 a10 s.1 s.2)) (L28_5_x a1 a2 a3 a4 a5 a6 a7 a8 a9 a10) (fun s r h => L28_5_ok a1 a2 a3 a4 a5 a6 a7 a8 a9 a10 s.1 s.2 h) s0 e h
  exact q
inductive E_L28_5_2 where
  | k0
noncomputable def L28_5_2 (a9 : ProdD) (v1 : Int) : Option (E_L28_5_2 ⊕ (Int)) :=
  (bif (decide (v1 < (a9.right.length : Int))) then ((getI a9.right v1).bind fun x2 => (some (.inr ((IntKind.wrap .i64 (v1 + 1)))))) else (some (.inl (.k0))))
def L28_5_2_s (a1 : List Int) (a2 : List Bool) (a3 : Int) (a4 : Nat) (a5 : Int) (a6 : Int) (a7 : GramD) (a8 : List Bool) (a9 : ProdD) (a10 : SymD) (v1 : Int) : St := ⟨fr 173 ug [(1, (.ptr 0 0)), (3, (.p (.lst 1 (a1.map eI64)))), (4, (.p (.lst 1 (a2.map eBool)))), (5, (i6 a3)), (6, (.sl 2 0 1 0 a4)), (7, (i6 a5)), (8, (.ptr 4 0)), (9, (i6 a6)), (10, (.ptr 5 0)), (11, (vb false)), (12, (i6 v1))], [bG a7, bB [], bB a8, .row 48 6 0 (ra eSym []), bP a9, .cells 48 ((eSym a10).map .p)]⟩
def L28_5_2_x (a1 : List Int) (a2 : List Bool) (a3 : Int) (a4 : Nat) (a5 : Int) (a6 : Int) (a7 : GramD) (a8 : List Bool) (a9 : ProdD) (a10 : SymD) (e : E_L28_5_2) (r : Option (Out × St)) : Prop := match e with | .k0 => ∃ g, r = some ((.brk 4), ⟨fr 173 g [(1, (.ptr 0 0)), (3, (.p (.lst 1 (a1.map eI64)))), (4, (.p (.lst 1 (a2.map eBool)))), (5, (i6 a3)), (6, (.sl 2 0 1 0 a4)), (7, (i6 a5)), (8, (.ptr 4 0)), (9, (i6 a6)), (10, (.ptr 5 0)), (11, (vb false))], [bG a7, bB [], bB a8, .row 48 6 0 (ra eSym []), bP a9, .cells 48 ((eSym a10).map .p)]⟩)
theorem L28_5_2_ok (a1 : List Int) (a2 : List Bool) (a3 : Int) (a4 : Nat) (a5 : Int) (a6 : Int) (a7 : GramD) (a8 : List Bool) (a9 : ProdD) (a10 : SymD) (v1 : Int) {r : E_L28_5_2 ⊕ (Int)} (h : L28_5_2 a9 v1 = some r) : OkR (fun e => L28_5_2_x a1 a2 a3 a4 a5 a6 a7 a8 a9 a10 e (evH prg 6 [1, 3, 4, 5, 6, 7, 8, 9, 10, 11, 12] ir28_l5 (L28_5_2_s a1 a2 a3 a4 a5 a6 a7 a8 a9 a10 v1))) (fun s => evH prg 6 [1, 3, 4, 5, 6, 7, 8, 9, 10, 11, 12] ir28_l5 (L28_5_2_s a1 a2 a3 a4 a5 a6 a7 a8 a9 a10 v1) = evH prg 6 [1, 3, 4, 5, 6, 7, 8, 9, 10, 11, 12] ir28_l5 (L28_5_2_s a1 a2 a3 a4 a5 a6 a7 a8 a9 a10 s)) r := by
 unfold L28_5_2 at h
 refine bi h (fun h1 h => ?_) fun h1 h => ?_
 ·
  refine bn h fun x2 h2 h => ?_
  rw [← sj h]
  exact rnd (n := 30) [(72, .v (i6 (a9.right.length : Int))), (73, .d true), (79, .v (.ro (eSym x2))), (6000, .d true)] (apc (lg a9.right eSym 6) (apc (cv h1) (apc (ig eSym 6 .i64 h2) (apc ((okT_of rfl (abl_cons rfl (abl_cons abl_row (abl_cons abl_row (abl_cons abl_row (abl_cons rfl (abl_cons rfl rfl))))))) : okT 6 [bG a7, bB [], bB a8, .row 48 6 0 (ra eSym []), bP a9, .cells 48 ((eSym a10).map .p), .cells 48 ((eSym x2).map .p)] = true) apn)))) (by kernel_rfl)
 ·
  rw [← sj h]
  exact xbrk (n := 30) [(72, .v (i6 (a9.right.length : Int))), (73, .d false), (6000, .d true)] (apc (lg a9.right eSym 6) (apc (cv h1) apn)) (by kernel_rfl)
theorem L28_5_2_run (a1 : List Int) (a2 : List Bool) (a3 : Int) (a4 : Nat) (a5 : Int) (a6 : Int) (a7 : GramD) (a8 : List Bool) (a9 : ProdD) (a10 : SymD) (s0 : Int) (e : E_L28_5_2) (h : runL (fun s => L28_5_2 a9 s) s0 = some e) : L28_5_2_x a1 a2 a3 a4 a5 a6 a7 a8 a9 a10 e (evH prg 6 [1, 3, 4, 5, 6, 7, 8, 9, 10, 11, 12] ir28_l5 (L28_5_2_s a1 a2 a3 a4 a5 a6 a7 a8 a9 a10 s0)) := by
  have q := @loop_sound' (Int) E_L28_5_2 (fun s => L28_5_2 a9 s) (fun s => evH prg 6 [1, 3, 4, 5, 6, 7, 8, 9, 10, 11, 12] ir28_l5 (L28_5_2_s a1 a2 a3 a4 a5 a6 a7 a8 a9 a10 s)) (L28_5_2_x a1 a2 a3 a4 a5 a6 a7 a8 a9 a10) (fun s r h => L28_5_2_ok a1 a2 a3 a4 a5 a6 a7 a8 a9 a10 s h) s0 e h
  exact q
inductive E_L28_6 where
  | k0 (x0 : List Bool)
noncomputable def L28_6 (a1 : List Int) (a2 : List Bool) (a3 : Int) (a4 : Nat) (a8 : ProdD) (v1 : Int) (v2 : List Bool) : Option (E_L28_6 ⊕ (Int × (List Bool))) :=
  (bif (decide (v1 < (a8.right.length : Int))) then ((getI a8.right v1).bind fun x2 => (bif (x2.kind == 1) then ((getI a1 x2.sort).bind fun x4 => (bif (decide (x4 ≥ 0)) then ((runL (fun s => L28_5 a2 v1 a8 s.1 s.2) (true, 0)).bind fun r6 => match r6 with | .k0 x6_0 => (bif x6_0 then ((ixN a4 (IntKind.wrap .i64 ((IntKind.wrap .i64 (a8.left * a3)) + x2.sort))).bind fun x8 => ((v2[x8]?).bind fun x9 => (some (.inr ((IntKind.wrap .i64 (v1 + 1)), (v2.set x8 true)))))) else (some (.inr ((IntKind.wrap .i64 (v1 + 1)), v2))))) else ((runL (fun s => L28_5_2 a8 s) 0).bind fun r6 => match r6 with | .k0 => (some (.inr ((IntKind.wrap .i64 (v1 + 1)), v2)))))) else ((runL (fun s => L28_5_2 a8 s) 0).bind fun r4 => match r4 with | .k0 => (some (.inr ((IntKind.wrap .i64 (v1 + 1)), v2)))))) else (some (.inl (.k0 v2))))
def L28_6_s (a1 : List Int) (a2 : List Bool) (a3 : Int) (a4 : Nat) (a5 : Int) (a6 : GramD) (a8 : ProdD) (v1 : Int) (v2 : List Bool) : St := ⟨fr 173 ug [(1, (.ptr 0 0)), (3, (.p (.lst 1 (a1.map eI64)))), (4, (.p (.lst 1 (a2.map eBool)))), (5, (i6 a3)), (6, (.sl 2 0 1 0 a4)), (7, (i6 a5)), (8, (.ptr 4 0)), (9, (i6 v1))], [bG a6, bB [], bB v2, .row 48 6 0 (ra eSym []), bP a8]⟩
def L28_6_x (a1 : List Int) (a2 : List Bool) (a3 : Int) (a4 : Nat) (a5 : Int) (a6 : GramD) (a8 : ProdD) (e : E_L28_6) (r : Option (Out × St)) : Prop := match e with | .k0 x0 => ∃ g, r = some ((.brk 2), ⟨fr 173 g [(1, (.ptr 0 0)), (3, (.p (.lst 1 (a1.map eI64)))), (4, (.p (.lst 1 (a2.map eBool)))), (5, (i6 a3)), (6, (.sl 2 0 1 0 a4)), (7, (i6 a5)), (8, (.ptr 4 0))], [bG a6, bB [], bB x0, .row 48 6 0 (ra eSym []), bP a8]⟩)
theorem L28_6_ok (a1 : List Int) (a2 : List Bool) (a3 : Int) (a4 : Nat) (a5 : Int) (a6 : GramD) (a8 : ProdD) (v1 : Int) (v2 : List Bool) {r : E_L28_6 ⊕ (Int × (List Bool))} (h : L28_6 a1 a2 a3 a4 a8 v1 v2 = some r) : OkR (fun e => L28_6_x a1 a2 a3 a4 a5 a6 a8 e (evH prg 5 [1, 3, 4, 5, 6, 7, 8, 9] ir28_l6 (L28_6_s a1 a2 a3 a4 a5 a6 a8 v1 v2))) (fun s => evH prg 5 [1, 3, 4, 5, 6, 7, 8, 9] ir28_l6 (L28_6_s a1 a2 a3 a4 a5 a6 a8 v1 v2) = evH prg 5 [1, 3, 4, 5, 6, 7, 8, 9] ir28_l6 (L28_6_s a1 a2 a3 a4 a5 a6 a8 s.1 s.2)) r := by
 unfold L28_6 at h
 refine bi h (fun h1 h => ?_) fun h1 h => ?_
 ·
  refine bn h fun x2 h2 h => ?_
  refine bi h (fun h3 h => ?_) fun h3 h => ?_
  ·
   refine bn h fun x4 h4 h => ?_
   refine bi h (fun h5 h => ?_) fun h5 h => ?_
   ·
    refine bn h fun r6 h6 h => ?_
    cases r6 with
    | k0 x6_0 =>
     obtain ⟨g6, e6⟩ := L28_5_run a1 a2 a3 a4 a5 v1 a6 v2 a8 x2 (true, 0) _ h6
     refine bi h (fun h7 h => ?_) fun h7 h => ?_
     ·
      refine bn h fun x8 h8 h => ?_
      refine bn h fun x9 h9 h => ?_
      rw [← sj h]
      exact rnd (n := 30) [(49, .v (i6 (a8.right.length : Int))), (50, .d true), (56, .v (.ro (eSym x2))), (60, .d true), (65, .v (.ro [.val (.int .i64 x4)])), (67, .d true), (2004, .l (.brk 4) ⟨fr 173 g6 [(1, (.ptr 0 0)), (3, (.p (.lst 1 (a1.map eI64)))), (4, (.p (.lst 1 (a2.map eBool)))), (5, (i6 a3)), (6, (.sl 2 0 1 0 a4)), (7, (i6 a5)), (8, (.ptr 4 0)), (9, (i6 v1)), (10, (.ptr 5 0)), (11, (vb x6_0))], [bG a6, bB [], bB v2, .row 48 6 0 (ra eSym []), bP a8, .cells 48 ((eSym x2).map .p)]⟩), (99, .d true), (108, .v (.rp 2 0 1 x8 0)), (1108, .r ud [bG a6, bB [], .row 4 1 0 (ra eBool (v2.set x8 true)), .row 48 6 0 (ra eSym []), bP a8, .cells 48 ((eSym x2).map .p)]), (6000, .d true)] (apc (lg a8.right eSym 6) (apc (cv h1) (apc (ig eSym 6 .i64 h2) (apc (cv h3) (apc (ig eI64 1 .i64 h4) (apc (cv h5) (apc ((okT_of rfl (abl_cons rfl (abl_cons abl_row (abl_cons abl_row (abl_cons abl_row (abl_cons rfl (abl_cons rfl rfl))))))) : okT 6 [bG a6, bB [], bB v2, .row 48 6 0 (ra eSym []), bP a8, .cells 48 ((eSym x2).map .p)] = true) (apc (e6 : evH prg 6 [1, 3, 4, 5, 6, 7, 8, 9, 10, 11, 12] ir28_l5 (L28_5_s a1 a2 a3 a4 a5 v1 a6 v2 a8 x2 true 0) = some ((.brk 4), ⟨fr 173 g6 [(1, (.ptr 0 0)), (3, (.p (.lst 1 (a1.map eI64)))), (4, (.p (.lst 1 (a2.map eBool)))), (5, (i6 a3)), (6, (.sl 2 0 1 0 a4)), (7, (i6 a5)), (8, (.ptr 4 0)), (9, (i6 v1)), (10, (.ptr 5 0)), (11, (vb x6_0))], [bG a6, bB [], bB v2, .row 48 6 0 (ra eSym []), bP a8, .cells 48 ((eSym x2).map .p)]⟩)) (apc (cv h7) (apc ((idx_sl h8) : idxA 1 (.sl 2 0 1 0 a4) (i6 (w6 ((w6 (a8.left * a3)) + x2.sort))) = some (.rp 2 0 1 x8 0)) (apc (⟨st_row (v' := true) rfl h9 rfl rfl (Nat.le_of_ble_eq_true rfl) rfl, rfl⟩ : stA [bG a6, bB [], bB v2, .row 48 6 0 (ra eSym []), bP a8, .cells 48 ((eSym x2).map .p)] 1 (.rp 2 0 1 x8 0) (vb true) = some [bG a6, bB [], .row 4 1 0 (ra eBool (v2.set x8 true)), .row 48 6 0 (ra eSym []), bP a8, .cells 48 ((eSym x2).map .p)] ∧ ud = ud) (apc ((okT_of rfl (abl_cons rfl (abl_cons abl_row (abl_cons abl_row (abl_cons abl_row (abl_cons rfl rfl)))))) : okT 5 [bG a6, bB [], .row 4 1 0 (ra eBool (v2.set x8 true)), .row 48 6 0 (ra eSym []), bP a8, .cells 48 ((eSym x2).map .p)] = true) apn)))))))))))) (by kernel_rfl)
     ·
      rw [← sj h]
      exact rnd (n := 30) [(49, .v (i6 (a8.right.length : Int))), (50, .d true), (56, .v (.ro (eSym x2))), (60, .d true), (65, .v (.ro [.val (.int .i64 x4)])), (67, .d true), (2004, .l (.brk 4) ⟨fr 173 g6 [(1, (.ptr 0 0)), (3, (.p (.lst 1 (a1.map eI64)))), (4, (.p (.lst 1 (a2.map eBool)))), (5, (i6 a3)), (6, (.sl 2 0 1 0 a4)), (7, (i6 a5)), (8, (.ptr 4 0)), (9, (i6 v1)), (10, (.ptr 5 0)), (11, (vb x6_0))], [bG a6, bB [], bB v2, .row 48 6 0 (ra eSym []), bP a8, .cells 48 ((eSym x2).map .p)]⟩), (99, .d false), (6000, .d true)] (apc (lg a8.right eSym 6) (apc (cv h1) (apc (ig eSym 6 .i64 h2) (apc (cv h3) (apc (ig eI64 1 .i64 h4) (apc (cv h5) (apc ((okT_of rfl (abl_cons rfl (abl_cons abl_row (abl_cons abl_row (abl_cons abl_row (abl_cons rfl (abl_cons rfl rfl))))))) : okT 6 [bG a6, bB [], bB v2, .row 48 6 0 (ra eSym []), bP a8, .cells 48 ((eSym x2).map .p)] = true) (apc (e6 : evH prg 6 [1, 3, 4, 5, 6, 7, 8, 9, 10, 11, 12] ir28_l5 (L28_5_s a1 a2 a3 a4 a5 v1 a6 v2 a8 x2 true 0) = some ((.brk 4), ⟨fr 173 g6 [(1, (.ptr 0 0)), (3, (.p (.lst 1 (a1.map eI64)))), (4, (.p (.lst 1 (a2.map eBool)))), (5, (i6 a3)), (6, (.sl 2 0 1 0 a4)), (7, (i6 a5)), (8, (.ptr 4 0)), (9, (i6 v1)), (10, (.ptr 5 0)), (11, (vb x6_0))], [bG a6, bB [], bB v2, .row 48 6 0 (ra eSym []), bP a8, .cells 48 ((eSym x2).map .p)]⟩)) (apc (cv h7) (apc ((okT_of rfl (abl_cons rfl (abl_cons abl_row (abl_cons abl_row (abl_cons abl_row (abl_cons rfl rfl)))))) : okT 5 [bG a6, bB [], bB v2, .row 48 6 0 (ra eSym []), bP a8, .cells 48 ((eSym x2).map .p)] = true) apn)))))))))) (by kernel_rfl)
   ·
    refine bn h fun r6 h6 h => ?_
    cases r6 with
    | k0 =>
     obtain ⟨g6, e6⟩ := L28_5_2_run a1 a2 a3 a4 a5 v1 a6 v2 a8 x2 0 _ h6
     rw [← sj h]
     exact rnd (n := 30) [(49, .v (i6 (a8.right.length : Int))), (50, .d true), (56, .v (.ro (eSym x2))), (60, .d true), (65, .v (.ro [.val (.int .i64 x4)])), (67, .d false), (2004, .l (.brk 4) ⟨fr 173 g6 [(1, (.ptr 0 0)), (3, (.p (.lst 1 (a1.map eI64)))), (4, (.p (.lst 1 (a2.map eBool)))), (5, (i6 a3)), (6, (.sl 2 0 1 0 a4)), (7, (i6 a5)), (8, (.ptr 4 0)), (9, (i6 v1)), (10, (.ptr 5 0)), (11, (vb false))], [bG a6, bB [], bB v2, .row 48 6 0 (ra eSym []), bP a8, .cells 48 ((eSym x2).map .p)]⟩), (6000, .d true)] (apc (lg a8.right eSym 6) (apc (cv h1) (apc (ig eSym 6 .i64 h2) (apc (cv h3) (apc (ig eI64 1 .i64 h4) (apc (cv h5) (apc ((okT_of rfl (abl_cons rfl (abl_cons abl_row (abl_cons abl_row (abl_cons abl_row (abl_cons rfl (abl_cons rfl rfl))))))) : okT 6 [bG a6, bB [], bB v2, .row 48 6 0 (ra eSym []), bP a8, .cells 48 ((eSym x2).map .p)] = true) (apc (e6 : evH prg 6 [1, 3, 4, 5, 6, 7, 8, 9, 10, 11, 12] ir28_l5 (L28_5_2_s a1 a2 a3 a4 a5 v1 a6 v2 a8 x2 0) = some ((.brk 4), ⟨fr 173 g6 [(1, (.ptr 0 0)), (3, (.p (.lst 1 (a1.map eI64)))), (4, (.p (.lst 1 (a2.map eBool)))), (5, (i6 a3)), (6, (.sl 2 0 1 0 a4)), (7, (i6 a5)), (8, (.ptr 4 0)), (9, (i6 v1)), (10, (.ptr 5 0)), (11, (vb false))], [bG a6, bB [], bB v2, .row 48 6 0 (ra eSym []), bP a8, .cells 48 ((eSym x2).map .p)]⟩)) (apc ((okT_of rfl (abl_cons rfl (abl_cons abl_row (abl_cons abl_row (abl_cons abl_row (abl_cons rfl rfl)))))) : okT 5 [bG a6, bB [], bB v2, .row 48 6 0 (ra eSym []), bP a8, .cells 48 ((eSym x2).map .p)] = true) apn))))))))) (by kernel_rfl)
  ·
   refine bn h fun r4 h4 h => ?_
   cases r4 with
   | k0 =>
    obtain ⟨g4, e4⟩ := L28_5_2_run a1 a2 a3 a4 a5 v1 a6 v2 a8 x2 0 _ h4
    rw [← sj h]
    exact rnd (n := 30) [(49, .v (i6 (a8.right.length : Int))), (50, .d true), (56, .v (.ro (eSym x2))), (60, .d false), (2004, .l (.brk 4) ⟨fr 173 g4 [(1, (.ptr 0 0)), (3, (.p (.lst 1 (a1.map eI64)))), (4, (.p (.lst 1 (a2.map eBool)))), (5, (i6 a3)), (6, (.sl 2 0 1 0 a4)), (7, (i6 a5)), (8, (.ptr 4 0)), (9, (i6 v1)), (10, (.ptr 5 0)), (11, (vb false))], [bG a6, bB [], bB v2, .row 48 6 0 (ra eSym []), bP a8, .cells 48 ((eSym x2).map .p)]⟩), (6000, .d true)] (apc (lg a8.right eSym 6) (apc (cv h1) (apc (ig eSym 6 .i64 h2) (apc (cv h3) (apc ((okT_of rfl (abl_cons rfl (abl_cons abl_row (abl_cons abl_row (abl_cons abl_row (abl_cons rfl (abl_cons rfl rfl))))))) : okT 6 [bG a6, bB [], bB v2, .row 48 6 0 (ra eSym []), bP a8, .cells 48 ((eSym x2).map .p)] = true) (apc (e4 : evH prg 6 [1, 3, 4, 5, 6, 7, 8, 9, 10, 11, 12] ir28_l5 (L28_5_2_s a1 a2 a3 a4 a5 v1 a6 v2 a8 x2 0) = some ((.brk 4), ⟨fr 173 g4 [(1, (.ptr 0 0)), (3, (.p (.lst 1 (a1.map eI64)))), (4, (.p (.lst 1 (a2.map eBool)))), (5, (i6 a3)), (6, (.sl 2 0 1 0 a4)), (7, (i6 a5)), (8, (.ptr 4 0)), (9, (i6 v1)), (10, (.ptr 5 0)), (11, (vb false))], [bG a6, bB [], bB v2, .row 48 6 0 (ra eSym []), bP a8, .cells 48 ((eSym x2).map .p)]⟩)) (apc ((okT_of rfl (abl_cons rfl (abl_cons abl_row (abl_cons abl_row (abl_cons abl_row (abl_cons rfl rfl)))))) : okT 5 [bG a6, bB [], bB v2, .row 48 6 0 (ra eSym []), bP a8, .cells 48 ((eSym x2).map .p)] = true) apn))))))) (by kernel_rfl)
 ·
  rw [← sj h]
  exact xbrk (n := 30) [(49, .v (i6 (a8.right.length : Int))), (50, .d false), (6000, .d true)] (apc (lg a8.right eSym 6) (apc (cv h1) apn)) (by kernel_rfl)
theorem L28_6_run (a1 : List Int) (a2 : List Bool) (a3 : Int) (a4 : Nat) (a5 : Int) (a6 : GramD) (a8 : ProdD) (s0 : Int × (List Bool)) (e : E_L28_6) (h : runL (fun s => L28_6 a1 a2 a3 a4 a8 s.1 s.2) s0 = some e) : L28_6_x a1 a2 a3 a4 a5 a6 a8 e (evH prg 5 [1, 3, 4, 5, 6, 7, 8, 9] ir28_l6 (L28_6_s a1 a2 a3 a4 a5 a6 a8 s0.1 s0.2)) := by
  have q := @loop_sound' (Int × (List Bool)) E_L28_6 (fun s => L28_6 a1 a2 a3 a4 a8 s.1 s.2) (fun s => evH prg 5 [1, 3, 4, 5, 6, 7, 8, 9] ir28_l6 (L28_6_s a1 a2 a3 a4 a5 a6 a8 s.1 s.2)) (L28_6_x a1 a2 a3 a4 a5 a6 a8) (fun s r h => L28_6_ok a1 a2 a3 a4 a5 a6 a8 s.1 s.2 h) s0 e h
  exact q
inductive E_L28_7 where
  | k0 (x0 : List Bool)
noncomputable def L28_7 (a1 : List Int) (a2 : List Bool) (a3 : Int) (a4 : Nat) (a5 : GramD) (v1 : Int) (v2 : List Bool) : Option (E_L28_7 ⊕ (Int × (List Bool))) :=
  (bif (decide (v1 < (a5.prods.length : Int))) then ((getI a5.prods v1).bind fun x2 => ((F51 x2).bind fun x3 => (bif x3 then ((runL (fun s => L28_6 a1 a2 a3 a4 x2 s.1 s.2) (0, v2)).bind fun r5 => match r5 with | .k0 x5_0 => (some (.inr ((IntKind.wrap .i64 (v1 + 1)), x5_0)))) else (some (.inr ((IntKind.wrap .i64 (v1 + 1)), v2)))))) else (some (.inl (.k0 v2))))
def L28_7_s (a1 : List Int) (a2 : List Bool) (a3 : Int) (a4 : Nat) (a5 : GramD) (v1 : Int) (v2 : List Bool) : St := ⟨fr 173 ug [(1, (.ptr 0 0)), (3, (.p (.lst 1 (a1.map eI64)))), (4, (.p (.lst 1 (a2.map eBool)))), (5, (i6 a3)), (6, (.sl 2 0 1 0 a4)), (7, (i6 v1))], [bG a5, bB [], bB v2]⟩
def L28_7_x (a1 : List Int) (a2 : List Bool) (a3 : Int) (a4 : Nat) (a5 : GramD) (e : E_L28_7) (r : Option (Out × St)) : Prop := match e with | .k0 x0 => ∃ g, r = some ((.brk 0), ⟨fr 173 g [(1, (.ptr 0 0)), (5, (i6 a3)), (6, (.sl 2 0 1 0 a4))], [bG a5, bB [], bB x0]⟩)
theorem L28_7_ok (a1 : List Int) (a2 : List Bool) (a3 : Int) (a4 : Nat) (a5 : GramD) (v1 : Int) (v2 : List Bool) {r : E_L28_7 ⊕ (Int × (List Bool))} (h : L28_7 a1 a2 a3 a4 a5 v1 v2 = some r) : OkR (fun e => L28_7_x a1 a2 a3 a4 a5 e (evH prg 3 [1, 3, 4, 5, 6, 7] ir28_l7 (L28_7_s a1 a2 a3 a4 a5 v1 v2))) (fun s => evH prg 3 [1, 3, 4, 5, 6, 7] ir28_l7 (L28_7_s a1 a2 a3 a4 a5 v1 v2) = evH prg 3 [1, 3, 4, 5, 6, 7] ir28_l7 (L28_7_s a1 a2 a3 a4 a5 s.1 s.2)) r := by
 unfold L28_7 at h
 refine bi h (fun h1 h => ?_) fun h1 h => ?_
 ·
  refine bn h fun x2 h2 h => ?_
  refine bn h fun x3 h3 h => ?_
  refine bi h (fun h4 h => ?_) fun h4 h => ?_
  ·
   refine bn h fun r5 h5 h => ?_
   cases r5 with
   | k0 x5_0 =>
    obtain ⟨g5, e5⟩ := L28_6_run a1 a2 a3 a4 v1 a5 x2 (0, v2) _ h5
    rw [← sj h]
    exact rnd (n := 30) [(34, .v (i6 (a5.prods.length : Int))), (35, .d true), (41, .v (.ro (eProd x2))), (44, .v (vb true)), (2002, .l (.brk 2) ⟨fr 173 g5 [(1, (.ptr 0 0)), (3, (.p (.lst 1 (a1.map eI64)))), (4, (.p (.lst 1 (a2.map eBool)))), (5, (i6 a3)), (6, (.sl 2 0 1 0 a4)), (7, (i6 v1)), (8, (.ptr 4 0))], [bG a5, bB [], bB x5_0, .row 48 6 0 (ra eSym []), bP x2]⟩), (6000, .d true)] (apc (lg a5.prods eProd 7) (apc (cv h1) (apc (ig eProd 7 .i64 h2) (apc ((((F51_ok x2 h3).cp rfl _).trans (congrArg (fun z => some (vb z)) h4)) : CP prg 51 [(aP x2)] [bG a5, bB [], bB v2, .row 48 6 0 (ra eSym []), bP x2] = some (vb true)) (apc ((okT_of rfl (abl_cons rfl (abl_cons abl_row (abl_cons abl_row (abl_cons abl_row (abl_cons rfl rfl)))))) : okT 5 [bG a5, bB [], bB v2, .row 48 6 0 (ra eSym []), bP x2] = true) (apc (e5 : evH prg 5 [1, 3, 4, 5, 6, 7, 8, 9] ir28_l6 (L28_6_s a1 a2 a3 a4 v1 a5 x2 0 v2) = some ((.brk 2), ⟨fr 173 g5 [(1, (.ptr 0 0)), (3, (.p (.lst 1 (a1.map eI64)))), (4, (.p (.lst 1 (a2.map eBool)))), (5, (i6 a3)), (6, (.sl 2 0 1 0 a4)), (7, (i6 v1)), (8, (.ptr 4 0))], [bG a5, bB [], bB x5_0, .row 48 6 0 (ra eSym []), bP x2]⟩)) (apc ((okT_of rfl (abl_cons rfl (abl_cons abl_row (abl_cons abl_row rfl)))) : okT 3 [bG a5, bB [], bB x5_0, .row 48 6 0 (ra eSym []), bP x2] = true) apn))))))) (by kernel_rfl)
  ·
   rw [← sj h]
   exact rnd (n := 30) [(34, .v (i6 (a5.prods.length : Int))), (35, .d true), (41, .v (.ro (eProd x2))), (44, .v (vb false)), (6000, .d true)] (apc (lg a5.prods eProd 7) (apc (cv h1) (apc (ig eProd 7 .i64 h2) (apc ((((F51_ok x2 h3).cp rfl _).trans (congrArg (fun z => some (vb z)) h4)) : CP prg 51 [(aP x2)] [bG a5, bB [], bB v2, .row 48 6 0 (ra eSym []), bP x2] = some (vb false)) (apc ((okT_of rfl (abl_cons rfl (abl_cons abl_row (abl_cons abl_row rfl)))) : okT 3 [bG a5, bB [], bB v2, .row 48 6 0 (ra eSym []), bP x2] = true) apn))))) (by kernel_rfl)
 ·
  rw [← sj h]
  exact xbrk (n := 30) [(34, .v (i6 (a5.prods.length : Int))), (35, .d false), (6000, .d true)] (apc (lg a5.prods eProd 7) (apc (cv h1) apn)) (by kernel_rfl)
theorem L28_7_run (a1 : List Int) (a2 : List Bool) (a3 : Int) (a4 : Nat) (a5 : GramD) (s0 : Int × (List Bool)) (e : E_L28_7) (h : runL (fun s => L28_7 a1 a2 a3 a4 a5 s.1 s.2) s0 = some e) : L28_7_x a1 a2 a3 a4 a5 e (evH prg 3 [1, 3, 4, 5, 6, 7] ir28_l7 (L28_7_s a1 a2 a3 a4 a5 s0.1 s0.2)) := by
  have q := @loop_sound' (Int × (List Bool)) E_L28_7 (fun s => L28_7 a1 a2 a3 a4 a5 s.1 s.2) (fun s => evH prg 3 [1, 3, 4, 5, 6, 7] ir28_l7 (L28_7_s a1 a2 a3 a4 a5 s.1 s.2)) (L28_7_x a1 a2 a3 a4 a5) (fun s r h => L28_7_ok a1 a2 a3 a4 a5 s.1 s.2 h) s0 e h
  exact q
inductive E_L28_1 where
  | k0 (x0 : List Bool)
noncomputable def L28_1 (a1 : Int) (a2 : Nat) (a4 : Int) (a5 : Int) (v1 : Int) (v2 : List Bool) : Option (E_L28_1 ⊕ (Int × (List Bool))) :=
  (bif (decide (v1 < a1)) then ((ixN a2 (IntKind.wrap .i64 ((IntKind.wrap .i64 (a4 * a1)) + a5))).bind fun x2 => ((v2[x2]?).bind fun x3 => (bif x3 then ((ixN a2 (IntKind.wrap .i64 ((IntKind.wrap .i64 (a5 * a1)) + v1))).bind fun x5 => ((v2[x5]?).bind fun x6 => (bif x6 then ((ixN a2 (IntKind.wrap .i64 ((IntKind.wrap .i64 (a4 * a1)) + v1))).bind fun x8 => ((v2[x8]?).bind fun x9 => (some (.inr ((IntKind.wrap .i64 (v1 + 1)), (v2.set x8 true)))))) else (some (.inr ((IntKind.wrap .i64 (v1 + 1)), v2)))))) else (some (.inr ((IntKind.wrap .i64 (v1 + 1)), v2)))))) else (some (.inl (.k0 v2))))
def L28_1_s (a1 : Int) (a2 : Nat) (a3 : Int) (a4 : Int) (a5 : Int) (a6 : GramD) (v1 : Int) (v2 : List Bool) : St := ⟨fr 173 ug [(5, (i6 a1)), (6, (.sl 2 0 1 0 a2)), (14, (i6 a3)), (15, (i6 a4)), (16, (i6 a5)), (17, (i6 v1))], [bG a6, bB [], bB v2]⟩
def L28_1_x (a1 : Int) (a2 : Nat) (a3 : Int) (a4 : Int) (a5 : Int) (a6 : GramD) (e : E_L28_1) (r : Option (Out × St)) : Prop := match e with | .k0 x0 => ∃ g, r = some ((.brk 12), ⟨fr 173 g [(5, (i6 a1)), (6, (.sl 2 0 1 0 a2)), (14, (i6 a3)), (15, (i6 a4)), (16, (i6 a5))], [bG a6, bB [], bB x0]⟩)
theorem L28_1_ok (a1 : Int) (a2 : Nat) (a3 : Int) (a4 : Int) (a5 : Int) (a6 : GramD) (v1 : Int) (v2 : List Bool) {r : E_L28_1 ⊕ (Int × (List Bool))} (h : L28_1 a1 a2 a4 a5 v1 v2 = some r) : OkR (fun e => L28_1_x a1 a2 a3 a4 a5 a6 e (evH prg 3 [5, 6, 14, 15, 16, 17] ir28_l1 (L28_1_s a1 a2 a3 a4 a5 a6 v1 v2))) (fun s => evH prg 3 [5, 6, 14, 15, 16, 17] ir28_l1 (L28_1_s a1 a2 a3 a4 a5 a6 v1 v2) = evH prg 3 [5, 6, 14, 15, 16, 17] ir28_l1 (L28_1_s a1 a2 a3 a4 a5 a6 s.1 s.2)) r := by
 unfold L28_1 at h
 refine bi h (fun h1 h => ?_) fun h1 h => ?_
 ·
  refine bn h fun x2 h2 h => ?_
  refine bn h fun x3 h3 h => ?_
  refine bi h (fun h4 h => ?_) fun h4 h => ?_
  ·
   refine bn h fun x5 h5 h => ?_
   refine bn h fun x6 h6 h => ?_
   refine bi h (fun h7 h => ?_) fun h7 h => ?_
   ·
    refine bn h fun x8 h8 h => ?_
    refine bn h fun x9 h9 h => ?_
    rw [← sj h]
    exact rnd (n := 30) [(126, .d true), (135, .v (.rp 2 0 1 x2 0)), (136, .v (vb true)), (144, .v (.rp 2 0 1 x5 0)), (145, .v (vb true)), (153, .v (.rp 2 0 1 x8 0)), (1153, .r ud [bG a6, bB [], .row 4 1 0 (ra eBool (v2.set x8 true))]), (6000, .d true)] (apc (cv h1) (apc ((idx_sl h2) : idxA 1 (.sl 2 0 1 0 a2) (i6 (w6 ((w6 (a4 * a1)) + a5))) = some (.rp 2 0 1 x2 0)) (apc (((ld_row (V := vb x3) rfl h3 rfl).trans (congrArg (fun z => some (vb z)) h4)) : ldA [bG a6, bB [], bB v2] .false 1 (.rp 2 0 1 x2 0) = some (vb true)) (apc ((idx_sl h5) : idxA 1 (.sl 2 0 1 0 a2) (i6 (w6 ((w6 (a5 * a1)) + v1))) = some (.rp 2 0 1 x5 0)) (apc (((ld_row (V := vb x6) rfl h6 rfl).trans (congrArg (fun z => some (vb z)) h7)) : ldA [bG a6, bB [], bB v2] .false 1 (.rp 2 0 1 x5 0) = some (vb true)) (apc ((idx_sl h8) : idxA 1 (.sl 2 0 1 0 a2) (i6 (w6 ((w6 (a4 * a1)) + v1))) = some (.rp 2 0 1 x8 0)) (apc (⟨st_row (v' := true) rfl h9 rfl rfl (Nat.le_of_ble_eq_true rfl) rfl, rfl⟩ : stA [bG a6, bB [], bB v2] 1 (.rp 2 0 1 x8 0) (vb true) = some [bG a6, bB [], .row 4 1 0 (ra eBool (v2.set x8 true))] ∧ ud = ud) (apc ((okT_of rfl (abl_cons rfl (abl_cons abl_row (abl_cons abl_row rfl)))) : okT 3 [bG a6, bB [], .row 4 1 0 (ra eBool (v2.set x8 true))] = true) apn)))))))) (by kernel_rfl)
   ·
    rw [← sj h]
    exact rnd (n := 30) [(126, .d true), (135, .v (.rp 2 0 1 x2 0)), (136, .v (vb true)), (144, .v (.rp 2 0 1 x5 0)), (145, .v (vb false)), (6000, .d true)] (apc (cv h1) (apc ((idx_sl h2) : idxA 1 (.sl 2 0 1 0 a2) (i6 (w6 ((w6 (a4 * a1)) + a5))) = some (.rp 2 0 1 x2 0)) (apc (((ld_row (V := vb x3) rfl h3 rfl).trans (congrArg (fun z => some (vb z)) h4)) : ldA [bG a6, bB [], bB v2] .false 1 (.rp 2 0 1 x2 0) = some (vb true)) (apc ((idx_sl h5) : idxA 1 (.sl 2 0 1 0 a2) (i6 (w6 ((w6 (a5 * a1)) + v1))) = some (.rp 2 0 1 x5 0)) (apc (((ld_row (V := vb x6) rfl h6 rfl).trans (congrArg (fun z => some (vb z)) h7)) : ldA [bG a6, bB [], bB v2] .false 1 (.rp 2 0 1 x5 0) = some (vb false)) (apc ((okT_of rfl (abl_cons rfl (abl_cons abl_row (abl_cons abl_row rfl)))) : okT 3 [bG a6, bB [], bB v2] = true) apn)))))) (by kernel_rfl)
  ·
   rw [← sj h]
   exact rnd (n := 30) [(126, .d true), (135, .v (.rp 2 0 1 x2 0)), (136, .v (vb false)), (6000, .d true)] (apc (cv h1) (apc ((idx_sl h2) : idxA 1 (.sl 2 0 1 0 a2) (i6 (w6 ((w6 (a4 * a1)) + a5))) = some (.rp 2 0 1 x2 0)) (apc (((ld_row (V := vb x3) rfl h3 rfl).trans (congrArg (fun z => some (vb z)) h4)) : ldA [bG a6, bB [], bB v2] .false 1 (.rp 2 0 1 x2 0) = some (vb false)) (apc ((okT_of rfl (abl_cons rfl (abl_cons abl_row (abl_cons abl_row rfl)))) : okT 3 [bG a6, bB [], bB v2] = true) apn)))) (by kernel_rfl)
 ·
  rw [← sj h]
  exact xbrk (n := 30) [(126, .d false), (6000, .d true)] (apc (cv h1) apn) (by kernel_rfl)
theorem L28_1_run (a1 : Int) (a2 : Nat) (a3 : Int) (a4 : Int) (a5 : Int) (a6 : GramD) (s0 : Int × (List Bool)) (e : E_L28_1) (h : runL (fun s => L28_1 a1 a2 a4 a5 s.1 s.2) s0 = some e) : L28_1_x a1 a2 a3 a4 a5 a6 e (evH prg 3 [5, 6, 14, 15, 16, 17] ir28_l1 (L28_1_s a1 a2 a3 a4 a5 a6 s0.1 s0.2)) := by
  have q := @loop_sound' (Int × (List Bool)) E_L28_1 (fun s => L28_1 a1 a2 a4 a5 s.1 s.2) (fun s => evH prg 3 [5, 6, 14, 15, 16, 17] ir28_l1 (L28_1_s a1 a2 a3 a4 a5 a6 s.1 s.2)) (L28_1_x a1 a2 a3 a4 a5 a6) (fun s r h => L28_1_ok a1 a2 a3 a4 a5 a6 s.1 s.2 h) s0 e h
  exact q
inductive E_L28_2 where
  | k0 (x0 : List Bool)
noncomputable def L28_2 (a1 : Int) (a2 : Nat) (a4 : Int) (v1 : Int) (v2 : List Bool) : Option (E_L28_2 ⊕ (Int × (List Bool))) :=
  (bif (decide (v1 < a1)) then ((runL (fun s => L28_1 a1 a2 a4 v1 s.1 s.2) (0, v2)).bind fun r2 => match r2 with | .k0 x2_0 => (some (.inr ((IntKind.wrap .i64 (v1 + 1)), x2_0)))) else (some (.inl (.k0 v2))))
def L28_2_s (a1 : Int) (a2 : Nat) (a3 : Int) (a4 : Int) (a5 : GramD) (v1 : Int) (v2 : List Bool) : St := ⟨fr 173 ug [(5, (i6 a1)), (6, (.sl 2 0 1 0 a2)), (14, (i6 a3)), (15, (i6 a4)), (16, (i6 v1))], [bG a5, bB [], bB v2]⟩
def L28_2_x (a1 : Int) (a2 : Nat) (a3 : Int) (a4 : Int) (a5 : GramD) (e : E_L28_2) (r : Option (Out × St)) : Prop := match e with | .k0 x0 => ∃ g, r = some ((.brk 10), ⟨fr 173 g [(5, (i6 a1)), (6, (.sl 2 0 1 0 a2)), (14, (i6 a3)), (15, (i6 a4))], [bG a5, bB [], bB x0]⟩)
theorem L28_2_ok (a1 : Int) (a2 : Nat) (a3 : Int) (a4 : Int) (a5 : GramD) (v1 : Int) (v2 : List Bool) {r : E_L28_2 ⊕ (Int × (List Bool))} (h : L28_2 a1 a2 a4 v1 v2 = some r) : OkR (fun e => L28_2_x a1 a2 a3 a4 a5 e (evH prg 3 [5, 6, 14, 15, 16] ir28_l2 (L28_2_s a1 a2 a3 a4 a5 v1 v2))) (fun s => evH prg 3 [5, 6, 14, 15, 16] ir28_l2 (L28_2_s a1 a2 a3 a4 a5 v1 v2) = evH prg 3 [5, 6, 14, 15, 16] ir28_l2 (L28_2_s a1 a2 a3 a4 a5 s.1 s.2)) r := by
 unfold L28_2 at h
 refine bi h (fun h1 h => ?_) fun h1 h => ?_
 ·
  refine bn h fun r2 h2 h => ?_
  cases r2 with
  | k0 x2_0 =>
   obtain ⟨g2, e2⟩ := L28_1_run a1 a2 a3 a4 v1 a5 (0, v2) _ h2
   rw [← sj h]
   exact rnd (n := 30) [(121, .d true), (2012, .l (.brk 12) ⟨fr 173 g2 [(5, (i6 a1)), (6, (.sl 2 0 1 0 a2)), (14, (i6 a3)), (15, (i6 a4)), (16, (i6 v1))], [bG a5, bB [], bB x2_0]⟩), (6000, .d true)] (apc (cv h1) (apc ((okT_of rfl (abl_cons rfl (abl_cons abl_row (abl_cons abl_row rfl)))) : okT 3 [bG a5, bB [], bB v2] = true) (apc (e2 : evH prg 3 [5, 6, 14, 15, 16, 17] ir28_l1 (L28_1_s a1 a2 a3 a4 v1 a5 0 v2) = some ((.brk 12), ⟨fr 173 g2 [(5, (i6 a1)), (6, (.sl 2 0 1 0 a2)), (14, (i6 a3)), (15, (i6 a4)), (16, (i6 v1))], [bG a5, bB [], bB x2_0]⟩)) (apc ((okT_of rfl (abl_cons rfl (abl_cons abl_row (abl_cons abl_row rfl)))) : okT 3 [bG a5, bB [], bB x2_0] = true) apn)))) (by kernel_rfl)
 ·
  rw [← sj h]
  exact xbrk (n := 30) [(121, .d false), (6000, .d true)] (apc (cv h1) apn) (by kernel_rfl)
theorem L28_2_run (a1 : Int) (a2 : Nat) (a3 : Int) (a4 : Int) (a5 : GramD) (s0 : Int × (List Bool)) (e : E_L28_2) (h : runL (fun s => L28_2 a1 a2 a4 s.1 s.2) s0 = some e) : L28_2_x a1 a2 a3 a4 a5 e (evH prg 3 [5, 6, 14, 15, 16] ir28_l2 (L28_2_s a1 a2 a3 a4 a5 s0.1 s0.2)) := by
  have q := @loop_sound' (Int × (List Bool)) E_L28_2 (fun s => L28_2 a1 a2 a4 s.1 s.2) (fun s => evH prg 3 [5, 6, 14, 15, 16] ir28_l2 (L28_2_s a1 a2 a3 a4 a5 s.1 s.2)) (L28_2_x a1 a2 a3 a4 a5) (fun s r h => L28_2_ok a1 a2 a3 a4 a5 s.1 s.2 h) s0 e h
  exact q
inductive E_L28_3 where
  | k0 (x0 : List Bool)
noncomputable def L28_3 (a1 : Int) (a2 : Nat) (v1 : Int) (v2 : List Bool) : Option (E_L28_3 ⊕ (Int × (List Bool))) :=
  (bif (decide (v1 < a1)) then ((runL (fun s => L28_2 a1 a2 v1 s.1 s.2) (0, v2)).bind fun r2 => match r2 with | .k0 x2_0 => (some (.inr ((IntKind.wrap .i64 (v1 + 1)), x2_0)))) else (some (.inl (.k0 v2))))
def L28_3_s (a1 : Int) (a2 : Nat) (a3 : Int) (a4 : GramD) (v1 : Int) (v2 : List Bool) : St := ⟨fr 173 ug [(5, (i6 a1)), (6, (.sl 2 0 1 0 a2)), (14, (i6 a3)), (15, (i6 v1))], [bG a4, bB [], bB v2]⟩
def L28_3_x (a1 : Int) (a2 : Nat) (a3 : Int) (a4 : GramD) (e : E_L28_3) (r : Option (Out × St)) : Prop := match e with | .k0 x0 => ∃ g, r = some ((.brk 8), ⟨fr 173 g [(5, (i6 a1)), (6, (.sl 2 0 1 0 a2)), (14, (i6 a3))], [bG a4, bB [], bB x0]⟩)
theorem L28_3_ok (a1 : Int) (a2 : Nat) (a3 : Int) (a4 : GramD) (v1 : Int) (v2 : List Bool) {r : E_L28_3 ⊕ (Int × (List Bool))} (h : L28_3 a1 a2 v1 v2 = some r) : OkR (fun e => L28_3_x a1 a2 a3 a4 e (evH prg 3 [5, 6, 14, 15] ir28_l3 (L28_3_s a1 a2 a3 a4 v1 v2))) (fun s => evH prg 3 [5, 6, 14, 15] ir28_l3 (L28_3_s a1 a2 a3 a4 v1 v2) = evH prg 3 [5, 6, 14, 15] ir28_l3 (L28_3_s a1 a2 a3 a4 s.1 s.2)) r := by
 unfold L28_3 at h
 refine bi h (fun h1 h => ?_) fun h1 h => ?_
 ·
  refine bn h fun r2 h2 h => ?_
  cases r2 with
  | k0 x2_0 =>
   obtain ⟨g2, e2⟩ := L28_2_run a1 a2 a3 v1 a4 (0, v2) _ h2
   rw [← sj h]
   exact rnd (n := 30) [(116, .d true), (2010, .l (.brk 10) ⟨fr 173 g2 [(5, (i6 a1)), (6, (.sl 2 0 1 0 a2)), (14, (i6 a3)), (15, (i6 v1))], [bG a4, bB [], bB x2_0]⟩), (6000, .d true)] (apc (cv h1) (apc ((okT_of rfl (abl_cons rfl (abl_cons abl_row (abl_cons abl_row rfl)))) : okT 3 [bG a4, bB [], bB v2] = true) (apc (e2 : evH prg 3 [5, 6, 14, 15, 16] ir28_l2 (L28_2_s a1 a2 a3 v1 a4 0 v2) = some ((.brk 10), ⟨fr 173 g2 [(5, (i6 a1)), (6, (.sl 2 0 1 0 a2)), (14, (i6 a3)), (15, (i6 v1))], [bG a4, bB [], bB x2_0]⟩)) (apc ((okT_of rfl (abl_cons rfl (abl_cons abl_row (abl_cons abl_row rfl)))) : okT 3 [bG a4, bB [], bB x2_0] = true) apn)))) (by kernel_rfl)
 ·
  rw [← sj h]
  exact xbrk (n := 30) [(116, .d false), (6000, .d true)] (apc (cv h1) apn) (by kernel_rfl)
theorem L28_3_run (a1 : Int) (a2 : Nat) (a3 : Int) (a4 : GramD) (s0 : Int × (List Bool)) (e : E_L28_3) (h : runL (fun s => L28_3 a1 a2 s.1 s.2) s0 = some e) : L28_3_x a1 a2 a3 a4 e (evH prg 3 [5, 6, 14, 15] ir28_l3 (L28_3_s a1 a2 a3 a4 s0.1 s0.2)) := by
  have q := @loop_sound' (Int × (List Bool)) E_L28_3 (fun s => L28_3 a1 a2 s.1 s.2) (fun s => evH prg 3 [5, 6, 14, 15] ir28_l3 (L28_3_s a1 a2 a3 a4 s.1 s.2)) (L28_3_x a1 a2 a3 a4) (fun s r h => L28_3_ok a1 a2 a3 a4 s.1 s.2 h) s0 e h
  exact q
inductive E_L28_4 where
  | k0 (x0 : List Bool)
noncomputable def L28_4 (a1 : Int) (a2 : Nat) (v1 : Int) (v2 : List Bool) : Option (E_L28_4 ⊕ (Int × (List Bool))) :=
  (bif (decide (v1 < a1)) then ((runL (fun s => L28_3 a1 a2 s.1 s.2) (0, v2)).bind fun r2 => match r2 with | .k0 x2_0 => (some (.inr ((IntKind.wrap .i64 (v1 + 1)), x2_0)))) else (some (.inl (.k0 v2))))
def L28_4_s (a1 : Int) (a2 : Nat) (a3 : GramD) (v1 : Int) (v2 : List Bool) : St := ⟨fr 173 ug [(5, (i6 a1)), (6, (.sl 2 0 1 0 a2)), (14, (i6 v1))], [bG a3, bB [], bB v2]⟩
def L28_4_x (a1 : Int) (a2 : Nat) (a3 : GramD) (e : E_L28_4) (r : Option (Out × St)) : Prop := match e with | .k0 x0 => ∃ g, r = some ((.brk 6), ⟨fr 173 g [(5, (i6 a1)), (6, (.sl 2 0 1 0 a2))], [bG a3, bB [], bB x0]⟩)
theorem L28_4_ok (a1 : Int) (a2 : Nat) (a3 : GramD) (v1 : Int) (v2 : List Bool) {r : E_L28_4 ⊕ (Int × (List Bool))} (h : L28_4 a1 a2 v1 v2 = some r) : OkR (fun e => L28_4_x a1 a2 a3 e (evH prg 3 [5, 6, 14] ir28_l4 (L28_4_s a1 a2 a3 v1 v2))) (fun s => evH prg 3 [5, 6, 14] ir28_l4 (L28_4_s a1 a2 a3 v1 v2) = evH prg 3 [5, 6, 14] ir28_l4 (L28_4_s a1 a2 a3 s.1 s.2)) r := by
 unfold L28_4 at h
 refine bi h (fun h1 h => ?_) fun h1 h => ?_
 ·
  refine bn h fun r2 h2 h => ?_
  cases r2 with
  | k0 x2_0 =>
   obtain ⟨g2, e2⟩ := L28_3_run a1 a2 v1 a3 (0, v2) _ h2
   rw [← sj h]
   exact rnd (n := 30) [(111, .d true), (2008, .l (.brk 8) ⟨fr 173 g2 [(5, (i6 a1)), (6, (.sl 2 0 1 0 a2)), (14, (i6 v1))], [bG a3, bB [], bB x2_0]⟩), (6000, .d true)] (apc (cv h1) (apc ((okT_of rfl (abl_cons rfl (abl_cons abl_row (abl_cons abl_row rfl)))) : okT 3 [bG a3, bB [], bB v2] = true) (apc (e2 : evH prg 3 [5, 6, 14, 15] ir28_l3 (L28_3_s a1 a2 v1 a3 0 v2) = some ((.brk 8), ⟨fr 173 g2 [(5, (i6 a1)), (6, (.sl 2 0 1 0 a2)), (14, (i6 v1))], [bG a3, bB [], bB x2_0]⟩)) (apc ((okT_of rfl (abl_cons rfl (abl_cons abl_row (abl_cons abl_row rfl)))) : okT 3 [bG a3, bB [], bB x2_0] = true) apn)))) (by kernel_rfl)
 ·
  rw [← sj h]
  exact xbrk (n := 30) [(111, .d false), (6000, .d true)] (apc (cv h1) apn) (by kernel_rfl)
theorem L28_4_run (a1 : Int) (a2 : Nat) (a3 : GramD) (s0 : Int × (List Bool)) (e : E_L28_4) (h : runL (fun s => L28_4 a1 a2 s.1 s.2) s0 = some e) : L28_4_x a1 a2 a3 e (evH prg 3 [5, 6, 14] ir28_l4 (L28_4_s a1 a2 a3 s0.1 s0.2)) := by
  have q := @loop_sound' (Int × (List Bool)) E_L28_4 (fun s => L28_4 a1 a2 s.1 s.2) (fun s => evH prg 3 [5, 6, 14] ir28_l4 (L28_4_s a1 a2 a3 s.1 s.2)) (L28_4_x a1 a2 a3) (fun s r h => L28_4_ok a1 a2 a3 s.1 s.2 h) s0 e h
  exact q
inductive E_L28_0 where
  | k0 (x0 : List Bool)
noncomputable def L28_0 (a1 : Int) (a2 : Nat) (a3 : Nat) (a5 : List Bool) (v1 : Int) (v2 : List Bool) : Option (E_L28_0 ⊕ (Int × (List Bool))) :=
  (bif (decide (v1 < a1)) then ((ixN a2 (IntKind.wrap .i64 ((IntKind.wrap .i64 (v1 * a1)) + v1))).bind fun x2 => ((a5[x2]?).bind fun x3 => ((ixN a3 v1).bind fun x4 => ((v2[x4]?).bind fun x5 => (some (.inr ((IntKind.wrap .i64 (v1 + 1)), (v2.set x4 x3)))))))) else (some (.inl (.k0 v2))))
def L28_0_s (a1 : Int) (a2 : Nat) (a3 : Nat) (a4 : GramD) (a5 : List Bool) (v1 : Int) (v2 : List Bool) : St := ⟨fr 173 ug [(5, (i6 a1)), (6, (.sl 2 0 1 0 a2)), (18, (.sl 3 0 1 0 a3)), (19, (i6 v1))], [bG a4, bB [], bB a5, bB v2]⟩
def L28_0_x (a1 : Int) (a2 : Nat) (a3 : Nat) (a4 : GramD) (a5 : List Bool) (e : E_L28_0) (r : Option (Out × St)) : Prop := match e with | .k0 x0 => ∃ g, r = some ((.brk 14), ⟨fr 173 g [(5, (i6 a1)), (6, (.sl 2 0 1 0 a2)), (18, (.sl 3 0 1 0 a3))], [bG a4, bB [], bB a5, bB x0]⟩)
theorem L28_0_ok (a1 : Int) (a2 : Nat) (a3 : Nat) (a4 : GramD) (a5 : List Bool) (v1 : Int) (v2 : List Bool) {r : E_L28_0 ⊕ (Int × (List Bool))} (h : L28_0 a1 a2 a3 a5 v1 v2 = some r) : OkR (fun e => L28_0_x a1 a2 a3 a4 a5 e (evH prg 4 [5, 6, 18, 19] ir28_l0 (L28_0_s a1 a2 a3 a4 a5 v1 v2))) (fun s => evH prg 4 [5, 6, 18, 19] ir28_l0 (L28_0_s a1 a2 a3 a4 a5 v1 v2) = evH prg 4 [5, 6, 18, 19] ir28_l0 (L28_0_s a1 a2 a3 a4 a5 s.1 s.2)) r := by
 unfold L28_0 at h
 refine bi h (fun h1 h => ?_) fun h1 h => ?_
 ·
  refine bn h fun x2 h2 h => ?_
  refine bn h fun x3 h3 h => ?_
  refine bn h fun x4 h4 h => ?_
  refine bn h fun x5 h5 h => ?_
  rw [← sj h]
  exact rnd (n := 30) [(158, .d true), (169, .v (.rp 2 0 1 x2 0)), (170, .v (vb x3)), (171, .v (.rp 3 0 1 x4 0)), (1171, .r ud [bG a4, bB [], bB a5, .row 4 1 0 (ra eBool (v2.set x4 x3))]), (6000, .d true)] (apc (cv h1) (apc ((idx_sl h2) : idxA 1 (.sl 2 0 1 0 a2) (i6 (w6 ((w6 (v1 * a1)) + v1))) = some (.rp 2 0 1 x2 0)) (apc ((ld_row rfl h3 rfl) : ldA [bG a4, bB [], bB a5, bB v2] .false 1 (.rp 2 0 1 x2 0) = some (vb x3)) (apc ((idx_sl h4) : idxA 1 (.sl 3 0 1 0 a3) (i6 v1) = some (.rp 3 0 1 x4 0)) (apc (⟨st_row (v' := x3) rfl h5 rfl rfl (Nat.le_of_ble_eq_true rfl) rfl, rfl⟩ : stA [bG a4, bB [], bB a5, bB v2] 1 (.rp 3 0 1 x4 0) (vb x3) = some [bG a4, bB [], bB a5, .row 4 1 0 (ra eBool (v2.set x4 x3))] ∧ ud = ud) (apc ((okT_of rfl (abl_cons rfl (abl_cons abl_row (abl_cons abl_row (abl_cons abl_row rfl))))) : okT 4 [bG a4, bB [], bB a5, .row 4 1 0 (ra eBool (v2.set x4 x3))] = true) apn)))))) (by kernel_rfl)
 ·
  rw [← sj h]
  exact xbrk (n := 30) [(158, .d false), (6000, .d true)] (apc (cv h1) apn) (by kernel_rfl)
theorem L28_0_run (a1 : Int) (a2 : Nat) (a3 : Nat) (a4 : GramD) (a5 : List Bool) (s0 : Int × (List Bool)) (e : E_L28_0) (h : runL (fun s => L28_0 a1 a2 a3 a5 s.1 s.2) s0 = some e) : L28_0_x a1 a2 a3 a4 a5 e (evH prg 4 [5, 6, 18, 19] ir28_l0 (L28_0_s a1 a2 a3 a4 a5 s0.1 s0.2)) := by
  have q := @loop_sound' (Int × (List Bool)) E_L28_0 (fun s => L28_0 a1 a2 a3 a5 s.1 s.2) (fun s => evH prg 4 [5, 6, 18, 19] ir28_l0 (L28_0_s a1 a2 a3 a4 a5 s.1 s.2)) (L28_0_x a1 a2 a3 a4 a5) (fun s r h => L28_0_ok a1 a2 a3 a4 a5 s.1 s.2 h) s0 e h
  exact q
noncomputable def F28 (a1 : GramD) : Option (List Bool) :=
  ((F16 a1).bind fun x1 => ((F27 a1).bind fun x2 => (bif (mkOk (IntKind.wrap .i64 ((a1.sorts.length : Int) * (a1.sorts.length : Int))) 1) then ((runL (fun s => L28_7 x1 x2 (a1.sorts.length : Int) (Int.toNat (IntKind.wrap .i64 ((a1.sorts.length : Int) * (a1.sorts.length : Int)))) a1 s.1 s.2) (0, (List.replicate (Int.toNat (IntKind.wrap .i64 ((a1.sorts.length : Int) * (a1.sorts.length : Int)))) false))).bind fun r4 => match r4 with | .k0 x4_0 => ((runL (fun s => L28_4 (a1.sorts.length : Int) (Int.toNat (IntKind.wrap .i64 ((a1.sorts.length : Int) * (a1.sorts.length : Int)))) s.1 s.2) (0, x4_0)).bind fun r5 => match r5 with | .k0 x5_0 => (bif (mkOk (a1.sorts.length : Int) 1) then ((runL (fun s => L28_0 (a1.sorts.length : Int) (Int.toNat (IntKind.wrap .i64 ((a1.sorts.length : Int) * (a1.sorts.length : Int)))) (Int.toNat (a1.sorts.length : Int)) x5_0 s.1 s.2) (0, (List.replicate (Int.toNat (a1.sorts.length : Int)) false))).bind fun r7 => match r7 with | .k0 x7_0 => (bif (decide ((Int.toNat (a1.sorts.length : Int)) ≤ x7_0.length)) then (some (x7_0.take (Int.toNat (a1.sorts.length : Int)))) else none)) else none))) else none)))
def F28_v (a1 : GramD) (x0 : (List Bool)) : AV := (.p (.lst 1 (x0.map eBool)))
theorem F28_ok (a1 : GramD) {r : (List Bool)} (h : F28 a1 = some r) : PR1 prg 28 [(aG a1)] (F28_v a1 r) := by
 unfold F28 at h
 refine bn h fun x1 h1 h => ?_
 refine bn h fun x2 h2 h => ?_
 refine bi h (fun h3 h => ?_) fun h3 h => ?_
 ·
  refine bn h fun r4 h4 h => ?_
  cases r4 with
  | k0 x4_0 =>
   obtain ⟨g4, e4⟩ := L28_7_run x1 x2 (a1.sorts.length : Int) (Int.toNat (w6 ((a1.sorts.length : Int) * (a1.sorts.length : Int)))) a1 (0, (List.replicate (Int.toNat (w6 ((a1.sorts.length : Int) * (a1.sorts.length : Int)))) false)) _ h4
   refine bn h fun r5 h5 h => ?_
   cases r5 with
   | k0 x5_0 =>
    obtain ⟨g5, e5⟩ := L28_4_run (a1.sorts.length : Int) (Int.toNat (w6 ((a1.sorts.length : Int) * (a1.sorts.length : Int)))) a1 (0, x4_0) _ h5
    refine bi h (fun h6 h => ?_) fun h6 h => ?_
    ·
     refine bn h fun r7 h7 h => ?_
     cases r7 with
     | k0 x7_0 =>
      obtain ⟨g7, e7⟩ := L28_0_run (a1.sorts.length : Int) (Int.toNat (w6 ((a1.sorts.length : Int) * (a1.sorts.length : Int)))) (Int.toNat (a1.sorts.length : Int)) a1 x5_0 (0, (List.replicate (Int.toNat (a1.sorts.length : Int)) false)) _ h7
      refine bi h (fun h8 h => ?_) fun h8 h => ?_
      ·
       rw [← sj h]
       exact fpo (n := 30) (v := (.sl 3 0 1 0 (Int.toNat (a1.sorts.length : Int)))) (h' := [bG a1, bB [], bB x5_0, bB x7_0]) [(21, .v (.p (.lst 1 (x1.map eI64)))), (23, .v (.p (.lst 1 (x2.map eBool)))), (26, .v (i6 (a1.sorts.length : Int))), (30, .r (.sl 2 0 1 0 (Int.toNat (w6 ((a1.sorts.length : Int) * (a1.sorts.length : Int))))) [bG a1, bB [], .row 4 1 0 (ra eBool (List.replicate (Int.toNat (w6 ((a1.sorts.length : Int) * (a1.sorts.length : Int)))) false))]), (2000, .l (.brk 0) ⟨fr 173 g4 [(1, (.ptr 0 0)), (5, (i6 (a1.sorts.length : Int))), (6, (.sl 2 0 1 0 (Int.toNat (w6 ((a1.sorts.length : Int) * (a1.sorts.length : Int))))))], [bG a1, bB [], bB x4_0]⟩), (2006, .l (.brk 6) ⟨fr 173 g5 [(5, (i6 (a1.sorts.length : Int))), (6, (.sl 2 0 1 0 (Int.toNat (w6 ((a1.sorts.length : Int) * (a1.sorts.length : Int))))))], [bG a1, bB [], bB x5_0]⟩), (155, .r (.sl 3 0 1 0 (Int.toNat (a1.sorts.length : Int))) [bG a1, bB [], bB x5_0, .row 4 1 0 (ra eBool (List.replicate (Int.toNat (a1.sorts.length : Int)) false))]), (2014, .l (.brk 14) ⟨fr 173 g7 [(5, (i6 (a1.sorts.length : Int))), (6, (.sl 2 0 1 0 (Int.toNat (w6 ((a1.sorts.length : Int) * (a1.sorts.length : Int)))))), (18, (.sl 3 0 1 0 (Int.toNat (a1.sorts.length : Int))))], [bG a1, bB [], bB x5_0, bB x7_0]⟩), (6000, .d true)] (apc (((F16_ok a1 h1).cp rfl _) : CP prg 16 [(aG a1)] [bG a1, bB []] = some (.p (.lst 1 (x1.map eI64)))) (apc (((F27_ok a1 h2).cp rfl _) : CP prg 27 [(aG a1)] [bG a1, bB []] = some (.p (.lst 1 (x2.map eBool)))) (apc (lg a1.sorts eStr 1) (apc ((mk_row' (h := [bG a1, bB []]) (e := eBool) (z := false) h3 rfl) : (mkA 4 1 1 [.val (.bool false)] (i6 (w6 ((a1.sorts.length : Int) * (a1.sorts.length : Int)))) (i6 (w6 ((a1.sorts.length : Int) * (a1.sorts.length : Int)))) 2).map (fun x => (x.1, [bG a1, bB []] ++ [x.2])) = some ((.sl 2 0 1 0 (Int.toNat (w6 ((a1.sorts.length : Int) * (a1.sorts.length : Int))))), [bG a1, bB [], .row 4 1 0 (ra eBool (List.replicate (Int.toNat (w6 ((a1.sorts.length : Int) * (a1.sorts.length : Int)))) false))])) (apc ((okT_of rfl (abl_cons rfl (abl_cons abl_row (abl_cons abl_row rfl)))) : okT 3 [bG a1, bB [], .row 4 1 0 (ra eBool (List.replicate (Int.toNat (w6 ((a1.sorts.length : Int) * (a1.sorts.length : Int)))) false))] = true) (apc (e4 : evH prg 3 [1, 3, 4, 5, 6, 7] ir28_l7 (L28_7_s x1 x2 (a1.sorts.length : Int) (Int.toNat (w6 ((a1.sorts.length : Int) * (a1.sorts.length : Int)))) a1 0 (List.replicate (Int.toNat (w6 ((a1.sorts.length : Int) * (a1.sorts.length : Int)))) false)) = some ((.brk 0), ⟨fr 173 g4 [(1, (.ptr 0 0)), (5, (i6 (a1.sorts.length : Int))), (6, (.sl 2 0 1 0 (Int.toNat (w6 ((a1.sorts.length : Int) * (a1.sorts.length : Int))))))], [bG a1, bB [], bB x4_0]⟩)) (apc ((okT_of rfl (abl_cons rfl (abl_cons abl_row (abl_cons abl_row rfl)))) : okT 3 [bG a1, bB [], bB x4_0] = true) (apc (e5 : evH prg 3 [5, 6, 14] ir28_l4 (L28_4_s (a1.sorts.length : Int) (Int.toNat (w6 ((a1.sorts.length : Int) * (a1.sorts.length : Int)))) a1 0 x4_0) = some ((.brk 6), ⟨fr 173 g5 [(5, (i6 (a1.sorts.length : Int))), (6, (.sl 2 0 1 0 (Int.toNat (w6 ((a1.sorts.length : Int) * (a1.sorts.length : Int))))))], [bG a1, bB [], bB x5_0]⟩)) (apc ((mk_row' (h := [bG a1, bB [], bB x5_0]) (e := eBool) (z := false) h6 rfl) : (mkA 4 1 1 [.val (.bool false)] (i6 (a1.sorts.length : Int)) (i6 (a1.sorts.length : Int)) 3).map (fun x => (x.1, [bG a1, bB [], bB x5_0] ++ [x.2])) = some ((.sl 3 0 1 0 (Int.toNat (a1.sorts.length : Int))), [bG a1, bB [], bB x5_0, .row 4 1 0 (ra eBool (List.replicate (Int.toNat (a1.sorts.length : Int)) false))])) (apc ((okT_of rfl (abl_cons rfl (abl_cons abl_row (abl_cons abl_row (abl_cons abl_row rfl))))) : okT 4 [bG a1, bB [], bB x5_0, .row 4 1 0 (ra eBool (List.replicate (Int.toNat (a1.sorts.length : Int)) false))] = true) (apc (e7 : evH prg 4 [5, 6, 18, 19] ir28_l0 (L28_0_s (a1.sorts.length : Int) (Int.toNat (w6 ((a1.sorts.length : Int) * (a1.sorts.length : Int)))) (Int.toNat (a1.sorts.length : Int)) a1 x5_0 0 (List.replicate (Int.toNat (a1.sorts.length : Int)) false)) = some ((.brk 14), ⟨fr 173 g7 [(5, (i6 (a1.sorts.length : Int))), (6, (.sl 2 0 1 0 (Int.toNat (w6 ((a1.sorts.length : Int) * (a1.sorts.length : Int)))))), (18, (.sl 3 0 1 0 (Int.toNat (a1.sorts.length : Int))))], [bG a1, bB [], bB x5_0, bB x7_0]⟩)) apn))))))))))) (purA_sl rfl h8) (by kernel_rfl)
      ·
       cases h
    ·
     cases h
 ·
  cases h
noncomputable def F5 (a1 : GramD) : Option Bool :=
  ((F10 a1).bind fun x1 => (bif x1 then ((F11).bind fun x3 => (some x3)) else ((F12 a1).bind fun x3 => ((F20 a1).bind fun r4 => match r4 with | .k0 x4_0 x4_1 => ((F21 a1).bind fun r5 => match r5 with | .k0 x5_0 x5_1 => ((F22 a1).bind fun r6 => match r6 with | .k0 x6_0 x6_1 => ((F23 a1).bind fun r7 => match r7 with | .k0 x7_0 x7_1 => (bif (x3 != 0) then ((F24 x4_0 x4_1 x3).bind fun x9 => (bif x9 then ((F24 x5_0 x5_1 x3).bind fun x11 => (bif x11 then ((F24 x6_0 x6_1 x3).bind fun x13 => (bif x13 then ((F24 x7_0 x7_1 x3).bind fun x15 => (bif x15 then ((F11).bind fun x17 => (some x17)) else (some false))) else (some false))) else (some false))) else (some false))) else ((F25 a1).bind fun x9 => ((F24_2 x4_0 x9 x4_1 x3).bind fun x10 => (bif x10 then ((F26 a1).bind fun x12 => ((F24_2 x5_0 x12 x5_1 x3).bind fun x13 => (bif x13 then ((F27 a1).bind fun x15 => ((F24_2 x6_0 x15 x6_1 x3).bind fun x16 => (bif x16 then ((F28 a1).bind fun x18 => ((F24_2 x7_0 x18 x7_1 x3).bind fun x19 => (bif x19 then ((F11).bind fun x21 => (some x21)) else (some false)))) else (some false)))) else (some false)))) else (some false))))))))))))
def F5_v (a1 : GramD) (x0 : Bool) : AV := (vb x0)
theorem F5_ok (a1 : GramD) {r : Bool} (h : F5 a1 = some r) : PR1 prg 5 [(aG a1)] (F5_v a1 r) := by
 unfold F5 at h
 refine bn h fun x1 h1 h => ?_
 refine bi h (fun h2 h => ?_) fun h2 h => ?_
 ·
  refine bn h fun x3 h3 h => ?_
  rw [← sj h]
  exact fpr (n := 30) [(13, .v (vb true)), (14, .v (vb x3))] (apc ((((F10_ok a1 h1).cp rfl _).trans (congrArg (fun z => some (vb z)) h2)) : CP prg 10 [(aG a1)] [bG a1] = some (vb true)) (apc (((F11_ok  h3).cp rfl _) : CP prg 11 [] [bG a1] = some (vb x3)) apn)) rfl (by kernel_rfl)
 ·
  refine bn h fun x3 h3 h => ?_
  refine bn h fun r4 h4 h => ?_
  cases r4 with
  | k0 x4_0 x4_1 =>
   refine bn h fun r5 h5 h => ?_
   cases r5 with
   | k0 x5_0 x5_1 =>
    refine bn h fun r6 h6 h => ?_
    cases r6 with
    | k0 x6_0 x6_1 =>
     refine bn h fun r7 h7 h => ?_
     cases r7 with
     | k0 x7_0 x7_1 =>
      refine bi h (fun h8 h => ?_) fun h8 h => ?_
      ·
       refine bn h fun x9 h9 h => ?_
       refine bi h (fun h10 h => ?_) fun h10 h => ?_
       ·
        refine bn h fun x11 h11 h => ?_
        refine bi h (fun h12 h => ?_) fun h12 h => ?_
        ·
         refine bn h fun x13 h13 h => ?_
         refine bi h (fun h14 h => ?_) fun h14 h => ?_
         ·
          refine bn h fun x15 h15 h => ?_
          refine bi h (fun h16 h => ?_) fun h16 h => ?_
          ·
           refine bn h fun x17 h17 h => ?_
           rw [← sj h]
           exact fpr (n := 30) [(13, .v (vb false)), (16, .v (i6 x3)), (19, .v (.tup [(.p (.lst 1 (x4_0.map eBool))), (i6 x4_1)])), (24, .v (.tup [(.p (.lst 1 (x5_0.map eBool))), (i6 x5_1)])), (29, .v (.tup [(.p (.lst 1 (x6_0.map eBool))), (i6 x6_1)])), (34, .v (.tup [(.p (.lst 1 (x7_0.map eBool))), (i6 x7_1)])), (38, .d true), (42, .v (vb true)), (47, .v (vb true)), (53, .v (vb true)), (59, .v (vb true)), (62, .v (vb x17))] (apc ((((F10_ok a1 h1).cp rfl _).trans (congrArg (fun z => some (vb z)) h2)) : CP prg 10 [(aG a1)] [bG a1] = some (vb false)) (apc (((F12_ok a1 h3).cp rfl _) : CP prg 12 [(aG a1)] [bG a1] = some (i6 x3)) (apc (((F20_ok a1 h4).cp rfl _) : CP prg 20 [(aG a1)] [bG a1] = some (.tup [(.p (.lst 1 (x4_0.map eBool))), (i6 x4_1)])) (apc (((F21_ok a1 h5).cp rfl _) : CP prg 21 [(aG a1)] [bG a1] = some (.tup [(.p (.lst 1 (x5_0.map eBool))), (i6 x5_1)])) (apc (((F22_ok a1 h6).cp rfl _) : CP prg 22 [(aG a1)] [bG a1] = some (.tup [(.p (.lst 1 (x6_0.map eBool))), (i6 x6_1)])) (apc (((F23_ok a1 h7).cp rfl _) : CP prg 23 [(aG a1)] [bG a1] = some (.tup [(.p (.lst 1 (x7_0.map eBool))), (i6 x7_1)])) (apc (cv h8) (apc ((((F24_ok x4_0 x4_1 x3 h9).cp rfl _).trans (congrArg (fun z => some (vb z)) h10)) : CP prg 24 [(.p (.lst 1 (x4_0.map eBool))), (.p (.val (.slice .none 0 0))), (i6 x4_1), (i6 x3)] [bG a1] = some (vb true)) (apc ((((F24_ok x5_0 x5_1 x3 h11).cp rfl _).trans (congrArg (fun z => some (vb z)) h12)) : CP prg 24 [(.p (.lst 1 (x5_0.map eBool))), (.p (.val (.slice .none 0 0))), (i6 x5_1), (i6 x3)] [bG a1] = some (vb true)) (apc ((((F24_ok x6_0 x6_1 x3 h13).cp rfl _).trans (congrArg (fun z => some (vb z)) h14)) : CP prg 24 [(.p (.lst 1 (x6_0.map eBool))), (.p (.val (.slice .none 0 0))), (i6 x6_1), (i6 x3)] [bG a1] = some (vb true)) (apc ((((F24_ok x7_0 x7_1 x3 h15).cp rfl _).trans (congrArg (fun z => some (vb z)) h16)) : CP prg 24 [(.p (.lst 1 (x7_0.map eBool))), (.p (.val (.slice .none 0 0))), (i6 x7_1), (i6 x3)] [bG a1] = some (vb true)) (apc (((F11_ok  h17).cp rfl _) : CP prg 11 [] [bG a1] = some (vb x17)) apn)))))))))))) rfl (by kernel_rfl)
          ·
           rw [← sj h]
           exact fpr (n := 30) [(13, .v (vb false)), (16, .v (i6 x3)), (19, .v (.tup [(.p (.lst 1 (x4_0.map eBool))), (i6 x4_1)])), (24, .v (.tup [(.p (.lst 1 (x5_0.map eBool))), (i6 x5_1)])), (29, .v (.tup [(.p (.lst 1 (x6_0.map eBool))), (i6 x6_1)])), (34, .v (.tup [(.p (.lst 1 (x7_0.map eBool))), (i6 x7_1)])), (38, .d true), (42, .v (vb true)), (47, .v (vb true)), (53, .v (vb true)), (59, .v (vb false))] (apc ((((F10_ok a1 h1).cp rfl _).trans (congrArg (fun z => some (vb z)) h2)) : CP prg 10 [(aG a1)] [bG a1] = some (vb false)) (apc (((F12_ok a1 h3).cp rfl _) : CP prg 12 [(aG a1)] [bG a1] = some (i6 x3)) (apc (((F20_ok a1 h4).cp rfl _) : CP prg 20 [(aG a1)] [bG a1] = some (.tup [(.p (.lst 1 (x4_0.map eBool))), (i6 x4_1)])) (apc (((F21_ok a1 h5).cp rfl _) : CP prg 21 [(aG a1)] [bG a1] = some (.tup [(.p (.lst 1 (x5_0.map eBool))), (i6 x5_1)])) (apc (((F22_ok a1 h6).cp rfl _) : CP prg 22 [(aG a1)] [bG a1] = some (.tup [(.p (.lst 1 (x6_0.map eBool))), (i6 x6_1)])) (apc (((F23_ok a1 h7).cp rfl _) : CP prg 23 [(aG a1)] [bG a1] = some (.tup [(.p (.lst 1 (x7_0.map eBool))), (i6 x7_1)])) (apc (cv h8) (apc ((((F24_ok x4_0 x4_1 x3 h9).cp rfl _).trans (congrArg (fun z => some (vb z)) h10)) : CP prg 24 [(.p (.lst 1 (x4_0.map eBool))), (.p (.val (.slice .none 0 0))), (i6 x4_1), (i6 x3)] [bG a1] = some (vb true)) (apc ((((F24_ok x5_0 x5_1 x3 h11).cp rfl _).trans (congrArg (fun z => some (vb z)) h12)) : CP prg 24 [(.p (.lst 1 (x5_0.map eBool))), (.p (.val (.slice .none 0 0))), (i6 x5_1), (i6 x3)] [bG a1] = some (vb true)) (apc ((((F24_ok x6_0 x6_1 x3 h13).cp rfl _).trans (congrArg (fun z => some (vb z)) h14)) : CP prg 24 [(.p (.lst 1 (x6_0.map eBool))), (.p (.val (.slice .none 0 0))), (i6 x6_1), (i6 x3)] [bG a1] = some (vb true)) (apc ((((F24_ok x7_0 x7_1 x3 h15).cp rfl _).trans (congrArg (fun z => some (vb z)) h16)) : CP prg 24 [(.p (.lst 1 (x7_0.map eBool))), (.p (.val (.slice .none 0 0))), (i6 x7_1), (i6 x3)] [bG a1] = some (vb false)) apn))))))))))) rfl (by kernel_rfl)
         ·
          rw [← sj h]
          exact fpr (n := 30) [(13, .v (vb false)), (16, .v (i6 x3)), (19, .v (.tup [(.p (.lst 1 (x4_0.map eBool))), (i6 x4_1)])), (24, .v (.tup [(.p (.lst 1 (x5_0.map eBool))), (i6 x5_1)])), (29, .v (.tup [(.p (.lst 1 (x6_0.map eBool))), (i6 x6_1)])), (34, .v (.tup [(.p (.lst 1 (x7_0.map eBool))), (i6 x7_1)])), (38, .d true), (42, .v (vb true)), (47, .v (vb true)), (53, .v (vb false))] (apc ((((F10_ok a1 h1).cp rfl _).trans (congrArg (fun z => some (vb z)) h2)) : CP prg 10 [(aG a1)] [bG a1] = some (vb false)) (apc (((F12_ok a1 h3).cp rfl _) : CP prg 12 [(aG a1)] [bG a1] = some (i6 x3)) (apc (((F20_ok a1 h4).cp rfl _) : CP prg 20 [(aG a1)] [bG a1] = some (.tup [(.p (.lst 1 (x4_0.map eBool))), (i6 x4_1)])) (apc (((F21_ok a1 h5).cp rfl _) : CP prg 21 [(aG a1)] [bG a1] = some (.tup [(.p (.lst 1 (x5_0.map eBool))), (i6 x5_1)])) (apc (((F22_ok a1 h6).cp rfl _) : CP prg 22 [(aG a1)] [bG a1] = some (.tup [(.p (.lst 1 (x6_0.map eBool))), (i6 x6_1)])) (apc (((F23_ok a1 h7).cp rfl _) : CP prg 23 [(aG a1)] [bG a1] = some (.tup [(.p (.lst 1 (x7_0.map eBool))), (i6 x7_1)])) (apc (cv h8) (apc ((((F24_ok x4_0 x4_1 x3 h9).cp rfl _).trans (congrArg (fun z => some (vb z)) h10)) : CP prg 24 [(.p (.lst 1 (x4_0.map eBool))), (.p (.val (.slice .none 0 0))), (i6 x4_1), (i6 x3)] [bG a1] = some (vb true)) (apc ((((F24_ok x5_0 x5_1 x3 h11).cp rfl _).trans (congrArg (fun z => some (vb z)) h12)) : CP prg 24 [(.p (.lst 1 (x5_0.map eBool))), (.p (.val (.slice .none 0 0))), (i6 x5_1), (i6 x3)] [bG a1] = some (vb true)) (apc ((((F24_ok x6_0 x6_1 x3 h13).cp rfl _).trans (congrArg (fun z => some (vb z)) h14)) : CP prg 24 [(.p (.lst 1 (x6_0.map eBool))), (.p (.val (.slice .none 0 0))), (i6 x6_1), (i6 x3)] [bG a1] = some (vb false)) apn)))))))))) rfl (by kernel_rfl)
        ·
         rw [← sj h]
         exact fpr (n := 30) [(13, .v (vb false)), (16, .v (i6 x3)), (19, .v (.tup [(.p (.lst 1 (x4_0.map eBool))), (i6 x4_1)])), (24, .v (.tup [(.p (.lst 1 (x5_0.map eBool))), (i6 x5_1)])), (29, .v (.tup [(.p (.lst 1 (x6_0.map eBool))), (i6 x6_1)])), (34, .v (.tup [(.p (.lst 1 (x7_0.map eBool))), (i6 x7_1)])), (38, .d true), (42, .v (vb true)), (47, .v (vb false))] (apc ((((F10_ok a1 h1).cp rfl _).trans (congrArg (fun z => some (vb z)) h2)) : CP prg 10 [(aG a1)] [bG a1] = some (vb false)) (apc (((F12_ok a1 h3).cp rfl _) : CP prg 12 [(aG a1)] [bG a1] = some (i6 x3)) (apc (((F20_ok a1 h4).cp rfl _) : CP prg 20 [(aG a1)] [bG a1] = some (.tup [(.p (.lst 1 (x4_0.map eBool))), (i6 x4_1)])) (apc (((F21_ok a1 h5).cp rfl _) : CP prg 21 [(aG a1)] [bG a1] = some (.tup [(.p (.lst 1 (x5_0.map eBool))), (i6 x5_1)])) (apc (((F22_ok a1 h6).cp rfl _) : CP prg 22 [(aG a1)] [bG a1] = some (.tup [(.p (.lst 1 (x6_0.map eBool))), (i6 x6_1)])) (apc (((F23_ok a1 h7).cp rfl _) : CP prg 23 [(aG a1)] [bG a1] = some (.tup [(.p (.lst 1 (x7_0.map eBool))), (i6 x7_1)])) (apc (cv h8) (apc ((((F24_ok x4_0 x4_1 x3 h9).cp rfl _).trans (congrArg (fun z => some (vb z)) h10)) : CP prg 24 [(.p (.lst 1 (x4_0.map eBool))), (.p (.val (.slice .none 0 0))), (i6 x4_1), (i6 x3)] [bG a1] = some (vb true)) (apc ((((F24_ok x5_0 x5_1 x3 h11).cp rfl _).trans (congrArg (fun z => some (vb z)) h12)) : CP prg 24 [(.p (.lst 1 (x5_0.map eBool))), (.p (.val (.slice .none 0 0))), (i6 x5_1), (i6 x3)] [bG a1] = some (vb false)) apn))))))))) rfl (by kernel_rfl)
       ·
        rw [← sj h]
        exact fpr (n := 30) [(13, .v (vb false)), (16, .v (i6 x3)), (19, .v (.tup [(.p (.lst 1 (x4_0.map eBool))), (i6 x4_1)])), (24, .v (.tup [(.p (.lst 1 (x5_0.map eBool))), (i6 x5_1)])), (29, .v (.tup [(.p (.lst 1 (x6_0.map eBool))), (i6 x6_1)])), (34, .v (.tup [(.p (.lst 1 (x7_0.map eBool))), (i6 x7_1)])), (38, .d true), (42, .v (vb false))] (apc ((((F10_ok a1 h1).cp rfl _).trans (congrArg (fun z => some (vb z)) h2)) : CP prg 10 [(aG a1)] [bG a1] = some (vb false)) (apc (((F12_ok a1 h3).cp rfl _) : CP prg 12 [(aG a1)] [bG a1] = some (i6 x3)) (apc (((F20_ok a1 h4).cp rfl _) : CP prg 20 [(aG a1)] [bG a1] = some (.tup [(.p (.lst 1 (x4_0.map eBool))), (i6 x4_1)])) (apc (((F21_ok a1 h5).cp rfl _) : CP prg 21 [(aG a1)] [bG a1] = some (.tup [(.p (.lst 1 (x5_0.map eBool))), (i6 x5_1)])) (apc (((F22_ok a1 h6).cp rfl _) : CP prg 22 [(aG a1)] [bG a1] = some (.tup [(.p (.lst 1 (x6_0.map eBool))), (i6 x6_1)])) (apc (((F23_ok a1 h7).cp rfl _) : CP prg 23 [(aG a1)] [bG a1] = some (.tup [(.p (.lst 1 (x7_0.map eBool))), (i6 x7_1)])) (apc (cv h8) (apc ((((F24_ok x4_0 x4_1 x3 h9).cp rfl _).trans (congrArg (fun z => some (vb z)) h10)) : CP prg 24 [(.p (.lst 1 (x4_0.map eBool))), (.p (.val (.slice .none 0 0))), (i6 x4_1), (i6 x3)] [bG a1] = some (vb false)) apn)))))))) rfl (by kernel_rfl)
      ·
       refine bn h fun x9 h9 h => ?_
       refine bn h fun x10 h10 h => ?_
       refine bi h (fun h11 h => ?_) fun h11 h => ?_
       ·
        refine bn h fun x12 h12 h => ?_
        refine bn h fun x13 h13 h => ?_
        refine bi h (fun h14 h => ?_) fun h14 h => ?_
        ·
         refine bn h fun x15 h15 h => ?_
         refine bn h fun x16 h16 h => ?_
         refine bi h (fun h17 h => ?_) fun h17 h => ?_
         ·
          refine bn h fun x18 h18 h => ?_
          refine bn h fun x19 h19 h => ?_
          refine bi h (fun h20 h => ?_) fun h20 h => ?_
          ·
           refine bn h fun x21 h21 h => ?_
           rw [← sj h]
           exact fpr (n := 30) [(13, .v (vb false)), (16, .v (i6 x3)), (19, .v (.tup [(.p (.lst 1 (x4_0.map eBool))), (i6 x4_1)])), (24, .v (.tup [(.p (.lst 1 (x5_0.map eBool))), (i6 x5_1)])), (29, .v (.tup [(.p (.lst 1 (x6_0.map eBool))), (i6 x6_1)])), (34, .v (.tup [(.p (.lst 1 (x7_0.map eBool))), (i6 x7_1)])), (38, .d false), (66, .v (.p (.lst 1 (x9.map eBool)))), (69, .v (vb true)), (73, .v (.p (.lst 1 (x12.map eBool)))), (76, .v (vb true)), (81, .v (.p (.lst 1 (x15.map eBool)))), (84, .v (vb true)), (89, .v (.p (.lst 1 (x18.map eBool)))), (92, .v (vb true)), (95, .v (vb x21))] (apc ((((F10_ok a1 h1).cp rfl _).trans (congrArg (fun z => some (vb z)) h2)) : CP prg 10 [(aG a1)] [bG a1] = some (vb false)) (apc (((F12_ok a1 h3).cp rfl _) : CP prg 12 [(aG a1)] [bG a1] = some (i6 x3)) (apc (((F20_ok a1 h4).cp rfl _) : CP prg 20 [(aG a1)] [bG a1] = some (.tup [(.p (.lst 1 (x4_0.map eBool))), (i6 x4_1)])) (apc (((F21_ok a1 h5).cp rfl _) : CP prg 21 [(aG a1)] [bG a1] = some (.tup [(.p (.lst 1 (x5_0.map eBool))), (i6 x5_1)])) (apc (((F22_ok a1 h6).cp rfl _) : CP prg 22 [(aG a1)] [bG a1] = some (.tup [(.p (.lst 1 (x6_0.map eBool))), (i6 x6_1)])) (apc (((F23_ok a1 h7).cp rfl _) : CP prg 23 [(aG a1)] [bG a1] = some (.tup [(.p (.lst 1 (x7_0.map eBool))), (i6 x7_1)])) (apc (cv h8) (apc (((F25_ok a1 h9).cp rfl _) : CP prg 25 [(aG a1)] [bG a1] = some (.p (.lst 1 (x9.map eBool)))) (apc ((((F24_2_ok x4_0 x9 x4_1 x3 h10).cp rfl _).trans (congrArg (fun z => some (vb z)) h11)) : CP prg 24 [(.p (.lst 1 (x4_0.map eBool))), (.p (.lst 1 (x9.map eBool))), (i6 x4_1), (i6 x3)] [bG a1] = some (vb true)) (apc (((F26_ok a1 h12).cp rfl _) : CP prg 26 [(aG a1), (vb false)] [bG a1] = some (.p (.lst 1 (x12.map eBool)))) (apc ((((F24_2_ok x5_0 x12 x5_1 x3 h13).cp rfl _).trans (congrArg (fun z => some (vb z)) h14)) : CP prg 24 [(.p (.lst 1 (x5_0.map eBool))), (.p (.lst 1 (x12.map eBool))), (i6 x5_1), (i6 x3)] [bG a1] = some (vb true)) (apc (((F27_ok a1 h15).cp rfl _) : CP prg 27 [(aG a1)] [bG a1] = some (.p (.lst 1 (x15.map eBool)))) (apc ((((F24_2_ok x6_0 x15 x6_1 x3 h16).cp rfl _).trans (congrArg (fun z => some (vb z)) h17)) : CP prg 24 [(.p (.lst 1 (x6_0.map eBool))), (.p (.lst 1 (x15.map eBool))), (i6 x6_1), (i6 x3)] [bG a1] = some (vb true)) (apc (((F28_ok a1 h18).cp rfl _) : CP prg 28 [(aG a1)] [bG a1] = some (.p (.lst 1 (x18.map eBool)))) (apc ((((F24_2_ok x7_0 x18 x7_1 x3 h19).cp rfl _).trans (congrArg (fun z => some (vb z)) h20)) : CP prg 24 [(.p (.lst 1 (x7_0.map eBool))), (.p (.lst 1 (x18.map eBool))), (i6 x7_1), (i6 x3)] [bG a1] = some (vb true)) (apc (((F11_ok  h21).cp rfl _) : CP prg 11 [] [bG a1] = some (vb x21)) apn)))))))))))))))) rfl (by kernel_rfl)
          ·
           rw [← sj h]
           exact fpr (n := 30) [(13, .v (vb false)), (16, .v (i6 x3)), (19, .v (.tup [(.p (.lst 1 (x4_0.map eBool))), (i6 x4_1)])), (24, .v (.tup [(.p (.lst 1 (x5_0.map eBool))), (i6 x5_1)])), (29, .v (.tup [(.p (.lst 1 (x6_0.map eBool))), (i6 x6_1)])), (34, .v (.tup [(.p (.lst 1 (x7_0.map eBool))), (i6 x7_1)])), (38, .d false), (66, .v (.p (.lst 1 (x9.map eBool)))), (69, .v (vb true)), (73, .v (.p (.lst 1 (x12.map eBool)))), (76, .v (vb true)), (81, .v (.p (.lst 1 (x15.map eBool)))), (84, .v (vb true)), (89, .v (.p (.lst 1 (x18.map eBool)))), (92, .v (vb false))] (apc ((((F10_ok a1 h1).cp rfl _).trans (congrArg (fun z => some (vb z)) h2)) : CP prg 10 [(aG a1)] [bG a1] = some (vb false)) (apc (((F12_ok a1 h3).cp rfl _) : CP prg 12 [(aG a1)] [bG a1] = some (i6 x3)) (apc (((F20_ok a1 h4).cp rfl _) : CP prg 20 [(aG a1)] [bG a1] = some (.tup [(.p (.lst 1 (x4_0.map eBool))), (i6 x4_1)])) (apc (((F21_ok a1 h5).cp rfl _) : CP prg 21 [(aG a1)] [bG a1] = some (.tup [(.p (.lst 1 (x5_0.map eBool))), (i6 x5_1)])) (apc (((F22_ok a1 h6).cp rfl _) : CP prg 22 [(aG a1)] [bG a1] = some (.tup [(.p (.lst 1 (x6_0.map eBool))), (i6 x6_1)])) (apc (((F23_ok a1 h7).cp rfl _) : CP prg 23 [(aG a1)] [bG a1] = some (.tup [(.p (.lst 1 (x7_0.map eBool))), (i6 x7_1)])) (apc (cv h8) (apc (((F25_ok a1 h9).cp rfl _) : CP prg 25 [(aG a1)] [bG a1] = some (.p (.lst 1 (x9.map eBool)))) (apc ((((F24_2_ok x4_0 x9 x4_1 x3 h10).cp rfl _).trans (congrArg (fun z => some (vb z)) h11)) : CP prg 24 [(.p (.lst 1 (x4_0.map eBool))), (.p (.lst 1 (x9.map eBool))), (i6 x4_1), (i6 x3)] [bG a1] = some (vb true)) (apc (((F26_ok a1 h12).cp rfl _) : CP prg 26 [(aG a1), (vb false)] [bG a1] = some (.p (.lst 1 (x12.map eBool)))) (apc ((((F24_2_ok x5_0 x12 x5_1 x3 h13).cp rfl _).trans (congrArg (fun z => some (vb z)) h14)) : CP prg 24 [(.p (.lst 1 (x5_0.map eBool))), (.p (.lst 1 (x12.map eBool))), (i6 x5_1), (i6 x3)] [bG a1] = some (vb true)) (apc (((F27_ok a1 h15).cp rfl _) : CP prg 27 [(aG a1)] [bG a1] = some (.p (.lst 1 (x15.map eBool)))) (apc ((((F24_2_ok x6_0 x15 x6_1 x3 h16).cp rfl _).trans (congrArg (fun z => some (vb z)) h17)) : CP prg 24 [(.p (.lst 1 (x6_0.map eBool))), (.p (.lst 1 (x15.map eBool))), (i6 x6_1), (i6 x3)] [bG a1] = some (vb true)) (apc (((F28_ok a1 h18).cp rfl _) : CP prg 28 [(aG a1)] [bG a1] = some (.p (.lst 1 (x18.map eBool)))) (apc ((((F24_2_ok x7_0 x18 x7_1 x3 h19).cp rfl _).trans (congrArg (fun z => some (vb z)) h20)) : CP prg 24 [(.p (.lst 1 (x7_0.map eBool))), (.p (.lst 1 (x18.map eBool))), (i6 x7_1), (i6 x3)] [bG a1] = some (vb false)) apn))))))))))))))) rfl (by kernel_rfl)
         ·
          rw [← sj h]
          exact fpr (n := 30) [(13, .v (vb false)), (16, .v (i6 x3)), (19, .v (.tup [(.p (.lst 1 (x4_0.map eBool))), (i6 x4_1)])), (24, .v (.tup [(.p (.lst 1 (x5_0.map eBool))), (i6 x5_1)])), (29, .v (.tup [(.p (.lst 1 (x6_0.map eBool))), (i6 x6_1)])), (34, .v (.tup [(.p (.lst 1 (x7_0.map eBool))), (i6 x7_1)])), (38, .d false), (66, .v (.p (.lst 1 (x9.map eBool)))), (69, .v (vb true)), (73, .v (.p (.lst 1 (x12.map eBool)))), (76, .v (vb true)), (81, .v (.p (.lst 1 (x15.map eBool)))), (84, .v (vb false))] (apc ((((F10_ok a1 h1).cp rfl _).trans (congrArg (fun z => some (vb z)) h2)) : CP prg 10 [(aG a1)] [bG a1] = some (vb false)) (apc (((F12_ok a1 h3).cp rfl _) : CP prg 12 [(aG a1)] [bG a1] = some (i6 x3)) (apc (((F20_ok a1 h4).cp rfl _) : CP prg 20 [(aG a1)] [bG a1] = some (.tup [(.p (.lst 1 (x4_0.map eBool))), (i6 x4_1)])) (apc (((F21_ok a1 h5).cp rfl _) : CP prg 21 [(aG a1)] [bG a1] = some (.tup [(.p (.lst 1 (x5_0.map eBool))), (i6 x5_1)])) (apc (((F22_ok a1 h6).cp rfl _) : CP prg 22 [(aG a1)] [bG a1] = some (.tup [(.p (.lst 1 (x6_0.map eBool))), (i6 x6_1)])) (apc (((F23_ok a1 h7).cp rfl _) : CP prg 23 [(aG a1)] [bG a1] = some (.tup [(.p (.lst 1 (x7_0.map eBool))), (i6 x7_1)])) (apc (cv h8) (apc (((F25_ok a1 h9).cp rfl _) : CP prg 25 [(aG a1)] [bG a1] = some (.p (.lst 1 (x9.map eBool)))) (apc ((((F24_2_ok x4_0 x9 x4_1 x3 h10).cp rfl _).trans (congrArg (fun z => some (vb z)) h11)) : CP prg 24 [(.p (.lst 1 (x4_0.map eBool))), (.p (.lst 1 (x9.map eBool))), (i6 x4_1), (i6 x3)] [bG a1] = some (vb true)) (apc (((F26_ok a1 h12).cp rfl _) : CP prg 26 [(aG a1), (vb false)] [bG a1] = some (.p (.lst 1 (x12.map eBool)))) (apc ((((F24_2_ok x5_0 x12 x5_1 x3 h13).cp rfl _).trans (congrArg (fun z => some (vb z)) h14)) : CP prg 24 [(.p (.lst 1 (x5_0.map eBool))), (.p (.lst 1 (x12.map eBool))), (i6 x5_1), (i6 x3)] [bG a1] = some (vb true)) (apc (((F27_ok a1 h15).cp rfl _) : CP prg 27 [(aG a1)] [bG a1] = some (.p (.lst 1 (x15.map eBool)))) (apc ((((F24_2_ok x6_0 x15 x6_1 x3 h16).cp rfl _).trans (congrArg (fun z => some (vb z)) h17)) : CP prg 24 [(.p (.lst 1 (x6_0.map eBool))), (.p (.lst 1 (x15.map eBool))), (i6 x6_1), (i6 x3)] [bG a1] = some (vb false)) apn))))))))))))) rfl (by kernel_rfl)
        ·
         rw [← sj h]
         exact fpr (n := 30) [(13, .v (vb false)), (16, .v (i6 x3)), (19, .v (.tup [(.p (.lst 1 (x4_0.map eBool))), (i6 x4_1)])), (24, .v (.tup [(.p (.lst 1 (x5_0.map eBool))), (i6 x5_1)])), (29, .v (.tup [(.p (.lst 1 (x6_0.map eBool))), (i6 x6_1)])), (34, .v (.tup [(.p (.lst 1 (x7_0.map eBool))), (i6 x7_1)])), (38, .d false), (66, .v (.p (.lst 1 (x9.map eBool)))), (69, .v (vb true)), (73, .v (.p (.lst 1 (x12.map eBool)))), (76, .v (vb false))] (apc ((((F10_ok a1 h1).cp rfl _).trans (congrArg (fun z => some (vb z)) h2)) : CP prg 10 [(aG a1)] [bG a1] = some (vb false)) (apc (((F12_ok a1 h3).cp rfl _) : CP prg 12 [(aG a1)] [bG a1] = some (i6 x3)) (apc (((F20_ok a1 h4).cp rfl _) : CP prg 20 [(aG a1)] [bG a1] = some (.tup [(.p (.lst 1 (x4_0.map eBool))), (i6 x4_1)])) (apc (((F21_ok a1 h5).cp rfl _) : CP prg 21 [(aG a1)] [bG a1] = some (.tup [(.p (.lst 1 (x5_0.map eBool))), (i6 x5_1)])) (apc (((F22_ok a1 h6).cp rfl _) : CP prg 22 [(aG a1)] [bG a1] = some (.tup [(.p (.lst 1 (x6_0.map eBool))), (i6 x6_1)])) (apc (((F23_ok a1 h7).cp rfl _) : CP prg 23 [(aG a1)] [bG a1] = some (.tup [(.p (.lst 1 (x7_0.map eBool))), (i6 x7_1)])) (apc (cv h8) (apc (((F25_ok a1 h9).cp rfl _) : CP prg 25 [(aG a1)] [bG a1] = some (.p (.lst 1 (x9.map eBool)))) (apc ((((F24_2_ok x4_0 x9 x4_1 x3 h10).cp rfl _).trans (congrArg (fun z => some (vb z)) h11)) : CP prg 24 [(.p (.lst 1 (x4_0.map eBool))), (.p (.lst 1 (x9.map eBool))), (i6 x4_1), (i6 x3)] [bG a1] = some (vb true)) (apc (((F26_ok a1 h12).cp rfl _) : CP prg 26 [(aG a1), (vb false)] [bG a1] = some (.p (.lst 1 (x12.map eBool)))) (apc ((((F24_2_ok x5_0 x12 x5_1 x3 h13).cp rfl _).trans (congrArg (fun z => some (vb z)) h14)) : CP prg 24 [(.p (.lst 1 (x5_0.map eBool))), (.p (.lst 1 (x12.map eBool))), (i6 x5_1), (i6 x3)] [bG a1] = some (vb false)) apn))))))))))) rfl (by kernel_rfl)
       ·
        rw [← sj h]
        exact fpr (n := 30) [(13, .v (vb false)), (16, .v (i6 x3)), (19, .v (.tup [(.p (.lst 1 (x4_0.map eBool))), (i6 x4_1)])), (24, .v (.tup [(.p (.lst 1 (x5_0.map eBool))), (i6 x5_1)])), (29, .v (.tup [(.p (.lst 1 (x6_0.map eBool))), (i6 x6_1)])), (34, .v (.tup [(.p (.lst 1 (x7_0.map eBool))), (i6 x7_1)])), (38, .d false), (66, .v (.p (.lst 1 (x9.map eBool)))), (69, .v (vb false))] (apc ((((F10_ok a1 h1).cp rfl _).trans (congrArg (fun z => some (vb z)) h2)) : CP prg 10 [(aG a1)] [bG a1] = some (vb false)) (apc (((F12_ok a1 h3).cp rfl _) : CP prg 12 [(aG a1)] [bG a1] = some (i6 x3)) (apc (((F20_ok a1 h4).cp rfl _) : CP prg 20 [(aG a1)] [bG a1] = some (.tup [(.p (.lst 1 (x4_0.map eBool))), (i6 x4_1)])) (apc (((F21_ok a1 h5).cp rfl _) : CP prg 21 [(aG a1)] [bG a1] = some (.tup [(.p (.lst 1 (x5_0.map eBool))), (i6 x5_1)])) (apc (((F22_ok a1 h6).cp rfl _) : CP prg 22 [(aG a1)] [bG a1] = some (.tup [(.p (.lst 1 (x6_0.map eBool))), (i6 x6_1)])) (apc (((F23_ok a1 h7).cp rfl _) : CP prg 23 [(aG a1)] [bG a1] = some (.tup [(.p (.lst 1 (x7_0.map eBool))), (i6 x7_1)])) (apc (cv h8) (apc (((F25_ok a1 h9).cp rfl _) : CP prg 25 [(aG a1)] [bG a1] = some (.p (.lst 1 (x9.map eBool)))) (apc ((((F24_2_ok x4_0 x9 x4_1 x3 h10).cp rfl _).trans (congrArg (fun z => some (vb z)) h11)) : CP prg 24 [(.p (.lst 1 (x4_0.map eBool))), (.p (.lst 1 (x9.map eBool))), (i6 x4_1), (i6 x3)] [bG a1] = some (vb false)) apn))))))))) rfl (by kernel_rfl)
end Go.Proofs.Tryd
