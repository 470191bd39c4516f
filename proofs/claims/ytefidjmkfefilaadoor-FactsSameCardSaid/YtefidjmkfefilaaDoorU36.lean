/- Decompiled by a program: functions as plain data see them, part 3. -/
import Derived.Test.YtefidjmkfefilaaDoorU26
namespace Go.Proofs.Tryd
set_option linter.unusedSimpArgs false
set_option linter.unusedVariables false
open Go Go.Vs
inductive E_L16_0 where
  | k0 (x0 : Bool) (x1 : List Int)
noncomputable def L16_0 (a1 : Nat) (a2 : GramD) (v1 : Bool) (v2 : Int) (v3 : List Int) : Option (E_L16_0 ⊕ (Bool × Int × (List Int))) :=
  (bif (decide (v2 < (a2.prods.length : Int))) then ((getI a2.prods v2).bind fun x2 => (bif (decide (a1 ≤ v3.length)) then ((F50 x2 (v3.take a1)).bind fun x4 => ((F51 x2).bind fun x5 => (bif x5 then (bif (decide (x4 ≥ 0)) then ((ixN a1 x2.left).bind fun x8 => ((v3[x8]?).bind fun x9 => (bif (decide (x9 < 0)) then (some (.inr (true, (IntKind.wrap .i64 (v2 + 1)), (v3.set x8 x4)))) else (bif (decide (x4 < x9)) then (some (.inr (true, (IntKind.wrap .i64 (v2 + 1)), (v3.set x8 x4)))) else (some (.inr (v1, (IntKind.wrap .i64 (v2 + 1)), v3))))))) else (some (.inr (v1, (IntKind.wrap .i64 (v2 + 1)), v3)))) else (some (.inr (v1, (IntKind.wrap .i64 (v2 + 1)), v3)))))) else none)) else (some (.inl (.k0 v1 v3))))
def L16_0_s (a1 : Nat) (a2 : GramD) (v1 : Bool) (v2 : Int) (v3 : List Int) : St := ⟨fr 67 ug [(1, (.ptr 0 0)), (3, (.sl 2 0 1 0 a1)), (5, (vb v1)), (6, (i6 v2))], [bG a2, bI [], bI v3]⟩
def L16_0_x (a1 : Nat) (a2 : GramD) (e : E_L16_0) (r : Option (Out × St)) : Prop := match e with | .k0 x0 x1 => ∃ g, r = some ((.brk 4), ⟨fr 67 g [(1, (.ptr 0 0)), (3, (.sl 2 0 1 0 a1)), (5, (vb x0))], [bG a2, bI [], bI x1]⟩)
theorem L16_0_ok (a1 : Nat) (a2 : GramD) (v1 : Bool) (v2 : Int) (v3 : List Int) {r : E_L16_0 ⊕ (Bool × Int × (List Int))} (h : L16_0 a1 a2 v1 v2 v3 = some r) : OkR (fun e => L16_0_x a1 a2 e (evH prg 3 [1, 3, 5, 6] ir16_l0 (L16_0_s a1 a2 v1 v2 v3))) (fun s => evH prg 3 [1, 3, 5, 6] ir16_l0 (L16_0_s a1 a2 v1 v2 v3) = evH prg 3 [1, 3, 5, 6] ir16_l0 (L16_0_s a1 a2 s.1 s.2.1 s.2.2)) r := by
 unfold L16_0 at h
 refine bi h (fun h1 h => ?_) fun h1 h => ?_
 ·
  refine bn h fun x2 h2 h => ?_
  refine bi h (fun h3 h => ?_) fun h3 h => ?_
  ·
   refine bn h fun x4 h4 h => ?_
   refine bn h fun x5 h5 h => ?_
   refine bi h (fun h6 h => ?_) fun h6 h => ?_
   ·
    refine bi h (fun h7 h => ?_) fun h7 h => ?_
    ·
     refine bn h fun x8 h8 h => ?_
     refine bn h fun x9 h9 h => ?_
     refine bi h (fun h10 h => ?_) fun h10 h => ?_
     ·
      rw [← sj h]
      exact rnd (n := 30) [(26, .v (i6 (a2.prods.length : Int))), (27, .d true), (33, .v (.ro (eProd x2))), (37, .v (i6 x4)), (39, .v (vb true)), (42, .d true), (48, .v (.rp 2 0 1 x8 0)), (49, .v (i6 x9)), (50, .d true), (65, .v (.rp 2 0 1 x8 0)), (1065, .r ud [bG a2, bI [], .row 3 1 0 (ra eI64 (v3.set x8 x4)), .row 48 6 0 (ra eSym []), bP x2]), (6000, .d true)] (apc (lg a2.prods eProd 7) (apc (cv h1) (apc (ig eProd 7 .i64 h2) (apc (((F50_ok x2 (v3.take a1) h4).own rfl (purAs_cons rfl (purAs_cons (purA_sl rfl h3) purAs_nil)) rfl) : CP prg 50 [(aP x2), (.sl 2 0 1 0 a1)] [bG a2, bI [], bI v3, .row 48 6 0 (ra eSym []), bP x2] = some (i6 x4)) (apc ((((F51_ok x2 h5).cp rfl _).trans (congrArg (fun z => some (vb z)) h6)) : CP prg 51 [(aP x2)] [bG a2, bI [], bI v3, .row 48 6 0 (ra eSym []), bP x2] = some (vb true)) (apc (cv h7) (apc ((idx_sl h8) : idxA 1 (.sl 2 0 1 0 a1) (i6 x2.left) = some (.rp 2 0 1 x8 0)) (apc ((ld_row rfl h9 rfl) : ldA [bG a2, bI [], bI v3, .row 48 6 0 (ra eSym []), bP x2] .false 1 (.rp 2 0 1 x8 0) = some (i6 x9)) (apc (cv h10) (apc ((idx_sl h8) : idxA 1 (.sl 2 0 1 0 a1) (i6 x2.left) = some (.rp 2 0 1 x8 0)) (apc (⟨st_row (v' := x4) rfl h9 rfl rfl (Nat.le_of_ble_eq_true rfl) rfl, rfl⟩ : stA [bG a2, bI [], bI v3, .row 48 6 0 (ra eSym []), bP x2] 1 (.rp 2 0 1 x8 0) (i6 x4) = some [bG a2, bI [], .row 3 1 0 (ra eI64 (v3.set x8 x4)), .row 48 6 0 (ra eSym []), bP x2] ∧ ud = ud) (apc ((okT_of rfl (abl_cons rfl (abl_cons abl_row (abl_cons abl_row rfl)))) : okT 3 [bG a2, bI [], .row 3 1 0 (ra eI64 (v3.set x8 x4)), .row 48 6 0 (ra eSym []), bP x2] = true) apn)))))))))))) (by kernel_rfl)
     ·
      refine bi h (fun h11 h => ?_) fun h11 h => ?_
      ·
       rw [← sj h]
       exact rnd (n := 30) [(26, .v (i6 (a2.prods.length : Int))), (27, .d true), (33, .v (.ro (eProd x2))), (37, .v (i6 x4)), (39, .v (vb true)), (42, .d true), (48, .v (.rp 2 0 1 x8 0)), (49, .v (i6 x9)), (50, .d false), (56, .v (.rp 2 0 1 x8 0)), (57, .v (i6 x9)), (58, .d true), (65, .v (.rp 2 0 1 x8 0)), (1065, .r ud [bG a2, bI [], .row 3 1 0 (ra eI64 (v3.set x8 x4)), .row 48 6 0 (ra eSym []), bP x2]), (6000, .d true)] (apc (lg a2.prods eProd 7) (apc (cv h1) (apc (ig eProd 7 .i64 h2) (apc (((F50_ok x2 (v3.take a1) h4).own rfl (purAs_cons rfl (purAs_cons (purA_sl rfl h3) purAs_nil)) rfl) : CP prg 50 [(aP x2), (.sl 2 0 1 0 a1)] [bG a2, bI [], bI v3, .row 48 6 0 (ra eSym []), bP x2] = some (i6 x4)) (apc ((((F51_ok x2 h5).cp rfl _).trans (congrArg (fun z => some (vb z)) h6)) : CP prg 51 [(aP x2)] [bG a2, bI [], bI v3, .row 48 6 0 (ra eSym []), bP x2] = some (vb true)) (apc (cv h7) (apc ((idx_sl h8) : idxA 1 (.sl 2 0 1 0 a1) (i6 x2.left) = some (.rp 2 0 1 x8 0)) (apc ((ld_row rfl h9 rfl) : ldA [bG a2, bI [], bI v3, .row 48 6 0 (ra eSym []), bP x2] .false 1 (.rp 2 0 1 x8 0) = some (i6 x9)) (apc (cv h10) (apc ((idx_sl h8) : idxA 1 (.sl 2 0 1 0 a1) (i6 x2.left) = some (.rp 2 0 1 x8 0)) (apc ((ld_row rfl h9 rfl) : ldA [bG a2, bI [], bI v3, .row 48 6 0 (ra eSym []), bP x2] .false 1 (.rp 2 0 1 x8 0) = some (i6 x9)) (apc (cv h11) (apc ((idx_sl h8) : idxA 1 (.sl 2 0 1 0 a1) (i6 x2.left) = some (.rp 2 0 1 x8 0)) (apc (⟨st_row (v' := x4) rfl h9 rfl rfl (Nat.le_of_ble_eq_true rfl) rfl, rfl⟩ : stA [bG a2, bI [], bI v3, .row 48 6 0 (ra eSym []), bP x2] 1 (.rp 2 0 1 x8 0) (i6 x4) = some [bG a2, bI [], .row 3 1 0 (ra eI64 (v3.set x8 x4)), .row 48 6 0 (ra eSym []), bP x2] ∧ ud = ud) (apc ((okT_of rfl (abl_cons rfl (abl_cons abl_row (abl_cons abl_row rfl)))) : okT 3 [bG a2, bI [], .row 3 1 0 (ra eI64 (v3.set x8 x4)), .row 48 6 0 (ra eSym []), bP x2] = true) apn))))))))))))))) (by kernel_rfl)
      ·
       rw [← sj h]
       exact rnd (n := 30) [(26, .v (i6 (a2.prods.length : Int))), (27, .d true), (33, .v (.ro (eProd x2))), (37, .v (i6 x4)), (39, .v (vb true)), (42, .d true), (48, .v (.rp 2 0 1 x8 0)), (49, .v (i6 x9)), (50, .d false), (56, .v (.rp 2 0 1 x8 0)), (57, .v (i6 x9)), (58, .d false), (6000, .d true)] (apc (lg a2.prods eProd 7) (apc (cv h1) (apc (ig eProd 7 .i64 h2) (apc (((F50_ok x2 (v3.take a1) h4).own rfl (purAs_cons rfl (purAs_cons (purA_sl rfl h3) purAs_nil)) rfl) : CP prg 50 [(aP x2), (.sl 2 0 1 0 a1)] [bG a2, bI [], bI v3, .row 48 6 0 (ra eSym []), bP x2] = some (i6 x4)) (apc ((((F51_ok x2 h5).cp rfl _).trans (congrArg (fun z => some (vb z)) h6)) : CP prg 51 [(aP x2)] [bG a2, bI [], bI v3, .row 48 6 0 (ra eSym []), bP x2] = some (vb true)) (apc (cv h7) (apc ((idx_sl h8) : idxA 1 (.sl 2 0 1 0 a1) (i6 x2.left) = some (.rp 2 0 1 x8 0)) (apc ((ld_row rfl h9 rfl) : ldA [bG a2, bI [], bI v3, .row 48 6 0 (ra eSym []), bP x2] .false 1 (.rp 2 0 1 x8 0) = some (i6 x9)) (apc (cv h10) (apc ((idx_sl h8) : idxA 1 (.sl 2 0 1 0 a1) (i6 x2.left) = some (.rp 2 0 1 x8 0)) (apc ((ld_row rfl h9 rfl) : ldA [bG a2, bI [], bI v3, .row 48 6 0 (ra eSym []), bP x2] .false 1 (.rp 2 0 1 x8 0) = some (i6 x9)) (apc (cv h11) (apc ((okT_of rfl (abl_cons rfl (abl_cons abl_row (abl_cons abl_row rfl)))) : okT 3 [bG a2, bI [], bI v3, .row 48 6 0 (ra eSym []), bP x2] = true) apn))))))))))))) (by kernel_rfl)
    ·
     rw [← sj h]
     exact rnd (n := 30) [(26, .v (i6 (a2.prods.length : Int))), (27, .d true), (33, .v (.ro (eProd x2))), (37, .v (i6 x4)), (39, .v (vb true)), (42, .d false), (6000, .d true)] (apc (lg a2.prods eProd 7) (apc (cv h1) (apc (ig eProd 7 .i64 h2) (apc (((F50_ok x2 (v3.take a1) h4).own rfl (purAs_cons rfl (purAs_cons (purA_sl rfl h3) purAs_nil)) rfl) : CP prg 50 [(aP x2), (.sl 2 0 1 0 a1)] [bG a2, bI [], bI v3, .row 48 6 0 (ra eSym []), bP x2] = some (i6 x4)) (apc ((((F51_ok x2 h5).cp rfl _).trans (congrArg (fun z => some (vb z)) h6)) : CP prg 51 [(aP x2)] [bG a2, bI [], bI v3, .row 48 6 0 (ra eSym []), bP x2] = some (vb true)) (apc (cv h7) (apc ((okT_of rfl (abl_cons rfl (abl_cons abl_row (abl_cons abl_row rfl)))) : okT 3 [bG a2, bI [], bI v3, .row 48 6 0 (ra eSym []), bP x2] = true) apn))))))) (by kernel_rfl)
   ·
    rw [← sj h]
    exact rnd (n := 30) [(26, .v (i6 (a2.prods.length : Int))), (27, .d true), (33, .v (.ro (eProd x2))), (37, .v (i6 x4)), (39, .v (vb false)), (6000, .d true)] (apc (lg a2.prods eProd 7) (apc (cv h1) (apc (ig eProd 7 .i64 h2) (apc (((F50_ok x2 (v3.take a1) h4).own rfl (purAs_cons rfl (purAs_cons (purA_sl rfl h3) purAs_nil)) rfl) : CP prg 50 [(aP x2), (.sl 2 0 1 0 a1)] [bG a2, bI [], bI v3, .row 48 6 0 (ra eSym []), bP x2] = some (i6 x4)) (apc ((((F51_ok x2 h5).cp rfl _).trans (congrArg (fun z => some (vb z)) h6)) : CP prg 51 [(aP x2)] [bG a2, bI [], bI v3, .row 48 6 0 (ra eSym []), bP x2] = some (vb false)) (apc ((okT_of rfl (abl_cons rfl (abl_cons abl_row (abl_cons abl_row rfl)))) : okT 3 [bG a2, bI [], bI v3, .row 48 6 0 (ra eSym []), bP x2] = true) apn)))))) (by kernel_rfl)
  ·
   cases h
 ·
  rw [← sj h]
  exact xbrk (n := 30) [(26, .v (i6 (a2.prods.length : Int))), (27, .d false), (6000, .d true)] (apc (lg a2.prods eProd 7) (apc (cv h1) apn)) (by kernel_rfl)
theorem L16_0_run (a1 : Nat) (a2 : GramD) (s0 : Bool × Int × (List Int)) (e : E_L16_0) (h : runL (fun s => L16_0 a1 a2 s.1 s.2.1 s.2.2) s0 = some e) : L16_0_x a1 a2 e (evH prg 3 [1, 3, 5, 6] ir16_l0 (L16_0_s a1 a2 s0.1 s0.2.1 s0.2.2)) := by
  have q := @loop_sound' (Bool × Int × (List Int)) E_L16_0 (fun s => L16_0 a1 a2 s.1 s.2.1 s.2.2) (fun s => evH prg 3 [1, 3, 5, 6] ir16_l0 (L16_0_s a1 a2 s.1 s.2.1 s.2.2)) (L16_0_x a1 a2) (fun s r h => L16_0_ok a1 a2 s.1 s.2.1 s.2.2 h) s0 e h
  exact q
inductive E_L16_1 where
  | k0 (x0 : List Int)
noncomputable def L16_1 (a1 : Nat) (a2 : GramD) (v1 : Bool) (v2 : List Int) : Option (E_L16_1 ⊕ (Bool × (List Int))) :=
  (bif v1 then ((runL (fun s => L16_0 a1 a2 s.1 s.2.1 s.2.2) (false, 0, v2)).bind fun r2 => match r2 with | .k0 x2_0 x2_1 => (some (.inr (x2_0, x2_1)))) else (some (.inl (.k0 v2))))
def L16_1_s (a1 : Nat) (a2 : GramD) (v1 : Bool) (v2 : List Int) : St := ⟨fr 67 ug [(1, (.ptr 0 0)), (3, (.sl 2 0 1 0 a1)), (5, (vb v1))], [bG a2, bI [], bI v2]⟩
def L16_1_x (a1 : Nat) (a2 : GramD) (e : E_L16_1) (r : Option (Out × St)) : Prop := match e with | .k0 x0 => ∃ g, r = some ((.brk 2), ⟨fr 67 g [(1, (.ptr 0 0)), (3, (.sl 2 0 1 0 a1))], [bG a2, bI [], bI x0]⟩)
theorem L16_1_ok (a1 : Nat) (a2 : GramD) (v1 : Bool) (v2 : List Int) {r : E_L16_1 ⊕ (Bool × (List Int))} (h : L16_1 a1 a2 v1 v2 = some r) : OkR (fun e => L16_1_x a1 a2 e (evH prg 3 [1, 3, 5] ir16_l1 (L16_1_s a1 a2 v1 v2))) (fun s => evH prg 3 [1, 3, 5] ir16_l1 (L16_1_s a1 a2 v1 v2) = evH prg 3 [1, 3, 5] ir16_l1 (L16_1_s a1 a2 s.1 s.2)) r := by
 unfold L16_1 at h
 refine bi h (fun h1 h => ?_) fun h1 h => ?_
 ·
  refine bn h fun r2 h2 h => ?_
  cases r2 with
  | k0 x2_0 x2_1 =>
   obtain ⟨g2, e2⟩ := L16_0_run a1 a2 (false, 0, v2) _ h2
   rw [← sj h]
   exact rnd (n := 30) [(22, .d true), (2004, .l (.brk 4) ⟨fr 67 g2 [(1, (.ptr 0 0)), (3, (.sl 2 0 1 0 a1)), (5, (vb x2_0))], [bG a2, bI [], bI x2_1]⟩), (6000, .d true)] (apc (cv h1) (apc ((okT_of rfl (abl_cons rfl (abl_cons abl_row (abl_cons abl_row rfl)))) : okT 3 [bG a2, bI [], bI v2] = true) (apc (e2 : evH prg 3 [1, 3, 5, 6] ir16_l0 (L16_0_s a1 a2 false 0 v2) = some ((.brk 4), ⟨fr 67 g2 [(1, (.ptr 0 0)), (3, (.sl 2 0 1 0 a1)), (5, (vb x2_0))], [bG a2, bI [], bI x2_1]⟩)) (apc ((okT_of rfl (abl_cons rfl (abl_cons abl_row (abl_cons abl_row rfl)))) : okT 3 [bG a2, bI [], bI x2_1] = true) apn)))) (by kernel_rfl)
 ·
  rw [← sj h]
  exact xbrk (n := 30) [(22, .d false), (6000, .d true)] (apc (cv h1) apn) (by kernel_rfl)
theorem L16_1_run (a1 : Nat) (a2 : GramD) (s0 : Bool × (List Int)) (e : E_L16_1) (h : runL (fun s => L16_1 a1 a2 s.1 s.2) s0 = some e) : L16_1_x a1 a2 e (evH prg 3 [1, 3, 5] ir16_l1 (L16_1_s a1 a2 s0.1 s0.2)) := by
  have q := @loop_sound' (Bool × (List Int)) E_L16_1 (fun s => L16_1 a1 a2 s.1 s.2) (fun s => evH prg 3 [1, 3, 5] ir16_l1 (L16_1_s a1 a2 s.1 s.2)) (L16_1_x a1 a2) (fun s r h => L16_1_ok a1 a2 s.1 s.2 h) s0 e h
  exact q
noncomputable def F16 (a1 : GramD) : Option (List Int) :=
  (bif (mkOk (a1.sorts.length : Int) 8) then ((runL (fun s => L16_2 (Int.toNat (a1.sorts.length : Int)) s.1 s.2) (0, (List.replicate (Int.toNat (a1.sorts.length : Int)) 0))).bind fun r2 => match r2 with | .k0 x2_0 => ((runL (fun s => L16_1 (Int.toNat (a1.sorts.length : Int)) a1 s.1 s.2) (true, x2_0)).bind fun r3 => match r3 with | .k0 x3_0 => (bif (decide ((Int.toNat (a1.sorts.length : Int)) ≤ x3_0.length)) then (some (x3_0.take (Int.toNat (a1.sorts.length : Int)))) else none))) else none)
def F16_v (a1 : GramD) (x0 : (List Int)) : AV := (.p (.lst 1 (x0.map eI64)))
theorem F16_ok (a1 : GramD) {r : (List Int)} (h : F16 a1 = some r) : PR1 prg 16 [(aG a1)] (F16_v a1 r) := by
 unfold F16 at h
 refine bi h (fun h1 h => ?_) fun h1 h => ?_
 ·
  refine bn h fun r2 h2 h => ?_
  cases r2 with
  | k0 x2_0 =>
   obtain ⟨g2, e2⟩ := L16_2_run (Int.toNat (a1.sorts.length : Int)) a1 (0, (List.replicate (Int.toNat (a1.sorts.length : Int)) 0)) _ h2
   refine bn h fun r3 h3 h => ?_
   cases r3 with
   | k0 x3_0 =>
    obtain ⟨g3, e3⟩ := L16_1_run (Int.toNat (a1.sorts.length : Int)) a1 (true, x2_0) _ h3
    refine bi h (fun h4 h => ?_) fun h4 h => ?_
    ·
     rw [← sj h]
     exact fpo (n := 30) (v := (.sl 2 0 1 0 (Int.toNat (a1.sorts.length : Int)))) (h' := [bG a1, bI [], bI x3_0]) [(11, .v (i6 (a1.sorts.length : Int))), (12, .r (.sl 2 0 1 0 (Int.toNat (a1.sorts.length : Int))) [bG a1, bI [], .row 3 1 0 (ra eI64 (List.replicate (Int.toNat (a1.sorts.length : Int)) 0))]), (2000, .l (.brk 0) ⟨fr 67 g2 [(1, (.ptr 0 0)), (3, (.sl 2 0 1 0 (Int.toNat (a1.sorts.length : Int))))], [bG a1, bI [], bI x2_0]⟩), (2002, .l (.brk 2) ⟨fr 67 g3 [(1, (.ptr 0 0)), (3, (.sl 2 0 1 0 (Int.toNat (a1.sorts.length : Int))))], [bG a1, bI [], bI x3_0]⟩), (6000, .d true)] (apc (lg a1.sorts eStr 1) (apc ((mk_row' (h := [bG a1, bI []]) (e := eI64) (z := 0) h1 rfl) : (mkA 3 1 8 [.val (.int .i64 0)] (i6 (a1.sorts.length : Int)) (i6 (a1.sorts.length : Int)) 2).map (fun x => (x.1, [bG a1, bI []] ++ [x.2])) = some ((.sl 2 0 1 0 (Int.toNat (a1.sorts.length : Int))), [bG a1, bI [], .row 3 1 0 (ra eI64 (List.replicate (Int.toNat (a1.sorts.length : Int)) 0))])) (apc ((okT_of rfl (abl_cons rfl (abl_cons abl_row (abl_cons abl_row rfl)))) : okT 3 [bG a1, bI [], .row 3 1 0 (ra eI64 (List.replicate (Int.toNat (a1.sorts.length : Int)) 0))] = true) (apc (e2 : evH prg 3 [1, 3, 4] ir16_l2 (L16_2_s (Int.toNat (a1.sorts.length : Int)) a1 0 (List.replicate (Int.toNat (a1.sorts.length : Int)) 0)) = some ((.brk 0), ⟨fr 67 g2 [(1, (.ptr 0 0)), (3, (.sl 2 0 1 0 (Int.toNat (a1.sorts.length : Int))))], [bG a1, bI [], bI x2_0]⟩)) (apc ((okT_of rfl (abl_cons rfl (abl_cons abl_row (abl_cons abl_row rfl)))) : okT 3 [bG a1, bI [], bI x2_0] = true) (apc (e3 : evH prg 3 [1, 3, 5] ir16_l1 (L16_1_s (Int.toNat (a1.sorts.length : Int)) a1 true x2_0) = some ((.brk 2), ⟨fr 67 g3 [(1, (.ptr 0 0)), (3, (.sl 2 0 1 0 (Int.toNat (a1.sorts.length : Int))))], [bG a1, bI [], bI x3_0]⟩)) apn)))))) (purA_sl rfl h4) (by kernel_rfl)
    ·
     cases h
 ·
  cases h
end Go.Proofs.Tryd
