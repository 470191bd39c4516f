/- Decompiled by a program: functions as plain data see them, part 2. -/
import Derived.Test.YtpoclajcldnjeaaG31
namespace Go.Proofs.Try
set_option linter.unusedSimpArgs false
set_option linter.unusedVariables false
open Go Go.Vs
def F37_v (a1 : GramD) (x0 : (List Bool)) : AV := (.p (.lst 1 (x0.map eBool)))
noncomputable def F37 (Nf : Nat) (a1 : GramD) : Option (List Bool) :=
  (bif (mkOk (a1.sorts.length : Int) 1) then ((F65_2 Nf a1.start a1 0 ([]) 0 (List.replicate (Int.toNat (a1.sorts.length : Int)) false) 0 ([]) (Int.toNat (a1.sorts.length : Int))).bind fun x2 => (bif (decide ((Int.toNat (a1.sorts.length : Int)) ≤ x2.length)) then (some (x2.take (Int.toNat (a1.sorts.length : Int)))) else none)) else none)
abbrev F37_d0 (a1 : GramD) : List AB := [bG a1, .cells 86 [(.fn 38 [])], .row 4 1 0 (ra eBool [])]
abbrev F37_d1 (a1 : GramD) : List AB := [bG a1, .cells 86 [(.fn 38 [])], .row 4 1 0 (ra eBool []), .row 4 1 0 (ra eBool (List.replicate (Int.toNat (a1.sorts.length : Int)) false))]
abbrev F37_d2 (a1 : GramD) (x2 : List Bool) : List AB := [bG a1, .cells 86 [(.fn 38 [])], .row 4 1 0 (ra eBool ([])), .row 4 1 0 (ra eBool x2), .row 4 1 0 (ra eBool ([])), .cells 83 [(.sl 3 0 1 0 (Int.toNat (a1.sorts.length : Int)))], .cells 111 [(.fn 65 [(.ptr 5 0), (.ptr 0 0), (.ptr 1 0), (.ptr 6 0)])]]
abbrev F37_c0 (a1 : GramD) : List (Nat × Hint) := [(10, .r (.sl 3 0 1 0 (Int.toNat (a1.sorts.length : Int))) (F37_d1 a1))]
abbrev F37_c1 (a1 : GramD) (x2 : List Bool) : List (Nat × Hint) := [(15, .r (.tup []) (F37_d2 a1 x2))]
theorem F37_ok (Nf : Nat) (a1 : GramD) {r : (List Bool)} (h : F37 Nf a1 = some r) : PR2 prg 37 [(aG a1), (.fn 38 [])] (F37_v a1 r) := by
 unfold F37 at h
 refine bi h (fun h1 h => ?_) fun h1 h => ?_
 ·
  have q1 := ((mk_row' (h := (F37_d0 a1)) (e := eBool) (z := false) h1 rfl) : (mkA 4 1 1 [.val (.bool false)] (i6 (a1.sorts.length : Int)) (i6 (a1.sorts.length : Int)) 3).map (fun x => (x.1, (F37_d0 a1) ++ [x.2])) = some ((.sl 3 0 1 0 (Int.toNat (a1.sorts.length : Int))), (F37_d1 a1)))
  refine bn h fun x2 h2 h => ?_
  have q2 := ((F65_2_ok Nf a1.start a1 0 ([]) 0 (List.replicate (Int.toNat (a1.sorts.length : Int)) false) 0 ([]) (Int.toNat (a1.sorts.length : Int)) h2 []) : CS prg 65 [(i6 a1.start), (.ptr 5 0), (.ptr 0 0), (.ptr 1 0), (.ptr 6 0)] [bG a1, .cells 86 [(.fn 38 [])], .row 4 1 0 (ra eBool []), .row 4 1 0 (ra eBool (List.replicate (Int.toNat (a1.sorts.length : Int)) false)), .row 4 1 0 (ra eBool []), .cells 83 [(.sl 3 0 1 0 (Int.toNat (a1.sorts.length : Int)))], .cells 111 [(.fn 65 [(.ptr 5 0), (.ptr 0 0), (.ptr 1 0), (.ptr 6 0)])]] = some ((.tup []), (F37_d2 a1 x2)))
  refine bi h (fun h3 h => ?_) fun h3 h => ?_
  ·
   rw [← sj h]
   exact fpn (n := 30) (v := (.sl 3 0 1 0 (Int.toNat (a1.sorts.length : Int)))) (h' := (F37_d2 a1 x2)) ([(9, .v (i6 (a1.sorts.length : Int)))] ++ ((F37_c0 a1) ++ (F37_c1 a1 x2))) (apc (lg a1.sorts eStr 1) (apc q1 (apc q2 apn))) (purA_sl (e := eBool) rfl h3) rfl (purA_sl (e := eBool) (getq rfl (nols_ra (fun _ => rfl))) h3) (by kernel_rfl)
  ·
   cases h
 ·
  cases h
inductive R_F13 where
  | k0 (x0 : Int) (x1 : Int)
def F13_v (a1 : GramD) (r : R_F13) : AV := match r with | .k0 x0 x1 => (.tup [(i6 x0), (i6 x1)])
noncomputable def F13 (Nf : Nat) (a1 : GramD) : Option R_F13 :=
  ((F15 a1).bind fun x1 => (bif (x1 != 0) then (some (.k0 x1 0)) else ((F36 a1).bind fun x3 => ((F35 x3).bind fun x4 => (bif (decide (x4 ≥ 0)) then (some (.k0 161 x4)) else ((F37 Nf a1).bind fun x6 => ((F35 x6).bind fun x7 => (bif (decide (x7 ≥ 0)) then (some (.k0 162 x7)) else (some (.k0 0 0))))))))))
theorem F13_ok (Nf : Nat) (a1 : GramD) {r : R_F13} (h : F13 Nf a1 = some r) : PR1 prg 13 [(aG a1)] (F13_v a1 r) := by
 unfold F13 at h
 refine bn h fun x1 h1 h => ?_
 have q0 := (((F15_ok a1 h1).cp rfl _) : CP prg 15 [(aG a1)] [bG a1] = some (i6 x1))
 refine bi h (fun h2 h => ?_) fun h2 h => ?_
 ·
  rw [← sj h]
  exact fpr (n := 30) [(8, .v (i6 x1)), (10, .d true)] (apc q0 (apc (cv h2) apn)) rfl (by kernel_rfl)
 ·
  refine bn h fun x3 h3 h => ?_
  have q2 := (((F36_ok a1 h3).cp rfl _) : CP prg 36 [(aG a1)] [bG a1] = some (.p (.lst 1 (x3.map eBool))))
  refine bn h fun x4 h4 h => ?_
  have q3 := (((F35_ok x3 h4).cp rfl _) : CP prg 35 [(.p (.lst 1 (x3.map eBool))), (vb false)] [bG a1] = some (i6 x4))
  refine bi h (fun h5 h => ?_) fun h5 h => ?_
  ·
   rw [← sj h]
   exact fpr (n := 30) [(8, .v (i6 x1)), (10, .d false), (13, .v (.p (.lst 1 (x3.map eBool)))), (14, .v (i6 x4)), (16, .d true)] (apc q0 (apc (cv h2) (apc q2 (apc q3 (apc (cv h5) apn))))) rfl (by kernel_rfl)
  ·
   refine bn h fun x6 h6 h => ?_
   have q5 := (((F37_ok Nf a1 h6).cp rfl _) : CP prg 37 [(aG a1), (.fn 38 [])] [bG a1] = some (.p (.lst 1 (x6.map eBool))))
   refine bn h fun x7 h7 h => ?_
   have q6 := (((F35_ok x6 h7).cp rfl _) : CP prg 35 [(.p (.lst 1 (x6.map eBool))), (vb false)] [bG a1] = some (i6 x7))
   refine bi h (fun h8 h => ?_) fun h8 h => ?_
   ·
    rw [← sj h]
    exact fpr (n := 30) [(8, .v (i6 x1)), (10, .d false), (13, .v (.p (.lst 1 (x3.map eBool)))), (14, .v (i6 x4)), (16, .d false), (19, .v (.p (.lst 1 (x6.map eBool)))), (20, .v (i6 x7)), (22, .d true)] (apc q0 (apc (cv h2) (apc q2 (apc q3 (apc (cv h5) (apc q5 (apc q6 (apc (cv h8) apn)))))))) rfl (by kernel_rfl)
   ·
    rw [← sj h]
    exact fpr (n := 30) [(8, .v (i6 x1)), (10, .d false), (13, .v (.p (.lst 1 (x3.map eBool)))), (14, .v (i6 x4)), (16, .d false), (19, .v (.p (.lst 1 (x6.map eBool)))), (20, .v (i6 x7)), (22, .d false)] (apc q0 (apc (cv h2) (apc q2 (apc q3 (apc (cv h5) (apc q5 (apc q6 (apc (cv h8) apn)))))))) rfl (by kernel_rfl)
inductive E_L66_0 where
  | k0
  | k1
noncomputable def L66_0 (a1 : List Bool) (a2 : ProdD) (v1 : Int) : Option (E_L66_0 ⊕ (Int)) :=
  (bif (decide (v1 < (a2.right.length : Int))) then ((getI a2.right v1).bind fun x2 => (bif (x2.kind == 1) then ((getI a1 x2.sort).bind fun x4 => (bif x4 then (some (.inr ((IntKind.wrap .i64 (v1 + 1))))) else (some (.inl (.k0))))) else (some (.inr ((IntKind.wrap .i64 (v1 + 1))))))) else (some (.inl (.k1))))
def L66_0_s (a1 : List Bool) (a2 : ProdD) (v1 : Int) : St := ⟨fr 35 ug [(1, (.p (.lst 1 (a1.map eBool)))), (2, (.ptr 0 0)), (5, (i6 v1))], [bP a2]⟩
def L66_0_x (a1 : List Bool) (a2 : ProdD) (e : E_L66_0) (r : Option (Out × St)) : Prop := match e with | .k0 => ∃ g y, r = some (.ret, ⟨fr 35 g [(4, (vb false))], y⟩) | .k1 => ∃ g, r = some ((.brk 0), ⟨fr 35 g [(2, (.ptr 0 0))], [bP a2]⟩)
theorem L66_0_ok (a1 : List Bool) (a2 : ProdD) (v1 : Int) {r : E_L66_0 ⊕ (Int)} (h : L66_0 a1 a2 v1 = some r) : OkR (fun e => L66_0_x a1 a2 e (evH prg 1 [1, 2, 5] ir66_l0 (L66_0_s a1 a2 v1))) (fun s => evH prg 1 [1, 2, 5] ir66_l0 (L66_0_s a1 a2 v1) = evH prg 1 [1, 2, 5] ir66_l0 (L66_0_s a1 a2 s)) r := by
 unfold L66_0 at h
 refine bi h (fun h1 h => ?_) fun h1 h => ?_
 ·
  refine bn h fun x2 h2 h => ?_
  refine bi h (fun h3 h => ?_) fun h3 h => ?_
  ·
   refine bn h fun x4 h4 h => ?_
   refine bi h (fun h5 h => ?_) fun h5 h => ?_
   ·
    rw [← sj h]
    exact rnd (n := 30) [(12, .v (i6 (a2.right.length : Int))), (13, .d true), (19, .v (.ro (eSym x2))), (22, .d true), (28, .v (.ro (eSym x2))), (31, .v (.ro [.val (.bool x4)])), (32, .d true), (6000, .d true)] (apc (lg a2.right eSym 6) (apc (cv h1) (apc (ig eSym 6 .i64 h2) (apc (cv h3) (apc (ig eSym 6 .i64 h2) (apc (ig eBool 1 .i64 h4) (apc (cv h5) (apc ((okT_of rfl (abl_cons rfl rfl)) : okT 1 [bP a2] = true) apn)))))))) (by kernel_rfl)
   ·
    rw [← sj h]
    exact xretY (n := 30) [(12, .v (i6 (a2.right.length : Int))), (13, .d true), (19, .v (.ro (eSym x2))), (22, .d true), (28, .v (.ro (eSym x2))), (31, .v (.ro [.val (.bool x4)])), (32, .d false), (6000, .d true)] (apc (lg a2.right eSym 6) (apc (cv h1) (apc (ig eSym 6 .i64 h2) (apc (cv h3) (apc (ig eSym 6 .i64 h2) (apc (ig eBool 1 .i64 h4) (apc (cv h5) apn))))))) (by kernel_rfl)
  ·
   rw [← sj h]
   exact rnd (n := 30) [(12, .v (i6 (a2.right.length : Int))), (13, .d true), (19, .v (.ro (eSym x2))), (22, .d false), (6000, .d true)] (apc (lg a2.right eSym 6) (apc (cv h1) (apc (ig eSym 6 .i64 h2) (apc (cv h3) (apc ((okT_of rfl (abl_cons rfl rfl)) : okT 1 [bP a2] = true) apn))))) (by kernel_rfl)
 ·
  rw [← sj h]
  exact xbrk (n := 30) [(12, .v (i6 (a2.right.length : Int))), (13, .d false), (6000, .d true)] (apc (lg a2.right eSym 6) (apc (cv h1) apn)) (by kernel_rfl)
theorem L66_0_run (a1 : List Bool) (a2 : ProdD) (s0 : Int) (e : E_L66_0) (h : runL (fun s => L66_0 a1 a2 s) s0 = some e) : L66_0_x a1 a2 e (evH prg 1 [1, 2, 5] ir66_l0 (L66_0_s a1 a2 s0)) := by
  have q := @loop_sound' (Int) E_L66_0 (fun s => L66_0 a1 a2 s) (fun s => evH prg 1 [1, 2, 5] ir66_l0 (L66_0_s a1 a2 s)) (L66_0_x a1 a2) (fun s r h => L66_0_ok a1 a2 s h) s0 e h
  exact q
def F66_v (a1 : ProdD) (a2 : List Bool) (x0 : Bool) : AV := (vb x0)
noncomputable def F66 (a1 : ProdD) (a2 : List Bool) : Option Bool :=
  (bif (a1.role == 11) then (some false) else ((runL (fun s => L66_0 a2 a1 s) 0).bind fun r2 => match r2 with | .k0 => (some false) | .k1 => (some true)))
theorem F66_ok (a1 : ProdD) (a2 : List Bool) {r : Bool} (h : F66 a1 a2 = some r) : PR1 prg 66 [(aP a1), (.p (.lst 1 (a2.map eBool)))] (F66_v a1 a2 r) := by
 unfold F66 at h
 refine bi h (fun h1 h => ?_) fun h1 h => ?_
 ·
  rw [← sj h]
  exact fpr (n := 30) [(8, .d true)] (apc (cv h1) apn) rfl (by kernel_rfl)
 ·
  refine bn h fun r2 h2 h => ?_
  cases r2 with
  | k0 =>
   obtain ⟨g2, y2, e2⟩ := L66_0_run a2 a1 0 _ h2
   rw [← sj h]
   exact fpr (n := 30) [(8, .d false), (2000, .l .ret ⟨fr 35 g2 [(4, (vb false))], y2⟩), (6000, .d true)] (apc (cv h1) (apc ((okT_of rfl (abl_cons rfl rfl)) : okT 1 [bP a1] = true) (apc (e2 : evH prg 1 [1, 2, 5] ir66_l0 (L66_0_s a2 a1 0) = some (.ret, ⟨fr 35 g2 [(4, (vb false))], y2⟩)) apn))) rfl (by kernel_rfl)
  | k1 =>
   obtain ⟨g2, e2⟩ := L66_0_run a2 a1 0 _ h2
   rw [← sj h]
   exact fpr (n := 30) [(8, .d false), (2000, .l (.brk 0) ⟨fr 35 g2 [(2, (.ptr 0 0))], [bP a1]⟩), (6000, .d true)] (apc (cv h1) (apc ((okT_of rfl (abl_cons rfl rfl)) : okT 1 [bP a1] = true) (apc (e2 : evH prg 1 [1, 2, 5] ir66_l0 (L66_0_s a2 a1 0) = some ((.brk 0), ⟨fr 35 g2 [(2, (.ptr 0 0))], [bP a1]⟩)) apn))) rfl (by kernel_rfl)
inductive E_L39_0_2 where
  | k0 (x0 : List Bool)
noncomputable def L39_0_2 (a1 : Nat) (a3 : GramD) (v1 : Int) (v2 : List Bool) : Option (E_L39_0_2 ⊕ (Int × (List Bool))) :=
  (bif (decide (v1 < (a3.prods.length : Int))) then ((getI a3.prods v1).bind fun x2 => (bif (decide (a1 ≤ v2.length)) then ((F66 x2 (v2.take a1)).bind fun x4 => (bif x4 then ((ixN a1 x2.left).bind fun x6 => ((v2[x6]?).bind fun x7 => (some (.inr ((IntKind.wrap .i64 (v1 + 1)), (v2.set x6 true)))))) else (some (.inr ((IntKind.wrap .i64 (v1 + 1)), v2))))) else none)) else (some (.inl (.k0 v2))))
def L39_0_2_s (a1 : Nat) (a2 : Int) (a3 : GramD) (v1 : Int) (v2 : List Bool) : St := ⟨fr 40 ug [(1, (.ptr 0 0)), (3, (.sl 2 0 1 0 a1)), (4, (i6 a2)), (5, (i6 v1))], [bG a3, .row 4 1 0 (ra eBool []), .row 4 1 0 (ra eBool v2)]⟩
def L39_0_2_x (a1 : Nat) (a2 : Int) (a3 : GramD) (e : E_L39_0_2) (r : Option (Out × St)) : Prop := match e with | .k0 x0 => ∃ g, r = some ((.brk 2), ⟨fr 40 g [(1, (.ptr 0 0)), (3, (.sl 2 0 1 0 a1)), (4, (i6 a2))], [bG a3, .row 4 1 0 (ra eBool []), .row 4 1 0 (ra eBool x0)]⟩)
abbrev L39_0_2_d0 (a3 : GramD) (v2 : List Bool) (x6 : Nat) : List AB := [bG a3, .row 4 1 0 (ra eBool []), .row 4 1 0 (ra eBool (v2.set x6 true))]
abbrev L39_0_2_d1 (a3 : GramD) (v2 : List Bool) : List AB := [bG a3, .row 4 1 0 (ra eBool []), .row 4 1 0 (ra eBool v2)]
theorem L39_0_2_ok (a1 : Nat) (a2 : Int) (a3 : GramD) (v1 : Int) (v2 : List Bool) {r : E_L39_0_2 ⊕ (Int × (List Bool))} (h : L39_0_2 a1 a3 v1 v2 = some r) : OkR (fun e => L39_0_2_x a1 a2 a3 e (evH prg 3 [1, 3, 4, 5] ir39_l0 (L39_0_2_s a1 a2 a3 v1 v2))) (fun s => evH prg 3 [1, 3, 4, 5] ir39_l0 (L39_0_2_s a1 a2 a3 v1 v2) = evH prg 3 [1, 3, 4, 5] ir39_l0 (L39_0_2_s a1 a2 a3 s.1 s.2)) r := by
 unfold L39_0_2 at h
 refine bi h (fun h1 h => ?_) fun h1 h => ?_
 ·
  refine bn h fun x2 h2 h => ?_
  refine bi h (fun h3 h => ?_) fun h3 h => ?_
  ·
   refine bn h fun x4 h4 h => ?_
   refine bi h (fun h5 h => ?_) fun h5 h => ?_
   ·
    refine bn h fun x6 h6 h => ?_
    refine bn h fun x7 h7 h => ?_
    rw [← sj h]
    exact rnd (n := 30) [(20, .v (i6 (a3.prods.length : Int))), (21, .d true), (27, .v (.ro (eProd x2))), (30, .v (vb true)), (35, .v (.ro (eProd x2))), (38, .v (.rp 2 0 1 x6 0)), (1038, .r ud (L39_0_2_d0 a3 v2 x6)), (6000, .d true)] (apc (lg a3.prods eProd 7) (apc (cv h1) (apc (ig eProd 7 .i64 h2) (apc ((((F66_ok x2 (v2.take a1) h4).own rfl (purAs_cons rfl (purAs_cons (purA_sl (e := eBool) rfl h3) purAs_nil)) rfl).trans (congrArg (fun z => some (vb z)) h5)) : CP prg 66 [(aP x2), (.sl 2 0 1 0 a1)] (L39_0_2_d1 a3 v2) = some (vb true)) (apc (ig eProd 7 .i64 h2) (apc ((idx_sl h6) : idxA 1 (.sl 2 0 1 0 a1) (i6 x2.left) = some (.rp 2 0 1 x6 0)) (apc (⟨st_row (v' := true) rfl h7 rfl rfl (Nat.le_of_ble_eq_true rfl) rfl, rfl⟩ : stA (L39_0_2_d1 a3 v2) 1 (.rp 2 0 1 x6 0) (vb true) = some (L39_0_2_d0 a3 v2 x6) ∧ ud = ud) (apc ((okT_of rfl (abl_cons rfl (abl_cons abl_row (abl_cons abl_row rfl)))) : okT 3 (L39_0_2_d0 a3 v2 x6) = true) apn)))))))) (by kernel_rfl)
   ·
    rw [← sj h]
    exact rnd (n := 30) [(20, .v (i6 (a3.prods.length : Int))), (21, .d true), (27, .v (.ro (eProd x2))), (30, .v (vb false)), (6000, .d true)] (apc (lg a3.prods eProd 7) (apc (cv h1) (apc (ig eProd 7 .i64 h2) (apc ((((F66_ok x2 (v2.take a1) h4).own rfl (purAs_cons rfl (purAs_cons (purA_sl (e := eBool) rfl h3) purAs_nil)) rfl).trans (congrArg (fun z => some (vb z)) h5)) : CP prg 66 [(aP x2), (.sl 2 0 1 0 a1)] (L39_0_2_d1 a3 v2) = some (vb false)) (apc ((okT_of rfl (abl_cons rfl (abl_cons abl_row (abl_cons abl_row rfl)))) : okT 3 (L39_0_2_d1 a3 v2) = true) apn))))) (by kernel_rfl)
  ·
   cases h
 ·
  rw [← sj h]
  exact xbrk (n := 30) [(20, .v (i6 (a3.prods.length : Int))), (21, .d false), (6000, .d true)] (apc (lg a3.prods eProd 7) (apc (cv h1) apn)) (by kernel_rfl)
theorem L39_0_2_run (a1 : Nat) (a2 : Int) (a3 : GramD) (s0 : Int × (List Bool)) (e : E_L39_0_2) (h : runL (fun s => L39_0_2 a1 a3 s.1 s.2) s0 = some e) : L39_0_2_x a1 a2 a3 e (evH prg 3 [1, 3, 4, 5] ir39_l0 (L39_0_2_s a1 a2 a3 s0.1 s0.2)) := by
  have q := @loop_sound' (Int × (List Bool)) E_L39_0_2 (fun s => L39_0_2 a1 a3 s.1 s.2) (fun s => evH prg 3 [1, 3, 4, 5] ir39_l0 (L39_0_2_s a1 a2 a3 s.1 s.2)) (L39_0_2_x a1 a2 a3) (fun s r h => L39_0_2_ok a1 a2 a3 s.1 s.2 h) s0 e h
  exact q
inductive E_L39_1 where
  | k0 (x0 : List Bool)
noncomputable def L39_1 (a1 : Nat) (a2 : GramD) (v1 : Int) (v2 : List Bool) : Option (E_L39_1 ⊕ (Int × (List Bool))) :=
  (bif (decide (v1 < (a2.sorts.length : Int))) then ((runL (fun s => L39_0_2 a1 a2 s.1 s.2) (0, v2)).bind fun r2 => match r2 with | .k0 x2_0 => (some (.inr ((IntKind.wrap .i64 (v1 + 1)), x2_0)))) else (some (.inl (.k0 v2))))
def L39_1_s (a1 : Nat) (a2 : GramD) (v1 : Int) (v2 : List Bool) : St := ⟨fr 40 ug [(1, (.ptr 0 0)), (3, (.sl 2 0 1 0 a1)), (4, (i6 v1))], [bG a2, .row 4 1 0 (ra eBool []), .row 4 1 0 (ra eBool v2)]⟩
def L39_1_x (a1 : Nat) (a2 : GramD) (e : E_L39_1) (r : Option (Out × St)) : Prop := match e with | .k0 x0 => ∃ g, r = some ((.brk 0), ⟨fr 40 g [(1, (.ptr 0 0)), (3, (.sl 2 0 1 0 a1))], [bG a2, .row 4 1 0 (ra eBool []), .row 4 1 0 (ra eBool x0)]⟩)
abbrev L39_1_d0 (g2 : Nat → AV) (a1 : Nat) (v1 : Int) (a2 : GramD) (x2_0 : List Bool) : St := ⟨fr 40 g2 [(1, (.ptr 0 0)), (3, (.sl 2 0 1 0 a1)), (4, (i6 v1))], [bG a2, .row 4 1 0 (ra eBool []), .row 4 1 0 (ra eBool x2_0)]⟩
theorem L39_1_ok (a1 : Nat) (a2 : GramD) (v1 : Int) (v2 : List Bool) {r : E_L39_1 ⊕ (Int × (List Bool))} (h : L39_1 a1 a2 v1 v2 = some r) : OkR (fun e => L39_1_x a1 a2 e (evH prg 3 [1, 3, 4] ir39_l1 (L39_1_s a1 a2 v1 v2))) (fun s => evH prg 3 [1, 3, 4] ir39_l1 (L39_1_s a1 a2 v1 v2) = evH prg 3 [1, 3, 4] ir39_l1 (L39_1_s a1 a2 s.1 s.2)) r := by
 unfold L39_1 at h
 refine bi h (fun h1 h => ?_) fun h1 h => ?_
 ·
  refine bn h fun r2 h2 h => ?_
  cases r2 with
  | k0 x2_0 =>
   obtain ⟨g2, e2⟩ := L39_0_2_run a1 v1 a2 (0, v2) _ h2
   rw [← sj h]
   exact rnd (n := 30) [(13, .v (i6 (a2.sorts.length : Int))), (14, .d true), (2002, .l (.brk 2) (L39_1_d0 g2 a1 v1 a2 x2_0)), (6000, .d true)] (apc (lg a2.sorts eStr 1) (apc (cv h1) (apc ((okT_of rfl (abl_cons rfl (abl_cons abl_row (abl_cons abl_row rfl)))) : okT 3 [bG a2, .row 4 1 0 (ra eBool []), .row 4 1 0 (ra eBool v2)] = true) (apc (e2 : evH prg 3 [1, 3, 4, 5] ir39_l0 (L39_0_2_s a1 v1 a2 0 v2) = some ((.brk 2), (L39_1_d0 g2 a1 v1 a2 x2_0))) (apc ((okT_of rfl (abl_cons rfl (abl_cons abl_row (abl_cons abl_row rfl)))) : okT 3 [bG a2, .row 4 1 0 (ra eBool []), .row 4 1 0 (ra eBool x2_0)] = true) apn))))) (by kernel_rfl)
 ·
  rw [← sj h]
  exact xbrk (n := 30) [(13, .v (i6 (a2.sorts.length : Int))), (14, .d false), (6000, .d true)] (apc (lg a2.sorts eStr 1) (apc (cv h1) apn)) (by kernel_rfl)
theorem L39_1_run (a1 : Nat) (a2 : GramD) (s0 : Int × (List Bool)) (e : E_L39_1) (h : runL (fun s => L39_1 a1 a2 s.1 s.2) s0 = some e) : L39_1_x a1 a2 e (evH prg 3 [1, 3, 4] ir39_l1 (L39_1_s a1 a2 s0.1 s0.2)) := by
  have q := @loop_sound' (Int × (List Bool)) E_L39_1 (fun s => L39_1 a1 a2 s.1 s.2) (fun s => evH prg 3 [1, 3, 4] ir39_l1 (L39_1_s a1 a2 s.1 s.2)) (L39_1_x a1 a2) (fun s r h => L39_1_ok a1 a2 s.1 s.2 h) s0 e h
  exact q
def F39_v (a1 : GramD) (x0 : (List Bool)) : AV := (.p (.lst 1 (x0.map eBool)))
noncomputable def F39 (a1 : GramD) : Option (List Bool) :=
  (bif (mkOk (a1.sorts.length : Int) 1) then ((runL (fun s => L39_1 (Int.toNat (a1.sorts.length : Int)) a1 s.1 s.2) (0, (List.replicate (Int.toNat (a1.sorts.length : Int)) false))).bind fun r2 => match r2 with | .k0 x2_0 => (bif (decide ((Int.toNat (a1.sorts.length : Int)) ≤ x2_0.length)) then (some (x2_0.take (Int.toNat (a1.sorts.length : Int)))) else none)) else none)
abbrev F39_d0 (a1 : GramD) : List AB := [bG a1, .row 4 1 0 (ra eBool []), .row 4 1 0 (ra eBool (List.replicate (Int.toNat (a1.sorts.length : Int)) false))]
abbrev F39_d1 (g2 : Nat → AV) (a1 : GramD) (x2_0 : List Bool) : St := ⟨fr 40 g2 [(1, (.ptr 0 0)), (3, (.sl 2 0 1 0 (Int.toNat (a1.sorts.length : Int))))], [bG a1, .row 4 1 0 (ra eBool []), .row 4 1 0 (ra eBool x2_0)]⟩
abbrev F39_c0 (a1 : GramD) : List (Nat × Hint) := [(9, .r (.sl 2 0 1 0 (Int.toNat (a1.sorts.length : Int))) (F39_d0 a1))]
abbrev F39_c1 (g2 : Nat → AV) (a1 : GramD) (x2_0 : List Bool) : List (Nat × Hint) := [(2000, .l (.brk 0) (F39_d1 g2 a1 x2_0))]
theorem F39_ok (a1 : GramD) {r : (List Bool)} (h : F39 a1 = some r) : PR2 prg 39 [(aG a1)] (F39_v a1 r) := by
 unfold F39 at h
 refine bi h (fun h1 h => ?_) fun h1 h => ?_
 ·
  have q1 := ((mk_row' (h := [bG a1, .row 4 1 0 (ra eBool [])]) (e := eBool) (z := false) h1 rfl) : (mkA 4 1 1 [.val (.bool false)] (i6 (a1.sorts.length : Int)) (i6 (a1.sorts.length : Int)) 2).map (fun x => (x.1, [bG a1, .row 4 1 0 (ra eBool [])] ++ [x.2])) = some ((.sl 2 0 1 0 (Int.toNat (a1.sorts.length : Int))), (F39_d0 a1)))
  refine bn h fun r2 h2 h => ?_
  cases r2 with
  | k0 x2_0 =>
   obtain ⟨g2, e2⟩ := L39_1_run (Int.toNat (a1.sorts.length : Int)) a1 (0, (List.replicate (Int.toNat (a1.sorts.length : Int)) false)) _ h2
   have q2 := ((okT_of rfl (abl_cons rfl (abl_cons abl_row (abl_cons abl_row rfl)))) : okT 3 (F39_d0 a1) = true)
   have q3 := (e2 : evH prg 3 [1, 3, 4] ir39_l1 (L39_1_s (Int.toNat (a1.sorts.length : Int)) a1 0 (List.replicate (Int.toNat (a1.sorts.length : Int)) false)) = some ((.brk 0), (F39_d1 g2 a1 x2_0)))
   refine bi h (fun h3 h => ?_) fun h3 h => ?_
   ·
    rw [← sj h]
    exact fpn (n := 30) (v := (.sl 2 0 1 0 (Int.toNat (a1.sorts.length : Int)))) (h' := [bG a1, .row 4 1 0 (ra eBool []), .row 4 1 0 (ra eBool x2_0)]) ([(8, .v (i6 (a1.sorts.length : Int)))] ++ ((F39_c0 a1) ++ ((F39_c1 g2 a1 x2_0) ++ [(6000, .d true)]))) (apc (lg a1.sorts eStr 1) (apc q1 (apc q2 (apc q3 apn)))) (purA_sl (e := eBool) rfl h3) rfl (purA_sl (e := eBool) (getq rfl (nols_ra (fun _ => rfl))) h3) (by kernel_rfl)
   ·
    cases h
 ·
  cases h
inductive E_L40_0_4 where
  | k0 (x0 : List Bool)
noncomputable def L40_0_4 (a1 : Nat) (a7 : ProdD) (v1 : Int) (v2 : List Bool) : Option (E_L40_0_4 ⊕ (Int × (List Bool))) :=
  (bif (decide (v1 < (a7.right.length : Int))) then ((getI a7.right v1).bind fun x2 => (bif (x2.kind == 1) then ((ixN a1 x2.sort).bind fun x4 => ((v2[x4]?).bind fun x5 => (some (.inr ((IntKind.wrap .i64 (v1 + 1)), (v2.set x4 true)))))) else (some (.inr ((IntKind.wrap .i64 (v1 + 1)), v2))))) else (some (.inl (.k0 v2))))
def L40_0_4_s (a1 : Nat) (a2 : List Bool) (a3 : Int) (a4 : Int) (a5 : GramD) (a7 : ProdD) (v1 : Int) (v2 : List Bool) : St := ⟨fr 83 ug [(1, (vb false)), (2, (.ptr 0 0)), (5, (.sl 2 0 1 0 a1)), (6, (.p (.lst 1 (a2.map eBool)))), (7, (i6 a3)), (8, (i6 a4)), (9, (.ptr 4 0)), (10, (i6 v1))], [bG a5, .row 4 1 0 (ra eBool []), .row 4 1 0 (ra eBool v2), .row 68 6 0 (ra eSym []), bP a7]⟩
def L40_0_4_x (a1 : Nat) (a2 : List Bool) (a3 : Int) (a4 : Int) (a5 : GramD) (a7 : ProdD) (e : E_L40_0_4) (r : Option (Out × St)) : Prop := match e with | .k0 x0 => ∃ g, r = some ((.brk 4), ⟨fr 83 g [(1, (vb false)), (2, (.ptr 0 0)), (5, (.sl 2 0 1 0 a1)), (6, (.p (.lst 1 (a2.map eBool)))), (7, (i6 a3)), (8, (i6 a4)), (9, (.ptr 4 0))], [bG a5, .row 4 1 0 (ra eBool []), .row 4 1 0 (ra eBool x0), .row 68 6 0 (ra eSym []), bP a7]⟩)
abbrev L40_0_4_d0 (a5 : GramD) (v2 : List Bool) (x4 : Nat) (a7 : ProdD) : List AB := [bG a5, .row 4 1 0 (ra eBool []), .row 4 1 0 (ra eBool (v2.set x4 true)), .row 68 6 0 (ra eSym []), bP a7]
abbrev L40_0_4_d1 (a5 : GramD) (v2 : List Bool) (a7 : ProdD) : List AB := [bG a5, .row 4 1 0 (ra eBool []), .row 4 1 0 (ra eBool v2), .row 68 6 0 (ra eSym []), bP a7]
theorem L40_0_4_ok (a1 : Nat) (a2 : List Bool) (a3 : Int) (a4 : Int) (a5 : GramD) (a7 : ProdD) (v1 : Int) (v2 : List Bool) {r : E_L40_0_4 ⊕ (Int × (List Bool))} (h : L40_0_4 a1 a7 v1 v2 = some r) : OkR (fun e => L40_0_4_x a1 a2 a3 a4 a5 a7 e (evH prg 5 [1, 2, 5, 6, 7, 8, 9, 10] ir40_l0 (L40_0_4_s a1 a2 a3 a4 a5 a7 v1 v2))) (fun s => evH prg 5 [1, 2, 5, 6, 7, 8, 9, 10] ir40_l0 (L40_0_4_s a1 a2 a3 a4 a5 a7 v1 v2) = evH prg 5 [1, 2, 5, 6, 7, 8, 9, 10] ir40_l0 (L40_0_4_s a1 a2 a3 a4 a5 a7 s.1 s.2)) r := by
 unfold L40_0_4 at h
 refine bi h (fun h1 h => ?_) fun h1 h => ?_
 ·
  refine bn h fun x2 h2 h => ?_
  refine bi h (fun h3 h => ?_) fun h3 h => ?_
  ·
   refine bn h fun x4 h4 h => ?_
   refine bn h fun x5 h5 h => ?_
   rw [← sj h]
   exact rnd (n := 30) [(63, .v (i6 (a7.right.length : Int))), (64, .d true), (70, .v (.ro (eSym x2))), (73, .d true), (78, .v (.ro (eSym x2))), (81, .v (.rp 2 0 1 x4 0)), (1081, .r ud (L40_0_4_d0 a5 v2 x4 a7)), (6000, .d true)] (apc (lg a7.right eSym 6) (apc (cv h1) (apc (ig eSym 6 .i64 h2) (apc (cv h3) (apc (ig eSym 6 .i64 h2) (apc ((idx_sl h4) : idxA 1 (.sl 2 0 1 0 a1) (i6 x2.sort) = some (.rp 2 0 1 x4 0)) (apc (⟨st_row (v' := true) rfl h5 rfl rfl (Nat.le_of_ble_eq_true rfl) rfl, rfl⟩ : stA (L40_0_4_d1 a5 v2 a7) 1 (.rp 2 0 1 x4 0) (vb true) = some (L40_0_4_d0 a5 v2 x4 a7) ∧ ud = ud) (apc ((okT_of rfl (abl_cons rfl (abl_cons abl_row (abl_cons abl_row (abl_cons abl_row (abl_cons rfl rfl)))))) : okT 5 (L40_0_4_d0 a5 v2 x4 a7) = true) apn)))))))) (by kernel_rfl)
  ·
   rw [← sj h]
   exact rnd (n := 30) [(63, .v (i6 (a7.right.length : Int))), (64, .d true), (70, .v (.ro (eSym x2))), (73, .d false), (6000, .d true)] (apc (lg a7.right eSym 6) (apc (cv h1) (apc (ig eSym 6 .i64 h2) (apc (cv h3) (apc ((okT_of rfl (abl_cons rfl (abl_cons abl_row (abl_cons abl_row (abl_cons abl_row (abl_cons rfl rfl)))))) : okT 5 (L40_0_4_d1 a5 v2 a7) = true) apn))))) (by kernel_rfl)
 ·
  rw [← sj h]
  exact xbrk (n := 30) [(63, .v (i6 (a7.right.length : Int))), (64, .d false), (6000, .d true)] (apc (lg a7.right eSym 6) (apc (cv h1) apn)) (by kernel_rfl)
theorem L40_0_4_run (a1 : Nat) (a2 : List Bool) (a3 : Int) (a4 : Int) (a5 : GramD) (a7 : ProdD) (s0 : Int × (List Bool)) (e : E_L40_0_4) (h : runL (fun s => L40_0_4 a1 a7 s.1 s.2) s0 = some e) : L40_0_4_x a1 a2 a3 a4 a5 a7 e (evH prg 5 [1, 2, 5, 6, 7, 8, 9, 10] ir40_l0 (L40_0_4_s a1 a2 a3 a4 a5 a7 s0.1 s0.2)) := by
  have q := @loop_sound' (Int × (List Bool)) E_L40_0_4 (fun s => L40_0_4 a1 a7 s.1 s.2) (fun s => evH prg 5 [1, 2, 5, 6, 7, 8, 9, 10] ir40_l0 (L40_0_4_s a1 a2 a3 a4 a5 a7 s.1 s.2)) (L40_0_4_x a1 a2 a3 a4 a5 a7) (fun s r h => L40_0_4_ok a1 a2 a3 a4 a5 a7 s.1 s.2 h) s0 e h
  exact q
inductive E_L40_1_2 where
  | k0 (x0 : List Bool)
noncomputable def L40_1_2 (a1 : Nat) (a4 : GramD) (v1 : Int) (v2 : List Bool) : Option (E_L40_1_2 ⊕ (Int × (List Bool))) :=
  (bif (decide (v1 < (a4.prods.length : Int))) then ((getI a4.prods v1).bind fun x2 => (bif (x2.role == 11) then (some (.inr ((IntKind.wrap .i64 (v1 + 1)), v2))) else ((ixN a1 x2.left).bind fun x4 => ((v2[x4]?).bind fun x5 => (bif x5 then ((runL (fun s => L40_0_4 a1 x2 s.1 s.2) (0, v2)).bind fun r7 => match r7 with | .k0 x7_0 => (some (.inr ((IntKind.wrap .i64 (v1 + 1)), x7_0)))) else (some (.inr ((IntKind.wrap .i64 (v1 + 1)), v2)))))))) else (some (.inl (.k0 v2))))
def L40_1_2_s (a1 : Nat) (a2 : List Bool) (a3 : Int) (a4 : GramD) (v1 : Int) (v2 : List Bool) : St := ⟨fr 83 ug [(1, (vb false)), (2, (.ptr 0 0)), (5, (.sl 2 0 1 0 a1)), (6, (.p (.lst 1 (a2.map eBool)))), (7, (i6 a3)), (8, (i6 v1))], [bG a4, .row 4 1 0 (ra eBool []), .row 4 1 0 (ra eBool v2)]⟩
def L40_1_2_x (a1 : Nat) (a2 : List Bool) (a3 : Int) (a4 : GramD) (e : E_L40_1_2) (r : Option (Out × St)) : Prop := match e with | .k0 x0 => ∃ g, r = some ((.brk 2), ⟨fr 83 g [(1, (vb false)), (2, (.ptr 0 0)), (5, (.sl 2 0 1 0 a1)), (6, (.p (.lst 1 (a2.map eBool)))), (7, (i6 a3))], [bG a4, .row 4 1 0 (ra eBool []), .row 4 1 0 (ra eBool x0)]⟩)
abbrev L40_1_2_d0 (a4 : GramD) (v2 : List Bool) (x2 : ProdD) : List AB := [bG a4, .row 4 1 0 (ra eBool []), .row 4 1 0 (ra eBool v2), .row 68 6 0 (ra eSym []), bP x2]
abbrev L40_1_2_d1 (g7 : Nat → AV) (a1 : Nat) (a2 : List Bool) (a3 : Int) (v1 : Int) (a4 : GramD) (x7_0 : List Bool) (x2 : ProdD) : St := ⟨fr 83 g7 [(1, (vb false)), (2, (.ptr 0 0)), (5, (.sl 2 0 1 0 a1)), (6, (.p (.lst 1 (a2.map eBool)))), (7, (i6 a3)), (8, (i6 v1)), (9, (.ptr 4 0))], [bG a4, .row 4 1 0 (ra eBool []), .row 4 1 0 (ra eBool x7_0), .row 68 6 0 (ra eSym []), bP x2]⟩
theorem L40_1_2_ok (a1 : Nat) (a2 : List Bool) (a3 : Int) (a4 : GramD) (v1 : Int) (v2 : List Bool) {r : E_L40_1_2 ⊕ (Int × (List Bool))} (h : L40_1_2 a1 a4 v1 v2 = some r) : OkR (fun e => L40_1_2_x a1 a2 a3 a4 e (evH prg 3 [1, 2, 5, 6, 7, 8] ir40_l1 (L40_1_2_s a1 a2 a3 a4 v1 v2))) (fun s => evH prg 3 [1, 2, 5, 6, 7, 8] ir40_l1 (L40_1_2_s a1 a2 a3 a4 v1 v2) = evH prg 3 [1, 2, 5, 6, 7, 8] ir40_l1 (L40_1_2_s a1 a2 a3 a4 s.1 s.2)) r := by
 unfold L40_1_2 at h
 refine bi h (fun h1 h => ?_) fun h1 h => ?_
 ·
  refine bn h fun x2 h2 h => ?_
  refine bi h (fun h3 h => ?_) fun h3 h => ?_
  ·
   rw [← sj h]
   exact rnd (n := 30) [(31, .v (i6 (a4.prods.length : Int))), (32, .d true), (38, .v (.ro (eProd x2))), (42, .d true), (6000, .d true)] (apc (lg a4.prods eProd 7) (apc (cv h1) (apc (ig eProd 7 .i64 h2) (apc (cv h3) (apc ((okT_of rfl (abl_cons rfl (abl_cons abl_row (abl_cons abl_row rfl)))) : okT 3 (L40_1_2_d0 a4 v2 x2) = true) apn))))) (by kernel_rfl)
  ·
   refine bn h fun x4 h4 h => ?_
   have q4 := ((idx_sl h4) : idxA 1 (.sl 2 0 1 0 a1) (i6 x2.left) = some (.rp 2 0 1 x4 0))
   refine bn h fun x5 h5 h => ?_
   refine bi h (fun h6 h => ?_) fun h6 h => ?_
   ·
    refine bn h fun r7 h7 h => ?_
    cases r7 with
    | k0 x7_0 =>
     obtain ⟨g7, e7⟩ := L40_0_4_run a1 a2 a3 v1 a4 x2 (0, v2) _ h7
     rw [← sj h]
     exact rnd (n := 30) [(31, .v (i6 (a4.prods.length : Int))), (32, .d true), (38, .v (.ro (eProd x2))), (42, .d false), (47, .v (.rp 2 0 1 x4 0)), (48, .v (vb true)), (2004, .l (.brk 4) (L40_1_2_d1 g7 a1 a2 a3 v1 a4 x7_0 x2)), (6000, .d true)] (apc (lg a4.prods eProd 7) (apc (cv h1) (apc (ig eProd 7 .i64 h2) (apc (cv h3) (apc q4 (apc (((ld_row (V := vb x5) rfl h5 rfl).trans (congrArg (fun z => some (vb z)) h6)) : ldA (L40_1_2_d0 a4 v2 x2) .false 1 (.rp 2 0 1 x4 0) = some (vb true)) (apc ((okT_of rfl (abl_cons rfl (abl_cons abl_row (abl_cons abl_row (abl_cons abl_row (abl_cons rfl rfl)))))) : okT 5 (L40_1_2_d0 a4 v2 x2) = true) (apc (e7 : evH prg 5 [1, 2, 5, 6, 7, 8, 9, 10] ir40_l0 (L40_0_4_s a1 a2 a3 v1 a4 x2 0 v2) = some ((.brk 4), (L40_1_2_d1 g7 a1 a2 a3 v1 a4 x7_0 x2))) (apc ((okT_of rfl (abl_cons rfl (abl_cons abl_row (abl_cons abl_row rfl)))) : okT 3 [bG a4, .row 4 1 0 (ra eBool []), .row 4 1 0 (ra eBool x7_0), .row 68 6 0 (ra eSym []), bP x2] = true) apn))))))))) (by kernel_rfl)
   ·
    rw [← sj h]
    exact rnd (n := 30) [(31, .v (i6 (a4.prods.length : Int))), (32, .d true), (38, .v (.ro (eProd x2))), (42, .d false), (47, .v (.rp 2 0 1 x4 0)), (48, .v (vb false)), (6000, .d true)] (apc (lg a4.prods eProd 7) (apc (cv h1) (apc (ig eProd 7 .i64 h2) (apc (cv h3) (apc q4 (apc (((ld_row (V := vb x5) rfl h5 rfl).trans (congrArg (fun z => some (vb z)) h6)) : ldA (L40_1_2_d0 a4 v2 x2) .false 1 (.rp 2 0 1 x4 0) = some (vb false)) (apc ((okT_of rfl (abl_cons rfl (abl_cons abl_row (abl_cons abl_row rfl)))) : okT 3 (L40_1_2_d0 a4 v2 x2) = true) apn))))))) (by kernel_rfl)
 ·
  rw [← sj h]
  exact xbrk (n := 30) [(31, .v (i6 (a4.prods.length : Int))), (32, .d false), (6000, .d true)] (apc (lg a4.prods eProd 7) (apc (cv h1) apn)) (by kernel_rfl)
theorem L40_1_2_run (a1 : Nat) (a2 : List Bool) (a3 : Int) (a4 : GramD) (s0 : Int × (List Bool)) (e : E_L40_1_2) (h : runL (fun s => L40_1_2 a1 a4 s.1 s.2) s0 = some e) : L40_1_2_x a1 a2 a3 a4 e (evH prg 3 [1, 2, 5, 6, 7, 8] ir40_l1 (L40_1_2_s a1 a2 a3 a4 s0.1 s0.2)) := by
  have q := @loop_sound' (Int × (List Bool)) E_L40_1_2 (fun s => L40_1_2 a1 a4 s.1 s.2) (fun s => evH prg 3 [1, 2, 5, 6, 7, 8] ir40_l1 (L40_1_2_s a1 a2 a3 a4 s.1 s.2)) (L40_1_2_x a1 a2 a3 a4) (fun s r h => L40_1_2_ok a1 a2 a3 a4 s.1 s.2 h) s0 e h
  exact q
inductive E_L40_2 where
  | k0 (x0 : List Bool)
noncomputable def L40_2 (a1 : Nat) (a3 : GramD) (v1 : Int) (v2 : List Bool) : Option (E_L40_2 ⊕ (Int × (List Bool))) :=
  (bif (decide (v1 < (a3.sorts.length : Int))) then ((runL (fun s => L40_1_2 a1 a3 s.1 s.2) (0, v2)).bind fun r2 => match r2 with | .k0 x2_0 => (some (.inr ((IntKind.wrap .i64 (v1 + 1)), x2_0)))) else (some (.inl (.k0 v2))))
def L40_2_s (a1 : Nat) (a2 : List Bool) (a3 : GramD) (v1 : Int) (v2 : List Bool) : St := ⟨fr 83 ug [(1, (vb false)), (2, (.ptr 0 0)), (5, (.sl 2 0 1 0 a1)), (6, (.p (.lst 1 (a2.map eBool)))), (7, (i6 v1))], [bG a3, .row 4 1 0 (ra eBool []), .row 4 1 0 (ra eBool v2)]⟩
def L40_2_x (a1 : Nat) (a2 : List Bool) (a3 : GramD) (e : E_L40_2) (r : Option (Out × St)) : Prop := match e with | .k0 x0 => ∃ g, r = some ((.brk 0), ⟨fr 83 g [(2, (.ptr 0 0)), (5, (.sl 2 0 1 0 a1))], [bG a3, .row 4 1 0 (ra eBool []), .row 4 1 0 (ra eBool x0)]⟩)
abbrev L40_2_d0 (g2 : Nat → AV) (a1 : Nat) (a2 : List Bool) (v1 : Int) (a3 : GramD) (x2_0 : List Bool) : St := ⟨fr 83 g2 [(1, (vb false)), (2, (.ptr 0 0)), (5, (.sl 2 0 1 0 a1)), (6, (.p (.lst 1 (a2.map eBool)))), (7, (i6 v1))], [bG a3, .row 4 1 0 (ra eBool []), .row 4 1 0 (ra eBool x2_0)]⟩
theorem L40_2_ok (a1 : Nat) (a2 : List Bool) (a3 : GramD) (v1 : Int) (v2 : List Bool) {r : E_L40_2 ⊕ (Int × (List Bool))} (h : L40_2 a1 a3 v1 v2 = some r) : OkR (fun e => L40_2_x a1 a2 a3 e (evH prg 3 [1, 2, 5, 6, 7] ir40_l2 (L40_2_s a1 a2 a3 v1 v2))) (fun s => evH prg 3 [1, 2, 5, 6, 7] ir40_l2 (L40_2_s a1 a2 a3 v1 v2) = evH prg 3 [1, 2, 5, 6, 7] ir40_l2 (L40_2_s a1 a2 a3 s.1 s.2)) r := by
 unfold L40_2 at h
 refine bi h (fun h1 h => ?_) fun h1 h => ?_
 ·
  refine bn h fun r2 h2 h => ?_
  cases r2 with
  | k0 x2_0 =>
   obtain ⟨g2, e2⟩ := L40_1_2_run a1 a2 v1 a3 (0, v2) _ h2
   rw [← sj h]
   exact rnd (n := 30) [(24, .v (i6 (a3.sorts.length : Int))), (25, .d true), (2002, .l (.brk 2) (L40_2_d0 g2 a1 a2 v1 a3 x2_0)), (6000, .d true)] (apc (lg a3.sorts eStr 1) (apc (cv h1) (apc ((okT_of rfl (abl_cons rfl (abl_cons abl_row (abl_cons abl_row rfl)))) : okT 3 [bG a3, .row 4 1 0 (ra eBool []), .row 4 1 0 (ra eBool v2)] = true) (apc (e2 : evH prg 3 [1, 2, 5, 6, 7, 8] ir40_l1 (L40_1_2_s a1 a2 v1 a3 0 v2) = some ((.brk 2), (L40_2_d0 g2 a1 a2 v1 a3 x2_0))) (apc ((okT_of rfl (abl_cons rfl (abl_cons abl_row (abl_cons abl_row rfl)))) : okT 3 [bG a3, .row 4 1 0 (ra eBool []), .row 4 1 0 (ra eBool x2_0)] = true) apn))))) (by kernel_rfl)
 ·
  rw [← sj h]
  exact xbrk (n := 30) [(24, .v (i6 (a3.sorts.length : Int))), (25, .d false), (6000, .d true)] (apc (lg a3.sorts eStr 1) (apc (cv h1) apn)) (by kernel_rfl)
theorem L40_2_run (a1 : Nat) (a2 : List Bool) (a3 : GramD) (s0 : Int × (List Bool)) (e : E_L40_2) (h : runL (fun s => L40_2 a1 a3 s.1 s.2) s0 = some e) : L40_2_x a1 a2 a3 e (evH prg 3 [1, 2, 5, 6, 7] ir40_l2 (L40_2_s a1 a2 a3 s0.1 s0.2)) := by
  have q := @loop_sound' (Int × (List Bool)) E_L40_2 (fun s => L40_2 a1 a3 s.1 s.2) (fun s => evH prg 3 [1, 2, 5, 6, 7] ir40_l2 (L40_2_s a1 a2 a3 s.1 s.2)) (L40_2_x a1 a2 a3) (fun s r h => L40_2_ok a1 a2 a3 s.1 s.2 h) s0 e h
  exact q
def F40_v (a1 : GramD) (x0 : (List Bool)) : AV := (.p (.lst 1 (x0.map eBool)))
noncomputable def F40 (a1 : GramD) : Option (List Bool) :=
  (bif (mkOk (a1.sorts.length : Int) 1) then ((F39 a1).bind fun x2 => ((ixN (Int.toNat (a1.sorts.length : Int)) a1.start).bind fun x3 => (((List.replicate (Int.toNat (a1.sorts.length : Int)) false)[x3]?).bind fun x4 => ((runL (fun s => L40_2 (Int.toNat (a1.sorts.length : Int)) a1 s.1 s.2) (0, ((List.replicate (Int.toNat (a1.sorts.length : Int)) false).set x3 true))).bind fun r5 => match r5 with | .k0 x5_0 => (bif (decide ((Int.toNat (a1.sorts.length : Int)) ≤ x5_0.length)) then (some (x5_0.take (Int.toNat (a1.sorts.length : Int)))) else none))))) else none)
abbrev F40_d0 (a1 : GramD) : List AB := [bG a1, .row 4 1 0 (ra eBool []), .row 4 1 0 (ra eBool (List.replicate (Int.toNat (a1.sorts.length : Int)) false))]
abbrev F40_d1 (a1 : GramD) (x3 : Nat) : List AB := [bG a1, .row 4 1 0 (ra eBool []), .row 4 1 0 (ra eBool ((List.replicate (Int.toNat (a1.sorts.length : Int)) false).set x3 true))]
abbrev F40_d2 (g5 : Nat → AV) (a1 : GramD) (x5_0 : List Bool) : St := ⟨fr 83 g5 [(2, (.ptr 0 0)), (5, (.sl 2 0 1 0 (Int.toNat (a1.sorts.length : Int))))], [bG a1, .row 4 1 0 (ra eBool []), .row 4 1 0 (ra eBool x5_0)]⟩
abbrev F40_c0 (a1 : GramD) : List (Nat × Hint) := [(14, .r (.sl 2 0 1 0 (Int.toNat (a1.sorts.length : Int))) (F40_d0 a1))]
abbrev F40_c1 (a1 : GramD) (x3 : Nat) : List (Nat × Hint) := [(1020, .r ud (F40_d1 a1 x3))]
abbrev F40_c2 (g5 : Nat → AV) (a1 : GramD) (x5_0 : List Bool) : List (Nat × Hint) := [(2000, .l (.brk 0) (F40_d2 g5 a1 x5_0))]
theorem F40_ok (a1 : GramD) {r : (List Bool)} (h : F40 a1 = some r) : PR2 prg 40 [(aG a1), (vb false)] (F40_v a1 r) := by
 unfold F40 at h
 refine bi h (fun h1 h => ?_) fun h1 h => ?_
 ·
  have q1 := ((mk_row' (h := [bG a1, .row 4 1 0 (ra eBool [])]) (e := eBool) (z := false) h1 rfl) : (mkA 4 1 1 [.val (.bool false)] (i6 (a1.sorts.length : Int)) (i6 (a1.sorts.length : Int)) 2).map (fun x => (x.1, [bG a1, .row 4 1 0 (ra eBool [])] ++ [x.2])) = some ((.sl 2 0 1 0 (Int.toNat (a1.sorts.length : Int))), (F40_d0 a1)))
  refine bn h fun x2 h2 h => ?_
  have q2 := (((F39_ok a1 h2).cp rfl _) : CP prg 39 [(aG a1)] (F40_d0 a1) = some (.p (.lst 1 (x2.map eBool))))
  refine bn h fun x3 h3 h => ?_
  have q3 := ((idx_sl h3) : idxA 1 (.sl 2 0 1 0 (Int.toNat (a1.sorts.length : Int))) (i6 a1.start) = some (.rp 2 0 1 x3 0))
  refine bn h fun x4 h4 h => ?_
  have q4 := (⟨st_row (v' := true) rfl h4 rfl rfl (Nat.le_of_ble_eq_true rfl) rfl, rfl⟩ : stA (F40_d0 a1) 1 (.rp 2 0 1 x3 0) (vb true) = some (F40_d1 a1 x3) ∧ ud = ud)
  refine bn h fun r5 h5 h => ?_
  cases r5 with
  | k0 x5_0 =>
   obtain ⟨g5, e5⟩ := L40_2_run (Int.toNat (a1.sorts.length : Int)) x2 a1 (0, ((List.replicate (Int.toNat (a1.sorts.length : Int)) false).set x3 true)) _ h5
   have q5 := ((okT_of rfl (abl_cons rfl (abl_cons abl_row (abl_cons abl_row rfl)))) : okT 3 (F40_d1 a1 x3) = true)
   have q6 := (e5 : evH prg 3 [1, 2, 5, 6, 7] ir40_l2 (L40_2_s (Int.toNat (a1.sorts.length : Int)) x2 a1 0 ((List.replicate (Int.toNat (a1.sorts.length : Int)) false).set x3 true)) = some ((.brk 0), (F40_d2 g5 a1 x5_0)))
   refine bi h (fun h6 h => ?_) fun h6 h => ?_
   ·
    rw [← sj h]
    exact fpn (n := 30) (v := (.sl 2 0 1 0 (Int.toNat (a1.sorts.length : Int)))) (h' := [bG a1, .row 4 1 0 (ra eBool []), .row 4 1 0 (ra eBool x5_0)]) ([(13, .v (i6 (a1.sorts.length : Int)))] ++ ((F40_c0 a1) ++ ([(16, .v (.p (.lst 1 (x2.map eBool)))), (20, .v (.rp 2 0 1 x3 0))] ++ ((F40_c1 a1 x3) ++ ((F40_c2 g5 a1 x5_0) ++ [(6000, .d true)]))))) (apc (lg a1.sorts eStr 1) (apc q1 (apc q2 (apc q3 (apc q4 (apc q5 (apc q6 apn))))))) (purA_sl (e := eBool) rfl h6) rfl (purA_sl (e := eBool) (getq rfl (nols_ra (fun _ => rfl))) h6) (by kernel_rfl)
   ·
    cases h
 ·
  cases h
inductive E_L14_1 where
  | k0 (x0 : Int)
  | k1
noncomputable def L14_1 (a1 : List Bool) (v1 : Int) : Option (E_L14_1 ⊕ (Int)) :=
  (bif (decide (v1 < (a1.length : Int))) then ((getI a1 v1).bind fun x2 => (bif x2 then (some (.inr ((IntKind.wrap .i64 (v1 + 1))))) else (some (.inl (.k0 v1))))) else (some (.inl (.k1))))
def L14_1_s (a1 : List Bool) (a2 : List Bool) (a3 : GramD) (v1 : Int) : St := ⟨fr 39 ug [(4, (.p (.lst 1 (a1.map eBool)))), (5, (.p (.lst 1 (a2.map eBool)))), (6, (i6 v1))], [bG a3]⟩
def L14_1_x (a1 : List Bool) (a2 : List Bool) (a3 : GramD) (e : E_L14_1) (r : Option (Out × St)) : Prop := match e with | .k0 x0 => ∃ g y, r = some (.ret, ⟨fr 39 g [(2, (i6 161)), (3, (i6 x0))], y⟩) | .k1 => ∃ g, r = some ((.brk 0), ⟨fr 39 g [(5, (.p (.lst 1 (a2.map eBool))))], [bG a3]⟩)
theorem L14_1_ok (a1 : List Bool) (a2 : List Bool) (a3 : GramD) (v1 : Int) {r : E_L14_1 ⊕ (Int)} (h : L14_1 a1 v1 = some r) : OkR (fun e => L14_1_x a1 a2 a3 e (evH prg 1 [4, 5, 6] ir14_l1 (L14_1_s a1 a2 a3 v1))) (fun s => evH prg 1 [4, 5, 6] ir14_l1 (L14_1_s a1 a2 a3 v1) = evH prg 1 [4, 5, 6] ir14_l1 (L14_1_s a1 a2 a3 s)) r := by
 unfold L14_1 at h
 refine bi h (fun h1 h => ?_) fun h1 h => ?_
 ·
  refine bn h fun x2 h2 h => ?_
  refine bi h (fun h3 h => ?_) fun h3 h => ?_
  ·
   rw [← sj h]
   exact rnd (n := 30) [(17, .v (i6 (a1.length : Int))), (18, .d true), (23, .v (.ro [.val (.bool x2)])), (24, .d true), (6000, .d true)] (apc (lg a1 eBool 1) (apc (cv h1) (apc (ig eBool 1 .i64 h2) (apc (cv h3) (apc ((okT_of rfl (abl_cons rfl rfl)) : okT 1 [bG a3] = true) apn))))) (by kernel_rfl)
  ·
   rw [← sj h]
   exact xretY (n := 30) [(17, .v (i6 (a1.length : Int))), (18, .d true), (23, .v (.ro [.val (.bool x2)])), (24, .d false), (6000, .d true)] (apc (lg a1 eBool 1) (apc (cv h1) (apc (ig eBool 1 .i64 h2) (apc (cv h3) apn)))) (by kernel_rfl)
 ·
  rw [← sj h]
  exact xbrk (n := 30) [(17, .v (i6 (a1.length : Int))), (18, .d false), (6000, .d true)] (apc (lg a1 eBool 1) (apc (cv h1) apn)) (by kernel_rfl)
theorem L14_1_run (a1 : List Bool) (a2 : List Bool) (a3 : GramD) (s0 : Int) (e : E_L14_1) (h : runL (fun s => L14_1 a1 s) s0 = some e) : L14_1_x a1 a2 a3 e (evH prg 1 [4, 5, 6] ir14_l1 (L14_1_s a1 a2 a3 s0)) := by
  have q := @loop_sound' (Int) E_L14_1 (fun s => L14_1 a1 s) (fun s => evH prg 1 [4, 5, 6] ir14_l1 (L14_1_s a1 a2 a3 s)) (L14_1_x a1 a2 a3) (fun s r h => L14_1_ok a1 a2 a3 s h) s0 e h
  exact q
inductive E_L14_0 where
  | k0 (x0 : Int)
  | k1
noncomputable def L14_0 (a1 : List Bool) (v1 : Int) : Option (E_L14_0 ⊕ (Int)) :=
  (bif (decide (v1 < (a1.length : Int))) then ((getI a1 v1).bind fun x2 => (bif x2 then (some (.inr ((IntKind.wrap .i64 (v1 + 1))))) else (some (.inl (.k0 v1))))) else (some (.inl (.k1))))
def L14_0_s (a1 : List Bool) (a2 : GramD) (v1 : Int) : St := ⟨fr 39 ug [(5, (.p (.lst 1 (a1.map eBool)))), (7, (i6 v1))], [bG a2]⟩
def L14_0_x (a1 : List Bool) (a2 : GramD) (e : E_L14_0) (r : Option (Out × St)) : Prop := match e with | .k0 x0 => ∃ g y, r = some (.ret, ⟨fr 39 g [(2, (i6 162)), (3, (i6 x0))], y⟩) | .k1 => ∃ g, r = some ((.brk 2), ⟨fr 39 g [(5, (.p (.lst 1 (a1.map eBool))))], [bG a2]⟩)
theorem L14_0_ok (a1 : List Bool) (a2 : GramD) (v1 : Int) {r : E_L14_0 ⊕ (Int)} (h : L14_0 a1 v1 = some r) : OkR (fun e => L14_0_x a1 a2 e (evH prg 1 [5, 7] ir14_l0 (L14_0_s a1 a2 v1))) (fun s => evH prg 1 [5, 7] ir14_l0 (L14_0_s a1 a2 v1) = evH prg 1 [5, 7] ir14_l0 (L14_0_s a1 a2 s)) r := by
 unfold L14_0 at h
 refine bi h (fun h1 h => ?_) fun h1 h => ?_
 ·
  refine bn h fun x2 h2 h => ?_
  refine bi h (fun h3 h => ?_) fun h3 h => ?_
  ·
   rw [← sj h]
   exact rnd (n := 30) [(29, .v (i6 (a1.length : Int))), (30, .d true), (35, .v (.ro [.val (.bool x2)])), (36, .d true), (6000, .d true)] (apc (lg a1 eBool 1) (apc (cv h1) (apc (ig eBool 1 .i64 h2) (apc (cv h3) (apc ((okT_of rfl (abl_cons rfl rfl)) : okT 1 [bG a2] = true) apn))))) (by kernel_rfl)
  ·
   rw [← sj h]
   exact xretY (n := 30) [(29, .v (i6 (a1.length : Int))), (30, .d true), (35, .v (.ro [.val (.bool x2)])), (36, .d false), (6000, .d true)] (apc (lg a1 eBool 1) (apc (cv h1) (apc (ig eBool 1 .i64 h2) (apc (cv h3) apn)))) (by kernel_rfl)
 ·
  rw [← sj h]
  exact xbrk (n := 30) [(29, .v (i6 (a1.length : Int))), (30, .d false), (6000, .d true)] (apc (lg a1 eBool 1) (apc (cv h1) apn)) (by kernel_rfl)
theorem L14_0_run (a1 : List Bool) (a2 : GramD) (s0 : Int) (e : E_L14_0) (h : runL (fun s => L14_0 a1 s) s0 = some e) : L14_0_x a1 a2 e (evH prg 1 [5, 7] ir14_l0 (L14_0_s a1 a2 s0)) := by
  have q := @loop_sound' (Int) E_L14_0 (fun s => L14_0 a1 s) (fun s => evH prg 1 [5, 7] ir14_l0 (L14_0_s a1 a2 s)) (L14_0_x a1 a2) (fun s r h => L14_0_ok a1 a2 s h) s0 e h
  exact q
inductive R_F14 where
  | k0 (x0 : Int) (x1 : Int)
def F14_v (a1 : GramD) (r : R_F14) : AV := match r with | .k0 x0 x1 => (.tup [(i6 x0), (i6 x1)])
noncomputable def F14 (a1 : GramD) : Option R_F14 :=
  ((F12 a1).bind fun x1 => (bif (x1 != 0) then (some (.k0 160 0)) else ((F39 a1).bind fun x3 => ((F40 a1).bind fun x4 => ((runL (fun s => L14_1 x3 s) 0).bind fun r5 => match r5 with | .k0 x5_0 => (some (.k0 161 x5_0)) | .k1 => ((runL (fun s => L14_0 x4 s) 0).bind fun r6 => match r6 with | .k0 x6_0 => (some (.k0 162 x6_0)) | .k1 => (some (.k0 0 0))))))))
abbrev F14_d0 (g5 : Nat → AV) (x4 : List Bool) (a1 : GramD) : St := ⟨fr 39 g5 [(5, (.p (.lst 1 (x4.map eBool))))], [bG a1]⟩
abbrev F14_d1 (g6 : Nat → AV) (x4 : List Bool) (a1 : GramD) : St := ⟨fr 39 g6 [(5, (.p (.lst 1 (x4.map eBool))))], [bG a1]⟩
abbrev F14_c0 (g5 : Nat → AV) (x4 : List Bool) (a1 : GramD) : List (Nat × Hint) := [(2000, .l (.brk 0) (F14_d0 g5 x4 a1))]
theorem F14_ok (a1 : GramD) {r : R_F14} (h : F14 a1 = some r) : PR1 prg 14 [(aG a1)] (F14_v a1 r) := by
 unfold F14 at h
 refine bn h fun x1 h1 h => ?_
 have q0 := (((F12_ok a1 h1).cp rfl _) : CP prg 12 [(aG a1)] [bG a1] = some (i6 x1))
 refine bi h (fun h2 h => ?_) fun h2 h => ?_
 ·
  rw [← sj h]
  exact fpr (n := 30) [(9, .v (i6 x1)), (10, .d true)] (apc q0 (apc (cv h2) apn)) rfl (by kernel_rfl)
 ·
  refine bn h fun x3 h3 h => ?_
  have q2 := (((F39_ok a1 h3).cp rfl _) : CP prg 39 [(aG a1)] [bG a1] = some (.p (.lst 1 (x3.map eBool))))
  refine bn h fun x4 h4 h => ?_
  have q3 := (((F40_ok a1 h4).cp rfl _) : CP prg 40 [(aG a1), (vb false)] [bG a1] = some (.p (.lst 1 (x4.map eBool))))
  refine bn h fun r5 h5 h => ?_
  cases r5 with
  | k0 x5_0 =>
   obtain ⟨g5, y5, e5⟩ := L14_1_run x3 x4 a1 0 _ h5
   rw [← sj h]
   exact fpr (n := 30) [(9, .v (i6 x1)), (10, .d false), (12, .v (.p (.lst 1 (x3.map eBool)))), (14, .v (.p (.lst 1 (x4.map eBool)))), (2000, .l .ret ⟨fr 39 g5 [(2, (i6 161)), (3, (i6 x5_0))], y5⟩), (6000, .d true)] (apc q0 (apc (cv h2) (apc q2 (apc q3 (apc ((okT_of rfl (abl_cons rfl rfl)) : okT 1 [bG a1] = true) (apc (e5 : evH prg 1 [4, 5, 6] ir14_l1 (L14_1_s x3 x4 a1 0) = some (.ret, ⟨fr 39 g5 [(2, (i6 161)), (3, (i6 x5_0))], y5⟩)) apn)))))) rfl (by kernel_rfl)
  | k1 =>
   obtain ⟨g5, e5⟩ := L14_1_run x3 x4 a1 0 _ h5
   have q4 := ((okT_of rfl (abl_cons rfl rfl)) : okT 1 [bG a1] = true)
   have q5 := (e5 : evH prg 1 [4, 5, 6] ir14_l1 (L14_1_s x3 x4 a1 0) = some ((.brk 0), (F14_d0 g5 x4 a1)))
   refine bn h fun r6 h6 h => ?_
   cases r6 with
   | k0 x6_0 =>
    obtain ⟨g6, y6, e6⟩ := L14_0_run x4 a1 0 _ h6
    rw [← sj h]
    exact fpr (n := 30) ([(9, .v (i6 x1)), (10, .d false), (12, .v (.p (.lst 1 (x3.map eBool)))), (14, .v (.p (.lst 1 (x4.map eBool))))] ++ ((F14_c0 g5 x4 a1) ++ [(2002, .l .ret ⟨fr 39 g6 [(2, (i6 162)), (3, (i6 x6_0))], y6⟩), (6000, .d true)])) (apc q0 (apc (cv h2) (apc q2 (apc q3 (apc q4 (apc q5 (apc ((okT_of rfl (abl_cons rfl rfl)) : okT 1 [bG a1] = true) (apc (e6 : evH prg 1 [5, 7] ir14_l0 (L14_0_s x4 a1 0) = some (.ret, ⟨fr 39 g6 [(2, (i6 162)), (3, (i6 x6_0))], y6⟩)) apn)))))))) rfl (by kernel_rfl)
   | k1 =>
    obtain ⟨g6, e6⟩ := L14_0_run x4 a1 0 _ h6
    rw [← sj h]
    exact fpr (n := 30) ([(9, .v (i6 x1)), (10, .d false), (12, .v (.p (.lst 1 (x3.map eBool)))), (14, .v (.p (.lst 1 (x4.map eBool))))] ++ ((F14_c0 g5 x4 a1) ++ [(2002, .l (.brk 2) (F14_d1 g6 x4 a1)), (6000, .d true)])) (apc q0 (apc (cv h2) (apc q2 (apc q3 (apc q4 (apc q5 (apc ((okT_of rfl (abl_cons rfl rfl)) : okT 1 [bG a1] = true) (apc (e6 : evH prg 1 [5, 7] ir14_l0 (L14_0_s x4 a1 0) = some ((.brk 2), (F14_d1 g6 x4 a1))) apn)))))))) rfl (by kernel_rfl)
inductive E_L45_0 where
  | k0 (x0 : Int)
  | k1
noncomputable def L45_0 (a1 : GramD) (a2 : ByteArray) (a3 : Int) (v1 : Int) : Option (E_L45_0 ⊕ (Int)) :=
  (bif (decide (v1 < a3)) then ((getI a1.sorts v1).bind fun x2 => (bif (a2.toList == x2.toList) then (some (.inl (.k0 v1))) else (some (.inr ((IntKind.wrap .i64 (v1 + 1))))))) else (some (.inl (.k1))))
def L45_0_s (a1 : GramD) (a2 : ByteArray) (a3 : Int) (v1 : Int) : St := ⟨fr 19 ug [(0, (.p (.lst 1 (a1.sorts.map eStr)))), (1, (vs a2)), (7, (i6 a3)), (8, (i6 v1))], []⟩
def L45_0_x (a1 : GramD) (a2 : ByteArray) (a3 : Int) (e : E_L45_0) (r : Option (Out × St)) : Prop := match e with | .k0 x0 => ∃ g y, r = some (.ret, ⟨fr 19 g [(4, (i6 x0))], y⟩) | .k1 => ∃ g, r = some ((.brk 0), ⟨fr 19 g [(0, (.p (.lst 1 (a1.sorts.map eStr))))], []⟩)
theorem L45_0_ok (a1 : GramD) (a2 : ByteArray) (a3 : Int) (v1 : Int) {r : E_L45_0 ⊕ (Int)} (h : L45_0 a1 a2 a3 v1 = some r) : OkR (fun e => L45_0_x a1 a2 a3 e (evH prg 0 [0, 1, 7, 8] ir45_l0 (L45_0_s a1 a2 a3 v1))) (fun s => evH prg 0 [0, 1, 7, 8] ir45_l0 (L45_0_s a1 a2 a3 v1) = evH prg 0 [0, 1, 7, 8] ir45_l0 (L45_0_s a1 a2 a3 s)) r := by
 unfold L45_0 at h
 refine bi h (fun h1 h => ?_) fun h1 h => ?_
 ·
  refine bn h fun x2 h2 h => ?_
  refine bi h (fun h3 h => ?_) fun h3 h => ?_
  ·
   rw [← sj h]
   exact xretY (n := 30) [(9, .d true), (14, .v (.ro [.val (.string x2)])), (16, .d true), (6000, .d true)] (apc (cv h1) (apc (ig eStr 1 .i64 h2) (apc (cv h3) apn))) (by kernel_rfl)
  ·
   rw [← sj h]
   exact rnd (n := 30) [(9, .d true), (14, .v (.ro [.val (.string x2)])), (16, .d false), (6000, .d true)] (apc (cv h1) (apc (ig eStr 1 .i64 h2) (apc (cv h3) (apc ((okT_of rfl rfl) : okT 0 [] = true) apn)))) (by kernel_rfl)
 ·
  rw [← sj h]
  exact xbrk (n := 30) [(9, .d false), (6000, .d true)] (apc (cv h1) apn) (by kernel_rfl)
theorem L45_0_run (a1 : GramD) (a2 : ByteArray) (a3 : Int) (s0 : Int) (e : E_L45_0) (h : runL (fun s => L45_0 a1 a2 a3 s) s0 = some e) : L45_0_x a1 a2 a3 e (evH prg 0 [0, 1, 7, 8] ir45_l0 (L45_0_s a1 a2 a3 s0)) := by
  have q := @loop_sound' (Int) E_L45_0 (fun s => L45_0 a1 a2 a3 s) (fun s => evH prg 0 [0, 1, 7, 8] ir45_l0 (L45_0_s a1 a2 a3 s)) (L45_0_x a1 a2 a3) (fun s r h => L45_0_ok a1 a2 a3 s h) s0 e h
  exact q
def F45_v (a1 : GramD) (a2 : ByteArray) (x0 : Int) : AV := (i6 x0)
noncomputable def F45 (a1 : GramD) (a2 : ByteArray) : Option Int :=
  ((runL (fun s => L45_0 a1 a2 (a1.sorts.length : Int) s) 0).bind fun r1 => match r1 with | .k0 x1_0 => (some x1_0) | .k1 => (some (-1)))
theorem F45_ok (a1 : GramD) (a2 : ByteArray) {r : Int} (h : F45 a1 a2 = some r) : PR1 prg 45 [(.p (.lst 1 (a1.sorts.map eStr))), (vs a2)] (F45_v a1 a2 r) := by
 unfold F45 at h
 refine bn h fun r1 h1 h => ?_
 cases r1 with
 | k0 x1_0 =>
  obtain ⟨g1, y1, e1⟩ := L45_0_run a1 a2 (a1.sorts.length : Int) 0 _ h1
  rw [← sj h]
  exact fpr (n := 30) [(7, .v (i6 (a1.sorts.length : Int))), (2000, .l .ret ⟨fr 19 g1 [(4, (i6 x1_0))], y1⟩), (6000, .d true)] (apc (lg a1.sorts eStr 1) (apc ((okT_of rfl rfl) : okT 0 [] = true) (apc (e1 : evH prg 0 [0, 1, 7, 8] ir45_l0 (L45_0_s a1 a2 (a1.sorts.length : Int) 0) = some (.ret, ⟨fr 19 g1 [(4, (i6 x1_0))], y1⟩)) apn))) rfl (by kernel_rfl)
 | k1 =>
  obtain ⟨g1, e1⟩ := L45_0_run a1 a2 (a1.sorts.length : Int) 0 _ h1
  rw [← sj h]
  exact fpr (n := 30) [(7, .v (i6 (a1.sorts.length : Int))), (2000, .l (.brk 0) ⟨fr 19 g1 [(0, (.p (.lst 1 (a1.sorts.map eStr))))], []⟩), (6000, .d true)] (apc (lg a1.sorts eStr 1) (apc ((okT_of rfl rfl) : okT 0 [] = true) (apc (e1 : evH prg 0 [0, 1, 7, 8] ir45_l0 (L45_0_s a1 a2 (a1.sorts.length : Int) 0) = some ((.brk 0), ⟨fr 19 g1 [(0, (.p (.lst 1 (a1.sorts.map eStr))))], []⟩)) apn))) rfl (by kernel_rfl)
inductive R_F16 where
  | k0 (x0 : Int) (x1 : Bool)
def F16_v (a1 : GramD) (a2 : ByteArray) (r : R_F16) : AV := match r with | .k0 x0 x1 => (.tup [(i6 x0), (vb x1)])
noncomputable def F16 (a1 : GramD) (a2 : ByteArray) : Option R_F16 :=
  ((F45 a1 a2).bind fun x1 => (some (.k0 (if 0 < x1 then x1 else 0) (decide (x1 ≥ 0)))))
theorem F16_ok (a1 : GramD) (a2 : ByteArray) {r : R_F16} (h : F16 a1 a2 = some r) : PR1 prg 16 [(aG a1), (vs a2)] (F16_v a1 a2 r) := by
 unfold F16 at h
 refine bn h fun x1 h1 h => ?_
 rw [← sj h]
 exact fpr (n := 30) [(10, .v (i6 x1))] (apc (((F45_ok a1 a2 h1).cp rfl _) : CP prg 45 [(.p (.lst 1 (a1.sorts.map eStr))), (vs a2)] [bG a1] = some (i6 x1)) apn) rfl (by kernel_rfl)
inductive E_L3_2 where
  | k0 (x0 : Int) (x1 : Bool)
noncomputable def L3_2 (a1 : ByteArray) (a7 : GramD) (v1 : Int) (v2 : Bool) (v3 : Int) : Option (E_L3_2 ⊕ (Int × Bool × Int)) :=
  (bif (decide (v3 ≥ 0)) then ((getI a7.sorts v3).bind fun x2 => (bif (x2.toList == a1.toList) then (some (.inr (v3, true, (IntKind.wrap .i64 (v3 - 1))))) else (some (.inr (v1, v2, (IntKind.wrap .i64 (v3 - 1))))))) else (some (.inl (.k0 v1 v2))))
def L3_2_s (a1 : ByteArray) (a2 : Int) (a3 : Int) (a4 : Int) (a5 : Bool) (a7 : GramD) (a8 : List ByteArray) (a9 : List ProdD) (a10 : Int) (a11 : List ForbD) (a12 : List FollD) (v1 : Int) (v2 : Bool) (v3 : Int) : St := ⟨fr 162 ug [(1, (vs a1)), (2, (i6 a2)), (3, (.ptr 0 0)), (7, (.ptr 5 0)), (8, (i6 a3)), (13, (i6 a4)), (14, (vb a5)), (15, (i6 v1)), (16, (vb v2)), (17, (i6 v3))], [bG a7, .row 9 1 0 (ra eStr []), .row 46 7 0 (ra eProd []), .row 78 3 0 (ra eForb []), .row 80 5 0 (ra eFoll []), .cells 27 [(.p (.lst 1 (a8.map eStr))), (.p (.lst 7 (a9.map eProd))), (i6 a10), (.p (.lst 3 (a11.map eForb))), (.p (.lst 5 (a12.map eFoll)))]]⟩
def L3_2_x (a1 : ByteArray) (a2 : Int) (a3 : Int) (a4 : Int) (a5 : Bool) (a7 : GramD) (a8 : List ByteArray) (a9 : List ProdD) (a10 : Int) (a11 : List ForbD) (a12 : List FollD) (e : E_L3_2) (r : Option (Out × St)) : Prop := match e with | .k0 x0 x1 => ∃ g, r = some ((.brk 0), ⟨fr 162 g [(1, (vs a1)), (2, (i6 a2)), (3, (.ptr 0 0)), (7, (.ptr 5 0)), (8, (i6 a3)), (13, (i6 a4)), (14, (vb a5)), (15, (i6 x0)), (16, (vb x1))], [bG a7, .row 9 1 0 (ra eStr []), .row 46 7 0 (ra eProd []), .row 78 3 0 (ra eForb []), .row 80 5 0 (ra eFoll []), .cells 27 [(.p (.lst 1 (a8.map eStr))), (.p (.lst 7 (a9.map eProd))), (i6 a10), (.p (.lst 3 (a11.map eForb))), (.p (.lst 5 (a12.map eFoll)))]]⟩)
abbrev L3_2_d0 (a7 : GramD) (a8 : List ByteArray) (a9 : List ProdD) (a10 : Int) (a11 : List ForbD) (a12 : List FollD) : List AB := [bG a7, .row 9 1 0 (ra eStr []), .row 46 7 0 (ra eProd []), .row 78 3 0 (ra eForb []), .row 80 5 0 (ra eFoll []), .cells 27 [(.p (.lst 1 (a8.map eStr))), (.p (.lst 7 (a9.map eProd))), (i6 a10), (.p (.lst 3 (a11.map eForb))), (.p (.lst 5 (a12.map eFoll)))]]
theorem L3_2_ok (a1 : ByteArray) (a2 : Int) (a3 : Int) (a4 : Int) (a5 : Bool) (a7 : GramD) (a8 : List ByteArray) (a9 : List ProdD) (a10 : Int) (a11 : List ForbD) (a12 : List FollD) (v1 : Int) (v2 : Bool) (v3 : Int) {r : E_L3_2 ⊕ (Int × Bool × Int)} (h : L3_2 a1 a7 v1 v2 v3 = some r) : OkR (fun e => L3_2_x a1 a2 a3 a4 a5 a7 a8 a9 a10 a11 a12 e (evH prg 6 [1, 2, 3, 7, 8, 13, 14, 15, 16, 17] ir3_l2 (L3_2_s a1 a2 a3 a4 a5 a7 a8 a9 a10 a11 a12 v1 v2 v3))) (fun s => evH prg 6 [1, 2, 3, 7, 8, 13, 14, 15, 16, 17] ir3_l2 (L3_2_s a1 a2 a3 a4 a5 a7 a8 a9 a10 a11 a12 v1 v2 v3) = evH prg 6 [1, 2, 3, 7, 8, 13, 14, 15, 16, 17] ir3_l2 (L3_2_s a1 a2 a3 a4 a5 a7 a8 a9 a10 a11 a12 s.1 s.2.1 s.2.2)) r := by
 unfold L3_2 at h
 refine bi h (fun h1 h => ?_) fun h1 h => ?_
 ·
  refine bn h fun x2 h2 h => ?_
  refine bi h (fun h3 h => ?_) fun h3 h => ?_
  ·
   rw [← sj h]
   exact rnd (n := 30) [(71, .d true), (77, .v (.ro [.val (.string x2)])), (80, .d true), (6000, .d true)] (apc (cv h1) (apc (ig eStr 1 .i64 h2) (apc (cv h3) (apc ((okT_of rfl (abl_cons rfl (abl_cons abl_row (abl_cons abl_row (abl_cons abl_row (abl_cons abl_row (abl_cons rfl rfl))))))) : okT 6 (L3_2_d0 a7 a8 a9 a10 a11 a12) = true) apn)))) (by kernel_rfl)
  ·
   rw [← sj h]
   exact rnd (n := 30) [(71, .d true), (77, .v (.ro [.val (.string x2)])), (80, .d false), (6000, .d true)] (apc (cv h1) (apc (ig eStr 1 .i64 h2) (apc (cv h3) (apc ((okT_of rfl (abl_cons rfl (abl_cons abl_row (abl_cons abl_row (abl_cons abl_row (abl_cons abl_row (abl_cons rfl rfl))))))) : okT 6 (L3_2_d0 a7 a8 a9 a10 a11 a12) = true) apn)))) (by kernel_rfl)
 ·
  rw [← sj h]
  exact xbrk (n := 30) [(71, .d false), (6000, .d true)] (apc (cv h1) apn) (by kernel_rfl)
theorem L3_2_run (a1 : ByteArray) (a2 : Int) (a3 : Int) (a4 : Int) (a5 : Bool) (a7 : GramD) (a8 : List ByteArray) (a9 : List ProdD) (a10 : Int) (a11 : List ForbD) (a12 : List FollD) (s0 : Int × Bool × Int) (e : E_L3_2) (h : runL (fun s => L3_2 a1 a7 s.1 s.2.1 s.2.2) s0 = some e) : L3_2_x a1 a2 a3 a4 a5 a7 a8 a9 a10 a11 a12 e (evH prg 6 [1, 2, 3, 7, 8, 13, 14, 15, 16, 17] ir3_l2 (L3_2_s a1 a2 a3 a4 a5 a7 a8 a9 a10 a11 a12 s0.1 s0.2.1 s0.2.2)) := by
  have q := @loop_sound' (Int × Bool × Int) E_L3_2 (fun s => L3_2 a1 a7 s.1 s.2.1 s.2.2) (fun s => evH prg 6 [1, 2, 3, 7, 8, 13, 14, 15, 16, 17] ir3_l2 (L3_2_s a1 a2 a3 a4 a5 a7 a8 a9 a10 a11 a12 s.1 s.2.1 s.2.2)) (L3_2_x a1 a2 a3 a4 a5 a7 a8 a9 a10 a11 a12) (fun s r h => L3_2_ok a1 a2 a3 a4 a5 a7 a8 a9 a10 a11 a12 s.1 s.2.1 s.2.2 h) s0 e h
  exact q
inductive E_L17_0 where
  | k0 (x0 : Nat) (x1 : Nat) (x2 : List Int)
noncomputable def L17_0 (a1 : Int) (a2 : GramD) (a3 : Int) (v1 : Nat) (v2 : Nat) (v3 : Int) (v4 : List Int) : Option (E_L17_0 ⊕ (Nat × Nat × Int × (List Int))) :=
  (bif (decide (v3 < a3)) then ((getI a2.prods v3).bind fun x2 => (bif (x2.left == a1) then (bif (apOk v2 1 v4.length 8) then (bif (decide (v2 + 1 ≤ v4.length)) then (some (.inr (v1, (v2 + 1), (IntKind.wrap .i64 (v3 + 1)), (splice v4 v2 [v3])))) else (some (.inr ((v1 + 1), (v2 + 1), (IntKind.wrap .i64 (v3 + 1)), (v4.take v2 ++ [v3]))))) else none) else (some (.inr (v1, v2, (IntKind.wrap .i64 (v3 + 1)), v4))))) else (some (.inl (.k0 v1 v2 v4))))
def L17_0_s (a1 : Int) (a2 : GramD) (a3 : Int) (v1 : Nat) (v2 : Nat) (v3 : Int) (v4 : List Int) : St := ⟨fr 42 ug [(1, (i6 a1)), (7, (.sl 2 v1 1 0 v2)), (25, (.p (.lst 7 (a2.prods.map eProd)))), (26, (i6 a3)), (27, (i6 v3))], [bG a2, .row 3 1 0 (ra eI64 []), .row 3 1 v1 (ra eI64 v4)]⟩
def L17_0_x (a1 : Int) (a2 : GramD) (a3 : Int) (e : E_L17_0) (r : Option (Out × St)) : Prop := match e with | .k0 x0 x1 x2 => ∃ g, r = some ((.brk 0), ⟨fr 42 g [(1, (i6 a1)), (7, (.sl 2 x0 1 0 x1)), (25, (.p (.lst 7 (a2.prods.map eProd))))], [bG a2, .row 3 1 0 (ra eI64 []), .row 3 1 x0 (ra eI64 x2)]⟩)
abbrev L17_0_d0 (a2 : GramD) (v1 : Nat) (v4 : List Int) (v2 : Nat) (v3 : Int) (x2 : ProdD) : List AB := [bG a2, .row 3 1 0 (ra eI64 []), .row 3 1 v1 (ra eI64 (splice v4 v2 [v3])), .row 68 6 0 (ra eSym []), bP x2, .row 3 1 0 [[(i6 v3)]]]
abbrev L17_0_d1 (a2 : GramD) (v1 : Nat) (v4 : List Int) (x2 : ProdD) (v3 : Int) : List AB := [bG a2, .row 3 1 0 (ra eI64 []), .row 3 1 v1 (ra eI64 v4), .row 68 6 0 (ra eSym []), bP x2, .row 3 1 0 [[(i6 v3)]]]
abbrev L17_0_d2 (a2 : GramD) (v1 : Nat) (v4 : List Int) (v2 : Nat) (v3 : Int) (x2 : ProdD) : List AB := [bG a2, .row 3 1 0 (ra eI64 []), .row 3 1 (v1 + 1) (ra eI64 (v4.take v2 ++ [v3])), .row 68 6 0 (ra eSym []), bP x2, .row 3 1 0 [[(i6 v3)]]]
theorem L17_0_ok (a1 : Int) (a2 : GramD) (a3 : Int) (v1 : Nat) (v2 : Nat) (v3 : Int) (v4 : List Int) {r : E_L17_0 ⊕ (Nat × Nat × Int × (List Int))} (h : L17_0 a1 a2 a3 v1 v2 v3 v4 = some r) : OkR (fun e => L17_0_x a1 a2 a3 e (evH prg 3 [1, 7, 25, 26, 27] ir17_l0 (L17_0_s a1 a2 a3 v1 v2 v3 v4))) (fun s => evH prg 3 [1, 7, 25, 26, 27] ir17_l0 (L17_0_s a1 a2 a3 v1 v2 v3 v4) = evH prg 3 [1, 7, 25, 26, 27] ir17_l0 (L17_0_s a1 a2 a3 s.1 s.2.1 s.2.2.1 s.2.2.2)) r := by
 unfold L17_0 at h
 refine bi h (fun h1 h => ?_) fun h1 h => ?_
 ·
  refine bn h fun x2 h2 h => ?_
  refine bi h (fun h3 h => ?_) fun h3 h => ?_
  ·
   refine bi h (fun h4 h => ?_) fun h4 h => ?_
   ·
    refine bi h (fun h5 h => ?_) fun h5 h => ?_
    ·
     rw [← sj h]
     exact rnd (n := 30) [(28, .d true), (30, .v (.ro (eProd x2))), (35, .d true), (39, .r (.sl 2 v1 1 0 (v2 + 1)) (L17_0_d0 a2 v1 v4 v2 v3 x2)), (6000, .d true)] (apc (cv h1) (apc (ig eProd 7 .i64 h2) (apc (cv h3) (apc ((ap_in (e := eI64) (xs := v4) (news := [v3]) rfl (rows_x (e := eI64) (xs := [v3]) rfl) rfl h4 h5) : appA (L17_0_d1 a2 v1 v4 x2 v3) 3 1 8 (.sl 2 v1 1 0 v2) (.sl 5 0 1 0 1) = some ((.sl 2 v1 1 0 (v2 + 1)), (L17_0_d0 a2 v1 v4 v2 v3 x2))) (apc ((okT_of rfl (abl_cons rfl (abl_cons abl_row (abl_cons abl_row rfl)))) : okT 3 (L17_0_d0 a2 v1 v4 v2 v3 x2) = true) apn))))) (by kernel_rfl)
    ·
     rw [← sj h]
     exact rnd (n := 30) [(28, .d true), (30, .v (.ro (eProd x2))), (35, .d true), (39, .r (.sl 2 (v1 + 1) 1 0 (v2 + 1)) (L17_0_d2 a2 v1 v4 v2 v3 x2)), (6000, .d true)] (apc (cv h1) (apc (ig eProd 7 .i64 h2) (apc (cv h3) (apc ((ap_out (e := eI64) (xs := v4) (news := [v3]) rfl (rows_x (e := eI64) (xs := [v3]) rfl) rfl h4 h5) : appA (L17_0_d1 a2 v1 v4 x2 v3) 3 1 8 (.sl 2 v1 1 0 v2) (.sl 5 0 1 0 1) = some ((.sl 2 (v1 + 1) 1 0 (v2 + 1)), (L17_0_d2 a2 v1 v4 v2 v3 x2))) (apc ((okT_of rfl (abl_cons rfl (abl_cons abl_row (abl_cons abl_row rfl)))) : okT 3 (L17_0_d2 a2 v1 v4 v2 v3 x2) = true) apn))))) (by kernel_rfl)
   ·
    cases h
  ·
   rw [← sj h]
   exact rnd (n := 30) [(28, .d true), (30, .v (.ro (eProd x2))), (35, .d false), (6000, .d true)] (apc (cv h1) (apc (ig eProd 7 .i64 h2) (apc (cv h3) (apc ((okT_of rfl (abl_cons rfl (abl_cons abl_row (abl_cons abl_row rfl)))) : okT 3 [bG a2, .row 3 1 0 (ra eI64 []), .row 3 1 v1 (ra eI64 v4), .row 68 6 0 (ra eSym []), bP x2] = true) apn)))) (by kernel_rfl)
 ·
  rw [← sj h]
  exact xbrk (n := 30) [(28, .d false), (6000, .d true)] (apc (cv h1) apn) (by kernel_rfl)
theorem L17_0_run (a1 : Int) (a2 : GramD) (a3 : Int) (s0 : Nat × Nat × Int × (List Int)) (e : E_L17_0) (h : runL (fun s => L17_0 a1 a2 a3 s.1 s.2.1 s.2.2.1 s.2.2.2) s0 = some e) : L17_0_x a1 a2 a3 e (evH prg 3 [1, 7, 25, 26, 27] ir17_l0 (L17_0_s a1 a2 a3 s0.1 s0.2.1 s0.2.2.1 s0.2.2.2)) := by
  have q := @loop_sound' (Nat × Nat × Int × (List Int)) E_L17_0 (fun s => L17_0 a1 a2 a3 s.1 s.2.1 s.2.2.1 s.2.2.2) (fun s => evH prg 3 [1, 7, 25, 26, 27] ir17_l0 (L17_0_s a1 a2 a3 s.1 s.2.1 s.2.2.1 s.2.2.2)) (L17_0_x a1 a2 a3) (fun s r h => L17_0_ok a1 a2 a3 s.1 s.2.1 s.2.2.1 s.2.2.2 h) s0 e h
  exact q
inductive R_F17 where
  | k0 (x0 : List Int) (x1 : Int)
def F17_v (a1 : GramD) (a2 : Int) (r : R_F17) : AV := match r with | .k0 x0 x1 => (.tup [(.p (.lst 1 (x0.map eI64))), (i6 x1)])
noncomputable def F17 (a1 : GramD) (a2 : Int) : Option R_F17 :=
  ((F15 a1).bind fun x1 => (bif (x1 != 0) then (some (.k0 ([]) x1)) else (bif (decide (a2 < 0)) then (some (.k0 ([]) 4)) else (bif (decide (a2 ≥ (a1.sorts.length : Int))) then (some (.k0 ([]) 4)) else ((runL (fun s => L17_0 a2 a1 (a1.prods.length : Int) s.1 s.2.1 s.2.2.1 s.2.2.2) (0, 0, 0, [])).bind fun r5 => match r5 with | .k0 x5_0 x5_1 x5_2 => (bif (decide (x5_1 ≤ x5_2.length)) then (some (.k0 (x5_2.take x5_1) 0)) else none))))))
abbrev F17_d0 (a1 : GramD) : List AB := [bG a1, .row 3 1 0 (ra eI64 []), .row 3 1 0 (ra eI64 [])]
abbrev F17_d1 (g5 : Nat → AV) (a2 : Int) (x5_0 : Nat) (x5_1 : Nat) (a1 : GramD) (x5_2 : List Int) : St := ⟨fr 42 g5 [(1, (i6 a2)), (7, (.sl 2 x5_0 1 0 x5_1)), (25, (.p (.lst 7 (a1.prods.map eProd))))], [bG a1, .row 3 1 0 (ra eI64 []), .row 3 1 x5_0 (ra eI64 x5_2)]⟩
abbrev F17_c0 (g5 : Nat → AV) (a2 : Int) (x5_0 : Nat) (x5_1 : Nat) (a1 : GramD) (x5_2 : List Int) : List (Nat × Hint) := [(2000, .l (.brk 0) (F17_d1 g5 a2 x5_0 x5_1 a1 x5_2))]
theorem F17_ok (a1 : GramD) (a2 : Int) {r : R_F17} (h : F17 a1 a2 = some r) : PR2 prg 17 [(aG a1), (i6 a2)] (F17_v a1 a2 r) := by
 unfold F17 at h
 refine bn h fun x1 h1 h => ?_
 have q0 := (((F15_ok a1 h1).cp rfl _) : CP prg 15 [(aG a1)] [bG a1, .row 3 1 0 (ra eI64 [])] = some (i6 x1))
 refine bi h (fun h2 h => ?_) fun h2 h => ?_
 ·
  rw [← sj h]
  exact fpn (n := 30) (v := (.tup [(.sl 2 0 1 0 0), (i6 x1)])) (h' := (F17_d0 a1)) [(11, .v (i6 x1)), (13, .d true)] (apc q0 (apc (cv h2) apn)) (purA_tup (purAs_cons (purA_sl (e := eI64) (xs := []) rfl rfl) (purAs_cons rfl purAs_nil))) rfl (purA_tup (purAs_cons (purA_sl (e := eI64) (xs := []) (getq rfl (nols_ra (fun _ => rfl))) rfl) (purAs_cons rfl purAs_nil))) (by kernel_rfl)
 ·
  refine bi h (fun h3 h => ?_) fun h3 h => ?_
  ·
   rw [← sj h]
   exact fpn (n := 30) (v := (.tup [(.sl 2 0 1 0 0), (i6 4)])) (h' := (F17_d0 a1)) [(11, .v (i6 x1)), (13, .d false), (16, .d true)] (apc q0 (apc (cv h2) (apc (cv h3) apn))) (purA_tup (purAs_cons (purA_sl (e := eI64) (xs := []) rfl rfl) (purAs_cons rfl purAs_nil))) rfl (purA_tup (purAs_cons (purA_sl (e := eI64) (xs := []) (getq rfl (nols_ra (fun _ => rfl))) rfl) (purAs_cons rfl purAs_nil))) (by kernel_rfl)
  ·
   refine bi h (fun h4 h => ?_) fun h4 h => ?_
   ·
    rw [← sj h]
    exact fpn (n := 30) (v := (.tup [(.sl 2 0 1 0 0), (i6 4)])) (h' := (F17_d0 a1)) [(11, .v (i6 x1)), (13, .d false), (16, .d false), (21, .v (i6 (a1.sorts.length : Int))), (22, .d true)] (apc q0 (apc (cv h2) (apc (cv h3) (apc (lg a1.sorts eStr 1) (apc (cv h4) apn))))) (purA_tup (purAs_cons (purA_sl (e := eI64) (xs := []) rfl rfl) (purAs_cons rfl purAs_nil))) rfl (purA_tup (purAs_cons (purA_sl (e := eI64) (xs := []) (getq rfl (nols_ra (fun _ => rfl))) rfl) (purAs_cons rfl purAs_nil))) (by kernel_rfl)
   ·
    refine bn h fun r5 h5 h => ?_
    cases r5 with
    | k0 x5_0 x5_1 x5_2 =>
     obtain ⟨g5, e5⟩ := L17_0_run a2 a1 (a1.prods.length : Int) (0, 0, 0, []) _ h5
     have q6 := ((okT_of rfl (abl_cons rfl (abl_cons abl_row (abl_cons abl_row rfl)))) : okT 3 (F17_d0 a1) = true)
     have q7 := (e5 : evH prg 3 [1, 7, 25, 26, 27] ir17_l0 (L17_0_s a2 a1 (a1.prods.length : Int) 0 0 0 ([])) = some ((.brk 0), (F17_d1 g5 a2 x5_0 x5_1 a1 x5_2)))
     refine bi h (fun h6 h => ?_) fun h6 h => ?_
     ·
      rw [← sj h]
      exact fpn (n := 30) (v := (.tup [(.sl 2 x5_0 1 0 x5_1), (i6 0)])) (h' := [bG a1, .row 3 1 0 (ra eI64 []), .row 3 1 x5_0 (ra eI64 x5_2)]) ([(11, .v (i6 x1)), (13, .d false), (16, .d false), (21, .v (i6 (a1.sorts.length : Int))), (22, .d false), (26, .v (i6 (a1.prods.length : Int)))] ++ ((F17_c0 g5 a2 x5_0 x5_1 a1 x5_2) ++ [(6000, .d true)])) (apc q0 (apc (cv h2) (apc (cv h3) (apc (lg a1.sorts eStr 1) (apc (cv h4) (apc (lg a1.prods eProd 7) (apc q6 (apc q7 apn)))))))) (purA_tup (purAs_cons (purA_sl (e := eI64) rfl h6) (purAs_cons rfl purAs_nil))) rfl (purA_tup (purAs_cons (purA_sl (e := eI64) (getq rfl (nols_ra (fun _ => rfl))) h6) (purAs_cons rfl purAs_nil))) (by kernel_rfl)
     ·
      cases h
inductive E_L3_1 where
  | k0 (x0 : Nat) (x1 : Nat) (x2 : List Int)
noncomputable def L3_1 (a1 : Int) (a5 : GramD) (v1 : Nat) (v2 : Nat) (v3 : Int) (v4 : List Int) : Option (E_L3_1 ⊕ (Nat × Nat × Int × (List Int))) :=
  (bif (decide (v3 < (a5.prods.length : Int))) then ((getI a5.prods v3).bind fun x2 => (bif (x2.left == a1) then (bif (apOk v2 1 v4.length 8) then (bif (decide (v2 + 1 ≤ v4.length)) then (some (.inr (v1, (v2 + 1), (IntKind.wrap .i64 (v3 + 1)), (splice v4 v2 [v3])))) else (some (.inr ((v1 + 1), (v2 + 1), (IntKind.wrap .i64 (v3 + 1)), (v4.take v2 ++ [v3]))))) else none) else (some (.inr (v1, v2, (IntKind.wrap .i64 (v3 + 1)), v4))))) else (some (.inl (.k0 v1 v2 v4))))
def L3_1_s (a1 : Int) (a2 : Int) (a3 : List Int) (a4 : Int) (a5 : GramD) (a6 : List ByteArray) (a7 : List ProdD) (a8 : Int) (a9 : List ForbD) (a10 : List FollD) (v1 : Nat) (v2 : Nat) (v3 : Int) (v4 : List Int) : St := ⟨fr 162 ug [(2, (i6 a1)), (3, (.ptr 0 0)), (7, (.ptr 5 0)), (8, (i6 a2)), (18, (.p (.lst 1 (a3.map eI64)))), (19, (i6 a4)), (20, (.sl 6 v1 1 0 v2)), (21, (i6 v3))], [bG a5, .row 9 1 0 (ra eStr []), .row 46 7 0 (ra eProd []), .row 78 3 0 (ra eForb []), .row 80 5 0 (ra eFoll []), .cells 27 [(.p (.lst 1 (a6.map eStr))), (.p (.lst 7 (a7.map eProd))), (i6 a8), (.p (.lst 3 (a9.map eForb))), (.p (.lst 5 (a10.map eFoll)))], .row 3 1 v1 (ra eI64 v4)]⟩
def L3_1_x (a1 : Int) (a2 : Int) (a3 : List Int) (a4 : Int) (a5 : GramD) (a6 : List ByteArray) (a7 : List ProdD) (a8 : Int) (a9 : List ForbD) (a10 : List FollD) (e : E_L3_1) (r : Option (Out × St)) : Prop := match e with | .k0 x0 x1 x2 => ∃ g, r = some ((.brk 2), ⟨fr 162 g [(2, (i6 a1)), (3, (.ptr 0 0)), (7, (.ptr 5 0)), (8, (i6 a2)), (18, (.p (.lst 1 (a3.map eI64)))), (19, (i6 a4)), (20, (.sl 6 x0 1 0 x1))], [bG a5, .row 9 1 0 (ra eStr []), .row 46 7 0 (ra eProd []), .row 78 3 0 (ra eForb []), .row 80 5 0 (ra eFoll []), .cells 27 [(.p (.lst 1 (a6.map eStr))), (.p (.lst 7 (a7.map eProd))), (i6 a8), (.p (.lst 3 (a9.map eForb))), (.p (.lst 5 (a10.map eFoll)))], .row 3 1 x0 (ra eI64 x2)]⟩)
abbrev L3_1_d0 (a5 : GramD) (a6 : List ByteArray) (a7 : List ProdD) (a8 : Int) (a9 : List ForbD) (a10 : List FollD) (v1 : Nat) (v4 : List Int) (v2 : Nat) (v3 : Int) : List AB := [bG a5, .row 9 1 0 (ra eStr []), .row 46 7 0 (ra eProd []), .row 78 3 0 (ra eForb []), .row 80 5 0 (ra eFoll []), .cells 27 [(.p (.lst 1 (a6.map eStr))), (.p (.lst 7 (a7.map eProd))), (i6 a8), (.p (.lst 3 (a9.map eForb))), (.p (.lst 5 (a10.map eFoll)))], .row 3 1 v1 (ra eI64 (splice v4 v2 [v3])), .row 3 1 0 [[(i6 v3)]]]
abbrev L3_1_d1 (a5 : GramD) (a6 : List ByteArray) (a7 : List ProdD) (a8 : Int) (a9 : List ForbD) (a10 : List FollD) (v1 : Nat) (v4 : List Int) (v3 : Int) : List AB := [bG a5, .row 9 1 0 (ra eStr []), .row 46 7 0 (ra eProd []), .row 78 3 0 (ra eForb []), .row 80 5 0 (ra eFoll []), .cells 27 [(.p (.lst 1 (a6.map eStr))), (.p (.lst 7 (a7.map eProd))), (i6 a8), (.p (.lst 3 (a9.map eForb))), (.p (.lst 5 (a10.map eFoll)))], .row 3 1 v1 (ra eI64 v4), .row 3 1 0 [[(i6 v3)]]]
abbrev L3_1_d2 (a5 : GramD) (a6 : List ByteArray) (a7 : List ProdD) (a8 : Int) (a9 : List ForbD) (a10 : List FollD) (v1 : Nat) (v4 : List Int) (v2 : Nat) (v3 : Int) : List AB := [bG a5, .row 9 1 0 (ra eStr []), .row 46 7 0 (ra eProd []), .row 78 3 0 (ra eForb []), .row 80 5 0 (ra eFoll []), .cells 27 [(.p (.lst 1 (a6.map eStr))), (.p (.lst 7 (a7.map eProd))), (i6 a8), (.p (.lst 3 (a9.map eForb))), (.p (.lst 5 (a10.map eFoll)))], .row 3 1 (v1 + 1) (ra eI64 (v4.take v2 ++ [v3])), .row 3 1 0 [[(i6 v3)]]]
theorem L3_1_ok (a1 : Int) (a2 : Int) (a3 : List Int) (a4 : Int) (a5 : GramD) (a6 : List ByteArray) (a7 : List ProdD) (a8 : Int) (a9 : List ForbD) (a10 : List FollD) (v1 : Nat) (v2 : Nat) (v3 : Int) (v4 : List Int) {r : E_L3_1 ⊕ (Nat × Nat × Int × (List Int))} (h : L3_1 a1 a5 v1 v2 v3 v4 = some r) : OkR (fun e => L3_1_x a1 a2 a3 a4 a5 a6 a7 a8 a9 a10 e (evH prg 7 [2, 3, 7, 8, 18, 19, 20, 21] ir3_l1 (L3_1_s a1 a2 a3 a4 a5 a6 a7 a8 a9 a10 v1 v2 v3 v4))) (fun s => evH prg 7 [2, 3, 7, 8, 18, 19, 20, 21] ir3_l1 (L3_1_s a1 a2 a3 a4 a5 a6 a7 a8 a9 a10 v1 v2 v3 v4) = evH prg 7 [2, 3, 7, 8, 18, 19, 20, 21] ir3_l1 (L3_1_s a1 a2 a3 a4 a5 a6 a7 a8 a9 a10 s.1 s.2.1 s.2.2.1 s.2.2.2)) r := by
 unfold L3_1 at h
 refine bi h (fun h1 h => ?_) fun h1 h => ?_
 ·
  refine bn h fun x2 h2 h => ?_
  refine bi h (fun h3 h => ?_) fun h3 h => ?_
  ·
   refine bi h (fun h4 h => ?_) fun h4 h => ?_
   ·
    refine bi h (fun h5 h => ?_) fun h5 h => ?_
    ·
     rw [← sj h]
     exact rnd (n := 30) [(99, .v (i6 (a5.prods.length : Int))), (100, .d true), (106, .v (.ro (eProd x2))), (110, .d true), (114, .r (.sl 6 v1 1 0 (v2 + 1)) (L3_1_d0 a5 a6 a7 a8 a9 a10 v1 v4 v2 v3)), (6000, .d true)] (apc (lg a5.prods eProd 7) (apc (cv h1) (apc (ig eProd 7 .i64 h2) (apc (cv h3) (apc ((ap_in (e := eI64) (xs := v4) (news := [v3]) rfl (rows_x (e := eI64) (xs := [v3]) rfl) rfl h4 h5) : appA (L3_1_d1 a5 a6 a7 a8 a9 a10 v1 v4 v3) 3 1 8 (.sl 6 v1 1 0 v2) (.sl 7 0 1 0 1) = some ((.sl 6 v1 1 0 (v2 + 1)), (L3_1_d0 a5 a6 a7 a8 a9 a10 v1 v4 v2 v3))) (apc ((okT_of rfl (abl_cons rfl (abl_cons abl_row (abl_cons abl_row (abl_cons abl_row (abl_cons abl_row (abl_cons rfl (abl_cons abl_row rfl)))))))) : okT 7 (L3_1_d0 a5 a6 a7 a8 a9 a10 v1 v4 v2 v3) = true) apn)))))) (by kernel_rfl)
    ·
     rw [← sj h]
     exact rnd (n := 30) [(99, .v (i6 (a5.prods.length : Int))), (100, .d true), (106, .v (.ro (eProd x2))), (110, .d true), (114, .r (.sl 6 (v1 + 1) 1 0 (v2 + 1)) (L3_1_d2 a5 a6 a7 a8 a9 a10 v1 v4 v2 v3)), (6000, .d true)] (apc (lg a5.prods eProd 7) (apc (cv h1) (apc (ig eProd 7 .i64 h2) (apc (cv h3) (apc ((ap_out (e := eI64) (xs := v4) (news := [v3]) rfl (rows_x (e := eI64) (xs := [v3]) rfl) rfl h4 h5) : appA (L3_1_d1 a5 a6 a7 a8 a9 a10 v1 v4 v3) 3 1 8 (.sl 6 v1 1 0 v2) (.sl 7 0 1 0 1) = some ((.sl 6 (v1 + 1) 1 0 (v2 + 1)), (L3_1_d2 a5 a6 a7 a8 a9 a10 v1 v4 v2 v3))) (apc ((okT_of rfl (abl_cons rfl (abl_cons abl_row (abl_cons abl_row (abl_cons abl_row (abl_cons abl_row (abl_cons rfl (abl_cons abl_row rfl)))))))) : okT 7 (L3_1_d2 a5 a6 a7 a8 a9 a10 v1 v4 v2 v3) = true) apn)))))) (by kernel_rfl)
   ·
    cases h
  ·
   rw [← sj h]
   exact rnd (n := 30) [(99, .v (i6 (a5.prods.length : Int))), (100, .d true), (106, .v (.ro (eProd x2))), (110, .d false), (6000, .d true)] (apc (lg a5.prods eProd 7) (apc (cv h1) (apc (ig eProd 7 .i64 h2) (apc (cv h3) (apc ((okT_of rfl (abl_cons rfl (abl_cons abl_row (abl_cons abl_row (abl_cons abl_row (abl_cons abl_row (abl_cons rfl (abl_cons abl_row rfl)))))))) : okT 7 [bG a5, .row 9 1 0 (ra eStr []), .row 46 7 0 (ra eProd []), .row 78 3 0 (ra eForb []), .row 80 5 0 (ra eFoll []), .cells 27 [(.p (.lst 1 (a6.map eStr))), (.p (.lst 7 (a7.map eProd))), (i6 a8), (.p (.lst 3 (a9.map eForb))), (.p (.lst 5 (a10.map eFoll)))], .row 3 1 v1 (ra eI64 v4)] = true) apn))))) (by kernel_rfl)
 ·
  rw [← sj h]
  exact xbrk (n := 30) [(99, .v (i6 (a5.prods.length : Int))), (100, .d false), (6000, .d true)] (apc (lg a5.prods eProd 7) (apc (cv h1) apn)) (by kernel_rfl)
theorem L3_1_run (a1 : Int) (a2 : Int) (a3 : List Int) (a4 : Int) (a5 : GramD) (a6 : List ByteArray) (a7 : List ProdD) (a8 : Int) (a9 : List ForbD) (a10 : List FollD) (s0 : Nat × Nat × Int × (List Int)) (e : E_L3_1) (h : runL (fun s => L3_1 a1 a5 s.1 s.2.1 s.2.2.1 s.2.2.2) s0 = some e) : L3_1_x a1 a2 a3 a4 a5 a6 a7 a8 a9 a10 e (evH prg 7 [2, 3, 7, 8, 18, 19, 20, 21] ir3_l1 (L3_1_s a1 a2 a3 a4 a5 a6 a7 a8 a9 a10 s0.1 s0.2.1 s0.2.2.1 s0.2.2.2)) := by
  have q := @loop_sound' (Nat × Nat × Int × (List Int)) E_L3_1 (fun s => L3_1 a1 a5 s.1 s.2.1 s.2.2.1 s.2.2.2) (fun s => evH prg 7 [2, 3, 7, 8, 18, 19, 20, 21] ir3_l1 (L3_1_s a1 a2 a3 a4 a5 a6 a7 a8 a9 a10 s.1 s.2.1 s.2.2.1 s.2.2.2)) (L3_1_x a1 a2 a3 a4 a5 a6 a7 a8 a9 a10) (fun s r h => L3_1_ok a1 a2 a3 a4 a5 a6 a7 a8 a9 a10 s.1 s.2.1 s.2.2.1 s.2.2.2 h) s0 e h
  exact q
inductive E_L3_0 where
  | k0
noncomputable def L3_0 (a1 : List Int) : Option (E_L3_0 ⊕ (Unit)) :=
  (bif (decide (0 < (a1.length : Int))) then ((getI a1 0).bind fun x2 => none) else (some (.inl (.k0))))
def L3_0_s (a1 : List Int) (a2 : GramD) (a3 : List ByteArray) (a4 : List ProdD) (a5 : Int) (a6 : List ForbD) (a7 : List FollD) (a8 : Nat) (a9 : List Int) : St := ⟨fr 162 ug [(3, (.ptr 0 0)), (7, (.ptr 5 0)), (18, (.p (.lst 1 (a1.map eI64)))), (20, (.sl 7 0 1 0 0)), (23, (i6 0))], [bG a2, .row 9 1 0 (ra eStr []), .row 46 7 0 (ra eProd []), .row 78 3 0 (ra eForb []), .row 80 5 0 (ra eFoll []), .cells 27 [(.p (.lst 1 (a3.map eStr))), (.p (.lst 7 (a4.map eProd))), (i6 a5), (.p (.lst 3 (a6.map eForb))), (.p (.lst 5 (a7.map eFoll)))], .row 3 1 a8 (ra eI64 a9), .row 3 1 0 (ra eI64 [])]⟩
def L3_0_x (a1 : List Int) (a2 : GramD) (a3 : List ByteArray) (a4 : List ProdD) (a5 : Int) (a6 : List ForbD) (a7 : List FollD) (a8 : Nat) (a9 : List Int) (e : E_L3_0) (r : Option (Out × St)) : Prop := match e with | .k0 => ∃ g, r = some ((.brk 4), ⟨fr 162 g [(3, (.ptr 0 0)), (7, (.ptr 5 0)), (18, (.p (.lst 1 (a1.map eI64)))), (20, (.sl 7 0 1 0 0))], [bG a2, .row 9 1 0 (ra eStr []), .row 46 7 0 (ra eProd []), .row 78 3 0 (ra eForb []), .row 80 5 0 (ra eFoll []), .cells 27 [(.p (.lst 1 (a3.map eStr))), (.p (.lst 7 (a4.map eProd))), (i6 a5), (.p (.lst 3 (a6.map eForb))), (.p (.lst 5 (a7.map eFoll)))], .row 3 1 a8 (ra eI64 a9), .row 3 1 0 (ra eI64 [])]⟩)
theorem L3_0_ok (a1 : List Int) (a2 : GramD) (a3 : List ByteArray) (a4 : List ProdD) (a5 : Int) (a6 : List ForbD) (a7 : List FollD) (a8 : Nat) (a9 : List Int) {r : E_L3_0 ⊕ (Unit)} (h : L3_0 a1 = some r) : OkR (fun e => L3_0_x a1 a2 a3 a4 a5 a6 a7 a8 a9 e (evH prg 8 [3, 7, 18, 20, 23] ir3_l0 (L3_0_s a1 a2 a3 a4 a5 a6 a7 a8 a9))) (fun s => evH prg 8 [3, 7, 18, 20, 23] ir3_l0 (L3_0_s a1 a2 a3 a4 a5 a6 a7 a8 a9) = evH prg 8 [3, 7, 18, 20, 23] ir3_l0 (L3_0_s a1 a2 a3 a4 a5 a6 a7 a8 a9)) r := by
 unfold L3_0 at h
 refine bi h (fun h1 h => ?_) fun h1 h => ?_
 ·
  refine bn h fun x2 h2 h => ?_
  cases h
 ·
  rw [← sj h]
  exact xbrk (n := 30) [(143, .v (i6 (a1.length : Int))), (144, .d false), (6000, .d true)] (apc (lg a1 eI64 1) (apc (cv h1) apn)) (by kernel_rfl)
theorem L3_0_run (a1 : List Int) (a2 : GramD) (a3 : List ByteArray) (a4 : List ProdD) (a5 : Int) (a6 : List ForbD) (a7 : List FollD) (a8 : Nat) (a9 : List Int) (s0 : Unit) (e : E_L3_0) (h : runL (fun s => L3_0 a1) s0 = some e) : L3_0_x a1 a2 a3 a4 a5 a6 a7 a8 a9 e (evH prg 8 [3, 7, 18, 20, 23] ir3_l0 (L3_0_s a1 a2 a3 a4 a5 a6 a7 a8 a9)) := by
  have q := @loop_sound' (Unit) E_L3_0 (fun s => L3_0 a1) (fun s => evH prg 8 [3, 7, 18, 20, 23] ir3_l0 (L3_0_s a1 a2 a3 a4 a5 a6 a7 a8 a9)) (L3_0_x a1 a2 a3 a4 a5 a6 a7 a8 a9) (fun s r h => L3_0_ok a1 a2 a3 a4 a5 a6 a7 a8 a9 h) s0 e h
  exact q
inductive E_L18_4 where
  | k0
  | k1
noncomputable def L18_4 (a1 : GramD) (a2 : GramD) (v1 : Int) : Option (E_L18_4 ⊕ (Int)) :=
  (bif (decide (v1 < (a1.sorts.length : Int))) then ((getI a1.sorts v1).bind fun x2 => ((getI a2.sorts v1).bind fun x3 => (bif (!(x2.toList == x3.toList)) then (some (.inl (.k0))) else (some (.inr ((IntKind.wrap .i64 (v1 + 1)))))))) else (some (.inl (.k1))))
def L18_4_s (a1 : GramD) (a2 : GramD) (v1 : Int) : St := ⟨fr 191 ug [(2, (.ptr 0 0)), (3, (.ptr 1 0)), (5, (i6 v1))], [bG a1, bG a2]⟩
def L18_4_x (a1 : GramD) (a2 : GramD) (e : E_L18_4) (r : Option (Out × St)) : Prop := match e with | .k0 => ∃ g y, r = some (.ret, ⟨fr 191 g [(4, (vb false))], y⟩) | .k1 => ∃ g, r = some ((.brk 0), ⟨fr 191 g [(2, (.ptr 0 0)), (3, (.ptr 1 0))], [bG a1, bG a2]⟩)
theorem L18_4_ok (a1 : GramD) (a2 : GramD) (v1 : Int) {r : E_L18_4 ⊕ (Int)} (h : L18_4 a1 a2 v1 = some r) : OkR (fun e => L18_4_x a1 a2 e (evH prg 2 [2, 3, 5] ir18_l4 (L18_4_s a1 a2 v1))) (fun s => evH prg 2 [2, 3, 5] ir18_l4 (L18_4_s a1 a2 v1) = evH prg 2 [2, 3, 5] ir18_l4 (L18_4_s a1 a2 s)) r := by
 unfold L18_4 at h
 refine bi h (fun h1 h => ?_) fun h1 h => ?_
 ·
  refine bn h fun x2 h2 h => ?_
  refine bn h fun x3 h3 h => ?_
  refine bi h (fun h4 h => ?_) fun h4 h => ?_
  ·
   rw [← sj h]
   exact xretY (n := 30) [(56, .v (i6 (a1.sorts.length : Int))), (57, .d true), (63, .v (.ro [.val (.string x2)])), (68, .v (.ro [.val (.string x3)])), (70, .d true), (6000, .d true)] (apc (lg a1.sorts eStr 1) (apc (cv h1) (apc (ig eStr 1 .i64 h2) (apc (ig eStr 1 .i64 h3) (apc (cv h4) apn))))) (by kernel_rfl)
  ·
   rw [← sj h]
   exact rnd (n := 30) [(56, .v (i6 (a1.sorts.length : Int))), (57, .d true), (63, .v (.ro [.val (.string x2)])), (68, .v (.ro [.val (.string x3)])), (70, .d false), (6000, .d true)] (apc (lg a1.sorts eStr 1) (apc (cv h1) (apc (ig eStr 1 .i64 h2) (apc (ig eStr 1 .i64 h3) (apc (cv h4) (apc ((okT_of rfl (abl_cons rfl (abl_cons rfl rfl))) : okT 2 [bG a1, bG a2] = true) apn)))))) (by kernel_rfl)
 ·
  rw [← sj h]
  exact xbrk (n := 30) [(56, .v (i6 (a1.sorts.length : Int))), (57, .d false), (6000, .d true)] (apc (lg a1.sorts eStr 1) (apc (cv h1) apn)) (by kernel_rfl)
theorem L18_4_run (a1 : GramD) (a2 : GramD) (s0 : Int) (e : E_L18_4) (h : runL (fun s => L18_4 a1 a2 s) s0 = some e) : L18_4_x a1 a2 e (evH prg 2 [2, 3, 5] ir18_l4 (L18_4_s a1 a2 s0)) := by
  have q := @loop_sound' (Int) E_L18_4 (fun s => L18_4 a1 a2 s) (fun s => evH prg 2 [2, 3, 5] ir18_l4 (L18_4_s a1 a2 s)) (L18_4_x a1 a2) (fun s r h => L18_4_ok a1 a2 s h) s0 e h
  exact q
inductive E_L18_2_2 where
  | k0
  | k1
noncomputable def L18_2_2 (a4 : ProdD) (a5 : ProdD) (v1 : Int) : Option (E_L18_2_2 ⊕ (Int)) :=
  (bif (decide (v1 < (a4.right.length : Int))) then ((getI a4.right v1).bind fun x2 => ((getI a5.right v1).bind fun x3 => (bif (!((x2.kind == x3.kind) && ((x2.a == x3.a) && ((x2.b == x3.b) && ((x2.c == x3.c) && ((x2.d == x3.d) && ((x2.sort == x3.sort) && true))))))) then (some (.inl (.k0))) else (some (.inr ((IntKind.wrap .i64 (v1 + 1)))))))) else (some (.inl (.k1))))
def L18_2_2_s (a1 : Int) (a2 : GramD) (a3 : GramD) (a4 : ProdD) (a5 : ProdD) (v1 : Int) : St := ⟨fr 191 ug [(2, (.ptr 0 0)), (3, (.ptr 1 0)), (6, (i6 a1)), (7, (.ptr 3 0)), (8, (.ptr 5 0)), (9, (i6 v1))], [bG a2, bG a3, .row 68 6 0 (ra eSym []), bP a4, .row 68 6 0 (ra eSym []), bP a5]⟩
def L18_2_2_x (a1 : Int) (a2 : GramD) (a3 : GramD) (a4 : ProdD) (a5 : ProdD) (e : E_L18_2_2) (r : Option (Out × St)) : Prop := match e with | .k0 => ∃ g y, r = some (.ret, ⟨fr 191 g [(4, (vb false))], y⟩) | .k1 => ∃ g, r = some ((.brk 4), ⟨fr 191 g [(2, (.ptr 0 0)), (3, (.ptr 1 0)), (6, (i6 a1)), (7, (.ptr 3 0)), (8, (.ptr 5 0))], [bG a2, bG a3, .row 68 6 0 (ra eSym []), bP a4, .row 68 6 0 (ra eSym []), bP a5]⟩)
theorem L18_2_2_ok (a1 : Int) (a2 : GramD) (a3 : GramD) (a4 : ProdD) (a5 : ProdD) (v1 : Int) {r : E_L18_2_2 ⊕ (Int)} (h : L18_2_2 a4 a5 v1 = some r) : OkR (fun e => L18_2_2_x a1 a2 a3 a4 a5 e (evH prg 6 [2, 3, 6, 7, 8, 9] ir18_l2 (L18_2_2_s a1 a2 a3 a4 a5 v1))) (fun s => evH prg 6 [2, 3, 6, 7, 8, 9] ir18_l2 (L18_2_2_s a1 a2 a3 a4 a5 v1) = evH prg 6 [2, 3, 6, 7, 8, 9] ir18_l2 (L18_2_2_s a1 a2 a3 a4 a5 s)) r := by
 unfold L18_2_2 at h
 refine bi h (fun h1 h => ?_) fun h1 h => ?_
 ·
  refine bn h fun x2 h2 h => ?_
  refine bn h fun x3 h3 h => ?_
  refine bi h (fun h4 h => ?_) fun h4 h => ?_
  ·
   rw [← sj h]
   exact xretY (n := 30) [(140, .v (i6 (a4.right.length : Int))), (141, .d true), (147, .v (.ro (eSym x2))), (152, .v (.ro (eSym x3))), (154, .d true), (6000, .d true)] (apc (lg a4.right eSym 6) (apc (cv h1) (apc (ig eSym 6 .i64 h2) (apc (ig eSym 6 .i64 h3) (apc (cv h4) apn))))) (by kernel_rfl)
  ·
   rw [← sj h]
   exact rnd (n := 30) [(140, .v (i6 (a4.right.length : Int))), (141, .d true), (147, .v (.ro (eSym x2))), (152, .v (.ro (eSym x3))), (154, .d false), (6000, .d true)] (apc (lg a4.right eSym 6) (apc (cv h1) (apc (ig eSym 6 .i64 h2) (apc (ig eSym 6 .i64 h3) (apc (cv h4) (apc ((okT_of rfl (abl_cons rfl (abl_cons rfl (abl_cons abl_row (abl_cons rfl (abl_cons abl_row (abl_cons rfl rfl))))))) : okT 6 [bG a2, bG a3, .row 68 6 0 (ra eSym []), bP a4, .row 68 6 0 (ra eSym []), bP a5] = true) apn)))))) (by kernel_rfl)
 ·
  rw [← sj h]
  exact xbrk (n := 30) [(140, .v (i6 (a4.right.length : Int))), (141, .d false), (6000, .d true)] (apc (lg a4.right eSym 6) (apc (cv h1) apn)) (by kernel_rfl)
theorem L18_2_2_run (a1 : Int) (a2 : GramD) (a3 : GramD) (a4 : ProdD) (a5 : ProdD) (s0 : Int) (e : E_L18_2_2) (h : runL (fun s => L18_2_2 a4 a5 s) s0 = some e) : L18_2_2_x a1 a2 a3 a4 a5 e (evH prg 6 [2, 3, 6, 7, 8, 9] ir18_l2 (L18_2_2_s a1 a2 a3 a4 a5 s0)) := by
  have q := @loop_sound' (Int) E_L18_2_2 (fun s => L18_2_2 a4 a5 s) (fun s => evH prg 6 [2, 3, 6, 7, 8, 9] ir18_l2 (L18_2_2_s a1 a2 a3 a4 a5 s)) (L18_2_2_x a1 a2 a3 a4 a5) (fun s r h => L18_2_2_ok a1 a2 a3 a4 a5 s h) s0 e h
  exact q
inductive E_L18_3 where
  | k0
  | k1
noncomputable def L18_3 (a1 : GramD) (a2 : GramD) (v1 : Int) : Option (E_L18_3 ⊕ (Int)) :=
  (bif (decide (v1 < (a1.prods.length : Int))) then ((getI a1.prods v1).bind fun x2 => ((getI a2.prods v1).bind fun x3 => (bif (x2.left != x3.left) then (some (.inl (.k0))) else (bif (!(x2.cons.toList == x3.cons.toList)) then (some (.inl (.k0))) else (bif (x2.role != x3.role) then (some (.inl (.k0))) else (bif (!((x2.prefer == x3.prefer) && true)) then (some (.inl (.k0))) else (bif (!((x2.avoid == x3.avoid) && true)) then (some (.inl (.k0))) else (bif (x2.frm != x3.frm) then (some (.inl (.k0))) else (bif ((x2.right.length : Int) != (x3.right.length : Int)) then (some (.inl (.k0))) else ((runL (fun s => L18_2_2 x2 x3 s) 0).bind fun r11 => match r11 with | .k0 => (some (.inl (.k0))) | .k1 => (some (.inr ((IntKind.wrap .i64 (v1 + 1))))))))))))))) else (some (.inl (.k1))))
def L18_3_s (a1 : GramD) (a2 : GramD) (v1 : Int) : St := ⟨fr 191 ug [(2, (.ptr 0 0)), (3, (.ptr 1 0)), (6, (i6 v1))], [bG a1, bG a2]⟩
def L18_3_x (a1 : GramD) (a2 : GramD) (e : E_L18_3) (r : Option (Out × St)) : Prop := match e with | .k0 => ∃ g y, r = some (.ret, ⟨fr 191 g [(4, (vb false))], y⟩) | .k1 => ∃ g, r = some ((.brk 2), ⟨fr 191 g [(2, (.ptr 0 0)), (3, (.ptr 1 0))], [bG a1, bG a2]⟩)
abbrev L18_3_d0 (a1 : GramD) (a2 : GramD) (x2 : ProdD) (x3 : ProdD) : List AB := [bG a1, bG a2, .row 68 6 0 (ra eSym []), bP x2, .row 68 6 0 (ra eSym []), bP x3]
abbrev L18_3_d1 (g11 : Nat → AV) (v1 : Int) (a1 : GramD) (a2 : GramD) (x2 : ProdD) (x3 : ProdD) : St := ⟨fr 191 g11 [(2, (.ptr 0 0)), (3, (.ptr 1 0)), (6, (i6 v1)), (7, (.ptr 3 0)), (8, (.ptr 5 0))], [bG a1, bG a2, .row 68 6 0 (ra eSym []), bP x2, .row 68 6 0 (ra eSym []), bP x3]⟩
abbrev L18_3_c0 (x2 : ProdD) (x3 : ProdD) : List (Nat × Hint) := [(126, .d false), (131, .v (i6 (x2.right.length : Int))), (134, .v (i6 (x3.right.length : Int)))]
theorem L18_3_ok (a1 : GramD) (a2 : GramD) (v1 : Int) {r : E_L18_3 ⊕ (Int)} (h : L18_3 a1 a2 v1 = some r) : OkR (fun e => L18_3_x a1 a2 e (evH prg 2 [2, 3, 6] ir18_l3 (L18_3_s a1 a2 v1))) (fun s => evH prg 2 [2, 3, 6] ir18_l3 (L18_3_s a1 a2 v1) = evH prg 2 [2, 3, 6] ir18_l3 (L18_3_s a1 a2 s)) r := by
 unfold L18_3 at h
 refine bi h (fun h1 h => ?_) fun h1 h => ?_
 ·
  refine bn h fun x2 h2 h => ?_
  refine bn h fun x3 h3 h => ?_
  refine bi h (fun h4 h => ?_) fun h4 h => ?_
  ·
   rw [← sj h]
   exact xretY (n := 30) [(74, .v (i6 (a1.prods.length : Int))), (75, .d true), (81, .v (.ro (eProd x2))), (86, .v (.ro (eProd x3))), (92, .d true), (6000, .d true)] (apc (lg a1.prods eProd 7) (apc (cv h1) (apc (ig eProd 7 .i64 h2) (apc (ig eProd 7 .i64 h3) (apc (cv h4) apn))))) (by kernel_rfl)
  ·
   refine bi h (fun h5 h => ?_) fun h5 h => ?_
   ·
    rw [← sj h]
    exact xretY (n := 30) [(74, .v (i6 (a1.prods.length : Int))), (75, .d true), (81, .v (.ro (eProd x2))), (86, .v (.ro (eProd x3))), (92, .d false), (98, .d true), (6000, .d true)] (apc (lg a1.prods eProd 7) (apc (cv h1) (apc (ig eProd 7 .i64 h2) (apc (ig eProd 7 .i64 h3) (apc (cv h4) (apc (cv h5) apn)))))) (by kernel_rfl)
   ·
    refine bi h (fun h6 h => ?_) fun h6 h => ?_
    ·
     rw [← sj h]
     exact xretY (n := 30) [(74, .v (i6 (a1.prods.length : Int))), (75, .d true), (81, .v (.ro (eProd x2))), (86, .v (.ro (eProd x3))), (92, .d false), (98, .d false), (105, .d true), (6000, .d true)] (apc (lg a1.prods eProd 7) (apc (cv h1) (apc (ig eProd 7 .i64 h2) (apc (ig eProd 7 .i64 h3) (apc (cv h4) (apc (cv h5) (apc (cv h6) apn))))))) (by kernel_rfl)
    ·
     refine bi h (fun h7 h => ?_) fun h7 h => ?_
     ·
      rw [← sj h]
      exact xretY (n := 30) [(74, .v (i6 (a1.prods.length : Int))), (75, .d true), (81, .v (.ro (eProd x2))), (86, .v (.ro (eProd x3))), (92, .d false), (98, .d false), (105, .d false), (112, .d true), (6000, .d true)] (apc (lg a1.prods eProd 7) (apc (cv h1) (apc (ig eProd 7 .i64 h2) (apc (ig eProd 7 .i64 h3) (apc (cv h4) (apc (cv h5) (apc (cv h6) (apc (cv h7) apn)))))))) (by kernel_rfl)
     ·
      refine bi h (fun h8 h => ?_) fun h8 h => ?_
      ·
       rw [← sj h]
       exact xretY (n := 30) [(74, .v (i6 (a1.prods.length : Int))), (75, .d true), (81, .v (.ro (eProd x2))), (86, .v (.ro (eProd x3))), (92, .d false), (98, .d false), (105, .d false), (112, .d false), (119, .d true), (6000, .d true)] (apc (lg a1.prods eProd 7) (apc (cv h1) (apc (ig eProd 7 .i64 h2) (apc (ig eProd 7 .i64 h3) (apc (cv h4) (apc (cv h5) (apc (cv h6) (apc (cv h7) (apc (cv h8) apn))))))))) (by kernel_rfl)
      ·
       refine bi h (fun h9 h => ?_) fun h9 h => ?_
       ·
        rw [← sj h]
        exact xretY (n := 30) [(74, .v (i6 (a1.prods.length : Int))), (75, .d true), (81, .v (.ro (eProd x2))), (86, .v (.ro (eProd x3))), (92, .d false), (98, .d false), (105, .d false), (112, .d false), (119, .d false), (126, .d true), (6000, .d true)] (apc (lg a1.prods eProd 7) (apc (cv h1) (apc (ig eProd 7 .i64 h2) (apc (ig eProd 7 .i64 h3) (apc (cv h4) (apc (cv h5) (apc (cv h6) (apc (cv h7) (apc (cv h8) (apc (cv h9) apn)))))))))) (by kernel_rfl)
       ·
        refine bi h (fun h10 h => ?_) fun h10 h => ?_
        ·
         rw [← sj h]
         exact xretY (n := 30) ([(74, .v (i6 (a1.prods.length : Int))), (75, .d true), (81, .v (.ro (eProd x2))), (86, .v (.ro (eProd x3))), (92, .d false), (98, .d false), (105, .d false), (112, .d false), (119, .d false)] ++ ((L18_3_c0 x2 x3) ++ [(135, .d true), (6000, .d true)])) (apc (lg a1.prods eProd 7) (apc (cv h1) (apc (ig eProd 7 .i64 h2) (apc (ig eProd 7 .i64 h3) (apc (cv h4) (apc (cv h5) (apc (cv h6) (apc (cv h7) (apc (cv h8) (apc (cv h9) (apc (lg x2.right eSym 6) (apc (lg x3.right eSym 6) (apc (cv h10) apn))))))))))))) (by kernel_rfl)
        ·
         refine bn h fun r11 h11 h => ?_
         cases r11 with
         | k0 =>
          obtain ⟨g11, y11, e11⟩ := L18_2_2_run v1 a1 a2 x2 x3 0 _ h11
          rw [← sj h]
          exact xretY (n := 30) ([(74, .v (i6 (a1.prods.length : Int))), (75, .d true), (81, .v (.ro (eProd x2))), (86, .v (.ro (eProd x3))), (92, .d false), (98, .d false), (105, .d false), (112, .d false), (119, .d false)] ++ ((L18_3_c0 x2 x3) ++ [(135, .d false), (2004, .l .ret ⟨fr 191 g11 [(4, (vb false))], y11⟩), (6000, .d true)])) (apc (lg a1.prods eProd 7) (apc (cv h1) (apc (ig eProd 7 .i64 h2) (apc (ig eProd 7 .i64 h3) (apc (cv h4) (apc (cv h5) (apc (cv h6) (apc (cv h7) (apc (cv h8) (apc (cv h9) (apc (lg x2.right eSym 6) (apc (lg x3.right eSym 6) (apc (cv h10) (apc ((okT_of rfl (abl_cons rfl (abl_cons rfl (abl_cons abl_row (abl_cons rfl (abl_cons abl_row (abl_cons rfl rfl))))))) : okT 6 (L18_3_d0 a1 a2 x2 x3) = true) (apc (e11 : evH prg 6 [2, 3, 6, 7, 8, 9] ir18_l2 (L18_2_2_s v1 a1 a2 x2 x3 0) = some (.ret, ⟨fr 191 g11 [(4, (vb false))], y11⟩)) apn))))))))))))))) (by kernel_rfl)
         | k1 =>
          obtain ⟨g11, e11⟩ := L18_2_2_run v1 a1 a2 x2 x3 0 _ h11
          rw [← sj h]
          exact rnd (n := 30) ([(74, .v (i6 (a1.prods.length : Int))), (75, .d true), (81, .v (.ro (eProd x2))), (86, .v (.ro (eProd x3))), (92, .d false), (98, .d false), (105, .d false), (112, .d false), (119, .d false)] ++ ((L18_3_c0 x2 x3) ++ [(135, .d false), (2004, .l (.brk 4) (L18_3_d1 g11 v1 a1 a2 x2 x3)), (6000, .d true)])) (apc (lg a1.prods eProd 7) (apc (cv h1) (apc (ig eProd 7 .i64 h2) (apc (ig eProd 7 .i64 h3) (apc (cv h4) (apc (cv h5) (apc (cv h6) (apc (cv h7) (apc (cv h8) (apc (cv h9) (apc (lg x2.right eSym 6) (apc (lg x3.right eSym 6) (apc (cv h10) (apc ((okT_of rfl (abl_cons rfl (abl_cons rfl (abl_cons abl_row (abl_cons rfl (abl_cons abl_row (abl_cons rfl rfl))))))) : okT 6 (L18_3_d0 a1 a2 x2 x3) = true) (apc (e11 : evH prg 6 [2, 3, 6, 7, 8, 9] ir18_l2 (L18_2_2_s v1 a1 a2 x2 x3 0) = some ((.brk 4), (L18_3_d1 g11 v1 a1 a2 x2 x3))) (apc ((okT_of rfl (abl_cons rfl (abl_cons rfl rfl))) : okT 2 (L18_3_d0 a1 a2 x2 x3) = true) apn)))))))))))))))) (by kernel_rfl)
 ·
  rw [← sj h]
  exact xbrk (n := 30) [(74, .v (i6 (a1.prods.length : Int))), (75, .d false), (6000, .d true)] (apc (lg a1.prods eProd 7) (apc (cv h1) apn)) (by kernel_rfl)
theorem L18_3_run (a1 : GramD) (a2 : GramD) (s0 : Int) (e : E_L18_3) (h : runL (fun s => L18_3 a1 a2 s) s0 = some e) : L18_3_x a1 a2 e (evH prg 2 [2, 3, 6] ir18_l3 (L18_3_s a1 a2 s0)) := by
  have q := @loop_sound' (Int) E_L18_3 (fun s => L18_3 a1 a2 s) (fun s => evH prg 2 [2, 3, 6] ir18_l3 (L18_3_s a1 a2 s)) (L18_3_x a1 a2) (fun s r h => L18_3_ok a1 a2 s h) s0 e h
  exact q
inductive E_L18_1 where
  | k0
  | k1
noncomputable def L18_1 (a1 : GramD) (a2 : GramD) (v1 : Int) : Option (E_L18_1 ⊕ (Int)) :=
  (bif (decide (v1 < (a1.forbid.length : Int))) then ((getI a1.forbid v1).bind fun x2 => ((getI a2.forbid v1).bind fun x3 => (bif (!((x2.parent == x3.parent) && ((x2.at_ == x3.at_) && ((x2.child == x3.child) && true)))) then (some (.inl (.k0))) else (some (.inr ((IntKind.wrap .i64 (v1 + 1)))))))) else (some (.inl (.k1))))
def L18_1_s (a1 : GramD) (a2 : GramD) (v1 : Int) : St := ⟨fr 191 ug [(2, (.ptr 0 0)), (3, (.ptr 1 0)), (10, (i6 v1))], [bG a1, bG a2]⟩
def L18_1_x (a1 : GramD) (a2 : GramD) (e : E_L18_1) (r : Option (Out × St)) : Prop := match e with | .k0 => ∃ g y, r = some (.ret, ⟨fr 191 g [(4, (vb false))], y⟩) | .k1 => ∃ g, r = some ((.brk 6), ⟨fr 191 g [(2, (.ptr 0 0)), (3, (.ptr 1 0))], [bG a1, bG a2]⟩)
theorem L18_1_ok (a1 : GramD) (a2 : GramD) (v1 : Int) {r : E_L18_1 ⊕ (Int)} (h : L18_1 a1 a2 v1 = some r) : OkR (fun e => L18_1_x a1 a2 e (evH prg 2 [2, 3, 10] ir18_l1 (L18_1_s a1 a2 v1))) (fun s => evH prg 2 [2, 3, 10] ir18_l1 (L18_1_s a1 a2 v1) = evH prg 2 [2, 3, 10] ir18_l1 (L18_1_s a1 a2 s)) r := by
 unfold L18_1 at h
 refine bi h (fun h1 h => ?_) fun h1 h => ?_
 ·
  refine bn h fun x2 h2 h => ?_
  refine bn h fun x3 h3 h => ?_
  refine bi h (fun h4 h => ?_) fun h4 h => ?_
  ·
   rw [← sj h]
   exact xretY (n := 30) [(158, .v (i6 (a1.forbid.length : Int))), (159, .d true), (165, .v (.ro (eForb x2))), (170, .v (.ro (eForb x3))), (172, .d true), (6000, .d true)] (apc (lg a1.forbid eForb 3) (apc (cv h1) (apc (ig eForb 3 .i64 h2) (apc (ig eForb 3 .i64 h3) (apc (cv h4) apn))))) (by kernel_rfl)
  ·
   rw [← sj h]
   exact rnd (n := 30) [(158, .v (i6 (a1.forbid.length : Int))), (159, .d true), (165, .v (.ro (eForb x2))), (170, .v (.ro (eForb x3))), (172, .d false), (6000, .d true)] (apc (lg a1.forbid eForb 3) (apc (cv h1) (apc (ig eForb 3 .i64 h2) (apc (ig eForb 3 .i64 h3) (apc (cv h4) (apc ((okT_of rfl (abl_cons rfl (abl_cons rfl rfl))) : okT 2 [bG a1, bG a2] = true) apn)))))) (by kernel_rfl)
 ·
  rw [← sj h]
  exact xbrk (n := 30) [(158, .v (i6 (a1.forbid.length : Int))), (159, .d false), (6000, .d true)] (apc (lg a1.forbid eForb 3) (apc (cv h1) apn)) (by kernel_rfl)
theorem L18_1_run (a1 : GramD) (a2 : GramD) (s0 : Int) (e : E_L18_1) (h : runL (fun s => L18_1 a1 a2 s) s0 = some e) : L18_1_x a1 a2 e (evH prg 2 [2, 3, 10] ir18_l1 (L18_1_s a1 a2 s0)) := by
  have q := @loop_sound' (Int) E_L18_1 (fun s => L18_1 a1 a2 s) (fun s => evH prg 2 [2, 3, 10] ir18_l1 (L18_1_s a1 a2 s)) (L18_1_x a1 a2) (fun s r h => L18_1_ok a1 a2 s h) s0 e h
  exact q
inductive E_L18_0 where
  | k0
  | k1
noncomputable def L18_0 (a1 : GramD) (a2 : GramD) (v1 : Int) : Option (E_L18_0 ⊕ (Int)) :=
  (bif (decide (v1 < (a1.follow.length : Int))) then ((getI a1.follow v1).bind fun x2 => ((getI a2.follow v1).bind fun x3 => (bif (!((x2.sort == x3.sort) && ((x2.a == x3.a) && ((x2.b == x3.b) && ((x2.c == x3.c) && ((x2.d == x3.d) && true)))))) then (some (.inl (.k0))) else (some (.inr ((IntKind.wrap .i64 (v1 + 1)))))))) else (some (.inl (.k1))))
def L18_0_s (a1 : GramD) (a2 : GramD) (v1 : Int) : St := ⟨fr 191 ug [(2, (.ptr 0 0)), (3, (.ptr 1 0)), (11, (i6 v1))], [bG a1, bG a2]⟩
def L18_0_x (a1 : GramD) (a2 : GramD) (e : E_L18_0) (r : Option (Out × St)) : Prop := match e with | .k0 => ∃ g y, r = some (.ret, ⟨fr 191 g [(4, (vb false))], y⟩) | .k1 => ∃ g, r = some ((.brk 8), ⟨fr 191 g [(2, (.ptr 0 0)), (3, (.ptr 1 0))], [bG a1, bG a2]⟩)
theorem L18_0_ok (a1 : GramD) (a2 : GramD) (v1 : Int) {r : E_L18_0 ⊕ (Int)} (h : L18_0 a1 a2 v1 = some r) : OkR (fun e => L18_0_x a1 a2 e (evH prg 2 [2, 3, 11] ir18_l0 (L18_0_s a1 a2 v1))) (fun s => evH prg 2 [2, 3, 11] ir18_l0 (L18_0_s a1 a2 v1) = evH prg 2 [2, 3, 11] ir18_l0 (L18_0_s a1 a2 s)) r := by
 unfold L18_0 at h
 refine bi h (fun h1 h => ?_) fun h1 h => ?_
 ·
  refine bn h fun x2 h2 h => ?_
  refine bn h fun x3 h3 h => ?_
  refine bi h (fun h4 h => ?_) fun h4 h => ?_
  ·
   rw [← sj h]
   exact xretY (n := 30) [(176, .v (i6 (a1.follow.length : Int))), (177, .d true), (183, .v (.ro (eFoll x2))), (188, .v (.ro (eFoll x3))), (190, .d true), (6000, .d true)] (apc (lg a1.follow eFoll 5) (apc (cv h1) (apc (ig eFoll 5 .i64 h2) (apc (ig eFoll 5 .i64 h3) (apc (cv h4) apn))))) (by kernel_rfl)
  ·
   rw [← sj h]
   exact rnd (n := 30) [(176, .v (i6 (a1.follow.length : Int))), (177, .d true), (183, .v (.ro (eFoll x2))), (188, .v (.ro (eFoll x3))), (190, .d false), (6000, .d true)] (apc (lg a1.follow eFoll 5) (apc (cv h1) (apc (ig eFoll 5 .i64 h2) (apc (ig eFoll 5 .i64 h3) (apc (cv h4) (apc ((okT_of rfl (abl_cons rfl (abl_cons rfl rfl))) : okT 2 [bG a1, bG a2] = true) apn)))))) (by kernel_rfl)
 ·
  rw [← sj h]
  exact xbrk (n := 30) [(176, .v (i6 (a1.follow.length : Int))), (177, .d false), (6000, .d true)] (apc (lg a1.follow eFoll 5) (apc (cv h1) apn)) (by kernel_rfl)
theorem L18_0_run (a1 : GramD) (a2 : GramD) (s0 : Int) (e : E_L18_0) (h : runL (fun s => L18_0 a1 a2 s) s0 = some e) : L18_0_x a1 a2 e (evH prg 2 [2, 3, 11] ir18_l0 (L18_0_s a1 a2 s0)) := by
  have q := @loop_sound' (Int) E_L18_0 (fun s => L18_0 a1 a2 s) (fun s => evH prg 2 [2, 3, 11] ir18_l0 (L18_0_s a1 a2 s)) (L18_0_x a1 a2) (fun s r h => L18_0_ok a1 a2 s h) s0 e h
  exact q
def F18_v (a1 : GramD) (a2 : GramD) (x0 : Bool) : AV := (vb x0)
noncomputable def F18 (a1 : GramD) (a2 : GramD) : Option Bool :=
  (bif (a1.start != a2.start) then (some false) else (bif ((a1.sorts.length : Int) != (a2.sorts.length : Int)) then (some false) else (bif ((a1.prods.length : Int) != (a2.prods.length : Int)) then (some false) else (bif ((a1.forbid.length : Int) != (a2.forbid.length : Int)) then (some false) else (bif ((a1.follow.length : Int) != (a2.follow.length : Int)) then (some false) else ((runL (fun s => L18_4 a1 a2 s) 0).bind fun r6 => match r6 with | .k0 => (some false) | .k1 => ((runL (fun s => L18_3 a1 a2 s) 0).bind fun r7 => match r7 with | .k0 => (some false) | .k1 => ((runL (fun s => L18_1 a1 a2 s) 0).bind fun r8 => match r8 with | .k0 => (some false) | .k1 => ((runL (fun s => L18_0 a1 a2 s) 0).bind fun r9 => match r9 with | .k0 => (some false) | .k1 => (some true))))))))))
abbrev F18_d0 (g6 : Nat → AV) (a1 : GramD) (a2 : GramD) : St := ⟨fr 191 g6 [(2, (.ptr 0 0)), (3, (.ptr 1 0))], [bG a1, bG a2]⟩
abbrev F18_d1 (g7 : Nat → AV) (a1 : GramD) (a2 : GramD) : St := ⟨fr 191 g7 [(2, (.ptr 0 0)), (3, (.ptr 1 0))], [bG a1, bG a2]⟩
abbrev F18_d2 (g8 : Nat → AV) (a1 : GramD) (a2 : GramD) : St := ⟨fr 191 g8 [(2, (.ptr 0 0)), (3, (.ptr 1 0))], [bG a1, bG a2]⟩
abbrev F18_d3 (g9 : Nat → AV) (a1 : GramD) (a2 : GramD) : St := ⟨fr 191 g9 [(2, (.ptr 0 0)), (3, (.ptr 1 0))], [bG a1, bG a2]⟩
abbrev F18_c0 (a1 : GramD) (a2 : GramD) : List (Nat × Hint) := [(16, .d false), (20, .v (i6 (a1.sorts.length : Int))), (23, .v (i6 (a2.sorts.length : Int)))]
abbrev F18_c1 (a1 : GramD) (a2 : GramD) : List (Nat × Hint) := [(24, .d false), (29, .v (i6 (a1.prods.length : Int))), (32, .v (i6 (a2.prods.length : Int)))]
abbrev F18_c2 (a1 : GramD) (a2 : GramD) : List (Nat × Hint) := [(33, .d false), (38, .v (i6 (a1.forbid.length : Int))), (41, .v (i6 (a2.forbid.length : Int)))]
abbrev F18_c3 (a1 : GramD) (a2 : GramD) : List (Nat × Hint) := [(42, .d false), (47, .v (i6 (a1.follow.length : Int))), (50, .v (i6 (a2.follow.length : Int)))]
abbrev F18_c4 (g6 : Nat → AV) (a1 : GramD) (a2 : GramD) : List (Nat × Hint) := [(2000, .l (.brk 0) (F18_d0 g6 a1 a2))]
abbrev F18_c5 (g7 : Nat → AV) (a1 : GramD) (a2 : GramD) : List (Nat × Hint) := [(2002, .l (.brk 2) (F18_d1 g7 a1 a2))]
abbrev F18_c6 (g8 : Nat → AV) (a1 : GramD) (a2 : GramD) : List (Nat × Hint) := [(2006, .l (.brk 6) (F18_d2 g8 a1 a2))]
theorem F18_ok (a1 : GramD) (a2 : GramD) {r : Bool} (h : F18 a1 a2 = some r) : PR1 prg 18 [(aG a1), (aG a2)] (F18_v a1 a2 r) := by
 unfold F18 at h
 refine bi h (fun h1 h => ?_) fun h1 h => ?_
 ·
  rw [← sj h]
  exact fpr (n := 30) [(16, .d true)] (apc (cv h1) apn) rfl (by kernel_rfl)
 ·
  refine bi h (fun h2 h => ?_) fun h2 h => ?_
  ·
   rw [← sj h]
   exact fpr (n := 30) ((F18_c0 a1 a2) ++ [(24, .d true)]) (apc (cv h1) (apc (lg a1.sorts eStr 1) (apc (lg a2.sorts eStr 1) (apc (cv h2) apn)))) rfl (by kernel_rfl)
  ·
   refine bi h (fun h3 h => ?_) fun h3 h => ?_
   ·
    rw [← sj h]
    exact fpr (n := 30) ((F18_c0 a1 a2) ++ ((F18_c1 a1 a2) ++ [(33, .d true)])) (apc (cv h1) (apc (lg a1.sorts eStr 1) (apc (lg a2.sorts eStr 1) (apc (cv h2) (apc (lg a1.prods eProd 7) (apc (lg a2.prods eProd 7) (apc (cv h3) apn))))))) rfl (by kernel_rfl)
   ·
    refine bi h (fun h4 h => ?_) fun h4 h => ?_
    ·
     rw [← sj h]
     exact fpr (n := 30) ((F18_c0 a1 a2) ++ ((F18_c1 a1 a2) ++ ((F18_c2 a1 a2) ++ [(42, .d true)]))) (apc (cv h1) (apc (lg a1.sorts eStr 1) (apc (lg a2.sorts eStr 1) (apc (cv h2) (apc (lg a1.prods eProd 7) (apc (lg a2.prods eProd 7) (apc (cv h3) (apc (lg a1.forbid eForb 3) (apc (lg a2.forbid eForb 3) (apc (cv h4) apn)))))))))) rfl (by kernel_rfl)
    ·
     refine bi h (fun h5 h => ?_) fun h5 h => ?_
     ·
      rw [← sj h]
      exact fpr (n := 30) ((F18_c0 a1 a2) ++ ((F18_c1 a1 a2) ++ ((F18_c2 a1 a2) ++ ((F18_c3 a1 a2) ++ [(51, .d true)])))) (apc (cv h1) (apc (lg a1.sorts eStr 1) (apc (lg a2.sorts eStr 1) (apc (cv h2) (apc (lg a1.prods eProd 7) (apc (lg a2.prods eProd 7) (apc (cv h3) (apc (lg a1.forbid eForb 3) (apc (lg a2.forbid eForb 3) (apc (cv h4) (apc (lg a1.follow eFoll 5) (apc (lg a2.follow eFoll 5) (apc (cv h5) apn))))))))))))) rfl (by kernel_rfl)
     ·
      refine bn h fun r6 h6 h => ?_
      cases r6 with
      | k0 =>
       obtain ⟨g6, y6, e6⟩ := L18_4_run a1 a2 0 _ h6
       rw [← sj h]
       exact fpr (n := 30) ((F18_c0 a1 a2) ++ ((F18_c1 a1 a2) ++ ((F18_c2 a1 a2) ++ ((F18_c3 a1 a2) ++ [(51, .d false), (2000, .l .ret ⟨fr 191 g6 [(4, (vb false))], y6⟩), (6000, .d true)])))) (apc (cv h1) (apc (lg a1.sorts eStr 1) (apc (lg a2.sorts eStr 1) (apc (cv h2) (apc (lg a1.prods eProd 7) (apc (lg a2.prods eProd 7) (apc (cv h3) (apc (lg a1.forbid eForb 3) (apc (lg a2.forbid eForb 3) (apc (cv h4) (apc (lg a1.follow eFoll 5) (apc (lg a2.follow eFoll 5) (apc (cv h5) (apc ((okT_of rfl (abl_cons rfl (abl_cons rfl rfl))) : okT 2 [bG a1, bG a2] = true) (apc (e6 : evH prg 2 [2, 3, 5] ir18_l4 (L18_4_s a1 a2 0) = some (.ret, ⟨fr 191 g6 [(4, (vb false))], y6⟩)) apn))))))))))))))) rfl (by kernel_rfl)
      | k1 =>
       obtain ⟨g6, e6⟩ := L18_4_run a1 a2 0 _ h6
       have q13 := ((okT_of rfl (abl_cons rfl (abl_cons rfl rfl))) : okT 2 [bG a1, bG a2] = true)
       have q14 := (e6 : evH prg 2 [2, 3, 5] ir18_l4 (L18_4_s a1 a2 0) = some ((.brk 0), (F18_d0 g6 a1 a2)))
       refine bn h fun r7 h7 h => ?_
       cases r7 with
       | k0 =>
        obtain ⟨g7, y7, e7⟩ := L18_3_run a1 a2 0 _ h7
        rw [← sj h]
        exact fpr (n := 30) ((F18_c0 a1 a2) ++ ((F18_c1 a1 a2) ++ ((F18_c2 a1 a2) ++ ((F18_c3 a1 a2) ++ ([(51, .d false)] ++ ((F18_c4 g6 a1 a2) ++ [(2002, .l .ret ⟨fr 191 g7 [(4, (vb false))], y7⟩), (6000, .d true)])))))) (apc (cv h1) (apc (lg a1.sorts eStr 1) (apc (lg a2.sorts eStr 1) (apc (cv h2) (apc (lg a1.prods eProd 7) (apc (lg a2.prods eProd 7) (apc (cv h3) (apc (lg a1.forbid eForb 3) (apc (lg a2.forbid eForb 3) (apc (cv h4) (apc (lg a1.follow eFoll 5) (apc (lg a2.follow eFoll 5) (apc (cv h5) (apc q13 (apc q14 (apc ((okT_of rfl (abl_cons rfl (abl_cons rfl rfl))) : okT 2 [bG a1, bG a2] = true) (apc (e7 : evH prg 2 [2, 3, 6] ir18_l3 (L18_3_s a1 a2 0) = some (.ret, ⟨fr 191 g7 [(4, (vb false))], y7⟩)) apn))))))))))))))))) rfl (by kernel_rfl)
       | k1 =>
        obtain ⟨g7, e7⟩ := L18_3_run a1 a2 0 _ h7
        have q15 := ((okT_of rfl (abl_cons rfl (abl_cons rfl rfl))) : okT 2 [bG a1, bG a2] = true)
        have q16 := (e7 : evH prg 2 [2, 3, 6] ir18_l3 (L18_3_s a1 a2 0) = some ((.brk 2), (F18_d1 g7 a1 a2)))
        refine bn h fun r8 h8 h => ?_
        cases r8 with
        | k0 =>
         obtain ⟨g8, y8, e8⟩ := L18_1_run a1 a2 0 _ h8
         rw [← sj h]
         exact fpr (n := 30) ((F18_c0 a1 a2) ++ ((F18_c1 a1 a2) ++ ((F18_c2 a1 a2) ++ ((F18_c3 a1 a2) ++ ([(51, .d false)] ++ ((F18_c4 g6 a1 a2) ++ ((F18_c5 g7 a1 a2) ++ [(2006, .l .ret ⟨fr 191 g8 [(4, (vb false))], y8⟩), (6000, .d true)]))))))) (apc (cv h1) (apc (lg a1.sorts eStr 1) (apc (lg a2.sorts eStr 1) (apc (cv h2) (apc (lg a1.prods eProd 7) (apc (lg a2.prods eProd 7) (apc (cv h3) (apc (lg a1.forbid eForb 3) (apc (lg a2.forbid eForb 3) (apc (cv h4) (apc (lg a1.follow eFoll 5) (apc (lg a2.follow eFoll 5) (apc (cv h5) (apc q13 (apc q14 (apc q15 (apc q16 (apc ((okT_of rfl (abl_cons rfl (abl_cons rfl rfl))) : okT 2 [bG a1, bG a2] = true) (apc (e8 : evH prg 2 [2, 3, 10] ir18_l1 (L18_1_s a1 a2 0) = some (.ret, ⟨fr 191 g8 [(4, (vb false))], y8⟩)) apn))))))))))))))))))) rfl (by kernel_rfl)
        | k1 =>
         obtain ⟨g8, e8⟩ := L18_1_run a1 a2 0 _ h8
         have q17 := ((okT_of rfl (abl_cons rfl (abl_cons rfl rfl))) : okT 2 [bG a1, bG a2] = true)
         have q18 := (e8 : evH prg 2 [2, 3, 10] ir18_l1 (L18_1_s a1 a2 0) = some ((.brk 6), (F18_d2 g8 a1 a2)))
         refine bn h fun r9 h9 h => ?_
         cases r9 with
         | k0 =>
          obtain ⟨g9, y9, e9⟩ := L18_0_run a1 a2 0 _ h9
          rw [← sj h]
          exact fpr (n := 30) ((F18_c0 a1 a2) ++ ((F18_c1 a1 a2) ++ ((F18_c2 a1 a2) ++ ((F18_c3 a1 a2) ++ ([(51, .d false)] ++ ((F18_c4 g6 a1 a2) ++ ((F18_c5 g7 a1 a2) ++ ((F18_c6 g8 a1 a2) ++ [(2008, .l .ret ⟨fr 191 g9 [(4, (vb false))], y9⟩), (6000, .d true)])))))))) (apc (cv h1) (apc (lg a1.sorts eStr 1) (apc (lg a2.sorts eStr 1) (apc (cv h2) (apc (lg a1.prods eProd 7) (apc (lg a2.prods eProd 7) (apc (cv h3) (apc (lg a1.forbid eForb 3) (apc (lg a2.forbid eForb 3) (apc (cv h4) (apc (lg a1.follow eFoll 5) (apc (lg a2.follow eFoll 5) (apc (cv h5) (apc q13 (apc q14 (apc q15 (apc q16 (apc q17 (apc q18 (apc ((okT_of rfl (abl_cons rfl (abl_cons rfl rfl))) : okT 2 [bG a1, bG a2] = true) (apc (e9 : evH prg 2 [2, 3, 11] ir18_l0 (L18_0_s a1 a2 0) = some (.ret, ⟨fr 191 g9 [(4, (vb false))], y9⟩)) apn))))))))))))))))))))) rfl (by kernel_rfl)
         | k1 =>
          obtain ⟨g9, e9⟩ := L18_0_run a1 a2 0 _ h9
          rw [← sj h]
          exact fpr (n := 30) ((F18_c0 a1 a2) ++ ((F18_c1 a1 a2) ++ ((F18_c2 a1 a2) ++ ((F18_c3 a1 a2) ++ ([(51, .d false)] ++ ((F18_c4 g6 a1 a2) ++ ((F18_c5 g7 a1 a2) ++ ((F18_c6 g8 a1 a2) ++ [(2008, .l (.brk 8) (F18_d3 g9 a1 a2)), (6000, .d true)])))))))) (apc (cv h1) (apc (lg a1.sorts eStr 1) (apc (lg a2.sorts eStr 1) (apc (cv h2) (apc (lg a1.prods eProd 7) (apc (lg a2.prods eProd 7) (apc (cv h3) (apc (lg a1.forbid eForb 3) (apc (lg a2.forbid eForb 3) (apc (cv h4) (apc (lg a1.follow eFoll 5) (apc (lg a2.follow eFoll 5) (apc (cv h5) (apc q13 (apc q14 (apc q15 (apc q16 (apc q17 (apc q18 (apc ((okT_of rfl (abl_cons rfl (abl_cons rfl rfl))) : okT 2 [bG a1, bG a2] = true) (apc (e9 : evH prg 2 [2, 3, 11] ir18_l0 (L18_0_s a1 a2 0) = some ((.brk 8), (F18_d3 g9 a1 a2))) apn))))))))))))))))))))) rfl (by kernel_rfl)
inductive E_L3_0_2 where
  | k0
  | k1
noncomputable def L3_0_2 (a1 : List Int) (a3 : Nat) (a10 : List Int) (v1 : Int) : Option (E_L3_0_2 ⊕ (Int)) :=
  (bif (decide (v1 < (a1.length : Int))) then ((getI a1 v1).bind fun x2 => ((ixN a3 v1).bind fun x3 => ((a10[x3]?).bind fun x4 => (bif (x2 != x4) then (some (.inl (.k0))) else (some (.inr ((IntKind.wrap .i64 (v1 + 1))))))))) else (some (.inl (.k1))))
def L3_0_2_s (a1 : List Int) (a2 : Nat) (a3 : Nat) (a4 : GramD) (a5 : List ByteArray) (a6 : List ProdD) (a7 : Int) (a8 : List ForbD) (a9 : List FollD) (a10 : List Int) (v1 : Int) : St := ⟨fr 162 ug [(3, (.ptr 0 0)), (7, (.ptr 5 0)), (18, (.p (.lst 1 (a1.map eI64)))), (20, (.sl 6 a2 1 0 a3)), (23, (i6 v1))], [bG a4, .row 9 1 0 (ra eStr []), .row 46 7 0 (ra eProd []), .row 78 3 0 (ra eForb []), .row 80 5 0 (ra eFoll []), .cells 27 [(.p (.lst 1 (a5.map eStr))), (.p (.lst 7 (a6.map eProd))), (i6 a7), (.p (.lst 3 (a8.map eForb))), (.p (.lst 5 (a9.map eFoll)))], .row 3 1 a2 (ra eI64 a10)]⟩
def L3_0_2_x (a1 : List Int) (a2 : Nat) (a3 : Nat) (a4 : GramD) (a5 : List ByteArray) (a6 : List ProdD) (a7 : Int) (a8 : List ForbD) (a9 : List FollD) (a10 : List Int) (e : E_L3_0_2) (r : Option (Out × St)) : Prop := match e with | .k0 => ∃ g y, r = some (.ret, ⟨fr 162 g [(6, (vb false))], y⟩) | .k1 => ∃ g, r = some ((.brk 4), ⟨fr 162 g [(3, (.ptr 0 0)), (7, (.ptr 5 0)), (18, (.p (.lst 1 (a1.map eI64)))), (20, (.sl 6 a2 1 0 a3))], [bG a4, .row 9 1 0 (ra eStr []), .row 46 7 0 (ra eProd []), .row 78 3 0 (ra eForb []), .row 80 5 0 (ra eFoll []), .cells 27 [(.p (.lst 1 (a5.map eStr))), (.p (.lst 7 (a6.map eProd))), (i6 a7), (.p (.lst 3 (a8.map eForb))), (.p (.lst 5 (a9.map eFoll)))], .row 3 1 a2 (ra eI64 a10)]⟩)
abbrev L3_0_2_d0 (a4 : GramD) (a5 : List ByteArray) (a6 : List ProdD) (a7 : Int) (a8 : List ForbD) (a9 : List FollD) (a2 : Nat) (a10 : List Int) : List AB := [bG a4, .row 9 1 0 (ra eStr []), .row 46 7 0 (ra eProd []), .row 78 3 0 (ra eForb []), .row 80 5 0 (ra eFoll []), .cells 27 [(.p (.lst 1 (a5.map eStr))), (.p (.lst 7 (a6.map eProd))), (i6 a7), (.p (.lst 3 (a8.map eForb))), (.p (.lst 5 (a9.map eFoll)))], .row 3 1 a2 (ra eI64 a10)]
theorem L3_0_2_ok (a1 : List Int) (a2 : Nat) (a3 : Nat) (a4 : GramD) (a5 : List ByteArray) (a6 : List ProdD) (a7 : Int) (a8 : List ForbD) (a9 : List FollD) (a10 : List Int) (v1 : Int) {r : E_L3_0_2 ⊕ (Int)} (h : L3_0_2 a1 a3 a10 v1 = some r) : OkR (fun e => L3_0_2_x a1 a2 a3 a4 a5 a6 a7 a8 a9 a10 e (evH prg 7 [3, 7, 18, 20, 23] ir3_l0 (L3_0_2_s a1 a2 a3 a4 a5 a6 a7 a8 a9 a10 v1))) (fun s => evH prg 7 [3, 7, 18, 20, 23] ir3_l0 (L3_0_2_s a1 a2 a3 a4 a5 a6 a7 a8 a9 a10 v1) = evH prg 7 [3, 7, 18, 20, 23] ir3_l0 (L3_0_2_s a1 a2 a3 a4 a5 a6 a7 a8 a9 a10 s)) r := by
 unfold L3_0_2 at h
 refine bi h (fun h1 h => ?_) fun h1 h => ?_
 ·
  refine bn h fun x2 h2 h => ?_
  refine bn h fun x3 h3 h => ?_
  have q3 := ((idx_sl h3) : idxA 1 (.sl 6 a2 1 0 a3) (i6 v1) = some (.rp 6 a2 1 x3 0))
  refine bn h fun x4 h4 h => ?_
  have q4 := ((ld_row rfl h4 rfl) : ldA (L3_0_2_d0 a4 a5 a6 a7 a8 a9 a2 a10) .false 1 (.rp 6 a2 1 x3 0) = some (i6 x4))
  refine bi h (fun h5 h => ?_) fun h5 h => ?_
  ·
   rw [← sj h]
   exact xretY (n := 30) [(143, .v (i6 (a1.length : Int))), (144, .d true), (149, .v (.ro [.val (.int .i64 x2)])), (153, .v (.rp 6 a2 1 x3 0)), (154, .v (i6 x4)), (155, .d true), (6000, .d true)] (apc (lg a1 eI64 1) (apc (cv h1) (apc (ig eI64 1 .i64 h2) (apc q3 (apc q4 (apc (cv h5) apn)))))) (by kernel_rfl)
  ·
   rw [← sj h]
   exact rnd (n := 30) [(143, .v (i6 (a1.length : Int))), (144, .d true), (149, .v (.ro [.val (.int .i64 x2)])), (153, .v (.rp 6 a2 1 x3 0)), (154, .v (i6 x4)), (155, .d false), (6000, .d true)] (apc (lg a1 eI64 1) (apc (cv h1) (apc (ig eI64 1 .i64 h2) (apc q3 (apc q4 (apc (cv h5) (apc ((okT_of rfl (abl_cons rfl (abl_cons abl_row (abl_cons abl_row (abl_cons abl_row (abl_cons abl_row (abl_cons rfl (abl_cons abl_row rfl)))))))) : okT 7 (L3_0_2_d0 a4 a5 a6 a7 a8 a9 a2 a10) = true) apn))))))) (by kernel_rfl)
 ·
  rw [← sj h]
  exact xbrk (n := 30) [(143, .v (i6 (a1.length : Int))), (144, .d false), (6000, .d true)] (apc (lg a1 eI64 1) (apc (cv h1) apn)) (by kernel_rfl)
theorem L3_0_2_run (a1 : List Int) (a2 : Nat) (a3 : Nat) (a4 : GramD) (a5 : List ByteArray) (a6 : List ProdD) (a7 : Int) (a8 : List ForbD) (a9 : List FollD) (a10 : List Int) (s0 : Int) (e : E_L3_0_2) (h : runL (fun s => L3_0_2 a1 a3 a10 s) s0 = some e) : L3_0_2_x a1 a2 a3 a4 a5 a6 a7 a8 a9 a10 e (evH prg 7 [3, 7, 18, 20, 23] ir3_l0 (L3_0_2_s a1 a2 a3 a4 a5 a6 a7 a8 a9 a10 s0)) := by
  have q := @loop_sound' (Int) E_L3_0_2 (fun s => L3_0_2 a1 a3 a10 s) (fun s => evH prg 7 [3, 7, 18, 20, 23] ir3_l0 (L3_0_2_s a1 a2 a3 a4 a5 a6 a7 a8 a9 a10 s)) (L3_0_2_x a1 a2 a3 a4 a5 a6 a7 a8 a9 a10) (fun s r h => L3_0_2_ok a1 a2 a3 a4 a5 a6 a7 a8 a9 a10 s h) s0 e h
  exact q
def F3_v (a1 : GramD) (a2 : ByteArray) (a3 : Int) (x0 : Bool) : AV := (vb x0)
noncomputable def F3 (Nf : Nat) (a1 : GramD) (a2 : ByteArray) (a3 : Int) : Option Bool :=
  ((F9 a1).bind fun x1 => (bif x1 then ((F10).bind fun x3 => (some x3)) else (bif (decide ((a2.size : Int) > 1500)) then ((F10).bind fun x4 => (some x4)) else ((F11 a1).bind fun r4 => match r4 with | .k0 x4_0 x4_1 x4_2 x4_3 x4_4 => ((F12 a1).bind fun x5 => ((F13 Nf (⟨x4_0, x4_1, x4_2, x4_3, x4_4⟩ : GramD)).bind fun r6 => match r6 with | .k0 x6_0 x6_1 => ((F14 a1).bind fun r7 => match r7 with | .k0 x7_0 x7_1 => ((F15 (⟨x4_0, x4_1, x4_2, x4_3, x4_4⟩ : GramD)).bind fun x8 => (bif (x8 != x5) then (some false) else (bif (x6_0 != x7_0) then (some false) else (bif (x6_1 != x7_1) then (some false) else ((F16 (⟨x4_0, x4_1, x4_2, x4_3, x4_4⟩ : GramD) a2).bind fun r12 => match r12 with | .k0 x12_0 x12_1 => ((runL (fun s => L3_2 a2 a1 s.1 s.2.1 s.2.2) (0, false, (IntKind.wrap .i64 ((a1.sorts.length : Int) - 1)))).bind fun r13 => match r13 with | .k0 x13_0 x13_1 => (bif (x12_0 != x13_0) then (some false) else (bif (!((x12_1 == x13_1) && true)) then (some false) else ((F17 (⟨x4_0, x4_1, x4_2, x4_3, x4_4⟩ : GramD) a3).bind fun r16 => match r16 with | .k0 x16_0 x16_1 => ((runL (fun s => L3_1 a3 a1 s.1 s.2.1 s.2.2.1 s.2.2.2) (0, 0, 0, [])).bind fun r17 => match r17 with | .k0 x17_0 x17_1 x17_2 => (bif (x5 == 0) then (bif (decide (a3 < 0)) then (bif (x16_1 != 4) then (some false) else (bif ((x16_0.length : Int) != 0) then (some false) else ((runL (fun s => L3_0 x16_0) ()).bind fun r22 => match r22 with | .k0 => ((F18 (⟨x4_0, x4_1, x4_2, x4_3, x4_4⟩ : GramD) a1).bind fun x23 => (bif x23 then ((F10).bind fun x25 => (some x25)) else (some false)))))) else (bif (decide (a3 ≥ (a1.sorts.length : Int))) then (bif (x16_1 != 4) then (some false) else (bif ((x16_0.length : Int) != 0) then (some false) else ((runL (fun s => L3_0 x16_0) ()).bind fun r23 => match r23 with | .k0 => ((F18 (⟨x4_0, x4_1, x4_2, x4_3, x4_4⟩ : GramD) a1).bind fun x24 => (bif x24 then ((F10).bind fun x26 => (some x26)) else (some false)))))) else (bif (x5 != 0) then (bif (x16_1 != x5) then (some false) else (bif ((x16_0.length : Int) != 0) then (some false) else ((runL (fun s => L3_0 x16_0) ()).bind fun r24 => match r24 with | .k0 => ((F18 (⟨x4_0, x4_1, x4_2, x4_3, x4_4⟩ : GramD) a1).bind fun x25 => (bif x25 then ((F10).bind fun x27 => (some x27)) else (some false)))))) else (bif (x16_1 != x5) then (some false) else (bif ((x16_0.length : Int) != ((x17_1 : Nat) : Int)) then (some false) else ((runL (fun s => L3_0_2 x16_0 x17_1 x17_2 s) 0).bind fun r24 => match r24 with | .k0 => (some false) | .k1 => ((F18 (⟨x4_0, x4_1, x4_2, x4_3, x4_4⟩ : GramD) a1).bind fun x25 => (bif x25 then ((F10).bind fun x27 => (some x27)) else (some false))))))))) else (bif (x5 != 0) then (bif (x16_1 != x5) then (some false) else (bif ((x16_0.length : Int) != 0) then (some false) else ((runL (fun s => L3_0 x16_0) ()).bind fun r22 => match r22 with | .k0 => ((F18 (⟨x4_0, x4_1, x4_2, x4_3, x4_4⟩ : GramD) a1).bind fun x23 => (bif x23 then ((F10).bind fun x25 => (some x25)) else (some false)))))) else (bif (x16_1 != x5) then (some false) else (bif ((x16_0.length : Int) != ((x17_1 : Nat) : Int)) then (some false) else ((runL (fun s => L3_0_2 x16_0 x17_1 x17_2 s) 0).bind fun r22 => match r22 with | .k0 => (some false) | .k1 => ((F18 (⟨x4_0, x4_1, x4_2, x4_3, x4_4⟩ : GramD) a1).bind fun x23 => (bif x23 then ((F10).bind fun x25 => (some x25)) else (some false)))))))))))))))))))))))))
abbrev F3_d0 (a1 : GramD) (x4_0 : List ByteArray) (x4_1 : List ProdD) (x4_2 : Int) (x4_3 : List ForbD) (x4_4 : List FollD) : List AB := [bG a1, .row 9 1 0 (ra eStr []), .row 46 7 0 (ra eProd []), .row 78 3 0 (ra eForb []), .row 80 5 0 (ra eFoll []), .cells 27 [(.p (.lst 1 (x4_0.map eStr))), (.p (.lst 7 (x4_1.map eProd))), (i6 x4_2), (.p (.lst 3 (x4_3.map eForb))), (.p (.lst 5 (x4_4.map eFoll)))]]
abbrev F3_d1 (g13 : Nat → AV) (a2 : ByteArray) (a3 : Int) (x5 : Int) (x12_0 : Int) (x12_1 : Bool) (x13_0 : Int) (x13_1 : Bool) (a1 : GramD) (x4_0 : List ByteArray) (x4_1 : List ProdD) (x4_2 : Int) (x4_3 : List ForbD) (x4_4 : List FollD) : St := ⟨fr 162 g13 [(1, (vs a2)), (2, (i6 a3)), (3, (.ptr 0 0)), (7, (.ptr 5 0)), (8, (i6 x5)), (13, (i6 x12_0)), (14, (vb x12_1)), (15, (i6 x13_0)), (16, (vb x13_1))], [bG a1, .row 9 1 0 (ra eStr []), .row 46 7 0 (ra eProd []), .row 78 3 0 (ra eForb []), .row 80 5 0 (ra eFoll []), .cells 27 [(.p (.lst 1 (x4_0.map eStr))), (.p (.lst 7 (x4_1.map eProd))), (i6 x4_2), (.p (.lst 3 (x4_3.map eForb))), (.p (.lst 5 (x4_4.map eFoll)))]]⟩
abbrev F3_d2 (g17 : Nat → AV) (a3 : Int) (x5 : Int) (x16_0 : List Int) (x16_1 : Int) (x17_0 : Nat) (x17_1 : Nat) (a1 : GramD) (x4_0 : List ByteArray) (x4_1 : List ProdD) (x4_2 : Int) (x4_3 : List ForbD) (x4_4 : List FollD) (x17_2 : List Int) : St := ⟨fr 162 g17 [(2, (i6 a3)), (3, (.ptr 0 0)), (7, (.ptr 5 0)), (8, (i6 x5)), (18, (.p (.lst 1 (x16_0.map eI64)))), (19, (i6 x16_1)), (20, (.sl 6 x17_0 1 0 x17_1))], [bG a1, .row 9 1 0 (ra eStr []), .row 46 7 0 (ra eProd []), .row 78 3 0 (ra eForb []), .row 80 5 0 (ra eFoll []), .cells 27 [(.p (.lst 1 (x4_0.map eStr))), (.p (.lst 7 (x4_1.map eProd))), (i6 x4_2), (.p (.lst 3 (x4_3.map eForb))), (.p (.lst 5 (x4_4.map eFoll)))], .row 3 1 x17_0 (ra eI64 x17_2)]⟩
abbrev F3_d3 (a1 : GramD) (x4_0 : List ByteArray) (x4_1 : List ProdD) (x4_2 : Int) (x4_3 : List ForbD) (x4_4 : List FollD) (x17_0 : Nat) (x17_2 : List Int) : List AB := [bG a1, .row 9 1 0 (ra eStr []), .row 46 7 0 (ra eProd []), .row 78 3 0 (ra eForb []), .row 80 5 0 (ra eFoll []), .cells 27 [(.p (.lst 1 (x4_0.map eStr))), (.p (.lst 7 (x4_1.map eProd))), (i6 x4_2), (.p (.lst 3 (x4_3.map eForb))), (.p (.lst 5 (x4_4.map eFoll)))], .row 3 1 x17_0 (ra eI64 x17_2), .row 3 1 0 (ra eI64 [])]
abbrev F3_d4 (g22 : Nat → AV) (x16_0 : List Int) (a1 : GramD) (x4_0 : List ByteArray) (x4_1 : List ProdD) (x4_2 : Int) (x4_3 : List ForbD) (x4_4 : List FollD) (x17_0 : Nat) (x17_2 : List Int) : St := ⟨fr 162 g22 [(3, (.ptr 0 0)), (7, (.ptr 5 0)), (18, (.p (.lst 1 (x16_0.map eI64)))), (20, (.sl 7 0 1 0 0))], [bG a1, .row 9 1 0 (ra eStr []), .row 46 7 0 (ra eProd []), .row 78 3 0 (ra eForb []), .row 80 5 0 (ra eFoll []), .cells 27 [(.p (.lst 1 (x4_0.map eStr))), (.p (.lst 7 (x4_1.map eProd))), (i6 x4_2), (.p (.lst 3 (x4_3.map eForb))), (.p (.lst 5 (x4_4.map eFoll)))], .row 3 1 x17_0 (ra eI64 x17_2), .row 3 1 0 (ra eI64 [])]⟩
abbrev F3_d5 (g23 : Nat → AV) (x16_0 : List Int) (a1 : GramD) (x4_0 : List ByteArray) (x4_1 : List ProdD) (x4_2 : Int) (x4_3 : List ForbD) (x4_4 : List FollD) (x17_0 : Nat) (x17_2 : List Int) : St := ⟨fr 162 g23 [(3, (.ptr 0 0)), (7, (.ptr 5 0)), (18, (.p (.lst 1 (x16_0.map eI64)))), (20, (.sl 7 0 1 0 0))], [bG a1, .row 9 1 0 (ra eStr []), .row 46 7 0 (ra eProd []), .row 78 3 0 (ra eForb []), .row 80 5 0 (ra eFoll []), .cells 27 [(.p (.lst 1 (x4_0.map eStr))), (.p (.lst 7 (x4_1.map eProd))), (i6 x4_2), (.p (.lst 3 (x4_3.map eForb))), (.p (.lst 5 (x4_4.map eFoll)))], .row 3 1 x17_0 (ra eI64 x17_2), .row 3 1 0 (ra eI64 [])]⟩
abbrev F3_d6 (g24 : Nat → AV) (x16_0 : List Int) (a1 : GramD) (x4_0 : List ByteArray) (x4_1 : List ProdD) (x4_2 : Int) (x4_3 : List ForbD) (x4_4 : List FollD) (x17_0 : Nat) (x17_2 : List Int) : St := ⟨fr 162 g24 [(3, (.ptr 0 0)), (7, (.ptr 5 0)), (18, (.p (.lst 1 (x16_0.map eI64)))), (20, (.sl 7 0 1 0 0))], [bG a1, .row 9 1 0 (ra eStr []), .row 46 7 0 (ra eProd []), .row 78 3 0 (ra eForb []), .row 80 5 0 (ra eFoll []), .cells 27 [(.p (.lst 1 (x4_0.map eStr))), (.p (.lst 7 (x4_1.map eProd))), (i6 x4_2), (.p (.lst 3 (x4_3.map eForb))), (.p (.lst 5 (x4_4.map eFoll)))], .row 3 1 x17_0 (ra eI64 x17_2), .row 3 1 0 (ra eI64 [])]⟩
abbrev F3_d7 (a1 : GramD) (x4_0 : List ByteArray) (x4_1 : List ProdD) (x4_2 : Int) (x4_3 : List ForbD) (x4_4 : List FollD) (x17_0 : Nat) (x17_2 : List Int) : List AB := [bG a1, .row 9 1 0 (ra eStr []), .row 46 7 0 (ra eProd []), .row 78 3 0 (ra eForb []), .row 80 5 0 (ra eFoll []), .cells 27 [(.p (.lst 1 (x4_0.map eStr))), (.p (.lst 7 (x4_1.map eProd))), (i6 x4_2), (.p (.lst 3 (x4_3.map eForb))), (.p (.lst 5 (x4_4.map eFoll)))], .row 3 1 x17_0 (ra eI64 x17_2)]
abbrev F3_d8 (g24 : Nat → AV) (x16_0 : List Int) (x17_0 : Nat) (x17_1 : Nat) (a1 : GramD) (x4_0 : List ByteArray) (x4_1 : List ProdD) (x4_2 : Int) (x4_3 : List ForbD) (x4_4 : List FollD) (x17_2 : List Int) : St := ⟨fr 162 g24 [(3, (.ptr 0 0)), (7, (.ptr 5 0)), (18, (.p (.lst 1 (x16_0.map eI64)))), (20, (.sl 6 x17_0 1 0 x17_1))], [bG a1, .row 9 1 0 (ra eStr []), .row 46 7 0 (ra eProd []), .row 78 3 0 (ra eForb []), .row 80 5 0 (ra eFoll []), .cells 27 [(.p (.lst 1 (x4_0.map eStr))), (.p (.lst 7 (x4_1.map eProd))), (i6 x4_2), (.p (.lst 3 (x4_3.map eForb))), (.p (.lst 5 (x4_4.map eFoll)))], .row 3 1 x17_0 (ra eI64 x17_2)]⟩
abbrev F3_d9 (g22 : Nat → AV) (x16_0 : List Int) (x17_0 : Nat) (x17_1 : Nat) (a1 : GramD) (x4_0 : List ByteArray) (x4_1 : List ProdD) (x4_2 : Int) (x4_3 : List ForbD) (x4_4 : List FollD) (x17_2 : List Int) : St := ⟨fr 162 g22 [(3, (.ptr 0 0)), (7, (.ptr 5 0)), (18, (.p (.lst 1 (x16_0.map eI64)))), (20, (.sl 6 x17_0 1 0 x17_1))], [bG a1, .row 9 1 0 (ra eStr []), .row 46 7 0 (ra eProd []), .row 78 3 0 (ra eForb []), .row 80 5 0 (ra eFoll []), .cells 27 [(.p (.lst 1 (x4_0.map eStr))), (.p (.lst 7 (x4_1.map eProd))), (i6 x4_2), (.p (.lst 3 (x4_3.map eForb))), (.p (.lst 5 (x4_4.map eFoll)))], .row 3 1 x17_0 (ra eI64 x17_2)]⟩
abbrev F3_c0 (x4_0 : List ByteArray) (x4_1 : List ProdD) (x4_2 : Int) (x4_3 : List ForbD) (x4_4 : List FollD) : List (Nat × Hint) := [(33, .v (.agg [(.p (.lst 1 (x4_0.map eStr))), (.p (.lst 7 (x4_1.map eProd))), (i6 x4_2), (.p (.lst 3 (x4_3.map eForb))), (.p (.lst 5 (x4_4.map eFoll)))]))]
abbrev F3_c1 (g13 : Nat → AV) (a2 : ByteArray) (a3 : Int) (x5 : Int) (x12_0 : Int) (x12_1 : Bool) (x13_0 : Int) (x13_1 : Bool) (a1 : GramD) (x4_0 : List ByteArray) (x4_1 : List ProdD) (x4_2 : Int) (x4_3 : List ForbD) (x4_4 : List FollD) : List (Nat × Hint) := [(2000, .l (.brk 0) (F3_d1 g13 a2 a3 x5 x12_0 x12_1 x13_0 x13_1 a1 x4_0 x4_1 x4_2 x4_3 x4_4))]
abbrev F3_c2 (g17 : Nat → AV) (a3 : Int) (x5 : Int) (x16_0 : List Int) (x16_1 : Int) (x17_0 : Nat) (x17_1 : Nat) (a1 : GramD) (x4_0 : List ByteArray) (x4_1 : List ProdD) (x4_2 : Int) (x4_3 : List ForbD) (x4_4 : List FollD) (x17_2 : List Int) : List (Nat × Hint) := [(2002, .l (.brk 2) (F3_d2 g17 a3 x5 x16_0 x16_1 x17_0 x17_1 a1 x4_0 x4_1 x4_2 x4_3 x4_4 x17_2))]
abbrev F3_c3 (g22 : Nat → AV) (x16_0 : List Int) (a1 : GramD) (x4_0 : List ByteArray) (x4_1 : List ProdD) (x4_2 : Int) (x4_3 : List ForbD) (x4_4 : List FollD) (x17_0 : Nat) (x17_2 : List Int) : List (Nat × Hint) := [(2004, .l (.brk 4) (F3_d4 g22 x16_0 a1 x4_0 x4_1 x4_2 x4_3 x4_4 x17_0 x17_2))]
abbrev F3_c4 (g23 : Nat → AV) (x16_0 : List Int) (a1 : GramD) (x4_0 : List ByteArray) (x4_1 : List ProdD) (x4_2 : Int) (x4_3 : List ForbD) (x4_4 : List FollD) (x17_0 : Nat) (x17_2 : List Int) : List (Nat × Hint) := [(2004, .l (.brk 4) (F3_d5 g23 x16_0 a1 x4_0 x4_1 x4_2 x4_3 x4_4 x17_0 x17_2))]
abbrev F3_c5 (g24 : Nat → AV) (x16_0 : List Int) (a1 : GramD) (x4_0 : List ByteArray) (x4_1 : List ProdD) (x4_2 : Int) (x4_3 : List ForbD) (x4_4 : List FollD) (x17_0 : Nat) (x17_2 : List Int) : List (Nat × Hint) := [(2004, .l (.brk 4) (F3_d6 g24 x16_0 a1 x4_0 x4_1 x4_2 x4_3 x4_4 x17_0 x17_2))]
abbrev F3_c6 (g24 : Nat → AV) (x16_0 : List Int) (x17_0 : Nat) (x17_1 : Nat) (a1 : GramD) (x4_0 : List ByteArray) (x4_1 : List ProdD) (x4_2 : Int) (x4_3 : List ForbD) (x4_4 : List FollD) (x17_2 : List Int) : List (Nat × Hint) := [(2004, .l (.brk 4) (F3_d8 g24 x16_0 x17_0 x17_1 a1 x4_0 x4_1 x4_2 x4_3 x4_4 x17_2))]
abbrev F3_c7 (g22 : Nat → AV) (x16_0 : List Int) (x17_0 : Nat) (x17_1 : Nat) (a1 : GramD) (x4_0 : List ByteArray) (x4_1 : List ProdD) (x4_2 : Int) (x4_3 : List ForbD) (x4_4 : List FollD) (x17_2 : List Int) : List (Nat × Hint) := [(2004, .l (.brk 4) (F3_d9 g22 x16_0 x17_0 x17_1 a1 x4_0 x4_1 x4_2 x4_3 x4_4 x17_2))]
theorem F3_ok (Nf : Nat) (a1 : GramD) (a2 : ByteArray) (a3 : Int) {r : Bool} (h : F3 Nf a1 a2 a3 = some r) : PR1 prg 3 [(aG a1), (vs a2), (i6 a3)] (F3_v a1 a2 a3 r) := by
 unfold F3 at h
 refine bn h fun x1 h1 h => ?_
 refine bi h (fun h2 h => ?_) fun h2 h => ?_
 ·
  refine bn h fun x3 h3 h => ?_
  rw [← sj h]
  exact fpr (n := 30) [(25, .v (vb true)), (31, .v (vb x3))] (apc ((((F9_ok a1 h1).cp rfl _).trans (congrArg (fun z => some (vb z)) h2)) : CP prg 9 [(aG a1)] [bG a1] = some (vb true)) (apc (((F10_ok  h3).cp rfl _) : CP prg 10 [] [bG a1] = some (vb x3)) apn)) rfl (by kernel_rfl)
 ·
  have q0 := ((((F9_ok a1 h1).cp rfl _).trans (congrArg (fun z => some (vb z)) h2)) : CP prg 9 [(aG a1)] [bG a1] = some (vb false))
  refine bi h (fun h3 h => ?_) fun h3 h => ?_
  ·
   refine bn h fun x4 h4 h => ?_
   rw [← sj h]
   exact fpr (n := 30) [(25, .v (vb false)), (29, .d true), (31, .v (vb x4))] (apc q0 (apc (cv h3) (apc (((F10_ok  h4).cp rfl _) : CP prg 10 [] [bG a1] = some (vb x4)) apn))) rfl (by kernel_rfl)
  ·
   refine bn h fun r4 h4 h => ?_
   cases r4 with
   | k0 x4_0 x4_1 x4_2 x4_3 x4_4 =>
    have q2 := (((F11_ok a1 h4).cp rfl _) : CP prg 11 [(aG a1)] [bG a1] = some (.agg [(.p (.lst 1 (x4_0.map eStr))), (.p (.lst 7 (x4_1.map eProd))), (i6 x4_2), (.p (.lst 3 (x4_3.map eForb))), (.p (.lst 5 (x4_4.map eFoll)))]))
    refine bn h fun x5 h5 h => ?_
    have q3 := (((F12_ok a1 h5).cp rfl _) : CP prg 12 [(aG a1)] (F3_d0 a1 x4_0 x4_1 x4_2 x4_3 x4_4) = some (i6 x5))
    refine bn h fun r6 h6 h => ?_
    cases r6 with
    | k0 x6_0 x6_1 =>
     have q4 := (((F13_ok Nf (⟨x4_0, x4_1, x4_2, x4_3, x4_4⟩ : GramD) h6).cp rfl _) : CP prg 13 [(.agg [(.p (.lst 1 (x4_0.map eStr))), (.p (.lst 7 (x4_1.map eProd))), (i6 x4_2), (.p (.lst 3 (x4_3.map eForb))), (.p (.lst 5 (x4_4.map eFoll)))])] (F3_d0 a1 x4_0 x4_1 x4_2 x4_3 x4_4) = some (.tup [(i6 x6_0), (i6 x6_1)]))
     refine bn h fun r7 h7 h => ?_
     cases r7 with
     | k0 x7_0 x7_1 =>
      have q5 := (((F14_ok a1 h7).cp rfl _) : CP prg 14 [(aG a1)] (F3_d0 a1 x4_0 x4_1 x4_2 x4_3 x4_4) = some (.tup [(i6 x7_0), (i6 x7_1)]))
      refine bn h fun x8 h8 h => ?_
      have q6 := (((F15_ok (⟨x4_0, x4_1, x4_2, x4_3, x4_4⟩ : GramD) h8).cp rfl _) : CP prg 15 [(.agg [(.p (.lst 1 (x4_0.map eStr))), (.p (.lst 7 (x4_1.map eProd))), (i6 x4_2), (.p (.lst 3 (x4_3.map eForb))), (.p (.lst 5 (x4_4.map eFoll)))])] (F3_d0 a1 x4_0 x4_1 x4_2 x4_3 x4_4) = some (i6 x8))
      refine bi h (fun h9 h => ?_) fun h9 h => ?_
      ·
       rw [← sj h]
       exact fpr (n := 30) ([(25, .v (vb false)), (29, .d false)] ++ ((F3_c0 x4_0 x4_1 x4_2 x4_3 x4_4) ++ [(35, .v (i6 x5)), (38, .v (.tup [(i6 x6_0), (i6 x6_1)])), (43, .v (.tup [(i6 x7_0), (i6 x7_1)])), (47, .v (i6 x8)), (49, .d true)])) (apc q0 (apc (cv h3) (apc q2 (apc q3 (apc q4 (apc q5 (apc q6 (apc (cv h9) apn)))))))) rfl (by kernel_rfl)
      ·
       refine bi h (fun h10 h => ?_) fun h10 h => ?_
       ·
        rw [← sj h]
        exact fpr (n := 30) ([(25, .v (vb false)), (29, .d false)] ++ ((F3_c0 x4_0 x4_1 x4_2 x4_3 x4_4) ++ [(35, .v (i6 x5)), (38, .v (.tup [(i6 x6_0), (i6 x6_1)])), (43, .v (.tup [(i6 x7_0), (i6 x7_1)])), (47, .v (i6 x8)), (49, .d false), (53, .d true)])) (apc q0 (apc (cv h3) (apc q2 (apc q3 (apc q4 (apc q5 (apc q6 (apc (cv h9) (apc (cv h10) apn))))))))) rfl (by kernel_rfl)
       ·
        refine bi h (fun h11 h => ?_) fun h11 h => ?_
        ·
         rw [← sj h]
         exact fpr (n := 30) ([(25, .v (vb false)), (29, .d false)] ++ ((F3_c0 x4_0 x4_1 x4_2 x4_3 x4_4) ++ [(35, .v (i6 x5)), (38, .v (.tup [(i6 x6_0), (i6 x6_1)])), (43, .v (.tup [(i6 x7_0), (i6 x7_1)])), (47, .v (i6 x8)), (49, .d false), (53, .d false), (58, .d true)])) (apc q0 (apc (cv h3) (apc q2 (apc q3 (apc q4 (apc q5 (apc q6 (apc (cv h9) (apc (cv h10) (apc (cv h11) apn)))))))))) rfl (by kernel_rfl)
        ·
         refine bn h fun r12 h12 h => ?_
         cases r12 with
         | k0 x12_0 x12_1 =>
          have q10 := (((F16_ok (⟨x4_0, x4_1, x4_2, x4_3, x4_4⟩ : GramD) a2 h12).cp rfl _) : CP prg 16 [(.agg [(.p (.lst 1 (x4_0.map eStr))), (.p (.lst 7 (x4_1.map eProd))), (i6 x4_2), (.p (.lst 3 (x4_3.map eForb))), (.p (.lst 5 (x4_4.map eFoll)))]), (vs a2)] (F3_d0 a1 x4_0 x4_1 x4_2 x4_3 x4_4) = some (.tup [(i6 x12_0), (vb x12_1)]))
          refine bn h fun r13 h13 h => ?_
          cases r13 with
          | k0 x13_0 x13_1 =>
           obtain ⟨g13, e13⟩ := L3_2_run a2 a3 x5 x12_0 x12_1 a1 x4_0 x4_1 x4_2 x4_3 x4_4 (0, false, (w6 ((a1.sorts.length : Int) - 1))) _ h13
           have q12 := ((okT_of rfl (abl_cons rfl (abl_cons abl_row (abl_cons abl_row (abl_cons abl_row (abl_cons abl_row (abl_cons rfl rfl))))))) : okT 6 (F3_d0 a1 x4_0 x4_1 x4_2 x4_3 x4_4) = true)
           have q13 := (e13 : evH prg 6 [1, 2, 3, 7, 8, 13, 14, 15, 16, 17] ir3_l2 (L3_2_s a2 a3 x5 x12_0 x12_1 a1 x4_0 x4_1 x4_2 x4_3 x4_4 0 false (w6 ((a1.sorts.length : Int) - 1))) = some ((.brk 0), (F3_d1 g13 a2 a3 x5 x12_0 x12_1 x13_0 x13_1 a1 x4_0 x4_1 x4_2 x4_3 x4_4)))
           refine bi h (fun h14 h => ?_) fun h14 h => ?_
           ·
            rw [← sj h]
            exact fpr (n := 30) ([(25, .v (vb false)), (29, .d false)] ++ ((F3_c0 x4_0 x4_1 x4_2 x4_3 x4_4) ++ ([(35, .v (i6 x5)), (38, .v (.tup [(i6 x6_0), (i6 x6_1)])), (43, .v (.tup [(i6 x7_0), (i6 x7_1)])), (47, .v (i6 x8)), (49, .d false), (53, .d false), (58, .d false), (63, .v (.tup [(i6 x12_0), (vb x12_1)])), (68, .v (i6 (a1.sorts.length : Int)))] ++ ((F3_c1 g13 a2 a3 x5 x12_0 x12_1 x13_0 x13_1 a1 x4_0 x4_1 x4_2 x4_3 x4_4) ++ [(84, .d true), (6000, .d true)])))) (apc q0 (apc (cv h3) (apc q2 (apc q3 (apc q4 (apc q5 (apc q6 (apc (cv h9) (apc (cv h10) (apc (cv h11) (apc q10 (apc (lg a1.sorts eStr 1) (apc q12 (apc q13 (apc (cv h14) apn))))))))))))))) rfl (by kernel_rfl)
           ·
            refine bi h (fun h15 h => ?_) fun h15 h => ?_
            ·
             rw [← sj h]
             exact fpr (n := 30) ([(25, .v (vb false)), (29, .d false)] ++ ((F3_c0 x4_0 x4_1 x4_2 x4_3 x4_4) ++ ([(35, .v (i6 x5)), (38, .v (.tup [(i6 x6_0), (i6 x6_1)])), (43, .v (.tup [(i6 x7_0), (i6 x7_1)])), (47, .v (i6 x8)), (49, .d false), (53, .d false), (58, .d false), (63, .v (.tup [(i6 x12_0), (vb x12_1)])), (68, .v (i6 (a1.sorts.length : Int)))] ++ ((F3_c1 g13 a2 a3 x5 x12_0 x12_1 x13_0 x13_1 a1 x4_0 x4_1 x4_2 x4_3 x4_4) ++ [(84, .d false), (88, .d true), (6000, .d true)])))) (apc q0 (apc (cv h3) (apc q2 (apc q3 (apc q4 (apc q5 (apc q6 (apc (cv h9) (apc (cv h10) (apc (cv h11) (apc q10 (apc (lg a1.sorts eStr 1) (apc q12 (apc q13 (apc (cv h14) (apc (cv h15) apn)))))))))))))))) rfl (by kernel_rfl)
            ·
             refine bn h fun r16 h16 h => ?_
             cases r16 with
             | k0 x16_0 x16_1 =>
              have q16 := (((F17_ok (⟨x4_0, x4_1, x4_2, x4_3, x4_4⟩ : GramD) a3 h16).cp rfl _) : CP prg 17 [(.agg [(.p (.lst 1 (x4_0.map eStr))), (.p (.lst 7 (x4_1.map eProd))), (i6 x4_2), (.p (.lst 3 (x4_3.map eForb))), (.p (.lst 5 (x4_4.map eFoll)))]), (i6 a3)] (F3_d0 a1 x4_0 x4_1 x4_2 x4_3 x4_4) = some (.tup [(.p (.lst 1 (x16_0.map eI64))), (i6 x16_1)]))
              refine bn h fun r17 h17 h => ?_
              cases r17 with
              | k0 x17_0 x17_1 x17_2 =>
               obtain ⟨g17, e17⟩ := L3_1_run a3 x5 x16_0 x16_1 a1 x4_0 x4_1 x4_2 x4_3 x4_4 (0, 0, 0, []) _ h17
               have q17 := ((okT_of rfl (abl_cons rfl (abl_cons abl_row (abl_cons abl_row (abl_cons abl_row (abl_cons abl_row (abl_cons rfl (abl_cons abl_row rfl)))))))) : okT 7 [bG a1, .row 9 1 0 (ra eStr []), .row 46 7 0 (ra eProd []), .row 78 3 0 (ra eForb []), .row 80 5 0 (ra eFoll []), .cells 27 [(.p (.lst 1 (x4_0.map eStr))), (.p (.lst 7 (x4_1.map eProd))), (i6 x4_2), (.p (.lst 3 (x4_3.map eForb))), (.p (.lst 5 (x4_4.map eFoll)))], .row 3 1 0 (ra eI64 [])] = true)
               have q18 := (e17 : evH prg 7 [2, 3, 7, 8, 18, 19, 20, 21] ir3_l1 (L3_1_s a3 x5 x16_0 x16_1 a1 x4_0 x4_1 x4_2 x4_3 x4_4 0 0 0 ([])) = some ((.brk 2), (F3_d2 g17 a3 x5 x16_0 x16_1 x17_0 x17_1 a1 x4_0 x4_1 x4_2 x4_3 x4_4 x17_2)))
               refine bi h (fun h18 h => ?_) fun h18 h => ?_
               ·
                refine bi h (fun h19 h => ?_) fun h19 h => ?_
                ·
                 refine bi h (fun h20 h => ?_) fun h20 h => ?_
                 ·
                  rw [← sj h]
                  exact fpr (n := 30) ([(25, .v (vb false)), (29, .d false)] ++ ((F3_c0 x4_0 x4_1 x4_2 x4_3 x4_4) ++ ([(35, .v (i6 x5)), (38, .v (.tup [(i6 x6_0), (i6 x6_1)])), (43, .v (.tup [(i6 x7_0), (i6 x7_1)])), (47, .v (i6 x8)), (49, .d false), (53, .d false), (58, .d false), (63, .v (.tup [(i6 x12_0), (vb x12_1)])), (68, .v (i6 (a1.sorts.length : Int)))] ++ ((F3_c1 g13 a2 a3 x5 x12_0 x12_1 x13_0 x13_1 a1 x4_0 x4_1 x4_2 x4_3 x4_4) ++ ([(84, .d false), (88, .d false), (93, .v (.tup [(.p (.lst 1 (x16_0.map eI64))), (i6 x16_1)]))] ++ ((F3_c2 g17 a3 x5 x16_0 x16_1 x17_0 x17_1 a1 x4_0 x4_1 x4_2 x4_3 x4_4 x17_2) ++ [(117, .d true), (120, .d true), (133, .d true), (6000, .d true)])))))) (apc q0 (apc (cv h3) (apc q2 (apc q3 (apc q4 (apc q5 (apc q6 (apc (cv h9) (apc (cv h10) (apc (cv h11) (apc q10 (apc (lg a1.sorts eStr 1) (apc q12 (apc q13 (apc (cv h14) (apc (cv h15) (apc q16 (apc q17 (apc q18 (apc (cv h18) (apc (cv h19) (apc (cv h20) apn)))))))))))))))))))))) rfl (by kernel_rfl)
                 ·
                  refine bi h (fun h21 h => ?_) fun h21 h => ?_
                  ·
                   rw [← sj h]
                   exact fpr (n := 30) ([(25, .v (vb false)), (29, .d false)] ++ ((F3_c0 x4_0 x4_1 x4_2 x4_3 x4_4) ++ ([(35, .v (i6 x5)), (38, .v (.tup [(i6 x6_0), (i6 x6_1)])), (43, .v (.tup [(i6 x7_0), (i6 x7_1)])), (47, .v (i6 x8)), (49, .d false), (53, .d false), (58, .d false), (63, .v (.tup [(i6 x12_0), (vb x12_1)])), (68, .v (i6 (a1.sorts.length : Int)))] ++ ((F3_c1 g13 a2 a3 x5 x12_0 x12_1 x13_0 x13_1 a1 x4_0 x4_1 x4_2 x4_3 x4_4) ++ ([(84, .d false), (88, .d false), (93, .v (.tup [(.p (.lst 1 (x16_0.map eI64))), (i6 x16_1)]))] ++ ((F3_c2 g17 a3 x5 x16_0 x16_1 x17_0 x17_1 a1 x4_0 x4_1 x4_2 x4_3 x4_4 x17_2) ++ [(117, .d true), (120, .d true), (133, .d false), (136, .v (i6 (x16_0.length : Int))), (139, .d true), (6000, .d true)])))))) (apc q0 (apc (cv h3) (apc q2 (apc q3 (apc q4 (apc q5 (apc q6 (apc (cv h9) (apc (cv h10) (apc (cv h11) (apc q10 (apc (lg a1.sorts eStr 1) (apc q12 (apc q13 (apc (cv h14) (apc (cv h15) (apc q16 (apc q17 (apc q18 (apc (cv h18) (apc (cv h19) (apc (cv h20) (apc (lg x16_0 eI64 1) (apc (cv h21) apn)))))))))))))))))))))))) rfl (by kernel_rfl)
                  ·
                   refine bn h fun r22 h22 h => ?_
                   cases r22 with
                   | k0 =>
                    obtain ⟨g22, e22⟩ := L3_0_run x16_0 a1 x4_0 x4_1 x4_2 x4_3 x4_4 x17_0 x17_2 () _ h22
                    have q24 := ((okT_of rfl (abl_cons rfl (abl_cons abl_row (abl_cons abl_row (abl_cons abl_row (abl_cons abl_row (abl_cons rfl (abl_cons abl_row (abl_cons abl_row rfl))))))))) : okT 8 (F3_d3 a1 x4_0 x4_1 x4_2 x4_3 x4_4 x17_0 x17_2) = true)
                    have q25 := (e22 : evH prg 8 [3, 7, 18, 20, 23] ir3_l0 (L3_0_s x16_0 a1 x4_0 x4_1 x4_2 x4_3 x4_4 x17_0 x17_2) = some ((.brk 4), (F3_d4 g22 x16_0 a1 x4_0 x4_1 x4_2 x4_3 x4_4 x17_0 x17_2)))
                    refine bn h fun x23 h23 h => ?_
                    refine bi h (fun h24 h => ?_) fun h24 h => ?_
                    ·
                     refine bn h fun x25 h25 h => ?_
                     rw [← sj h]
                     exact fpr (n := 30) ([(25, .v (vb false)), (29, .d false)] ++ ((F3_c0 x4_0 x4_1 x4_2 x4_3 x4_4) ++ ([(35, .v (i6 x5)), (38, .v (.tup [(i6 x6_0), (i6 x6_1)])), (43, .v (.tup [(i6 x7_0), (i6 x7_1)])), (47, .v (i6 x8)), (49, .d false), (53, .d false), (58, .d false), (63, .v (.tup [(i6 x12_0), (vb x12_1)])), (68, .v (i6 (a1.sorts.length : Int)))] ++ ((F3_c1 g13 a2 a3 x5 x12_0 x12_1 x13_0 x13_1 a1 x4_0 x4_1 x4_2 x4_3 x4_4) ++ ([(84, .d false), (88, .d false), (93, .v (.tup [(.p (.lst 1 (x16_0.map eI64))), (i6 x16_1)]))] ++ ((F3_c2 g17 a3 x5 x16_0 x16_1 x17_0 x17_1 a1 x4_0 x4_1 x4_2 x4_3 x4_4 x17_2) ++ ([(117, .d true), (120, .d true), (133, .d false), (136, .v (i6 (x16_0.length : Int))), (139, .d false)] ++ ((F3_c3 g22 x16_0 a1 x4_0 x4_1 x4_2 x4_3 x4_4 x17_0 x17_2) ++ [(158, .v (vb true)), (160, .v (vb x25)), (6000, .d true)])))))))) (apc q0 (apc (cv h3) (apc q2 (apc q3 (apc q4 (apc q5 (apc q6 (apc (cv h9) (apc (cv h10) (apc (cv h11) (apc q10 (apc (lg a1.sorts eStr 1) (apc q12 (apc q13 (apc (cv h14) (apc (cv h15) (apc q16 (apc q17 (apc q18 (apc (cv h18) (apc (cv h19) (apc (cv h20) (apc (lg x16_0 eI64 1) (apc (cv h21) (apc q24 (apc q25 (apc ((((F18_ok (⟨x4_0, x4_1, x4_2, x4_3, x4_4⟩ : GramD) a1 h23).cp rfl _).trans (congrArg (fun z => some (vb z)) h24)) : CP prg 18 [(.agg [(.p (.lst 1 (x4_0.map eStr))), (.p (.lst 7 (x4_1.map eProd))), (i6 x4_2), (.p (.lst 3 (x4_3.map eForb))), (.p (.lst 5 (x4_4.map eFoll)))]), (aG a1)] (F3_d3 a1 x4_0 x4_1 x4_2 x4_3 x4_4 x17_0 x17_2) = some (vb true)) (apc (((F10_ok  h25).cp rfl _) : CP prg 10 [] (F3_d3 a1 x4_0 x4_1 x4_2 x4_3 x4_4 x17_0 x17_2) = some (vb x25)) apn)))))))))))))))))))))))))))) rfl (by kernel_rfl)
                    ·
                     rw [← sj h]
                     exact fpr (n := 30) ([(25, .v (vb false)), (29, .d false)] ++ ((F3_c0 x4_0 x4_1 x4_2 x4_3 x4_4) ++ ([(35, .v (i6 x5)), (38, .v (.tup [(i6 x6_0), (i6 x6_1)])), (43, .v (.tup [(i6 x7_0), (i6 x7_1)])), (47, .v (i6 x8)), (49, .d false), (53, .d false), (58, .d false), (63, .v (.tup [(i6 x12_0), (vb x12_1)])), (68, .v (i6 (a1.sorts.length : Int)))] ++ ((F3_c1 g13 a2 a3 x5 x12_0 x12_1 x13_0 x13_1 a1 x4_0 x4_1 x4_2 x4_3 x4_4) ++ ([(84, .d false), (88, .d false), (93, .v (.tup [(.p (.lst 1 (x16_0.map eI64))), (i6 x16_1)]))] ++ ((F3_c2 g17 a3 x5 x16_0 x16_1 x17_0 x17_1 a1 x4_0 x4_1 x4_2 x4_3 x4_4 x17_2) ++ ([(117, .d true), (120, .d true), (133, .d false), (136, .v (i6 (x16_0.length : Int))), (139, .d false)] ++ ((F3_c3 g22 x16_0 a1 x4_0 x4_1 x4_2 x4_3 x4_4 x17_0 x17_2) ++ [(158, .v (vb false)), (6000, .d true)])))))))) (apc q0 (apc (cv h3) (apc q2 (apc q3 (apc q4 (apc q5 (apc q6 (apc (cv h9) (apc (cv h10) (apc (cv h11) (apc q10 (apc (lg a1.sorts eStr 1) (apc q12 (apc q13 (apc (cv h14) (apc (cv h15) (apc q16 (apc q17 (apc q18 (apc (cv h18) (apc (cv h19) (apc (cv h20) (apc (lg x16_0 eI64 1) (apc (cv h21) (apc q24 (apc q25 (apc ((((F18_ok (⟨x4_0, x4_1, x4_2, x4_3, x4_4⟩ : GramD) a1 h23).cp rfl _).trans (congrArg (fun z => some (vb z)) h24)) : CP prg 18 [(.agg [(.p (.lst 1 (x4_0.map eStr))), (.p (.lst 7 (x4_1.map eProd))), (i6 x4_2), (.p (.lst 3 (x4_3.map eForb))), (.p (.lst 5 (x4_4.map eFoll)))]), (aG a1)] (F3_d3 a1 x4_0 x4_1 x4_2 x4_3 x4_4 x17_0 x17_2) = some (vb false)) apn))))))))))))))))))))))))))) rfl (by kernel_rfl)
                ·
                 refine bi h (fun h20 h => ?_) fun h20 h => ?_
                 ·
                  refine bi h (fun h21 h => ?_) fun h21 h => ?_
                  ·
                   rw [← sj h]
                   exact fpr (n := 30) ([(25, .v (vb false)), (29, .d false)] ++ ((F3_c0 x4_0 x4_1 x4_2 x4_3 x4_4) ++ ([(35, .v (i6 x5)), (38, .v (.tup [(i6 x6_0), (i6 x6_1)])), (43, .v (.tup [(i6 x7_0), (i6 x7_1)])), (47, .v (i6 x8)), (49, .d false), (53, .d false), (58, .d false), (63, .v (.tup [(i6 x12_0), (vb x12_1)])), (68, .v (i6 (a1.sorts.length : Int)))] ++ ((F3_c1 g13 a2 a3 x5 x12_0 x12_1 x13_0 x13_1 a1 x4_0 x4_1 x4_2 x4_3 x4_4) ++ ([(84, .d false), (88, .d false), (93, .v (.tup [(.p (.lst 1 (x16_0.map eI64))), (i6 x16_1)]))] ++ ((F3_c2 g17 a3 x5 x16_0 x16_1 x17_0 x17_1 a1 x4_0 x4_1 x4_2 x4_3 x4_4 x17_2) ++ [(117, .d true), (120, .d false), (125, .v (i6 (a1.sorts.length : Int))), (126, .d true), (133, .d true), (6000, .d true)])))))) (apc q0 (apc (cv h3) (apc q2 (apc q3 (apc q4 (apc q5 (apc q6 (apc (cv h9) (apc (cv h10) (apc (cv h11) (apc q10 (apc (lg a1.sorts eStr 1) (apc q12 (apc q13 (apc (cv h14) (apc (cv h15) (apc q16 (apc q17 (apc q18 (apc (cv h18) (apc (cv h19) (apc (lg a1.sorts eStr 1) (apc (cv h20) (apc (cv h21) apn)))))))))))))))))))))))) rfl (by kernel_rfl)
                  ·
                   refine bi h (fun h22 h => ?_) fun h22 h => ?_
                   ·
                    rw [← sj h]
                    exact fpr (n := 30) ([(25, .v (vb false)), (29, .d false)] ++ ((F3_c0 x4_0 x4_1 x4_2 x4_3 x4_4) ++ ([(35, .v (i6 x5)), (38, .v (.tup [(i6 x6_0), (i6 x6_1)])), (43, .v (.tup [(i6 x7_0), (i6 x7_1)])), (47, .v (i6 x8)), (49, .d false), (53, .d false), (58, .d false), (63, .v (.tup [(i6 x12_0), (vb x12_1)])), (68, .v (i6 (a1.sorts.length : Int)))] ++ ((F3_c1 g13 a2 a3 x5 x12_0 x12_1 x13_0 x13_1 a1 x4_0 x4_1 x4_2 x4_3 x4_4) ++ ([(84, .d false), (88, .d false), (93, .v (.tup [(.p (.lst 1 (x16_0.map eI64))), (i6 x16_1)]))] ++ ((F3_c2 g17 a3 x5 x16_0 x16_1 x17_0 x17_1 a1 x4_0 x4_1 x4_2 x4_3 x4_4 x17_2) ++ [(117, .d true), (120, .d false), (125, .v (i6 (a1.sorts.length : Int))), (126, .d true), (133, .d false), (136, .v (i6 (x16_0.length : Int))), (139, .d true), (6000, .d true)])))))) (apc q0 (apc (cv h3) (apc q2 (apc q3 (apc q4 (apc q5 (apc q6 (apc (cv h9) (apc (cv h10) (apc (cv h11) (apc q10 (apc (lg a1.sorts eStr 1) (apc q12 (apc q13 (apc (cv h14) (apc (cv h15) (apc q16 (apc q17 (apc q18 (apc (cv h18) (apc (cv h19) (apc (lg a1.sorts eStr 1) (apc (cv h20) (apc (cv h21) (apc (lg x16_0 eI64 1) (apc (cv h22) apn)))))))))))))))))))))))))) rfl (by kernel_rfl)
                   ·
                    refine bn h fun r23 h23 h => ?_
                    cases r23 with
                    | k0 =>
                     obtain ⟨g23, e23⟩ := L3_0_run x16_0 a1 x4_0 x4_1 x4_2 x4_3 x4_4 x17_0 x17_2 () _ h23
                     have q26 := ((okT_of rfl (abl_cons rfl (abl_cons abl_row (abl_cons abl_row (abl_cons abl_row (abl_cons abl_row (abl_cons rfl (abl_cons abl_row (abl_cons abl_row rfl))))))))) : okT 8 (F3_d3 a1 x4_0 x4_1 x4_2 x4_3 x4_4 x17_0 x17_2) = true)
                     have q27 := (e23 : evH prg 8 [3, 7, 18, 20, 23] ir3_l0 (L3_0_s x16_0 a1 x4_0 x4_1 x4_2 x4_3 x4_4 x17_0 x17_2) = some ((.brk 4), (F3_d5 g23 x16_0 a1 x4_0 x4_1 x4_2 x4_3 x4_4 x17_0 x17_2)))
                     refine bn h fun x24 h24 h => ?_
                     refine bi h (fun h25 h => ?_) fun h25 h => ?_
                     ·
                      refine bn h fun x26 h26 h => ?_
                      rw [← sj h]
                      exact fpr (n := 30) ([(25, .v (vb false)), (29, .d false)] ++ ((F3_c0 x4_0 x4_1 x4_2 x4_3 x4_4) ++ ([(35, .v (i6 x5)), (38, .v (.tup [(i6 x6_0), (i6 x6_1)])), (43, .v (.tup [(i6 x7_0), (i6 x7_1)])), (47, .v (i6 x8)), (49, .d false), (53, .d false), (58, .d false), (63, .v (.tup [(i6 x12_0), (vb x12_1)])), (68, .v (i6 (a1.sorts.length : Int)))] ++ ((F3_c1 g13 a2 a3 x5 x12_0 x12_1 x13_0 x13_1 a1 x4_0 x4_1 x4_2 x4_3 x4_4) ++ ([(84, .d false), (88, .d false), (93, .v (.tup [(.p (.lst 1 (x16_0.map eI64))), (i6 x16_1)]))] ++ ((F3_c2 g17 a3 x5 x16_0 x16_1 x17_0 x17_1 a1 x4_0 x4_1 x4_2 x4_3 x4_4 x17_2) ++ ([(117, .d true), (120, .d false), (125, .v (i6 (a1.sorts.length : Int))), (126, .d true), (133, .d false), (136, .v (i6 (x16_0.length : Int))), (139, .d false)] ++ ((F3_c4 g23 x16_0 a1 x4_0 x4_1 x4_2 x4_3 x4_4 x17_0 x17_2) ++ [(158, .v (vb true)), (160, .v (vb x26)), (6000, .d true)])))))))) (apc q0 (apc (cv h3) (apc q2 (apc q3 (apc q4 (apc q5 (apc q6 (apc (cv h9) (apc (cv h10) (apc (cv h11) (apc q10 (apc (lg a1.sorts eStr 1) (apc q12 (apc q13 (apc (cv h14) (apc (cv h15) (apc q16 (apc q17 (apc q18 (apc (cv h18) (apc (cv h19) (apc (lg a1.sorts eStr 1) (apc (cv h20) (apc (cv h21) (apc (lg x16_0 eI64 1) (apc (cv h22) (apc q26 (apc q27 (apc ((((F18_ok (⟨x4_0, x4_1, x4_2, x4_3, x4_4⟩ : GramD) a1 h24).cp rfl _).trans (congrArg (fun z => some (vb z)) h25)) : CP prg 18 [(.agg [(.p (.lst 1 (x4_0.map eStr))), (.p (.lst 7 (x4_1.map eProd))), (i6 x4_2), (.p (.lst 3 (x4_3.map eForb))), (.p (.lst 5 (x4_4.map eFoll)))]), (aG a1)] (F3_d3 a1 x4_0 x4_1 x4_2 x4_3 x4_4 x17_0 x17_2) = some (vb true)) (apc (((F10_ok  h26).cp rfl _) : CP prg 10 [] (F3_d3 a1 x4_0 x4_1 x4_2 x4_3 x4_4 x17_0 x17_2) = some (vb x26)) apn)))))))))))))))))))))))))))))) rfl (by kernel_rfl)
                     ·
                      rw [← sj h]
                      exact fpr (n := 30) ([(25, .v (vb false)), (29, .d false)] ++ ((F3_c0 x4_0 x4_1 x4_2 x4_3 x4_4) ++ ([(35, .v (i6 x5)), (38, .v (.tup [(i6 x6_0), (i6 x6_1)])), (43, .v (.tup [(i6 x7_0), (i6 x7_1)])), (47, .v (i6 x8)), (49, .d false), (53, .d false), (58, .d false), (63, .v (.tup [(i6 x12_0), (vb x12_1)])), (68, .v (i6 (a1.sorts.length : Int)))] ++ ((F3_c1 g13 a2 a3 x5 x12_0 x12_1 x13_0 x13_1 a1 x4_0 x4_1 x4_2 x4_3 x4_4) ++ ([(84, .d false), (88, .d false), (93, .v (.tup [(.p (.lst 1 (x16_0.map eI64))), (i6 x16_1)]))] ++ ((F3_c2 g17 a3 x5 x16_0 x16_1 x17_0 x17_1 a1 x4_0 x4_1 x4_2 x4_3 x4_4 x17_2) ++ ([(117, .d true), (120, .d false), (125, .v (i6 (a1.sorts.length : Int))), (126, .d true), (133, .d false), (136, .v (i6 (x16_0.length : Int))), (139, .d false)] ++ ((F3_c4 g23 x16_0 a1 x4_0 x4_1 x4_2 x4_3 x4_4 x17_0 x17_2) ++ [(158, .v (vb false)), (6000, .d true)])))))))) (apc q0 (apc (cv h3) (apc q2 (apc q3 (apc q4 (apc q5 (apc q6 (apc (cv h9) (apc (cv h10) (apc (cv h11) (apc q10 (apc (lg a1.sorts eStr 1) (apc q12 (apc q13 (apc (cv h14) (apc (cv h15) (apc q16 (apc q17 (apc q18 (apc (cv h18) (apc (cv h19) (apc (lg a1.sorts eStr 1) (apc (cv h20) (apc (cv h21) (apc (lg x16_0 eI64 1) (apc (cv h22) (apc q26 (apc q27 (apc ((((F18_ok (⟨x4_0, x4_1, x4_2, x4_3, x4_4⟩ : GramD) a1 h24).cp rfl _).trans (congrArg (fun z => some (vb z)) h25)) : CP prg 18 [(.agg [(.p (.lst 1 (x4_0.map eStr))), (.p (.lst 7 (x4_1.map eProd))), (i6 x4_2), (.p (.lst 3 (x4_3.map eForb))), (.p (.lst 5 (x4_4.map eFoll)))]), (aG a1)] (F3_d3 a1 x4_0 x4_1 x4_2 x4_3 x4_4 x17_0 x17_2) = some (vb false)) apn))))))))))))))))))))))))))))) rfl (by kernel_rfl)
                 ·
                  refine bi h (fun h21 h => ?_) fun h21 h => ?_
                  ·
                   refine bi h (fun h22 h => ?_) fun h22 h => ?_
                   ·
                    rw [← sj h]
                    exact fpr (n := 30) ([(25, .v (vb false)), (29, .d false)] ++ ((F3_c0 x4_0 x4_1 x4_2 x4_3 x4_4) ++ ([(35, .v (i6 x5)), (38, .v (.tup [(i6 x6_0), (i6 x6_1)])), (43, .v (.tup [(i6 x7_0), (i6 x7_1)])), (47, .v (i6 x8)), (49, .d false), (53, .d false), (58, .d false), (63, .v (.tup [(i6 x12_0), (vb x12_1)])), (68, .v (i6 (a1.sorts.length : Int)))] ++ ((F3_c1 g13 a2 a3 x5 x12_0 x12_1 x13_0 x13_1 a1 x4_0 x4_1 x4_2 x4_3 x4_4) ++ ([(84, .d false), (88, .d false), (93, .v (.tup [(.p (.lst 1 (x16_0.map eI64))), (i6 x16_1)]))] ++ ((F3_c2 g17 a3 x5 x16_0 x16_1 x17_0 x17_1 a1 x4_0 x4_1 x4_2 x4_3 x4_4 x17_2) ++ [(117, .d true), (120, .d false), (125, .v (i6 (a1.sorts.length : Int))), (126, .d false), (130, .d true), (133, .d true), (6000, .d true)])))))) (apc q0 (apc (cv h3) (apc q2 (apc q3 (apc q4 (apc q5 (apc q6 (apc (cv h9) (apc (cv h10) (apc (cv h11) (apc q10 (apc (lg a1.sorts eStr 1) (apc q12 (apc q13 (apc (cv h14) (apc (cv h15) (apc q16 (apc q17 (apc q18 (apc (cv h18) (apc (cv h19) (apc (lg a1.sorts eStr 1) (apc (cv h20) (apc (cv h21) (apc (cv h22) apn))))))))))))))))))))))))) rfl (by kernel_rfl)
                   ·
                    refine bi h (fun h23 h => ?_) fun h23 h => ?_
                    ·
                     rw [← sj h]
                     exact fpr (n := 30) ([(25, .v (vb false)), (29, .d false)] ++ ((F3_c0 x4_0 x4_1 x4_2 x4_3 x4_4) ++ ([(35, .v (i6 x5)), (38, .v (.tup [(i6 x6_0), (i6 x6_1)])), (43, .v (.tup [(i6 x7_0), (i6 x7_1)])), (47, .v (i6 x8)), (49, .d false), (53, .d false), (58, .d false), (63, .v (.tup [(i6 x12_0), (vb x12_1)])), (68, .v (i6 (a1.sorts.length : Int)))] ++ ((F3_c1 g13 a2 a3 x5 x12_0 x12_1 x13_0 x13_1 a1 x4_0 x4_1 x4_2 x4_3 x4_4) ++ ([(84, .d false), (88, .d false), (93, .v (.tup [(.p (.lst 1 (x16_0.map eI64))), (i6 x16_1)]))] ++ ((F3_c2 g17 a3 x5 x16_0 x16_1 x17_0 x17_1 a1 x4_0 x4_1 x4_2 x4_3 x4_4 x17_2) ++ [(117, .d true), (120, .d false), (125, .v (i6 (a1.sorts.length : Int))), (126, .d false), (130, .d true), (133, .d false), (136, .v (i6 (x16_0.length : Int))), (139, .d true), (6000, .d true)])))))) (apc q0 (apc (cv h3) (apc q2 (apc q3 (apc q4 (apc q5 (apc q6 (apc (cv h9) (apc (cv h10) (apc (cv h11) (apc q10 (apc (lg a1.sorts eStr 1) (apc q12 (apc q13 (apc (cv h14) (apc (cv h15) (apc q16 (apc q17 (apc q18 (apc (cv h18) (apc (cv h19) (apc (lg a1.sorts eStr 1) (apc (cv h20) (apc (cv h21) (apc (cv h22) (apc (lg x16_0 eI64 1) (apc (cv h23) apn))))))))))))))))))))))))))) rfl (by kernel_rfl)
                    ·
                     refine bn h fun r24 h24 h => ?_
                     cases r24 with
                     | k0 =>
                      obtain ⟨g24, e24⟩ := L3_0_run x16_0 a1 x4_0 x4_1 x4_2 x4_3 x4_4 x17_0 x17_2 () _ h24
                      have q27 := ((okT_of rfl (abl_cons rfl (abl_cons abl_row (abl_cons abl_row (abl_cons abl_row (abl_cons abl_row (abl_cons rfl (abl_cons abl_row (abl_cons abl_row rfl))))))))) : okT 8 (F3_d3 a1 x4_0 x4_1 x4_2 x4_3 x4_4 x17_0 x17_2) = true)
                      have q28 := (e24 : evH prg 8 [3, 7, 18, 20, 23] ir3_l0 (L3_0_s x16_0 a1 x4_0 x4_1 x4_2 x4_3 x4_4 x17_0 x17_2) = some ((.brk 4), (F3_d6 g24 x16_0 a1 x4_0 x4_1 x4_2 x4_3 x4_4 x17_0 x17_2)))
                      refine bn h fun x25 h25 h => ?_
                      refine bi h (fun h26 h => ?_) fun h26 h => ?_
                      ·
                       refine bn h fun x27 h27 h => ?_
                       rw [← sj h]
                       exact fpr (n := 30) ([(25, .v (vb false)), (29, .d false)] ++ ((F3_c0 x4_0 x4_1 x4_2 x4_3 x4_4) ++ ([(35, .v (i6 x5)), (38, .v (.tup [(i6 x6_0), (i6 x6_1)])), (43, .v (.tup [(i6 x7_0), (i6 x7_1)])), (47, .v (i6 x8)), (49, .d false), (53, .d false), (58, .d false), (63, .v (.tup [(i6 x12_0), (vb x12_1)])), (68, .v (i6 (a1.sorts.length : Int)))] ++ ((F3_c1 g13 a2 a3 x5 x12_0 x12_1 x13_0 x13_1 a1 x4_0 x4_1 x4_2 x4_3 x4_4) ++ ([(84, .d false), (88, .d false), (93, .v (.tup [(.p (.lst 1 (x16_0.map eI64))), (i6 x16_1)]))] ++ ((F3_c2 g17 a3 x5 x16_0 x16_1 x17_0 x17_1 a1 x4_0 x4_1 x4_2 x4_3 x4_4 x17_2) ++ ([(117, .d true), (120, .d false), (125, .v (i6 (a1.sorts.length : Int))), (126, .d false), (130, .d true), (133, .d false), (136, .v (i6 (x16_0.length : Int))), (139, .d false)] ++ ((F3_c5 g24 x16_0 a1 x4_0 x4_1 x4_2 x4_3 x4_4 x17_0 x17_2) ++ [(158, .v (vb true)), (160, .v (vb x27)), (6000, .d true)])))))))) (apc q0 (apc (cv h3) (apc q2 (apc q3 (apc q4 (apc q5 (apc q6 (apc (cv h9) (apc (cv h10) (apc (cv h11) (apc q10 (apc (lg a1.sorts eStr 1) (apc q12 (apc q13 (apc (cv h14) (apc (cv h15) (apc q16 (apc q17 (apc q18 (apc (cv h18) (apc (cv h19) (apc (lg a1.sorts eStr 1) (apc (cv h20) (apc (cv h21) (apc (cv h22) (apc (lg x16_0 eI64 1) (apc (cv h23) (apc q27 (apc q28 (apc ((((F18_ok (⟨x4_0, x4_1, x4_2, x4_3, x4_4⟩ : GramD) a1 h25).cp rfl _).trans (congrArg (fun z => some (vb z)) h26)) : CP prg 18 [(.agg [(.p (.lst 1 (x4_0.map eStr))), (.p (.lst 7 (x4_1.map eProd))), (i6 x4_2), (.p (.lst 3 (x4_3.map eForb))), (.p (.lst 5 (x4_4.map eFoll)))]), (aG a1)] (F3_d3 a1 x4_0 x4_1 x4_2 x4_3 x4_4 x17_0 x17_2) = some (vb true)) (apc (((F10_ok  h27).cp rfl _) : CP prg 10 [] (F3_d3 a1 x4_0 x4_1 x4_2 x4_3 x4_4 x17_0 x17_2) = some (vb x27)) apn))))))))))))))))))))))))))))))) rfl (by kernel_rfl)
                      ·
                       rw [← sj h]
                       exact fpr (n := 30) ([(25, .v (vb false)), (29, .d false)] ++ ((F3_c0 x4_0 x4_1 x4_2 x4_3 x4_4) ++ ([(35, .v (i6 x5)), (38, .v (.tup [(i6 x6_0), (i6 x6_1)])), (43, .v (.tup [(i6 x7_0), (i6 x7_1)])), (47, .v (i6 x8)), (49, .d false), (53, .d false), (58, .d false), (63, .v (.tup [(i6 x12_0), (vb x12_1)])), (68, .v (i6 (a1.sorts.length : Int)))] ++ ((F3_c1 g13 a2 a3 x5 x12_0 x12_1 x13_0 x13_1 a1 x4_0 x4_1 x4_2 x4_3 x4_4) ++ ([(84, .d false), (88, .d false), (93, .v (.tup [(.p (.lst 1 (x16_0.map eI64))), (i6 x16_1)]))] ++ ((F3_c2 g17 a3 x5 x16_0 x16_1 x17_0 x17_1 a1 x4_0 x4_1 x4_2 x4_3 x4_4 x17_2) ++ ([(117, .d true), (120, .d false), (125, .v (i6 (a1.sorts.length : Int))), (126, .d false), (130, .d true), (133, .d false), (136, .v (i6 (x16_0.length : Int))), (139, .d false)] ++ ((F3_c5 g24 x16_0 a1 x4_0 x4_1 x4_2 x4_3 x4_4 x17_0 x17_2) ++ [(158, .v (vb false)), (6000, .d true)])))))))) (apc q0 (apc (cv h3) (apc q2 (apc q3 (apc q4 (apc q5 (apc q6 (apc (cv h9) (apc (cv h10) (apc (cv h11) (apc q10 (apc (lg a1.sorts eStr 1) (apc q12 (apc q13 (apc (cv h14) (apc (cv h15) (apc q16 (apc q17 (apc q18 (apc (cv h18) (apc (cv h19) (apc (lg a1.sorts eStr 1) (apc (cv h20) (apc (cv h21) (apc (cv h22) (apc (lg x16_0 eI64 1) (apc (cv h23) (apc q27 (apc q28 (apc ((((F18_ok (⟨x4_0, x4_1, x4_2, x4_3, x4_4⟩ : GramD) a1 h25).cp rfl _).trans (congrArg (fun z => some (vb z)) h26)) : CP prg 18 [(.agg [(.p (.lst 1 (x4_0.map eStr))), (.p (.lst 7 (x4_1.map eProd))), (i6 x4_2), (.p (.lst 3 (x4_3.map eForb))), (.p (.lst 5 (x4_4.map eFoll)))]), (aG a1)] (F3_d3 a1 x4_0 x4_1 x4_2 x4_3 x4_4 x17_0 x17_2) = some (vb false)) apn)))))))))))))))))))))))))))))) rfl (by kernel_rfl)
                  ·
                   refine bi h (fun h22 h => ?_) fun h22 h => ?_
                   ·
                    rw [← sj h]
                    exact fpr (n := 30) ([(25, .v (vb false)), (29, .d false)] ++ ((F3_c0 x4_0 x4_1 x4_2 x4_3 x4_4) ++ ([(35, .v (i6 x5)), (38, .v (.tup [(i6 x6_0), (i6 x6_1)])), (43, .v (.tup [(i6 x7_0), (i6 x7_1)])), (47, .v (i6 x8)), (49, .d false), (53, .d false), (58, .d false), (63, .v (.tup [(i6 x12_0), (vb x12_1)])), (68, .v (i6 (a1.sorts.length : Int)))] ++ ((F3_c1 g13 a2 a3 x5 x12_0 x12_1 x13_0 x13_1 a1 x4_0 x4_1 x4_2 x4_3 x4_4) ++ ([(84, .d false), (88, .d false), (93, .v (.tup [(.p (.lst 1 (x16_0.map eI64))), (i6 x16_1)]))] ++ ((F3_c2 g17 a3 x5 x16_0 x16_1 x17_0 x17_1 a1 x4_0 x4_1 x4_2 x4_3 x4_4 x17_2) ++ [(117, .d true), (120, .d false), (125, .v (i6 (a1.sorts.length : Int))), (126, .d false), (130, .d false), (133, .d true), (6000, .d true)])))))) (apc q0 (apc (cv h3) (apc q2 (apc q3 (apc q4 (apc q5 (apc q6 (apc (cv h9) (apc (cv h10) (apc (cv h11) (apc q10 (apc (lg a1.sorts eStr 1) (apc q12 (apc q13 (apc (cv h14) (apc (cv h15) (apc q16 (apc q17 (apc q18 (apc (cv h18) (apc (cv h19) (apc (lg a1.sorts eStr 1) (apc (cv h20) (apc (cv h21) (apc (cv h22) apn))))))))))))))))))))))))) rfl (by kernel_rfl)
                   ·
                    refine bi h (fun h23 h => ?_) fun h23 h => ?_
                    ·
                     rw [← sj h]
                     exact fpr (n := 30) ([(25, .v (vb false)), (29, .d false)] ++ ((F3_c0 x4_0 x4_1 x4_2 x4_3 x4_4) ++ ([(35, .v (i6 x5)), (38, .v (.tup [(i6 x6_0), (i6 x6_1)])), (43, .v (.tup [(i6 x7_0), (i6 x7_1)])), (47, .v (i6 x8)), (49, .d false), (53, .d false), (58, .d false), (63, .v (.tup [(i6 x12_0), (vb x12_1)])), (68, .v (i6 (a1.sorts.length : Int)))] ++ ((F3_c1 g13 a2 a3 x5 x12_0 x12_1 x13_0 x13_1 a1 x4_0 x4_1 x4_2 x4_3 x4_4) ++ ([(84, .d false), (88, .d false), (93, .v (.tup [(.p (.lst 1 (x16_0.map eI64))), (i6 x16_1)]))] ++ ((F3_c2 g17 a3 x5 x16_0 x16_1 x17_0 x17_1 a1 x4_0 x4_1 x4_2 x4_3 x4_4 x17_2) ++ [(117, .d true), (120, .d false), (125, .v (i6 (a1.sorts.length : Int))), (126, .d false), (130, .d false), (133, .d false), (136, .v (i6 (x16_0.length : Int))), (139, .d true), (6000, .d true)])))))) (apc q0 (apc (cv h3) (apc q2 (apc q3 (apc q4 (apc q5 (apc q6 (apc (cv h9) (apc (cv h10) (apc (cv h11) (apc q10 (apc (lg a1.sorts eStr 1) (apc q12 (apc q13 (apc (cv h14) (apc (cv h15) (apc q16 (apc q17 (apc q18 (apc (cv h18) (apc (cv h19) (apc (lg a1.sorts eStr 1) (apc (cv h20) (apc (cv h21) (apc (cv h22) (apc (lg x16_0 eI64 1) (apc (cv h23) apn))))))))))))))))))))))))))) rfl (by kernel_rfl)
                    ·
                     refine bn h fun r24 h24 h => ?_
                     cases r24 with
                     | k0 =>
                      obtain ⟨g24, y24, e24⟩ := L3_0_2_run x16_0 x17_0 x17_1 a1 x4_0 x4_1 x4_2 x4_3 x4_4 x17_2 0 _ h24
                      rw [← sj h]
                      exact fpr (n := 30) ([(25, .v (vb false)), (29, .d false)] ++ ((F3_c0 x4_0 x4_1 x4_2 x4_3 x4_4) ++ ([(35, .v (i6 x5)), (38, .v (.tup [(i6 x6_0), (i6 x6_1)])), (43, .v (.tup [(i6 x7_0), (i6 x7_1)])), (47, .v (i6 x8)), (49, .d false), (53, .d false), (58, .d false), (63, .v (.tup [(i6 x12_0), (vb x12_1)])), (68, .v (i6 (a1.sorts.length : Int)))] ++ ((F3_c1 g13 a2 a3 x5 x12_0 x12_1 x13_0 x13_1 a1 x4_0 x4_1 x4_2 x4_3 x4_4) ++ ([(84, .d false), (88, .d false), (93, .v (.tup [(.p (.lst 1 (x16_0.map eI64))), (i6 x16_1)]))] ++ ((F3_c2 g17 a3 x5 x16_0 x16_1 x17_0 x17_1 a1 x4_0 x4_1 x4_2 x4_3 x4_4 x17_2) ++ [(117, .d true), (120, .d false), (125, .v (i6 (a1.sorts.length : Int))), (126, .d false), (130, .d false), (133, .d false), (136, .v (i6 (x16_0.length : Int))), (139, .d false), (2004, .l .ret ⟨fr 162 g24 [(6, (vb false))], y24⟩), (6000, .d true)])))))) (apc q0 (apc (cv h3) (apc q2 (apc q3 (apc q4 (apc q5 (apc q6 (apc (cv h9) (apc (cv h10) (apc (cv h11) (apc q10 (apc (lg a1.sorts eStr 1) (apc q12 (apc q13 (apc (cv h14) (apc (cv h15) (apc q16 (apc q17 (apc q18 (apc (cv h18) (apc (cv h19) (apc (lg a1.sorts eStr 1) (apc (cv h20) (apc (cv h21) (apc (cv h22) (apc (lg x16_0 eI64 1) (apc (cv h23) (apc ((okT_of rfl (abl_cons rfl (abl_cons abl_row (abl_cons abl_row (abl_cons abl_row (abl_cons abl_row (abl_cons rfl (abl_cons abl_row rfl)))))))) : okT 7 (F3_d7 a1 x4_0 x4_1 x4_2 x4_3 x4_4 x17_0 x17_2) = true) (apc (e24 : evH prg 7 [3, 7, 18, 20, 23] ir3_l0 (L3_0_2_s x16_0 x17_0 x17_1 a1 x4_0 x4_1 x4_2 x4_3 x4_4 x17_2 0) = some (.ret, ⟨fr 162 g24 [(6, (vb false))], y24⟩)) apn))))))))))))))))))))))))))))) rfl (by kernel_rfl)
                     | k1 =>
                      obtain ⟨g24, e24⟩ := L3_0_2_run x16_0 x17_0 x17_1 a1 x4_0 x4_1 x4_2 x4_3 x4_4 x17_2 0 _ h24
                      have q27 := ((okT_of rfl (abl_cons rfl (abl_cons abl_row (abl_cons abl_row (abl_cons abl_row (abl_cons abl_row (abl_cons rfl (abl_cons abl_row rfl)))))))) : okT 7 (F3_d7 a1 x4_0 x4_1 x4_2 x4_3 x4_4 x17_0 x17_2) = true)
                      have q28 := (e24 : evH prg 7 [3, 7, 18, 20, 23] ir3_l0 (L3_0_2_s x16_0 x17_0 x17_1 a1 x4_0 x4_1 x4_2 x4_3 x4_4 x17_2 0) = some ((.brk 4), (F3_d8 g24 x16_0 x17_0 x17_1 a1 x4_0 x4_1 x4_2 x4_3 x4_4 x17_2)))
                      refine bn h fun x25 h25 h => ?_
                      refine bi h (fun h26 h => ?_) fun h26 h => ?_
                      ·
                       refine bn h fun x27 h27 h => ?_
                       rw [← sj h]
                       exact fpr (n := 30) ([(25, .v (vb false)), (29, .d false)] ++ ((F3_c0 x4_0 x4_1 x4_2 x4_3 x4_4) ++ ([(35, .v (i6 x5)), (38, .v (.tup [(i6 x6_0), (i6 x6_1)])), (43, .v (.tup [(i6 x7_0), (i6 x7_1)])), (47, .v (i6 x8)), (49, .d false), (53, .d false), (58, .d false), (63, .v (.tup [(i6 x12_0), (vb x12_1)])), (68, .v (i6 (a1.sorts.length : Int)))] ++ ((F3_c1 g13 a2 a3 x5 x12_0 x12_1 x13_0 x13_1 a1 x4_0 x4_1 x4_2 x4_3 x4_4) ++ ([(84, .d false), (88, .d false), (93, .v (.tup [(.p (.lst 1 (x16_0.map eI64))), (i6 x16_1)]))] ++ ((F3_c2 g17 a3 x5 x16_0 x16_1 x17_0 x17_1 a1 x4_0 x4_1 x4_2 x4_3 x4_4 x17_2) ++ ([(117, .d true), (120, .d false), (125, .v (i6 (a1.sorts.length : Int))), (126, .d false), (130, .d false), (133, .d false), (136, .v (i6 (x16_0.length : Int))), (139, .d false)] ++ ((F3_c6 g24 x16_0 x17_0 x17_1 a1 x4_0 x4_1 x4_2 x4_3 x4_4 x17_2) ++ [(158, .v (vb true)), (160, .v (vb x27)), (6000, .d true)])))))))) (apc q0 (apc (cv h3) (apc q2 (apc q3 (apc q4 (apc q5 (apc q6 (apc (cv h9) (apc (cv h10) (apc (cv h11) (apc q10 (apc (lg a1.sorts eStr 1) (apc q12 (apc q13 (apc (cv h14) (apc (cv h15) (apc q16 (apc q17 (apc q18 (apc (cv h18) (apc (cv h19) (apc (lg a1.sorts eStr 1) (apc (cv h20) (apc (cv h21) (apc (cv h22) (apc (lg x16_0 eI64 1) (apc (cv h23) (apc q27 (apc q28 (apc ((((F18_ok (⟨x4_0, x4_1, x4_2, x4_3, x4_4⟩ : GramD) a1 h25).cp rfl _).trans (congrArg (fun z => some (vb z)) h26)) : CP prg 18 [(.agg [(.p (.lst 1 (x4_0.map eStr))), (.p (.lst 7 (x4_1.map eProd))), (i6 x4_2), (.p (.lst 3 (x4_3.map eForb))), (.p (.lst 5 (x4_4.map eFoll)))]), (aG a1)] (F3_d7 a1 x4_0 x4_1 x4_2 x4_3 x4_4 x17_0 x17_2) = some (vb true)) (apc (((F10_ok  h27).cp rfl _) : CP prg 10 [] (F3_d7 a1 x4_0 x4_1 x4_2 x4_3 x4_4 x17_0 x17_2) = some (vb x27)) apn))))))))))))))))))))))))))))))) rfl (by kernel_rfl)
                      ·
                       rw [← sj h]
                       exact fpr (n := 30) ([(25, .v (vb false)), (29, .d false)] ++ ((F3_c0 x4_0 x4_1 x4_2 x4_3 x4_4) ++ ([(35, .v (i6 x5)), (38, .v (.tup [(i6 x6_0), (i6 x6_1)])), (43, .v (.tup [(i6 x7_0), (i6 x7_1)])), (47, .v (i6 x8)), (49, .d false), (53, .d false), (58, .d false), (63, .v (.tup [(i6 x12_0), (vb x12_1)])), (68, .v (i6 (a1.sorts.length : Int)))] ++ ((F3_c1 g13 a2 a3 x5 x12_0 x12_1 x13_0 x13_1 a1 x4_0 x4_1 x4_2 x4_3 x4_4) ++ ([(84, .d false), (88, .d false), (93, .v (.tup [(.p (.lst 1 (x16_0.map eI64))), (i6 x16_1)]))] ++ ((F3_c2 g17 a3 x5 x16_0 x16_1 x17_0 x17_1 a1 x4_0 x4_1 x4_2 x4_3 x4_4 x17_2) ++ ([(117, .d true), (120, .d false), (125, .v (i6 (a1.sorts.length : Int))), (126, .d false), (130, .d false), (133, .d false), (136, .v (i6 (x16_0.length : Int))), (139, .d false)] ++ ((F3_c6 g24 x16_0 x17_0 x17_1 a1 x4_0 x4_1 x4_2 x4_3 x4_4 x17_2) ++ [(158, .v (vb false)), (6000, .d true)])))))))) (apc q0 (apc (cv h3) (apc q2 (apc q3 (apc q4 (apc q5 (apc q6 (apc (cv h9) (apc (cv h10) (apc (cv h11) (apc q10 (apc (lg a1.sorts eStr 1) (apc q12 (apc q13 (apc (cv h14) (apc (cv h15) (apc q16 (apc q17 (apc q18 (apc (cv h18) (apc (cv h19) (apc (lg a1.sorts eStr 1) (apc (cv h20) (apc (cv h21) (apc (cv h22) (apc (lg x16_0 eI64 1) (apc (cv h23) (apc q27 (apc q28 (apc ((((F18_ok (⟨x4_0, x4_1, x4_2, x4_3, x4_4⟩ : GramD) a1 h25).cp rfl _).trans (congrArg (fun z => some (vb z)) h26)) : CP prg 18 [(.agg [(.p (.lst 1 (x4_0.map eStr))), (.p (.lst 7 (x4_1.map eProd))), (i6 x4_2), (.p (.lst 3 (x4_3.map eForb))), (.p (.lst 5 (x4_4.map eFoll)))]), (aG a1)] (F3_d7 a1 x4_0 x4_1 x4_2 x4_3 x4_4 x17_0 x17_2) = some (vb false)) apn)))))))))))))))))))))))))))))) rfl (by kernel_rfl)
               ·
                refine bi h (fun h19 h => ?_) fun h19 h => ?_
                ·
                 refine bi h (fun h20 h => ?_) fun h20 h => ?_
                 ·
                  rw [← sj h]
                  exact fpr (n := 30) ([(25, .v (vb false)), (29, .d false)] ++ ((F3_c0 x4_0 x4_1 x4_2 x4_3 x4_4) ++ ([(35, .v (i6 x5)), (38, .v (.tup [(i6 x6_0), (i6 x6_1)])), (43, .v (.tup [(i6 x7_0), (i6 x7_1)])), (47, .v (i6 x8)), (49, .d false), (53, .d false), (58, .d false), (63, .v (.tup [(i6 x12_0), (vb x12_1)])), (68, .v (i6 (a1.sorts.length : Int)))] ++ ((F3_c1 g13 a2 a3 x5 x12_0 x12_1 x13_0 x13_1 a1 x4_0 x4_1 x4_2 x4_3 x4_4) ++ ([(84, .d false), (88, .d false), (93, .v (.tup [(.p (.lst 1 (x16_0.map eI64))), (i6 x16_1)]))] ++ ((F3_c2 g17 a3 x5 x16_0 x16_1 x17_0 x17_1 a1 x4_0 x4_1 x4_2 x4_3 x4_4 x17_2) ++ [(117, .d false), (130, .d true), (133, .d true), (6000, .d true)])))))) (apc q0 (apc (cv h3) (apc q2 (apc q3 (apc q4 (apc q5 (apc q6 (apc (cv h9) (apc (cv h10) (apc (cv h11) (apc q10 (apc (lg a1.sorts eStr 1) (apc q12 (apc q13 (apc (cv h14) (apc (cv h15) (apc q16 (apc q17 (apc q18 (apc (cv h18) (apc (cv h19) (apc (cv h20) apn)))))))))))))))))))))) rfl (by kernel_rfl)
                 ·
                  refine bi h (fun h21 h => ?_) fun h21 h => ?_
                  ·
                   rw [← sj h]
                   exact fpr (n := 30) ([(25, .v (vb false)), (29, .d false)] ++ ((F3_c0 x4_0 x4_1 x4_2 x4_3 x4_4) ++ ([(35, .v (i6 x5)), (38, .v (.tup [(i6 x6_0), (i6 x6_1)])), (43, .v (.tup [(i6 x7_0), (i6 x7_1)])), (47, .v (i6 x8)), (49, .d false), (53, .d false), (58, .d false), (63, .v (.tup [(i6 x12_0), (vb x12_1)])), (68, .v (i6 (a1.sorts.length : Int)))] ++ ((F3_c1 g13 a2 a3 x5 x12_0 x12_1 x13_0 x13_1 a1 x4_0 x4_1 x4_2 x4_3 x4_4) ++ ([(84, .d false), (88, .d false), (93, .v (.tup [(.p (.lst 1 (x16_0.map eI64))), (i6 x16_1)]))] ++ ((F3_c2 g17 a3 x5 x16_0 x16_1 x17_0 x17_1 a1 x4_0 x4_1 x4_2 x4_3 x4_4 x17_2) ++ [(117, .d false), (130, .d true), (133, .d false), (136, .v (i6 (x16_0.length : Int))), (139, .d true), (6000, .d true)])))))) (apc q0 (apc (cv h3) (apc q2 (apc q3 (apc q4 (apc q5 (apc q6 (apc (cv h9) (apc (cv h10) (apc (cv h11) (apc q10 (apc (lg a1.sorts eStr 1) (apc q12 (apc q13 (apc (cv h14) (apc (cv h15) (apc q16 (apc q17 (apc q18 (apc (cv h18) (apc (cv h19) (apc (cv h20) (apc (lg x16_0 eI64 1) (apc (cv h21) apn)))))))))))))))))))))))) rfl (by kernel_rfl)
                  ·
                   refine bn h fun r22 h22 h => ?_
                   cases r22 with
                   | k0 =>
                    obtain ⟨g22, e22⟩ := L3_0_run x16_0 a1 x4_0 x4_1 x4_2 x4_3 x4_4 x17_0 x17_2 () _ h22
                    have q24 := ((okT_of rfl (abl_cons rfl (abl_cons abl_row (abl_cons abl_row (abl_cons abl_row (abl_cons abl_row (abl_cons rfl (abl_cons abl_row (abl_cons abl_row rfl))))))))) : okT 8 (F3_d3 a1 x4_0 x4_1 x4_2 x4_3 x4_4 x17_0 x17_2) = true)
                    have q25 := (e22 : evH prg 8 [3, 7, 18, 20, 23] ir3_l0 (L3_0_s x16_0 a1 x4_0 x4_1 x4_2 x4_3 x4_4 x17_0 x17_2) = some ((.brk 4), (F3_d4 g22 x16_0 a1 x4_0 x4_1 x4_2 x4_3 x4_4 x17_0 x17_2)))
                    refine bn h fun x23 h23 h => ?_
                    refine bi h (fun h24 h => ?_) fun h24 h => ?_
                    ·
                     refine bn h fun x25 h25 h => ?_
                     rw [← sj h]
                     exact fpr (n := 30) ([(25, .v (vb false)), (29, .d false)] ++ ((F3_c0 x4_0 x4_1 x4_2 x4_3 x4_4) ++ ([(35, .v (i6 x5)), (38, .v (.tup [(i6 x6_0), (i6 x6_1)])), (43, .v (.tup [(i6 x7_0), (i6 x7_1)])), (47, .v (i6 x8)), (49, .d false), (53, .d false), (58, .d false), (63, .v (.tup [(i6 x12_0), (vb x12_1)])), (68, .v (i6 (a1.sorts.length : Int)))] ++ ((F3_c1 g13 a2 a3 x5 x12_0 x12_1 x13_0 x13_1 a1 x4_0 x4_1 x4_2 x4_3 x4_4) ++ ([(84, .d false), (88, .d false), (93, .v (.tup [(.p (.lst 1 (x16_0.map eI64))), (i6 x16_1)]))] ++ ((F3_c2 g17 a3 x5 x16_0 x16_1 x17_0 x17_1 a1 x4_0 x4_1 x4_2 x4_3 x4_4 x17_2) ++ ([(117, .d false), (130, .d true), (133, .d false), (136, .v (i6 (x16_0.length : Int))), (139, .d false)] ++ ((F3_c3 g22 x16_0 a1 x4_0 x4_1 x4_2 x4_3 x4_4 x17_0 x17_2) ++ [(158, .v (vb true)), (160, .v (vb x25)), (6000, .d true)])))))))) (apc q0 (apc (cv h3) (apc q2 (apc q3 (apc q4 (apc q5 (apc q6 (apc (cv h9) (apc (cv h10) (apc (cv h11) (apc q10 (apc (lg a1.sorts eStr 1) (apc q12 (apc q13 (apc (cv h14) (apc (cv h15) (apc q16 (apc q17 (apc q18 (apc (cv h18) (apc (cv h19) (apc (cv h20) (apc (lg x16_0 eI64 1) (apc (cv h21) (apc q24 (apc q25 (apc ((((F18_ok (⟨x4_0, x4_1, x4_2, x4_3, x4_4⟩ : GramD) a1 h23).cp rfl _).trans (congrArg (fun z => some (vb z)) h24)) : CP prg 18 [(.agg [(.p (.lst 1 (x4_0.map eStr))), (.p (.lst 7 (x4_1.map eProd))), (i6 x4_2), (.p (.lst 3 (x4_3.map eForb))), (.p (.lst 5 (x4_4.map eFoll)))]), (aG a1)] (F3_d3 a1 x4_0 x4_1 x4_2 x4_3 x4_4 x17_0 x17_2) = some (vb true)) (apc (((F10_ok  h25).cp rfl _) : CP prg 10 [] (F3_d3 a1 x4_0 x4_1 x4_2 x4_3 x4_4 x17_0 x17_2) = some (vb x25)) apn)))))))))))))))))))))))))))) rfl (by kernel_rfl)
                    ·
                     rw [← sj h]
                     exact fpr (n := 30) ([(25, .v (vb false)), (29, .d false)] ++ ((F3_c0 x4_0 x4_1 x4_2 x4_3 x4_4) ++ ([(35, .v (i6 x5)), (38, .v (.tup [(i6 x6_0), (i6 x6_1)])), (43, .v (.tup [(i6 x7_0), (i6 x7_1)])), (47, .v (i6 x8)), (49, .d false), (53, .d false), (58, .d false), (63, .v (.tup [(i6 x12_0), (vb x12_1)])), (68, .v (i6 (a1.sorts.length : Int)))] ++ ((F3_c1 g13 a2 a3 x5 x12_0 x12_1 x13_0 x13_1 a1 x4_0 x4_1 x4_2 x4_3 x4_4) ++ ([(84, .d false), (88, .d false), (93, .v (.tup [(.p (.lst 1 (x16_0.map eI64))), (i6 x16_1)]))] ++ ((F3_c2 g17 a3 x5 x16_0 x16_1 x17_0 x17_1 a1 x4_0 x4_1 x4_2 x4_3 x4_4 x17_2) ++ ([(117, .d false), (130, .d true), (133, .d false), (136, .v (i6 (x16_0.length : Int))), (139, .d false)] ++ ((F3_c3 g22 x16_0 a1 x4_0 x4_1 x4_2 x4_3 x4_4 x17_0 x17_2) ++ [(158, .v (vb false)), (6000, .d true)])))))))) (apc q0 (apc (cv h3) (apc q2 (apc q3 (apc q4 (apc q5 (apc q6 (apc (cv h9) (apc (cv h10) (apc (cv h11) (apc q10 (apc (lg a1.sorts eStr 1) (apc q12 (apc q13 (apc (cv h14) (apc (cv h15) (apc q16 (apc q17 (apc q18 (apc (cv h18) (apc (cv h19) (apc (cv h20) (apc (lg x16_0 eI64 1) (apc (cv h21) (apc q24 (apc q25 (apc ((((F18_ok (⟨x4_0, x4_1, x4_2, x4_3, x4_4⟩ : GramD) a1 h23).cp rfl _).trans (congrArg (fun z => some (vb z)) h24)) : CP prg 18 [(.agg [(.p (.lst 1 (x4_0.map eStr))), (.p (.lst 7 (x4_1.map eProd))), (i6 x4_2), (.p (.lst 3 (x4_3.map eForb))), (.p (.lst 5 (x4_4.map eFoll)))]), (aG a1)] (F3_d3 a1 x4_0 x4_1 x4_2 x4_3 x4_4 x17_0 x17_2) = some (vb false)) apn))))))))))))))))))))))))))) rfl (by kernel_rfl)
                ·
                 refine bi h (fun h20 h => ?_) fun h20 h => ?_
                 ·
                  rw [← sj h]
                  exact fpr (n := 30) ([(25, .v (vb false)), (29, .d false)] ++ ((F3_c0 x4_0 x4_1 x4_2 x4_3 x4_4) ++ ([(35, .v (i6 x5)), (38, .v (.tup [(i6 x6_0), (i6 x6_1)])), (43, .v (.tup [(i6 x7_0), (i6 x7_1)])), (47, .v (i6 x8)), (49, .d false), (53, .d false), (58, .d false), (63, .v (.tup [(i6 x12_0), (vb x12_1)])), (68, .v (i6 (a1.sorts.length : Int)))] ++ ((F3_c1 g13 a2 a3 x5 x12_0 x12_1 x13_0 x13_1 a1 x4_0 x4_1 x4_2 x4_3 x4_4) ++ ([(84, .d false), (88, .d false), (93, .v (.tup [(.p (.lst 1 (x16_0.map eI64))), (i6 x16_1)]))] ++ ((F3_c2 g17 a3 x5 x16_0 x16_1 x17_0 x17_1 a1 x4_0 x4_1 x4_2 x4_3 x4_4 x17_2) ++ [(117, .d false), (130, .d false), (133, .d true), (6000, .d true)])))))) (apc q0 (apc (cv h3) (apc q2 (apc q3 (apc q4 (apc q5 (apc q6 (apc (cv h9) (apc (cv h10) (apc (cv h11) (apc q10 (apc (lg a1.sorts eStr 1) (apc q12 (apc q13 (apc (cv h14) (apc (cv h15) (apc q16 (apc q17 (apc q18 (apc (cv h18) (apc (cv h19) (apc (cv h20) apn)))))))))))))))))))))) rfl (by kernel_rfl)
                 ·
                  refine bi h (fun h21 h => ?_) fun h21 h => ?_
                  ·
                   rw [← sj h]
                   exact fpr (n := 30) ([(25, .v (vb false)), (29, .d false)] ++ ((F3_c0 x4_0 x4_1 x4_2 x4_3 x4_4) ++ ([(35, .v (i6 x5)), (38, .v (.tup [(i6 x6_0), (i6 x6_1)])), (43, .v (.tup [(i6 x7_0), (i6 x7_1)])), (47, .v (i6 x8)), (49, .d false), (53, .d false), (58, .d false), (63, .v (.tup [(i6 x12_0), (vb x12_1)])), (68, .v (i6 (a1.sorts.length : Int)))] ++ ((F3_c1 g13 a2 a3 x5 x12_0 x12_1 x13_0 x13_1 a1 x4_0 x4_1 x4_2 x4_3 x4_4) ++ ([(84, .d false), (88, .d false), (93, .v (.tup [(.p (.lst 1 (x16_0.map eI64))), (i6 x16_1)]))] ++ ((F3_c2 g17 a3 x5 x16_0 x16_1 x17_0 x17_1 a1 x4_0 x4_1 x4_2 x4_3 x4_4 x17_2) ++ [(117, .d false), (130, .d false), (133, .d false), (136, .v (i6 (x16_0.length : Int))), (139, .d true), (6000, .d true)])))))) (apc q0 (apc (cv h3) (apc q2 (apc q3 (apc q4 (apc q5 (apc q6 (apc (cv h9) (apc (cv h10) (apc (cv h11) (apc q10 (apc (lg a1.sorts eStr 1) (apc q12 (apc q13 (apc (cv h14) (apc (cv h15) (apc q16 (apc q17 (apc q18 (apc (cv h18) (apc (cv h19) (apc (cv h20) (apc (lg x16_0 eI64 1) (apc (cv h21) apn)))))))))))))))))))))))) rfl (by kernel_rfl)
                  ·
                   refine bn h fun r22 h22 h => ?_
                   cases r22 with
                   | k0 =>
                    obtain ⟨g22, y22, e22⟩ := L3_0_2_run x16_0 x17_0 x17_1 a1 x4_0 x4_1 x4_2 x4_3 x4_4 x17_2 0 _ h22
                    rw [← sj h]
                    exact fpr (n := 30) ([(25, .v (vb false)), (29, .d false)] ++ ((F3_c0 x4_0 x4_1 x4_2 x4_3 x4_4) ++ ([(35, .v (i6 x5)), (38, .v (.tup [(i6 x6_0), (i6 x6_1)])), (43, .v (.tup [(i6 x7_0), (i6 x7_1)])), (47, .v (i6 x8)), (49, .d false), (53, .d false), (58, .d false), (63, .v (.tup [(i6 x12_0), (vb x12_1)])), (68, .v (i6 (a1.sorts.length : Int)))] ++ ((F3_c1 g13 a2 a3 x5 x12_0 x12_1 x13_0 x13_1 a1 x4_0 x4_1 x4_2 x4_3 x4_4) ++ ([(84, .d false), (88, .d false), (93, .v (.tup [(.p (.lst 1 (x16_0.map eI64))), (i6 x16_1)]))] ++ ((F3_c2 g17 a3 x5 x16_0 x16_1 x17_0 x17_1 a1 x4_0 x4_1 x4_2 x4_3 x4_4 x17_2) ++ [(117, .d false), (130, .d false), (133, .d false), (136, .v (i6 (x16_0.length : Int))), (139, .d false), (2004, .l .ret ⟨fr 162 g22 [(6, (vb false))], y22⟩), (6000, .d true)])))))) (apc q0 (apc (cv h3) (apc q2 (apc q3 (apc q4 (apc q5 (apc q6 (apc (cv h9) (apc (cv h10) (apc (cv h11) (apc q10 (apc (lg a1.sorts eStr 1) (apc q12 (apc q13 (apc (cv h14) (apc (cv h15) (apc q16 (apc q17 (apc q18 (apc (cv h18) (apc (cv h19) (apc (cv h20) (apc (lg x16_0 eI64 1) (apc (cv h21) (apc ((okT_of rfl (abl_cons rfl (abl_cons abl_row (abl_cons abl_row (abl_cons abl_row (abl_cons abl_row (abl_cons rfl (abl_cons abl_row rfl)))))))) : okT 7 (F3_d7 a1 x4_0 x4_1 x4_2 x4_3 x4_4 x17_0 x17_2) = true) (apc (e22 : evH prg 7 [3, 7, 18, 20, 23] ir3_l0 (L3_0_2_s x16_0 x17_0 x17_1 a1 x4_0 x4_1 x4_2 x4_3 x4_4 x17_2 0) = some (.ret, ⟨fr 162 g22 [(6, (vb false))], y22⟩)) apn)))))))))))))))))))))))))) rfl (by kernel_rfl)
                   | k1 =>
                    obtain ⟨g22, e22⟩ := L3_0_2_run x16_0 x17_0 x17_1 a1 x4_0 x4_1 x4_2 x4_3 x4_4 x17_2 0 _ h22
                    have q24 := ((okT_of rfl (abl_cons rfl (abl_cons abl_row (abl_cons abl_row (abl_cons abl_row (abl_cons abl_row (abl_cons rfl (abl_cons abl_row rfl)))))))) : okT 7 (F3_d7 a1 x4_0 x4_1 x4_2 x4_3 x4_4 x17_0 x17_2) = true)
                    have q25 := (e22 : evH prg 7 [3, 7, 18, 20, 23] ir3_l0 (L3_0_2_s x16_0 x17_0 x17_1 a1 x4_0 x4_1 x4_2 x4_3 x4_4 x17_2 0) = some ((.brk 4), (F3_d9 g22 x16_0 x17_0 x17_1 a1 x4_0 x4_1 x4_2 x4_3 x4_4 x17_2)))
                    refine bn h fun x23 h23 h => ?_
                    refine bi h (fun h24 h => ?_) fun h24 h => ?_
                    ·
                     refine bn h fun x25 h25 h => ?_
                     rw [← sj h]
                     exact fpr (n := 30) ([(25, .v (vb false)), (29, .d false)] ++ ((F3_c0 x4_0 x4_1 x4_2 x4_3 x4_4) ++ ([(35, .v (i6 x5)), (38, .v (.tup [(i6 x6_0), (i6 x6_1)])), (43, .v (.tup [(i6 x7_0), (i6 x7_1)])), (47, .v (i6 x8)), (49, .d false), (53, .d false), (58, .d false), (63, .v (.tup [(i6 x12_0), (vb x12_1)])), (68, .v (i6 (a1.sorts.length : Int)))] ++ ((F3_c1 g13 a2 a3 x5 x12_0 x12_1 x13_0 x13_1 a1 x4_0 x4_1 x4_2 x4_3 x4_4) ++ ([(84, .d false), (88, .d false), (93, .v (.tup [(.p (.lst 1 (x16_0.map eI64))), (i6 x16_1)]))] ++ ((F3_c2 g17 a3 x5 x16_0 x16_1 x17_0 x17_1 a1 x4_0 x4_1 x4_2 x4_3 x4_4 x17_2) ++ ([(117, .d false), (130, .d false), (133, .d false), (136, .v (i6 (x16_0.length : Int))), (139, .d false)] ++ ((F3_c7 g22 x16_0 x17_0 x17_1 a1 x4_0 x4_1 x4_2 x4_3 x4_4 x17_2) ++ [(158, .v (vb true)), (160, .v (vb x25)), (6000, .d true)])))))))) (apc q0 (apc (cv h3) (apc q2 (apc q3 (apc q4 (apc q5 (apc q6 (apc (cv h9) (apc (cv h10) (apc (cv h11) (apc q10 (apc (lg a1.sorts eStr 1) (apc q12 (apc q13 (apc (cv h14) (apc (cv h15) (apc q16 (apc q17 (apc q18 (apc (cv h18) (apc (cv h19) (apc (cv h20) (apc (lg x16_0 eI64 1) (apc (cv h21) (apc q24 (apc q25 (apc ((((F18_ok (⟨x4_0, x4_1, x4_2, x4_3, x4_4⟩ : GramD) a1 h23).cp rfl _).trans (congrArg (fun z => some (vb z)) h24)) : CP prg 18 [(.agg [(.p (.lst 1 (x4_0.map eStr))), (.p (.lst 7 (x4_1.map eProd))), (i6 x4_2), (.p (.lst 3 (x4_3.map eForb))), (.p (.lst 5 (x4_4.map eFoll)))]), (aG a1)] (F3_d7 a1 x4_0 x4_1 x4_2 x4_3 x4_4 x17_0 x17_2) = some (vb true)) (apc (((F10_ok  h25).cp rfl _) : CP prg 10 [] (F3_d7 a1 x4_0 x4_1 x4_2 x4_3 x4_4 x17_0 x17_2) = some (vb x25)) apn)))))))))))))))))))))))))))) rfl (by kernel_rfl)
                    ·
                     rw [← sj h]
                     exact fpr (n := 30) ([(25, .v (vb false)), (29, .d false)] ++ ((F3_c0 x4_0 x4_1 x4_2 x4_3 x4_4) ++ ([(35, .v (i6 x5)), (38, .v (.tup [(i6 x6_0), (i6 x6_1)])), (43, .v (.tup [(i6 x7_0), (i6 x7_1)])), (47, .v (i6 x8)), (49, .d false), (53, .d false), (58, .d false), (63, .v (.tup [(i6 x12_0), (vb x12_1)])), (68, .v (i6 (a1.sorts.length : Int)))] ++ ((F3_c1 g13 a2 a3 x5 x12_0 x12_1 x13_0 x13_1 a1 x4_0 x4_1 x4_2 x4_3 x4_4) ++ ([(84, .d false), (88, .d false), (93, .v (.tup [(.p (.lst 1 (x16_0.map eI64))), (i6 x16_1)]))] ++ ((F3_c2 g17 a3 x5 x16_0 x16_1 x17_0 x17_1 a1 x4_0 x4_1 x4_2 x4_3 x4_4 x17_2) ++ ([(117, .d false), (130, .d false), (133, .d false), (136, .v (i6 (x16_0.length : Int))), (139, .d false)] ++ ((F3_c7 g22 x16_0 x17_0 x17_1 a1 x4_0 x4_1 x4_2 x4_3 x4_4 x17_2) ++ [(158, .v (vb false)), (6000, .d true)])))))))) (apc q0 (apc (cv h3) (apc q2 (apc q3 (apc q4 (apc q5 (apc q6 (apc (cv h9) (apc (cv h10) (apc (cv h11) (apc q10 (apc (lg a1.sorts eStr 1) (apc q12 (apc q13 (apc (cv h14) (apc (cv h15) (apc q16 (apc q17 (apc q18 (apc (cv h18) (apc (cv h19) (apc (cv h20) (apc (lg x16_0 eI64 1) (apc (cv h21) (apc q24 (apc q25 (apc ((((F18_ok (⟨x4_0, x4_1, x4_2, x4_3, x4_4⟩ : GramD) a1 h23).cp rfl _).trans (congrArg (fun z => some (vb z)) h24)) : CP prg 18 [(.agg [(.p (.lst 1 (x4_0.map eStr))), (.p (.lst 7 (x4_1.map eProd))), (i6 x4_2), (.p (.lst 3 (x4_3.map eForb))), (.p (.lst 5 (x4_4.map eFoll)))]), (aG a1)] (F3_d7 a1 x4_0 x4_1 x4_2 x4_3 x4_4 x17_0 x17_2) = some (vb false)) apn))))))))))))))))))))))))))) rfl (by kernel_rfl)
end Go.Proofs.Try
