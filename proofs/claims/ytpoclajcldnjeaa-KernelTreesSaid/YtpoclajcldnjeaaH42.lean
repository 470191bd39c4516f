/- Decompiled by a program: functions as plain data see them, part 2. -/
import Derived.Test.YtpoclajcldnjeaaH41
namespace Go.Proofs.Try
set_option linter.unusedSimpArgs false
set_option linter.unusedVariables false
open Go Go.Vs
def F22_v (a1 : GramD) (a2 : TreeD) (x0 : Int) : AV := (i6 x0)
noncomputable def F22 (Nf : Nat) (a1 : GramD) (a2 : TreeD) : Option Int :=
  ((F12 a1).bind fun x1 => (bif (x1 != 0) then (some 160) else ((F51_2 Nf a2 16384).bind fun x3 => (bif x3 then (some 3) else (bif (decide (a2.prod < 0)) then (some 163) else (bif (decide (a2.prod ≥ (a1.prods.length : Int))) then (some 163) else ((getI a1.prods a2.prod).bind fun x7 => ((F52 Nf a1 (⟨1, 0, 0, 0, 0, x7.left⟩ : SymD) a2).bind fun x8 => (bif x8 then (some 0) else (some 163))))))))))
theorem F22_ok (Nf : Nat) (a1 : GramD) (a2 : TreeD) {r : Int} (h : F22 Nf a1 a2 = some r) : PR1 prg 22 [(aG a1), (.agg ((cT a2).map .p))] (F22_v a1 a2 r) := by
 unfold F22 at h
 refine bn h fun x1 h1 h => ?_
 have q0 := (((F12_ok a1 h1).cp rfl _) : CP prg 12 [(aG a1)] [bG a1, .cells 51 ((cT a2).map .p)] = some (i6 x1))
 refine bi h (fun h2 h => ?_) fun h2 h => ?_
 ·
  rw [← sj h]
  exact fpr (n := 30) [(6, .v (i6 x1)), (7, .d true)] (apc q0 (apc (cv h2) apn)) rfl (by kernel_rfl)
 ·
  refine bn h fun x3 h3 h => ?_
  refine bi h (fun h4 h => ?_) fun h4 h => ?_
  ·
   rw [← sj h]
   exact fpr (n := 30) [(6, .v (i6 x1)), (7, .d false), (9, .v (vb true))] (apc q0 (apc (cv h2) (apc ((((F51_2_ok Nf a2 16384 h3).cp rfl _).trans (congrArg (fun z => some (vb z)) h4)) : CP prg 51 [(.agg ((cT a2).map .p)), (i6 16384)] [bG a1, .cells 51 ((cT a2).map .p)] = some (vb true)) apn))) rfl (by kernel_rfl)
  ·
   have q2 := ((((F51_2_ok Nf a2 16384 h3).cp rfl _).trans (congrArg (fun z => some (vb z)) h4)) : CP prg 51 [(.agg ((cT a2).map .p)), (i6 16384)] [bG a1, .cells 51 ((cT a2).map .p)] = some (vb false))
   refine bi h (fun h5 h => ?_) fun h5 h => ?_
   ·
    rw [← sj h]
    exact fpr (n := 30) [(6, .v (i6 x1)), (7, .d false), (9, .v (vb false)), (12, .d true)] (apc q0 (apc (cv h2) (apc q2 (apc (cv h5) apn)))) rfl (by kernel_rfl)
   ·
    refine bi h (fun h6 h => ?_) fun h6 h => ?_
    ·
     rw [← sj h]
     exact fpr (n := 30) [(6, .v (i6 x1)), (7, .d false), (9, .v (vb false)), (12, .d false), (18, .v (i6 (a1.prods.length : Int))), (19, .d true)] (apc q0 (apc (cv h2) (apc q2 (apc (cv h5) (apc (lg a1.prods eProd 7) (apc (cv h6) apn)))))) rfl (by kernel_rfl)
    ·
     refine bn h fun x7 h7 h => ?_
     refine bn h fun x8 h8 h => ?_
     refine bi h (fun h9 h => ?_) fun h9 h => ?_
     ·
      rw [← sj h]
      exact fpr (n := 30) [(6, .v (i6 x1)), (7, .d false), (9, .v (vb false)), (12, .d false), (18, .v (i6 (a1.prods.length : Int))), (19, .d false), (27, .v (.ro (eProd x7))), (32, .v (vb true))] (apc q0 (apc (cv h2) (apc q2 (apc (cv h5) (apc (lg a1.prods eProd 7) (apc (cv h6) (apc (ig eProd 7 .i64 h7) (apc ((((F52_ok Nf a1 (⟨1, 0, 0, 0, 0, x7.left⟩ : SymD) a2 h8).cp rfl _).trans (congrArg (fun z => some (vb z)) h9)) : CP prg 52 [(aG a1), (.agg [(i6 1), (vi .u64 0), (vi .u64 0), (vi .u64 0), (vi .u64 0), (i6 x7.left)]), (.agg ((cT a2).map .p))] [bG a1, .cells 51 ((cT a2).map .p)] = some (vb true)) apn)))))))) rfl (by kernel_rfl)
     ·
      rw [← sj h]
      exact fpr (n := 30) [(6, .v (i6 x1)), (7, .d false), (9, .v (vb false)), (12, .d false), (18, .v (i6 (a1.prods.length : Int))), (19, .d false), (27, .v (.ro (eProd x7))), (32, .v (vb false))] (apc q0 (apc (cv h2) (apc q2 (apc (cv h5) (apc (lg a1.prods eProd 7) (apc (cv h6) (apc (ig eProd 7 .i64 h7) (apc ((((F52_ok Nf a1 (⟨1, 0, 0, 0, 0, x7.left⟩ : SymD) a2 h8).cp rfl _).trans (congrArg (fun z => some (vb z)) h9)) : CP prg 52 [(aG a1), (.agg [(i6 1), (vi .u64 0), (vi .u64 0), (vi .u64 0), (vi .u64 0), (i6 x7.left)]), (.agg ((cT a2).map .p))] [bG a1, .cells 51 ((cT a2).map .p)] = some (vb false)) apn)))))))) rfl (by kernel_rfl)
def F23_v (a1 : TreeD) (x0 : ByteArray) : AV := (vs x0)
abbrev T_F23 := TreeD → Option ByteArray
abbrev H_F23 (f : T_F23) : Prop := ∀ (a1 : TreeD) {r : ByteArray}, f a1 = some r → PR1 prg 23 [(.agg ((cT a1).map .p))] (F23_v a1 r)
inductive E_L23_0 where
  | k0 (x0 : ByteArray)
noncomputable def L23_0 (rF23 : T_F23) (a1 : TreeD) (v1 : ByteArray) (v2 : Int) : Option (E_L23_0 ⊕ (ByteArray × Int)) :=
  (bif (decide (v2 < (a1.kids.length : Int))) then ((getI a1.kids v2).bind fun x2 => ((rF23 x2).bind fun x3 => (bif (decide (v1.size + x3.size ≤ 9223372036854775807)) then (some (.inr ((v1 ++ x3), (IntKind.wrap .i64 (v2 + 1))))) else none))) else (some (.inl (.k0 v1))))
def L23_0_s (a1 : TreeD) (v1 : ByteArray) (v2 : Int) : St := ⟨fr 28 ug [(1, (.ptr 0 0)), (3, (vs v1)), (4, (i6 v2))], [.cells 51 ((cT a1).map .p)]⟩
def L23_0_x (a1 : TreeD) (e : E_L23_0) (r : Option (Out × St)) : Prop := match e with | .k0 x0 => ∃ g, r = some ((.brk 0), ⟨fr 28 g [(1, (.ptr 0 0)), (3, (vs x0))], [.cells 51 ((cT a1).map .p)]⟩)
theorem L23_0_ok (rF23 : T_F23) (hF23 : H_F23 rF23) (a1 : TreeD) (v1 : ByteArray) (v2 : Int) {r : E_L23_0 ⊕ (ByteArray × Int)} (h : L23_0 rF23 a1 v1 v2 = some r) : OkR (fun e => L23_0_x a1 e (evH prg 1 [1, 3, 4] ir23_l0 (L23_0_s a1 v1 v2))) (fun s => evH prg 1 [1, 3, 4] ir23_l0 (L23_0_s a1 v1 v2) = evH prg 1 [1, 3, 4] ir23_l0 (L23_0_s a1 s.1 s.2)) r := by
 unfold L23_0 at h
 have q0 := ((lgr tr_map) : lnA (.p (.lst 3 (eTrees a1.kids))) = some (i6 (a1.kids.length : Int)))
 refine bi h (fun h1 h => ?_) fun h1 h => ?_
 ·
  refine bn h fun x2 h2 h => ?_
  have q2 := ((igr tr_map h2) : idxA 3 (.p (.lst 3 (eTrees a1.kids))) (i6 v2) = some (.ro (cT x2)))
  refine bn h fun x3 h3 h => ?_
  have q3 := (((hF23 x2 h3).cp rfl _) : CP prg 23 [(.agg ((cT x2).map .p))] [.cells 51 ((cT a1).map .p)] = some (vs x3))
  refine bi h (fun h4 h => ?_) fun h4 h => ?_
  ·
   rw [← sj h]
   exact rnd (n := 30) [(15, .v (i6 (a1.kids.length : Int))), (16, .d true), (23, .v (.ro (cT x2))), (25, .v (vs x3)), (26, .v (vs (v1 ++ x3))), (6000, .d true)] (apc q0 (apc (cv h1) (apc q2 (apc q3 (apc ((st_add h4) : binA .add (vs v1) (vs x3) = some (vs (v1 ++ x3))) (apc ((okT_of rfl (abl_cons rfl rfl)) : okT 1 [.cells 51 ((cT a1).map .p)] = true) apn)))))) (by kernel_rfl)
  ·
   cases h
 ·
  rw [← sj h]
  exact xbrk (n := 30) [(15, .v (i6 (a1.kids.length : Int))), (16, .d false), (6000, .d true)] (apc q0 (apc (cv h1) apn)) (by kernel_rfl)
theorem L23_0_run (rF23 : T_F23) (hF23 : H_F23 rF23) (a1 : TreeD) (s0 : ByteArray × Int) (e : E_L23_0) (h : runL (fun s => L23_0 rF23 a1 s.1 s.2) s0 = some e) : L23_0_x a1 e (evH prg 1 [1, 3, 4] ir23_l0 (L23_0_s a1 s0.1 s0.2)) := by
  have q := @loop_sound' (ByteArray × Int) E_L23_0 (fun s => L23_0 rF23 a1 s.1 s.2) (fun s => evH prg 1 [1, 3, 4] ir23_l0 (L23_0_s a1 s.1 s.2)) (L23_0_x a1) (fun s r h => L23_0_ok rF23 hF23 a1 s.1 s.2 h) s0 e h
  exact q
noncomputable def F23_b (rF23 : T_F23) (a1 : TreeD) : Option ByteArray :=
  (bif (decide (a1.prod < 0)) then (some (⟨([UInt8.ofNat (Int.toNat a1.byte)] : List UInt8).toArray⟩ : ByteArray)) else ((runL (fun s => L23_0 rF23 a1 s.1 s.2) ((⟨([] : List UInt8).toArray⟩ : ByteArray), 0)).bind fun r2 => match r2 with | .k0 x2_0 => (some x2_0)))
abbrev F23_d0 (g2 : Nat → AV) (x2_0 : ByteArray) (a1 : TreeD) : St := ⟨fr 28 g2 [(1, (.ptr 0 0)), (3, (vs x2_0))], [.cells 51 ((cT a1).map .p)]⟩
theorem F23_bok (rF23 : T_F23) (hF23 : H_F23 rF23) (a1 : TreeD) {r : ByteArray} (h : F23_b rF23 a1 = some r) : PR1 prg 23 [(.agg ((cT a1).map .p))] (F23_v a1 r) := by
 unfold F23_b at h
 refine bi h (fun h1 h => ?_) fun h1 h => ?_
 ·
  rw [← sj h]
  exact fpr (n := 30) [(7, .d true)] (apc (cv h1) apn) rfl (by kernel_rfl)
 ·
  refine bn h fun r2 h2 h => ?_
  cases r2 with
  | k0 x2_0 =>
   obtain ⟨g2, e2⟩ := L23_0_run rF23 hF23 a1 (b0, 0) _ h2
   rw [← sj h]
   exact fpr (n := 30) [(7, .d false), (2000, .l (.brk 0) (F23_d0 g2 x2_0 a1)), (6000, .d true)] (apc (cv h1) (apc ((okT_of rfl (abl_cons rfl rfl)) : okT 1 [.cells 51 ((cT a1).map .p)] = true) (apc (e2 : evH prg 1 [1, 3, 4] ir23_l0 (L23_0_s a1 b0 0) = some ((.brk 0), (F23_d0 g2 x2_0 a1))) apn))) rfl (by kernel_rfl)
noncomputable def F23 : Nat → T_F23
  | 0 => fun _ => none
  | Nf + 1 => F23_b (F23 Nf)
theorem F23_ok (Nf : Nat) : H_F23 (F23 Nf) := by
  induction Nf with
  | zero => intro a1 r h; have h : (none : Option ByteArray) = some r := h; cases h
  | succ Nf ih => intro a1 r h; exact F23_bok (F23 Nf) ih a1 h
def F4_v (a1 : GramD) (a2 : TreeD) (x0 : Bool) : AV := (vb x0)
noncomputable def F4 (Nf : Nat) (a1 : GramD) (a2 : TreeD) : Option Bool :=
  ((F9 a1).bind fun x1 => (bif x1 then ((F10).bind fun x3 => (some x3)) else ((F19_2 Nf a2 5000).bind fun x3 => (bif (decide (x3 > 5000)) then ((F10).bind fun x5 => (some x5)) else ((F20 Nf a2).bind fun r5 => match r5 with | .k0 x5_0 x5_1 => ((F21 Nf a1 a2).bind fun x6 => ((F22 Nf a1 a2).bind fun x7 => (bif (x6 == x7) then ((F23 Nf a2).bind fun x9 => (bif (x5_0.toList == x9.toList) then (bif (x5_1 == 0) then ((F10).bind fun x12 => (some x12)) else (some false)) else (some false))) else (some false)))))))))
theorem F4_ok (Nf : Nat) (a1 : GramD) (a2 : TreeD) {r : Bool} (h : F4 Nf a1 a2 = some r) : PR1 prg 4 [(aG a1), (.agg ((cT a2).map .p))] (F4_v a1 a2 r) := by
 unfold F4 at h
 refine bn h fun x1 h1 h => ?_
 refine bi h (fun h2 h => ?_) fun h2 h => ?_
 ·
  refine bn h fun x3 h3 h => ?_
  rw [← sj h]
  exact fpr (n := 30) [(8, .v (vb true)), (14, .v (vb x3))] (apc ((((F9_ok a1 h1).cp rfl _).trans (congrArg (fun z => some (vb z)) h2)) : CP prg 9 [(aG a1)] [bG a1, .cells 51 ((cT a2).map .p)] = some (vb true)) (apc (((F10_ok  h3).cp rfl _) : CP prg 10 [] [bG a1, .cells 51 ((cT a2).map .p)] = some (vb x3)) apn)) rfl (by kernel_rfl)
 ·
  have q0 := ((((F9_ok a1 h1).cp rfl _).trans (congrArg (fun z => some (vb z)) h2)) : CP prg 9 [(aG a1)] [bG a1, .cells 51 ((cT a2).map .p)] = some (vb false))
  refine bn h fun x3 h3 h => ?_
  have q1 := (((F19_2_ok Nf a2 5000 h3).cp rfl _) : CP prg 19 [(.agg ((cT a2).map .p)), (i6 5000)] [bG a1, .cells 51 ((cT a2).map .p)] = some (i6 x3))
  refine bi h (fun h4 h => ?_) fun h4 h => ?_
  ·
   refine bn h fun x5 h5 h => ?_
   rw [← sj h]
   exact fpr (n := 30) [(8, .v (vb false)), (11, .v (i6 x3)), (12, .d true), (14, .v (vb x5))] (apc q0 (apc q1 (apc (cv h4) (apc (((F10_ok  h5).cp rfl _) : CP prg 10 [] [bG a1, .cells 51 ((cT a2).map .p)] = some (vb x5)) apn)))) rfl (by kernel_rfl)
  ·
   refine bn h fun r5 h5 h => ?_
   cases r5 with
   | k0 x5_0 x5_1 =>
    have q3 := (((F20_ok Nf a2 h5).cp rfl _) : CP prg 20 [(.agg ((cT a2).map .p))] [bG a1, .cells 51 ((cT a2).map .p)] = some (.tup [(vs x5_0), (i6 x5_1)]))
    refine bn h fun x6 h6 h => ?_
    have q4 := (((F21_ok Nf a1 a2 h6).cp rfl _) : CP prg 21 [(aG a1), (.agg ((cT a2).map .p))] [bG a1, .cells 51 ((cT a2).map .p)] = some (i6 x6))
    refine bn h fun x7 h7 h => ?_
    have q5 := (((F22_ok Nf a1 a2 h7).cp rfl _) : CP prg 22 [(aG a1), (.agg ((cT a2).map .p))] [bG a1, .cells 51 ((cT a2).map .p)] = some (i6 x7))
    refine bi h (fun h8 h => ?_) fun h8 h => ?_
    ·
     refine bn h fun x9 h9 h => ?_
     have q7 := (((F23_ok Nf a2 h9).cp rfl _) : CP prg 23 [(.agg ((cT a2).map .p))] [bG a1, .cells 51 ((cT a2).map .p)] = some (vs x9))
     refine bi h (fun h10 h => ?_) fun h10 h => ?_
     ·
      refine bi h (fun h11 h => ?_) fun h11 h => ?_
      ·
       refine bn h fun x12 h12 h => ?_
       rw [← sj h]
       exact fpr (n := 30) [(8, .v (vb false)), (11, .v (i6 x3)), (12, .d false), (17, .v (.tup [(vs x5_0), (i6 x5_1)])), (22, .v (i6 x6)), (25, .v (i6 x7)), (26, .d true), (30, .v (vs x9)), (31, .d true), (35, .d true), (38, .v (vb x12))] (apc q0 (apc q1 (apc (cv h4) (apc q3 (apc q4 (apc q5 (apc (cv h8) (apc q7 (apc (cv h10) (apc (cv h11) (apc (((F10_ok  h12).cp rfl _) : CP prg 10 [] [bG a1, .cells 51 ((cT a2).map .p)] = some (vb x12)) apn))))))))))) rfl (by kernel_rfl)
      ·
       rw [← sj h]
       exact fpr (n := 30) [(8, .v (vb false)), (11, .v (i6 x3)), (12, .d false), (17, .v (.tup [(vs x5_0), (i6 x5_1)])), (22, .v (i6 x6)), (25, .v (i6 x7)), (26, .d true), (30, .v (vs x9)), (31, .d true), (35, .d false)] (apc q0 (apc q1 (apc (cv h4) (apc q3 (apc q4 (apc q5 (apc (cv h8) (apc q7 (apc (cv h10) (apc (cv h11) apn)))))))))) rfl (by kernel_rfl)
     ·
      rw [← sj h]
      exact fpr (n := 30) [(8, .v (vb false)), (11, .v (i6 x3)), (12, .d false), (17, .v (.tup [(vs x5_0), (i6 x5_1)])), (22, .v (i6 x6)), (25, .v (i6 x7)), (26, .d true), (30, .v (vs x9)), (31, .d false)] (apc q0 (apc q1 (apc (cv h4) (apc q3 (apc q4 (apc q5 (apc (cv h8) (apc q7 (apc (cv h10) apn))))))))) rfl (by kernel_rfl)
    ·
     rw [← sj h]
     exact fpr (n := 30) [(8, .v (vb false)), (11, .v (i6 x3)), (12, .d false), (17, .v (.tup [(vs x5_0), (i6 x5_1)])), (22, .v (i6 x6)), (25, .v (i6 x7)), (26, .d false)] (apc q0 (apc q1 (apc (cv h4) (apc q3 (apc q4 (apc q5 (apc (cv h8) apn))))))) rfl (by kernel_rfl)
end Go.Proofs.Try
