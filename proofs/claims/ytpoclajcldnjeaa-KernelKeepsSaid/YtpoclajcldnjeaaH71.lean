/- Decompiled by a program: functions as plain data see them, part 1. -/
import Derived.Test.YtpoclajcldnjeaaW7
namespace Go.Proofs.Try
set_option linter.unusedSimpArgs false
set_option linter.unusedVariables false
open Go Go.Vs
noncomputable section
inductive E_L9_1 where
  | k0
  | k1
section
variable (a1 : GramD)
def L9_1 (v1 : Int) : Option (E_L9_1 ⊕ (Int)) :=
  (bif (decide (v1 < (a1.sorts.length : Int))) then ((getI a1.sorts v1).bind fun x2 => (bif (decide ((x2.size : Int) > 1500)) then (some (.inl (.k0))) else (some (.inr ((IntKind.wrap .i64 (v1 + 1))))))) else (some (.inl (.k1))))
def L9_1_s (v1 : Int) : St := ⟨fr 66 ug [(1, .ptr 0 0), (3, i6 v1)], [bG a1]⟩
abbrev L9_1_e (v1 : Int) := evH prg 1 [1, 3] ir9_l1 (L9_1_s a1 v1)
def L9_1_x (e : E_L9_1) (r : Option (Out × St)) : Prop := match e with | .k0 => ∃ g y, r = some (.ret, ⟨fr 66 g [(2, vb true)], y⟩) | .k1 => ∃ g, r = some ((.brk 0), ⟨fr 66 g [(1, .ptr 0 0)], [bG a1]⟩)
theorem L9_1_ok (v1 : Int) {r : E_L9_1 ⊕ (Int)} (h : L9_1 a1 v1 = some r) : OkR (fun e => L9_1_x a1 e (L9_1_e a1 v1)) (fun s => L9_1_e a1 v1 = L9_1_e a1 s) r := by
 unfold L9_1 at h
 refine bi h ?_ ?_ <;> intro h1 h
 ·
  refine bn h fun x2 h2 h => ?_
  refine bi h ?_ ?_ <;> intro h3 h
  ·
   rw [← sj h]
   exact xretY [(30, .v (i6 (lS a1))), (31, .d true), (37, .v (.ro [.val (.string x2)])), (40, .d true), (6000, .d true)] (apc (lg a1.sorts eStr 1) (av h1 (apc (ig eStr 1 .i64 h2) (av h3 apn)))) (by kernel_rfl)
  ·
   rw [← sj h]
   exact rnd [(30, .v (i6 (lS a1))), (31, .d true), (37, .v (.ro [.val (.string x2)])), (40, .d false), (6000, .d true)] (apc (lg a1.sorts eStr 1) (av h1 (apc (ig eStr 1 .i64 h2) (av h3 (apc ((oK (ac rfl)) : okT 1 [bG a1] = true) apn))))) (by kernel_rfl)
 ·
  rw [← sj h]
  exact xbrk [(30, .v (i6 (lS a1))), (31, .d false), (6000, .d true)] (apc (lg a1.sorts eStr 1) (av h1 apn)) (by kernel_rfl)
theorem L9_1_run (s0 : Int) (e : E_L9_1) (h : runL (fun s => L9_1 a1 s) s0 = some e) : L9_1_x a1 e (L9_1_e a1 s0) := by
  have q := @loop_sound' (Int) E_L9_1 (fun s => L9_1 a1 s) (fun s => L9_1_e a1 s) (L9_1_x a1) (fun s r h => L9_1_ok a1 s h) s0 e h
  exact q
end
inductive E_L9_0 where
  | k0
  | k1
section
variable (a1 : GramD)
def L9_0 (v1 : Int) : Option (E_L9_0 ⊕ (Int)) :=
  (bif (decide (v1 < (a1.prods.length : Int))) then ((getI a1.prods v1).bind fun x2 => (bif (decide ((x2.right.length : Int) > 40)) then (some (.inl (.k0))) else (bif (decide ((x2.cons.size : Int) > 1500)) then (some (.inl (.k0))) else (some (.inr ((IntKind.wrap .i64 (v1 + 1)))))))) else (some (.inl (.k1))))
def L9_0_s (v1 : Int) : St := ⟨fr 66 ug [(1, .ptr 0 0), (4, i6 v1)], [bG a1]⟩
abbrev L9_0_e (v1 : Int) := evH prg 1 [1, 4] ir9_l0 (L9_0_s a1 v1)
def L9_0_x (e : E_L9_0) (r : Option (Out × St)) : Prop := match e with | .k0 => ∃ g y, r = some (.ret, ⟨fr 66 g [(2, vb true)], y⟩) | .k1 => ∃ g, r = some ((.brk 2), ⟨fr 66 g [(1, .ptr 0 0)], [bG a1]⟩)
theorem L9_0_ok (v1 : Int) {r : E_L9_0 ⊕ (Int)} (h : L9_0 a1 v1 = some r) : OkR (fun e => L9_0_x a1 e (L9_0_e a1 v1)) (fun s => L9_0_e a1 v1 = L9_0_e a1 s) r := by
 unfold L9_0 at h
 refine bi h ?_ ?_ <;> intro h1 h
 ·
  refine bn h fun x2 h2 h => ?_
  refine bi h ?_ ?_ <;> intro h3 h
  ·
   rw [← sj h]
   exact xretY [(44, .v (i6 (lP a1))), (45, .d true), (51, .v (.ro (eProd x2))), (54, .v (i6 (x2.right.length : Int))), (55, .d true), (6000, .d true)] (apc (lg a1.prods eProd 7) (av h1 (apc (ig eProd 7 .i64 h2) (apc (lg x2.right eSym 6) (av h3 apn))))) (by kernel_rfl)
  ·
   refine bi h ?_ ?_ <;> intro h4 h
   ·
    rw [← sj h]
    exact xretY [(44, .v (i6 (lP a1))), (45, .d true), (51, .v (.ro (eProd x2))), (54, .v (i6 (x2.right.length : Int))), (55, .d false), (60, .v (.ro (eProd x2))), (64, .d true), (6000, .d true)] (apc (lg a1.prods eProd 7) (av h1 (apc (ig eProd 7 .i64 h2) (apc (lg x2.right eSym 6) (av h3 (apc (ig eProd 7 .i64 h2) (av h4 apn))))))) (by kernel_rfl)
   ·
    rw [← sj h]
    exact rnd [(44, .v (i6 (lP a1))), (45, .d true), (51, .v (.ro (eProd x2))), (54, .v (i6 (x2.right.length : Int))), (55, .d false), (60, .v (.ro (eProd x2))), (64, .d false), (6000, .d true)] (apc (lg a1.prods eProd 7) (av h1 (apc (ig eProd 7 .i64 h2) (apc (lg x2.right eSym 6) (av h3 (apc (ig eProd 7 .i64 h2) (av h4 (apc ((oK (ac rfl)) : okT 1 [bG a1] = true) apn)))))))) (by kernel_rfl)
 ·
  rw [← sj h]
  exact xbrk [(44, .v (i6 (lP a1))), (45, .d false), (6000, .d true)] (apc (lg a1.prods eProd 7) (av h1 apn)) (by kernel_rfl)
theorem L9_0_run (s0 : Int) (e : E_L9_0) (h : runL (fun s => L9_0 a1 s) s0 = some e) : L9_0_x a1 e (L9_0_e a1 s0) := by
  have q := @loop_sound' (Int) E_L9_0 (fun s => L9_0 a1 s) (fun s => L9_0_e a1 s) (L9_0_x a1) (fun s r h => L9_0_ok a1 s h) s0 e h
  exact q
end
def F9_v (a1 : GramD) (x0 : Bool) : AV := (vb x0)
def F9 (a1 : GramD) : Option Bool :=
  (bif (decide ((a1.sorts.length : Int) > 40)) then (some true) else (bif (decide ((a1.prods.length : Int) > 60)) then (some true) else (bif (decide ((a1.forbid.length : Int) > 40)) then (some true) else (bif (decide ((a1.follow.length : Int) > 40)) then (some true) else ((runL (fun s => L9_1 a1 s) 0).bind fun r5 => match r5 with | .k0 => (some true) | .k1 => ((runL (fun s => L9_0 a1 s) 0).bind fun r6 => match r6 with | .k0 => (some true) | .k1 => (some false)))))))
theorem F9_ok (a1 : GramD) {r : Bool} (h : F9 a1 = some r) : PR1 prg 9 [aG a1] (F9_v a1 r) := by
 unfold F9 at h
 refine bi h ?_ ?_ <;> intro h1 h
 ·
  rw [← sj h]
  exact fpr [(7, .v (i6 (lS a1))), (8, .d true)] (apc (lg a1.sorts eStr 1) (av h1 apn)) rfl (by kernel_rfl)
 ·
  refine bi h ?_ ?_ <;> intro h2 h
  ·
   rw [← sj h]
   exact fpr [(7, .v (i6 (lS a1))), (8, .d false), (12, .v (i6 (lP a1))), (13, .d true)] (apc (lg a1.sorts eStr 1) (av h1 (apc (lg a1.prods eProd 7) (av h2 apn)))) rfl (by kernel_rfl)
  ·
   refine bi h ?_ ?_ <;> intro h3 h
   ·
    rw [← sj h]
    exact fpr [(7, .v (i6 (lS a1))), (8, .d false), (12, .v (i6 (lP a1))), (13, .d false), (18, .v (i6 (lF a1))), (19, .d true)] (apc (lg a1.sorts eStr 1) (av h1 (apc (lg a1.prods eProd 7) (av h2 (apc (lg a1.forbid eForb 3) (av h3 apn)))))) rfl (by kernel_rfl)
   ·
    refine bi h ?_ ?_ <;> intro h4 h
    ·
     rw [← sj h]
     exact fpr [(7, .v (i6 (lS a1))), (8, .d false), (12, .v (i6 (lP a1))), (13, .d false), (18, .v (i6 (lF a1))), (19, .d false), (24, .v (i6 (lW a1))), (25, .d true)] (apc (lg a1.sorts eStr 1) (av h1 (apc (lg a1.prods eProd 7) (av h2 (apc (lg a1.forbid eForb 3) (av h3 (apc (lg a1.follow eFoll 5) (av h4 apn)))))))) rfl (by kernel_rfl)
    ·
     refine bn h fun r5 h5 h => ?_
     cases r5 with
     | k0 =>
      obtain ⟨g5, y5, e5⟩ := L9_1_run a1 0 _ h5
      rw [← sj h]
      exact fpr [(7, .v (i6 (lS a1))), (8, .d false), (12, .v (i6 (lP a1))), (13, .d false), (18, .v (i6 (lF a1))), (19, .d false), (24, .v (i6 (lW a1))), (25, .d false), (2000, .l .ret ⟨fr 66 g5 [(2, vb true)], y5⟩), (6000, .d true)] (apc (lg a1.sorts eStr 1) (av h1 (apc (lg a1.prods eProd 7) (av h2 (apc (lg a1.forbid eForb 3) (av h3 (apc (lg a1.follow eFoll 5) (av h4 (apc ((oK (ac rfl)) : okT 1 [bG a1] = true) (apc (e5 : L9_1_e a1 0 = some (.ret, ⟨fr 66 g5 [(2, vb true)], y5⟩)) apn)))))))))) rfl (by kernel_rfl)
     | k1 =>
      obtain ⟨g5, e5⟩ := L9_1_run a1 0 _ h5
      have q8 := ((oK (ac rfl)) : okT 1 [bG a1] = true)
      have q9 := (e5 : L9_1_e a1 0 = some ((.brk 0), ⟨fr 66 g5 [(1, .ptr 0 0)], [bG a1]⟩))
      refine bn h fun r6 h6 h => ?_
      cases r6 with
      | k0 =>
       obtain ⟨g6, y6, e6⟩ := L9_0_run a1 0 _ h6
       rw [← sj h]
       exact fpr [(7, .v (i6 (lS a1))), (8, .d false), (12, .v (i6 (lP a1))), (13, .d false), (18, .v (i6 (lF a1))), (19, .d false), (24, .v (i6 (lW a1))), (25, .d false), (2000, .l (.brk 0) ⟨fr 66 g5 [(1, .ptr 0 0)], [bG a1]⟩), (2002, .l .ret ⟨fr 66 g6 [(2, vb true)], y6⟩), (6000, .d true)] (apc (lg a1.sorts eStr 1) (av h1 (apc (lg a1.prods eProd 7) (av h2 (apc (lg a1.forbid eForb 3) (av h3 (apc (lg a1.follow eFoll 5) (av h4 (apc q8 (apc q9 (apc ((oK (ac rfl)) : okT 1 [bG a1] = true) (apc (e6 : L9_0_e a1 0 = some (.ret, ⟨fr 66 g6 [(2, vb true)], y6⟩)) apn)))))))))))) rfl (by kernel_rfl)
      | k1 =>
       obtain ⟨g6, e6⟩ := L9_0_run a1 0 _ h6
       rw [← sj h]
       exact fpr [(7, .v (i6 (lS a1))), (8, .d false), (12, .v (i6 (lP a1))), (13, .d false), (18, .v (i6 (lF a1))), (19, .d false), (24, .v (i6 (lW a1))), (25, .d false), (2000, .l (.brk 0) ⟨fr 66 g5 [(1, .ptr 0 0)], [bG a1]⟩), (2002, .l (.brk 2) ⟨fr 66 g6 [(1, .ptr 0 0)], [bG a1]⟩), (6000, .d true)] (apc (lg a1.sorts eStr 1) (av h1 (apc (lg a1.prods eProd 7) (av h2 (apc (lg a1.forbid eForb 3) (av h3 (apc (lg a1.follow eFoll 5) (av h4 (apc q8 (apc q9 (apc ((oK (ac rfl)) : okT 1 [bG a1] = true) (apc (e6 : L9_0_e a1 0 = some ((.brk 2), ⟨fr 66 g6 [(1, .ptr 0 0)], [bG a1]⟩)) apn)))))))))))) rfl (by kernel_rfl)
def F19_2_v (a1 : TreeD) (a2 : Int) (x0 : Int) : AV := (i6 x0)
abbrev T_F19_2 := TreeD → Int → Option Int
abbrev H_F19_2 (f : T_F19_2) : Prop := ∀ (a1 : TreeD) (a2 : Int) {r : Int}, f a1 a2 = some r → PR1 prg 19 [(.agg ((cT a1).map .p)), i6 a2] (F19_2_v a1 a2 r)
inductive E_L19_0_2 where
  | k0 (x0 : Int)
def L19_0_2 (rF19_2 : T_F19_2) (a1 : Int) (a2 : TreeD) (v1 v2 : Int) : Option (E_L19_0_2 ⊕ (Int × Int)) :=
  (bif (decide (v2 < (a2.kids.length : Int))) then (bif (decide (v1 ≤ a1)) then ((getI a2.kids v2).bind fun x3 => ((rF19_2 x3 (IntKind.wrap .i64 (a1 - v1))).bind fun x4 => (some (.inr ((IntKind.wrap .i64 (v1 + x4)), (IntKind.wrap .i64 (v2 + 1))))))) else (some (.inl (.k0 v1)))) else (some (.inl (.k0 v1))))
def L19_0_2_s (a1 : Int) (a2 : TreeD) (v1 v2 : Int) : St := ⟨fr 31 ug [(1, i6 a1), (2, .ptr 0 0), (5, i6 v1), (6, i6 v2)], [.cells 51 ((cT a2).map .p)]⟩
abbrev L19_0_2_e (a1 : Int) (a2 : TreeD) (v1 v2 : Int) := evH prg 1 [1, 2, 5, 6] ir19_l0 (L19_0_2_s a1 a2 v1 v2)
def L19_0_2_x (a1 : Int) (a2 : TreeD) (e : E_L19_0_2) (r : Option (Out × St)) : Prop := match e with | .k0 x0 => ∃ g, r = some ((.brk 0), ⟨fr 31 g [(5, i6 x0)], [.cells 51 ((cT a2).map .p)]⟩)
theorem L19_0_2_ok (rF19_2 : T_F19_2) (hF19_2 : H_F19_2 rF19_2) (a1 : Int) (a2 : TreeD) (v1 v2 : Int) {r : E_L19_0_2 ⊕ (Int × Int)} (h : L19_0_2 rF19_2 a1 a2 v1 v2 = some r) : OkR (fun e => L19_0_2_x a1 a2 e (L19_0_2_e a1 a2 v1 v2)) (fun s => L19_0_2_e a1 a2 v1 v2 = L19_0_2_e a1 a2 s.1 s.2) r := by
 unfold L19_0_2 at h
 have q0 := ((lgr tr_map) : lnA (.p (.lst 3 (eTrees a2.kids))) = some (i6 (a2.kids.length : Int)))
 refine bi h ?_ ?_ <;> intro h1 h
 ·
  refine bi h ?_ ?_ <;> intro h2 h
  ·
   refine bn h fun x3 h3 h => ?_
   refine bn h fun x4 h4 h => ?_
   rw [← sj h]
   exact rnd [(10, .v (i6 (a2.kids.length : Int))), (11, .d true), (15, .d true), (23, .v (.ro (cT x3))), (28, .v (i6 x4)), (6000, .d true)] (apc q0 (av h1 (av h2 (apc ((igr tr_map h3) : idxA 3 (.p (.lst 3 (eTrees a2.kids))) (i6 v2) = some (.ro (cT x3))) (apc (((hF19_2 x3 (w6 (a1 - v1)) h4).cp rfl _) : CP prg 19 [(.agg ((cT x3).map .p)), (i6 (w6 (a1 - v1)))] [.cells 51 ((cT a2).map .p)] = some (i6 x4)) (apc ((oK (ac rfl)) : okT 1 [.cells 51 ((cT a2).map .p)] = true) apn)))))) (by kernel_rfl)
  ·
   rw [← sj h]
   exact xbrk [(10, .v (i6 (a2.kids.length : Int))), (11, .d true), (15, .d false), (6000, .d true)] (apc q0 (av h1 (av h2 apn))) (by kernel_rfl)
 ·
  rw [← sj h]
  exact xbrk [(10, .v (i6 (a2.kids.length : Int))), (11, .d false), (6000, .d true)] (apc q0 (av h1 apn)) (by kernel_rfl)
theorem L19_0_2_run (rF19_2 : T_F19_2) (hF19_2 : H_F19_2 rF19_2) (a1 : Int) (a2 : TreeD) (s0 : Int × Int) (e : E_L19_0_2) (h : runL (fun s => L19_0_2 rF19_2 a1 a2 s.1 s.2) s0 = some e) : L19_0_2_x a1 a2 e (L19_0_2_e a1 a2 s0.1 s0.2) := by
  have q := @loop_sound' (Int × Int) E_L19_0_2 (fun s => L19_0_2 rF19_2 a1 a2 s.1 s.2) (fun s => L19_0_2_e a1 a2 s.1 s.2) (L19_0_2_x a1 a2) (fun s r h => L19_0_2_ok rF19_2 hF19_2 a1 a2 s.1 s.2 h) s0 e h
  exact q
def F19_2_b (rF19_2 : T_F19_2) (a1 : TreeD) (a2 : Int) : Option Int :=
  ((runL (fun s => L19_0_2 rF19_2 a2 a1 s.1 s.2) (1, 0)).bind fun r1 => match r1 with | .k0 x1_0 => (some x1_0))
theorem F19_2_bok (rF19_2 : T_F19_2) (hF19_2 : H_F19_2 rF19_2) (a1 : TreeD) (a2 : Int) {r : Int} (h : F19_2_b rF19_2 a1 a2 = some r) : PR1 prg 19 [(.agg ((cT a1).map .p)), i6 a2] (F19_2_v a1 a2 r) := by
 unfold F19_2_b at h
 refine bn h fun r1 h1 h => ?_
 cases r1 with
 | k0 x1_0 =>
  obtain ⟨g1, e1⟩ := L19_0_2_run rF19_2 hF19_2 a2 a1 (1, 0) _ h1
  rw [← sj h]
  exact fpr [(2000, .l (.brk 0) ⟨fr 31 g1 [(5, i6 x1_0)], [.cells 51 ((cT a1).map .p)]⟩), (6000, .d true)] (apc ((oK (ac rfl)) : okT 1 [.cells 51 ((cT a1).map .p)] = true) (apc (e1 : L19_0_2_e a2 a1 1 0 = some ((.brk 0), ⟨fr 31 g1 [(5, i6 x1_0)], [.cells 51 ((cT a1).map .p)]⟩)) apn)) rfl (by kernel_rfl)
def F19_2 : Nat → T_F19_2
  | 0 => fun _ _ => none
  | Nf + 1 => F19_2_b (F19_2 Nf)
theorem F19_2_ok (Nf : Nat) : H_F19_2 (F19_2 Nf) := by
  induction Nf with
  | zero => intro a1 a2 r h; have h : (none : Option Int) = some r := h; cases h
  | succ Nf ih => intro a1 a2 r h; exact F19_2_bok (F19_2 Nf) ih a1 a2 h
inductive E_L41_0 where
  | k0
  | k1 (x0 : List (ByteArray × Int))
section
variable (a1 : GramD) (a2 : Int)
def L41_0 (v1 : Int) (v2 : List (ByteArray × Int)) : Option (E_L41_0 ⊕ (Int × (List (ByteArray × Int)))) :=
  (bif (decide (v1 < a2)) then ((getI a1.sorts v1).bind fun x2 => (bif (x2.toList == (⟨([] : List UInt8).toArray⟩ : ByteArray).toList) then (some (.inl (.k0))) else (bif (decide ((x2.size : Int) > 1000)) then (some (.inl (.k0))) else (bif (decide ((mget 0 (mput x2 (IntKind.wrap .i64 ((mget 0 v2 x2) + 1)) v2) x2) > 1)) then (some (.inl (.k0))) else (some (.inr ((IntKind.wrap .i64 (v1 + 1)), (mput x2 (IntKind.wrap .i64 ((mget 0 v2 x2) + 1)) v2)))))))) else (some (.inl (.k1 v2))))
def L41_0_s (v1 : Int) (v2 : List (ByteArray × Int)) : St := ⟨fr 55 ug [(1, .ptr 0 0), (3, .mp 1), (8, ls 1 eStr a1.sorts), (9, i6 a2), (10, i6 v1)], [bG a1, .map (mrow (fun s => vs s) (fun n => vi .i64 n) v2)]⟩
abbrev L41_0_e (v1 : Int) (v2 : List (ByteArray × Int)) := evH prg 2 [1, 3, 8, 9, 10] ir41_l0 (L41_0_s a1 a2 v1 v2)
def L41_0_x (e : E_L41_0) (r : Option (Out × St)) : Prop := match e with | .k0 => ∃ g y, r = some (.ret, ⟨fr 55 g [(2, vb false)], y⟩) | .k1 x0 => ∃ g, r = some ((.brk 0), ⟨fr 55 g [(1, .ptr 0 0), (8, ls 1 eStr a1.sorts)], [bG a1, .map (mrow (fun s => vs s) (fun n => vi .i64 n) x0)]⟩)
abbrev L41_0_d0 (v2 : List (ByteArray × Int)) : List AB := [bG a1, .map (mrow (fun s => vs s) (fun n => vi .i64 n) v2)]
abbrev L41_0_d1 (x2 : ByteArray) (v2 : List (ByteArray × Int)) : List AB := [bG a1, .map (mrow (fun s => vs s) (fun n => vi .i64 n) (mput x2 (w6 ((mget 0 v2 x2) + 1)) v2))]
abbrev L41_0_c0 (x2 : ByteArray) (v2 : List (ByteArray × Int)) : List (Nat × Hint) := [(12, .v (.ro [.val (.string x2)])), (16, .v (i6 (mget 0 v2 x2))), (7017, .r ud (L41_0_d1 a1 x2 v2))]
abbrev L41_0_c1 (x2 : ByteArray) (v2 : List (ByteArray × Int)) : List (Nat × Hint) := [(23, .d false), (28, .v (i6 (mget 0 (mput x2 (w6 ((mget 0 v2 x2) + 1)) v2) x2)))]
theorem L41_0_ok (v1 : Int) (v2 : List (ByteArray × Int)) {r : E_L41_0 ⊕ (Int × (List (ByteArray × Int)))} (h : L41_0 a1 a2 v1 v2 = some r) : OkR (fun e => L41_0_x a1 e (L41_0_e a1 a2 v1 v2)) (fun s => L41_0_e a1 a2 v1 v2 = L41_0_e a1 a2 s.1 s.2) r := by
 unfold L41_0 at h
 refine bi h ?_ ?_ <;> intro h1 h
 ·
  refine bn h fun x2 h2 h => ?_
  have q2 := ((lk_row key_str (es := v2) (k := x2) (z := 0) rfl rfl) : lkA (L41_0_d0 a1 v2) [2] .false .false [(.val (.int .i64 0))] .false (.mp 1) (vs x2) = some (i6 (mget 0 v2 x2)))
  have q3 := (⟨up_row key_str (es := v2) (k := x2) (v := (w6 ((mget 0 v2 x2) + 1))) rfl, rfl⟩ : upA (L41_0_d0 a1 v2) [2] .false (.mp 1) (vs x2) (i6 (w6 ((mget 0 v2 x2) + 1))) = some (L41_0_d1 a1 x2 v2) ∧ ud = ud)
  refine bi h ?_ ?_ <;> intro h3 h
  ·
   rw [← sj h]
   exact xretY ([(11, .d true)] ++ ((L41_0_c0 a1 x2 v2) ++ [(19, .d true), (6000, .d true)])) (av h1 (apc (ig eStr 1 .i64 h2) (apc q2 (apc q3 (av h3 apn))))) (by kernel_rfl)
  ·
   refine bi h ?_ ?_ <;> intro h4 h
   ·
    rw [← sj h]
    exact xretY ([(11, .d true)] ++ ((L41_0_c0 a1 x2 v2) ++ [(19, .d false), (23, .d true), (6000, .d true)])) (av h1 (apc (ig eStr 1 .i64 h2) (apc q2 (apc q3 (av h3 (av h4 apn)))))) (by kernel_rfl)
   ·
    have q6 := ((lk_row key_str (es := (mput x2 (w6 ((mget 0 v2 x2) + 1)) v2)) (k := x2) (z := 0) rfl rfl) : lkA (L41_0_d1 a1 x2 v2) [2] .false .false [(.val (.int .i64 0))] .false (.mp 1) (vs x2) = some (i6 (mget 0 (mput x2 (w6 ((mget 0 v2 x2) + 1)) v2) x2)))
    refine bi h ?_ ?_ <;> intro h5 h
    ·
     rw [← sj h]
     exact xretY ([(11, .d true)] ++ ((L41_0_c0 a1 x2 v2) ++ ([(19, .d false)] ++ ((L41_0_c1 x2 v2) ++ [(29, .d true), (6000, .d true)])))) (av h1 (apc (ig eStr 1 .i64 h2) (apc q2 (apc q3 (av h3 (av h4 (apc q6 (av h5 apn)))))))) (by kernel_rfl)
    ·
     rw [← sj h]
     exact rnd ([(11, .d true)] ++ ((L41_0_c0 a1 x2 v2) ++ ([(19, .d false)] ++ ((L41_0_c1 x2 v2) ++ [(29, .d false), (6000, .d true)])))) (av h1 (apc (ig eStr 1 .i64 h2) (apc q2 (apc q3 (av h3 (av h4 (apc q6 (av h5 (apc ((oK (ac (abl_cons (abl_map (fun _ => rfl) (fun _ => rfl)) rfl))) : okT 2 (L41_0_d1 a1 x2 v2) = true) apn))))))))) (by kernel_rfl)
 ·
  rw [← sj h]
  exact xbrk [(11, .d false), (6000, .d true)] (av h1 apn) (by kernel_rfl)
theorem L41_0_run (s0 : Int × (List (ByteArray × Int))) (e : E_L41_0) (h : runL (fun s => L41_0 a1 a2 s.1 s.2) s0 = some e) : L41_0_x a1 e (L41_0_e a1 a2 s0.1 s0.2) := by
  have q := @loop_sound' (Int × (List (ByteArray × Int))) E_L41_0 (fun s => L41_0 a1 a2 s.1 s.2) (fun s => L41_0_e a1 a2 s.1 s.2) (L41_0_x a1) (fun s r h => L41_0_ok a1 a2 s.1 s.2 h) s0 e h
  exact q
end
def F41_v (a1 : GramD) (x0 : Bool) : AV := (vb x0)
def F41 (a1 : GramD) : Option Bool :=
  ((runL (fun s => L41_0 a1 (a1.sorts.length : Int) s.1 s.2) (0, [])).bind fun r1 => match r1 with | .k0 => (some false) | .k1 x1_0 => (bif (decide ((a1.sorts.length : Int) ≥ 1)) then (bif (decide ((a1.sorts.length : Int) ≤ 1000)) then (bif (decide (a1.start ≥ 0)) then (some (decide (a1.start < (a1.sorts.length : Int)))) else (some false)) else (some false)) else (some false)))
abbrev F41_d0 (g1 : Nat → AV) (a1 : GramD) (x1_0 : List (ByteArray × Int)) : St := ⟨fr 55 g1 [(1, .ptr 0 0), (8, ls 1 eStr a1.sorts)], [bG a1, .map (mrow (fun s => vs s) (fun n => vi .i64 n) x1_0)]⟩
abbrev F41_c0 (g1 : Nat → AV) (a1 : GramD) (x1_0 : List (ByteArray × Int)) : List (Nat × Hint) := [(2000, .l (.brk 0) (F41_d0 g1 a1 x1_0)), (34, .v (i6 (lS a1)))]
theorem F41_ok (a1 : GramD) {r : Bool} (h : F41 a1 = some r) : PR1 prg 41 [aG a1] (F41_v a1 r) := by
 unfold F41 at h
 refine bn h fun r1 h1 h => ?_
 cases r1 with
 | k0 =>
  obtain ⟨g1, y1, e1⟩ := L41_0_run a1 (lS a1) (0, []) _ h1
  rw [← sj h]
  exact fpr [(9, .v (i6 (lS a1))), (2000, .l .ret ⟨fr 55 g1 [(2, vb false)], y1⟩), (6000, .d true)] (apc (lg a1.sorts eStr 1) (apc ((oK (ac (ac rfl))) : okT 2 [bG a1, .map []] = true) (apc (e1 : L41_0_e a1 (lS a1) 0 ([]) = some (.ret, ⟨fr 55 g1 [(2, vb false)], y1⟩)) apn))) rfl (by kernel_rfl)
 | k1 x1_0 =>
  obtain ⟨g1, e1⟩ := L41_0_run a1 (lS a1) (0, []) _ h1
  have q1 := ((oK (ac (ac rfl))) : okT 2 [bG a1, .map []] = true)
  have q2 := (e1 : L41_0_e a1 (lS a1) 0 ([]) = some ((.brk 0), F41_d0 g1 a1 x1_0))
  refine bi h ?_ ?_ <;> intro h2 h
  ·
   refine bi h ?_ ?_ <;> intro h3 h
   ·
    refine bi h ?_ ?_ <;> intro h4 h
    ·
     rw [← sj h]
     exact fpr ([(9, .v (i6 (lS a1)))] ++ ((F41_c0 g1 a1 x1_0) ++ [(35, .d true), (39, .v (i6 (lS a1))), (40, .d true), (45, .d true), (52, .v (i6 (lS a1))), (6000, .d true)])) (apc (lg a1.sorts eStr 1) (apc q1 (apc q2 (apc (lg a1.sorts eStr 1) (av h2 (apc (lg a1.sorts eStr 1) (av h3 (av h4 (apc (lg a1.sorts eStr 1) apn))))))))) rfl (by kernel_rfl)
    ·
     rw [← sj h]
     exact fpr ([(9, .v (i6 (lS a1)))] ++ ((F41_c0 g1 a1 x1_0) ++ [(35, .d true), (39, .v (i6 (lS a1))), (40, .d true), (45, .d false), (6000, .d true)])) (apc (lg a1.sorts eStr 1) (apc q1 (apc q2 (apc (lg a1.sorts eStr 1) (av h2 (apc (lg a1.sorts eStr 1) (av h3 (av h4 apn)))))))) rfl (by kernel_rfl)
   ·
    rw [← sj h]
    exact fpr ([(9, .v (i6 (lS a1)))] ++ ((F41_c0 g1 a1 x1_0) ++ [(35, .d true), (39, .v (i6 (lS a1))), (40, .d false), (6000, .d true)])) (apc (lg a1.sorts eStr 1) (apc q1 (apc q2 (apc (lg a1.sorts eStr 1) (av h2 (apc (lg a1.sorts eStr 1) (av h3 apn))))))) rfl (by kernel_rfl)
  ·
   rw [← sj h]
   exact fpr ([(9, .v (i6 (lS a1)))] ++ ((F41_c0 g1 a1 x1_0) ++ [(35, .d false), (6000, .d true)])) (apc (lg a1.sorts eStr 1) (apc q1 (apc q2 (apc (lg a1.sorts eStr 1) (av h2 apn))))) rfl (by kernel_rfl)
def F67_v (a1 : ProdD) (a2 : GramD) (x0 : Bool) : AV := (vb x0)
def F67 (a1 : ProdD) (a2 : GramD) : Option Bool :=
  (bif (decide (a1.left ≥ 0)) then (some (decide (a1.left < (a2.sorts.length : Int)))) else (some false))
theorem F67_ok (a1 : ProdD) (a2 : GramD) {r : Bool} (h : F67 a1 a2 = some r) : PR1 prg 67 [i6 a1.left, (.ro (eGram a2))] (F67_v a1 a2 r) := by
 unfold F67 at h
 refine bi h ?_ ?_ <;> intro h1 h
 ·
  rw [← sj h]
  exact fpr [(5, .d true), (10, .v (i6 (lS a2)))] (av h1 (apc (lg a2.sorts eStr 1) apn)) rfl (by kernel_rfl)
 ·
  rw [← sj h]
  exact fpr [(5, .d false)] (av h1 apn) rfl (by kernel_rfl)
def F67_2_v (a1 : SymD) (a2 : GramD) (x0 : Bool) : AV := (vb x0)
def F67_2 (a1 : SymD) (a2 : GramD) : Option Bool :=
  (bif (decide (a1.sort ≥ 0)) then (some (decide (a1.sort < (a2.sorts.length : Int)))) else (some false))
theorem F67_2_ok (a1 : SymD) (a2 : GramD) {r : Bool} (h : F67_2 a1 a2 = some r) : PR1 prg 67 [i6 a1.sort, (.ro (eGram a2))] (F67_2_v a1 a2 r) := by
 unfold F67_2 at h
 refine bi h ?_ ?_ <;> intro h1 h
 ·
  rw [← sj h]
  exact fpr [(5, .d true), (10, .v (i6 (lS a2)))] (av h1 (apc (lg a2.sorts eStr 1) apn)) rfl (by kernel_rfl)
 ·
  rw [← sj h]
  exact fpr [(5, .d false)] (av h1 apn) rfl (by kernel_rfl)
inductive E_L42_0_2 where
  | k0
  | k1
section
variable (a1 : GramD) (a2 a3 : Int) (a4 : ProdD) (a5 : Int)
def L42_0_2 (v1 : Int) : Option (E_L42_0_2 ⊕ (Int)) :=
  (bif (decide (v1 < a5)) then ((getI a4.right v1).bind fun x2 => (bif (x2.kind == 0) then (bif ((x2.a == 0) && ((x2.b == 0) && ((x2.c == 0) && ((x2.d == 0) && true)))) then (some (.inl (.k0))) else (bif (x2.sort != 0) then (some (.inl (.k0))) else (some (.inr ((IntKind.wrap .i64 (v1 + 1))))))) else (bif (x2.kind == 1) then (bif (!((x2.a == 0) && ((x2.b == 0) && ((x2.c == 0) && ((x2.d == 0) && true))))) then (some (.inl (.k0))) else ((F67_2 x2 a1).bind fun x6 => (bif x6 then (bif (a4.role == 11) then (some (.inl (.k0))) else (some (.inr ((IntKind.wrap .i64 (v1 + 1)))))) else (some (.inl (.k0)))))) else (some (.inl (.k0)))))) else (some (.inl (.k1))))
def L42_0_2_s (v1 : Int) : St := ⟨fr 110 ug [(1, .ptr 0 0), (3, (.fn 67 [.ptr 0 0])), (5, .ptr 2 0), (10, ls 7 eProd a1.prods), (11, i6 a2), (12, i6 a3), (67, ls 6 eSym a4.right), (68, i6 a5), (69, i6 v1)], [bG a1, yY0, bP a4]⟩
abbrev L42_0_2_e (v1 : Int) := evH prg 3 [1, 3, 5, 10, 11, 12, 67, 68, 69] ir42_l0 (L42_0_2_s a1 a2 a3 a4 a5 v1)
def L42_0_2_x (e : E_L42_0_2) (r : Option (Out × St)) : Prop := match e with | .k0 => ∃ g y, r = some (.ret, ⟨fr 110 g [(2, vb false)], y⟩) | .k1 => ∃ g, r = some ((.brk 2), ⟨fr 110 g [(1, .ptr 0 0), (3, (.fn 67 [.ptr 0 0])), (5, .ptr 2 0), (10, ls 7 eProd a1.prods), (11, i6 a2), (12, i6 a3), (67, ls 6 eSym a4.right)], [bG a1, yY0, bP a4]⟩)
abbrev L42_0_2_d0 (x2 : SymD) : List AB := [bG a1, yY0, bP a4, .cells 68 ((eSym x2).map .p)]
theorem L42_0_2_ok (v1 : Int) {r : E_L42_0_2 ⊕ (Int)} (h : L42_0_2 a1 a4 a5 v1 = some r) : OkR (fun e => L42_0_2_x a1 a2 a3 a4 e (L42_0_2_e a1 a2 a3 a4 a5 v1)) (fun s => L42_0_2_e a1 a2 a3 a4 a5 v1 = L42_0_2_e a1 a2 a3 a4 a5 s) r := by
 unfold L42_0_2 at h
 refine bi h ?_ ?_ <;> intro h1 h
 ·
  refine bn h fun x2 h2 h => ?_
  refine bi h ?_ ?_ <;> intro h3 h
  ·
   refine bi h ?_ ?_ <;> intro h4 h
   ·
    rw [← sj h]
    exact xretY [(70, .d true), (71, .v (.ro (eSym x2))), (76, .d true), (80, .d true), (6000, .d true)] (av h1 (apc (ig eSym 6 .i64 h2) (av h3 (av h4 apn)))) (by kernel_rfl)
   ·
    refine bi h ?_ ?_ <;> intro h5 h
    ·
     rw [← sj h]
     exact xretY [(70, .d true), (71, .v (.ro (eSym x2))), (76, .d true), (80, .d false), (84, .d true), (6000, .d true)] (av h1 (apc (ig eSym 6 .i64 h2) (av h3 (av h4 (av h5 apn))))) (by kernel_rfl)
    ·
     rw [← sj h]
     exact rnd [(70, .d true), (71, .v (.ro (eSym x2))), (76, .d true), (80, .d false), (84, .d false), (6000, .d true)] (av h1 (apc (ig eSym 6 .i64 h2) (av h3 (av h4 (av h5 (apc ((oK (ac (ar (ac rfl)))) : okT 3 (L42_0_2_d0 a1 a4 x2) = true) apn)))))) (by kernel_rfl)
  ·
   refine bi h ?_ ?_ <;> intro h4 h
   ·
    refine bi h ?_ ?_ <;> intro h5 h
    ·
     rw [← sj h]
     exact xretY [(70, .d true), (71, .v (.ro (eSym x2))), (76, .d false), (87, .d true), (91, .d true), (6000, .d true)] (av h1 (apc (ig eSym 6 .i64 h2) (av h3 (av h4 (av h5 apn))))) (by kernel_rfl)
    ·
     refine bn h fun x6 h6 h => ?_
     refine bi h ?_ ?_ <;> intro h7 h
     ·
      have q5 := ((((F67_2_ok x2 a1 h6).own rfl (purAs_cons rfl (purAs_cons (purA_ptr rfl (mapO_con rfl (mapO_con rfl (mapO_con rfl (mapO_con rfl (mapO_con rfl rfl)))))) purAs_nil)) rfl).trans (congrArg (fun z => some (vb z)) h7)) : CP prg 67 [i6 x2.sort, .ptr 0 0] (L42_0_2_d0 a1 a4 x2) = some (vb true))
      refine bi h ?_ ?_ <;> intro h8 h
      ·
       rw [← sj h]
       exact xretY [(70, .d true), (71, .v (.ro (eSym x2))), (76, .d false), (87, .d true), (91, .d false), (96, .v (vb true)), (102, .d true), (6000, .d true)] (av h1 (apc (ig eSym 6 .i64 h2) (av h3 (av h4 (av h5 (apc q5 (av h8 apn))))))) (by kernel_rfl)
      ·
       rw [← sj h]
       exact rnd [(70, .d true), (71, .v (.ro (eSym x2))), (76, .d false), (87, .d true), (91, .d false), (96, .v (vb true)), (102, .d false), (6000, .d true)] (av h1 (apc (ig eSym 6 .i64 h2) (av h3 (av h4 (av h5 (apc q5 (av h8 (apc ((oK (ac (ar (ac rfl)))) : okT 3 (L42_0_2_d0 a1 a4 x2) = true) apn)))))))) (by kernel_rfl)
     ·
      rw [← sj h]
      exact xretY [(70, .d true), (71, .v (.ro (eSym x2))), (76, .d false), (87, .d true), (91, .d false), (96, .v (vb false)), (6000, .d true)] (av h1 (apc (ig eSym 6 .i64 h2) (av h3 (av h4 (av h5 (apc ((((F67_2_ok x2 a1 h6).own rfl (purAs_cons rfl (purAs_cons (purA_ptr rfl (mapO_con rfl (mapO_con rfl (mapO_con rfl (mapO_con rfl (mapO_con rfl rfl)))))) purAs_nil)) rfl).trans (congrArg (fun z => some (vb z)) h7)) : CP prg 67 [i6 x2.sort, .ptr 0 0] (L42_0_2_d0 a1 a4 x2) = some (vb false)) apn)))))) (by kernel_rfl)
   ·
    rw [← sj h]
    exact xretY [(70, .d true), (71, .v (.ro (eSym x2))), (76, .d false), (87, .d false), (6000, .d true)] (av h1 (apc (ig eSym 6 .i64 h2) (av h3 (av h4 apn)))) (by kernel_rfl)
 ·
  rw [← sj h]
  exact xbrk [(70, .d false), (6000, .d true)] (av h1 apn) (by kernel_rfl)
theorem L42_0_2_run (s0 : Int) (e : E_L42_0_2) (h : runL (fun s => L42_0_2 a1 a4 a5 s) s0 = some e) : L42_0_2_x a1 a2 a3 a4 e (L42_0_2_e a1 a2 a3 a4 a5 s0) := by
  have q := @loop_sound' (Int) E_L42_0_2 (fun s => L42_0_2 a1 a4 a5 s) (fun s => L42_0_2_e a1 a2 a3 a4 a5 s) (L42_0_2_x a1 a2 a3 a4) (fun s r h => L42_0_2_ok a1 a2 a3 a4 a5 s h) s0 e h
  exact q
end
inductive E_L42_1 where
  | k0
  | k1
section
variable (a1 : GramD) (a2 : Int)
def L42_1 (v1 : Int) : Option (E_L42_1 ⊕ (Int)) :=
  (bif (decide (v1 < a2)) then ((getI a1.prods v1).bind fun x2 => ((F67 x2 a1).bind fun x3 => (bif x3 then (bif (decide ((x2.right.length : Int) > 30)) then (some (.inl (.k0))) else (bif (decide (x2.role < 0)) then (some (.inl (.k0))) else (bif (decide (x2.role > 11)) then (some (.inl (.k0))) else (bif (decide (x2.frm < (-1))) then (some (.inl (.k0))) else (bif (decide ((x2.cons.size : Int) > 64)) then (some (.inl (.k0))) else (bif (!(x2.cons.toList == (⟨([] : List UInt8).toArray⟩ : ByteArray).toList)) then (bif (x2.role != 0) then (some (.inl (.k0))) else (bif x2.prefer then (bif x2.avoid then (some (.inl (.k0))) else ((runL (fun s => L42_0_2 a1 x2 (x2.right.length : Int) s) 0).bind fun r14 => match r14 with | .k0 => (some (.inl (.k0))) | .k1 => (some (.inr ((IntKind.wrap .i64 (v1 + 1))))))) else ((runL (fun s => L42_0_2 a1 x2 (x2.right.length : Int) s) 0).bind fun r13 => match r13 with | .k0 => (some (.inl (.k0))) | .k1 => (some (.inr ((IntKind.wrap .i64 (v1 + 1)))))))) else (bif x2.prefer then (bif x2.avoid then (some (.inl (.k0))) else ((runL (fun s => L42_0_2 a1 x2 (x2.right.length : Int) s) 0).bind fun r13 => match r13 with | .k0 => (some (.inl (.k0))) | .k1 => (some (.inr ((IntKind.wrap .i64 (v1 + 1))))))) else ((runL (fun s => L42_0_2 a1 x2 (x2.right.length : Int) s) 0).bind fun r12 => match r12 with | .k0 => (some (.inl (.k0))) | .k1 => (some (.inr ((IntKind.wrap .i64 (v1 + 1))))))))))))) else (some (.inl (.k0)))))) else (some (.inl (.k1))))
def L42_1_s (v1 : Int) : St := ⟨fr 110 ug [(1, .ptr 0 0), (3, (.fn 67 [.ptr 0 0])), (10, ls 7 eProd a1.prods), (11, i6 a2), (12, i6 v1)], [bG a1]⟩
abbrev L42_1_e (v1 : Int) := evH prg 1 [1, 3, 10, 11, 12] ir42_l1 (L42_1_s a1 a2 v1)
def L42_1_x (e : E_L42_1) (r : Option (Out × St)) : Prop := match e with | .k0 => ∃ g y, r = some (.ret, ⟨fr 110 g [(2, vb false)], y⟩) | .k1 => ∃ g, r = some ((.brk 0), ⟨fr 110 g [(1, .ptr 0 0), (10, ls 7 eProd a1.prods)], [bG a1]⟩)
abbrev L42_1_d0 (x2 : ProdD) : List AB := [bG a1, yY0, bP x2]
abbrev L42_1_d1 (g14 : Nat → AV) (v1 : Int) (x2 : ProdD) : St := ⟨fr 110 g14 [(1, .ptr 0 0), (3, (.fn 67 [.ptr 0 0])), (5, .ptr 2 0), (10, ls 7 eProd a1.prods), (11, i6 a2), (12, i6 v1), (67, ls 6 eSym x2.right)], [bG a1, yY0, bP x2]⟩
abbrev L42_1_d2 (g13 : Nat → AV) (v1 : Int) (x2 : ProdD) : St := ⟨fr 110 g13 [(1, .ptr 0 0), (3, (.fn 67 [.ptr 0 0])), (5, .ptr 2 0), (10, ls 7 eProd a1.prods), (11, i6 a2), (12, i6 v1), (67, ls 6 eSym x2.right)], [bG a1, yY0, bP x2]⟩
abbrev L42_1_d3 (g12 : Nat → AV) (v1 : Int) (x2 : ProdD) : St := ⟨fr 110 g12 [(1, .ptr 0 0), (3, (.fn 67 [.ptr 0 0])), (5, .ptr 2 0), (10, ls 7 eProd a1.prods), (11, i6 a2), (12, i6 v1), (67, ls 6 eSym x2.right)], [bG a1, yY0, bP x2]⟩
theorem L42_1_ok (v1 : Int) {r : E_L42_1 ⊕ (Int)} (h : L42_1 a1 a2 v1 = some r) : OkR (fun e => L42_1_x a1 e (L42_1_e a1 a2 v1)) (fun s => L42_1_e a1 a2 v1 = L42_1_e a1 a2 s) r := by
 unfold L42_1 at h
 refine bi h ?_ ?_ <;> intro h1 h
 ·
  refine bn h fun x2 h2 h => ?_
  refine bn h fun x3 h3 h => ?_
  refine bi h ?_ ?_ <;> intro h4 h
  ·
   have q2 := ((((F67_ok x2 a1 h3).own rfl (purAs_cons rfl (purAs_cons (purA_ptr rfl (mapO_con rfl (mapO_con rfl (mapO_con rfl (mapO_con rfl (mapO_con rfl rfl)))))) purAs_nil)) rfl).trans (congrArg (fun z => some (vb z)) h4)) : CP prg 67 [i6 x2.left, .ptr 0 0] (L42_1_d0 a1 x2) = some (vb true))
   refine bi h ?_ ?_ <;> intro h5 h
   ·
    rw [← sj h]
    exact xretY [(13, .d true), (14, .v (.ro (eProd x2))), (19, .v (vb true)), (24, .v (i6 (x2.right.length : Int))), (25, .d true), (6000, .d true)] (av h1 (apc (ig eProd 7 .i64 h2) (apc q2 (apc (lg x2.right eSym 6) (av h5 apn))))) (by kernel_rfl)
   ·
    refine bi h ?_ ?_ <;> intro h6 h
    ·
     rw [← sj h]
     exact xretY [(13, .d true), (14, .v (.ro (eProd x2))), (19, .v (vb true)), (24, .v (i6 (x2.right.length : Int))), (25, .d false), (30, .d true), (6000, .d true)] (av h1 (apc (ig eProd 7 .i64 h2) (apc q2 (apc (lg x2.right eSym 6) (av h5 (av h6 apn)))))) (by kernel_rfl)
    ·
     refine bi h ?_ ?_ <;> intro h7 h
     ·
      rw [← sj h]
      exact xretY [(13, .d true), (14, .v (.ro (eProd x2))), (19, .v (vb true)), (24, .v (i6 (x2.right.length : Int))), (25, .d false), (30, .d false), (35, .d true), (6000, .d true)] (av h1 (apc (ig eProd 7 .i64 h2) (apc q2 (apc (lg x2.right eSym 6) (av h5 (av h6 (av h7 apn))))))) (by kernel_rfl)
     ·
      refine bi h ?_ ?_ <;> intro h8 h
      ·
       rw [← sj h]
       exact xretY [(13, .d true), (14, .v (.ro (eProd x2))), (19, .v (vb true)), (24, .v (i6 (x2.right.length : Int))), (25, .d false), (30, .d false), (35, .d false), (40, .d true), (6000, .d true)] (av h1 (apc (ig eProd 7 .i64 h2) (apc q2 (apc (lg x2.right eSym 6) (av h5 (av h6 (av h7 (av h8 apn)))))))) (by kernel_rfl)
      ·
       refine bi h ?_ ?_ <;> intro h9 h
       ·
        rw [← sj h]
        exact xretY [(13, .d true), (14, .v (.ro (eProd x2))), (19, .v (vb true)), (24, .v (i6 (x2.right.length : Int))), (25, .d false), (30, .d false), (35, .d false), (40, .d false), (46, .d true), (6000, .d true)] (av h1 (apc (ig eProd 7 .i64 h2) (apc q2 (apc (lg x2.right eSym 6) (av h5 (av h6 (av h7 (av h8 (av h9 apn))))))))) (by kernel_rfl)
       ·
        refine bi h ?_ ?_ <;> intro h10 h
        ·
         refine bi h ?_ ?_ <;> intro h11 h
         ·
          rw [← sj h]
          exact xretY [(13, .d true), (14, .v (.ro (eProd x2))), (19, .v (vb true)), (24, .v (i6 (x2.right.length : Int))), (25, .d false), (30, .d false), (35, .d false), (40, .d false), (46, .d false), (51, .d true), (55, .d true), (6000, .d true)] (av h1 (apc (ig eProd 7 .i64 h2) (apc q2 (apc (lg x2.right eSym 6) (av h5 (av h6 (av h7 (av h8 (av h9 (av h10 (av h11 apn))))))))))) (by kernel_rfl)
         ·
          refine bi h ?_ ?_ <;> intro h12 h
          ·
           refine bi h ?_ ?_ <;> intro h13 h
           ·
            rw [← sj h]
            exact xretY [(13, .d true), (14, .v (.ro (eProd x2))), (19, .v (vb true)), (24, .v (i6 (x2.right.length : Int))), (25, .d false), (30, .d false), (35, .d false), (40, .d false), (46, .d false), (51, .d true), (55, .d false), (60, .d true), (63, .d true), (6000, .d true)] (av h1 (apc (ig eProd 7 .i64 h2) (apc q2 (apc (lg x2.right eSym 6) (av h5 (av h6 (av h7 (av h8 (av h9 (av h10 (av h11 (av h12 (av h13 apn))))))))))))) (by kernel_rfl)
           ·
            refine bn h fun r14 h14 h => ?_
            cases r14 with
            | k0 =>
             obtain ⟨g14, y14, e14⟩ := L42_0_2_run a1 a2 v1 x2 (x2.right.length : Int) 0 _ h14
             rw [← sj h]
             exact xretY [(13, .d true), (14, .v (.ro (eProd x2))), (19, .v (vb true)), (24, .v (i6 (x2.right.length : Int))), (25, .d false), (30, .d false), (35, .d false), (40, .d false), (46, .d false), (51, .d true), (55, .d false), (60, .d true), (63, .d false), (68, .v (i6 (x2.right.length : Int))), (2002, .l .ret ⟨fr 110 g14 [(2, vb false)], y14⟩), (6000, .d true)] (av h1 (apc (ig eProd 7 .i64 h2) (apc q2 (apc (lg x2.right eSym 6) (av h5 (av h6 (av h7 (av h8 (av h9 (av h10 (av h11 (av h12 (av h13 (apc (lg x2.right eSym 6) (apc ((oK (ac (ar (ac rfl)))) : okT 3 (L42_1_d0 a1 x2) = true) (apc (e14 : L42_0_2_e a1 a2 v1 x2 (x2.right.length : Int) 0 = some (.ret, ⟨fr 110 g14 [(2, vb false)], y14⟩)) apn)))))))))))))))) (by kernel_rfl)
            | k1 =>
             obtain ⟨g14, e14⟩ := L42_0_2_run a1 a2 v1 x2 (x2.right.length : Int) 0 _ h14
             rw [← sj h]
             exact rnd [(13, .d true), (14, .v (.ro (eProd x2))), (19, .v (vb true)), (24, .v (i6 (x2.right.length : Int))), (25, .d false), (30, .d false), (35, .d false), (40, .d false), (46, .d false), (51, .d true), (55, .d false), (60, .d true), (63, .d false), (68, .v (i6 (x2.right.length : Int))), (2002, .l (.brk 2) (L42_1_d1 a1 a2 g14 v1 x2)), (6000, .d true)] (av h1 (apc (ig eProd 7 .i64 h2) (apc q2 (apc (lg x2.right eSym 6) (av h5 (av h6 (av h7 (av h8 (av h9 (av h10 (av h11 (av h12 (av h13 (apc (lg x2.right eSym 6) (apc ((oK (ac (ar (ac rfl)))) : okT 3 (L42_1_d0 a1 x2) = true) (apc (e14 : L42_0_2_e a1 a2 v1 x2 (x2.right.length : Int) 0 = some ((.brk 2), L42_1_d1 a1 a2 g14 v1 x2)) (apc ((oK (ac rfl)) : okT 1 (L42_1_d0 a1 x2) = true) apn))))))))))))))))) (by kernel_rfl)
          ·
           refine bn h fun r13 h13 h => ?_
           cases r13 with
           | k0 =>
            obtain ⟨g13, y13, e13⟩ := L42_0_2_run a1 a2 v1 x2 (x2.right.length : Int) 0 _ h13
            rw [← sj h]
            exact xretY [(13, .d true), (14, .v (.ro (eProd x2))), (19, .v (vb true)), (24, .v (i6 (x2.right.length : Int))), (25, .d false), (30, .d false), (35, .d false), (40, .d false), (46, .d false), (51, .d true), (55, .d false), (60, .d false), (68, .v (i6 (x2.right.length : Int))), (2002, .l .ret ⟨fr 110 g13 [(2, vb false)], y13⟩), (6000, .d true)] (av h1 (apc (ig eProd 7 .i64 h2) (apc q2 (apc (lg x2.right eSym 6) (av h5 (av h6 (av h7 (av h8 (av h9 (av h10 (av h11 (av h12 (apc (lg x2.right eSym 6) (apc ((oK (ac (ar (ac rfl)))) : okT 3 (L42_1_d0 a1 x2) = true) (apc (e13 : L42_0_2_e a1 a2 v1 x2 (x2.right.length : Int) 0 = some (.ret, ⟨fr 110 g13 [(2, vb false)], y13⟩)) apn))))))))))))))) (by kernel_rfl)
           | k1 =>
            obtain ⟨g13, e13⟩ := L42_0_2_run a1 a2 v1 x2 (x2.right.length : Int) 0 _ h13
            rw [← sj h]
            exact rnd [(13, .d true), (14, .v (.ro (eProd x2))), (19, .v (vb true)), (24, .v (i6 (x2.right.length : Int))), (25, .d false), (30, .d false), (35, .d false), (40, .d false), (46, .d false), (51, .d true), (55, .d false), (60, .d false), (68, .v (i6 (x2.right.length : Int))), (2002, .l (.brk 2) (L42_1_d2 a1 a2 g13 v1 x2)), (6000, .d true)] (av h1 (apc (ig eProd 7 .i64 h2) (apc q2 (apc (lg x2.right eSym 6) (av h5 (av h6 (av h7 (av h8 (av h9 (av h10 (av h11 (av h12 (apc (lg x2.right eSym 6) (apc ((oK (ac (ar (ac rfl)))) : okT 3 (L42_1_d0 a1 x2) = true) (apc (e13 : L42_0_2_e a1 a2 v1 x2 (x2.right.length : Int) 0 = some ((.brk 2), L42_1_d2 a1 a2 g13 v1 x2)) (apc ((oK (ac rfl)) : okT 1 (L42_1_d0 a1 x2) = true) apn)))))))))))))))) (by kernel_rfl)
        ·
         refine bi h ?_ ?_ <;> intro h11 h
         ·
          refine bi h ?_ ?_ <;> intro h12 h
          ·
           rw [← sj h]
           exact xretY [(13, .d true), (14, .v (.ro (eProd x2))), (19, .v (vb true)), (24, .v (i6 (x2.right.length : Int))), (25, .d false), (30, .d false), (35, .d false), (40, .d false), (46, .d false), (51, .d false), (60, .d true), (63, .d true), (6000, .d true)] (av h1 (apc (ig eProd 7 .i64 h2) (apc q2 (apc (lg x2.right eSym 6) (av h5 (av h6 (av h7 (av h8 (av h9 (av h10 (av h11 (av h12 apn)))))))))))) (by kernel_rfl)
          ·
           refine bn h fun r13 h13 h => ?_
           cases r13 with
           | k0 =>
            obtain ⟨g13, y13, e13⟩ := L42_0_2_run a1 a2 v1 x2 (x2.right.length : Int) 0 _ h13
            rw [← sj h]
            exact xretY [(13, .d true), (14, .v (.ro (eProd x2))), (19, .v (vb true)), (24, .v (i6 (x2.right.length : Int))), (25, .d false), (30, .d false), (35, .d false), (40, .d false), (46, .d false), (51, .d false), (60, .d true), (63, .d false), (68, .v (i6 (x2.right.length : Int))), (2002, .l .ret ⟨fr 110 g13 [(2, vb false)], y13⟩), (6000, .d true)] (av h1 (apc (ig eProd 7 .i64 h2) (apc q2 (apc (lg x2.right eSym 6) (av h5 (av h6 (av h7 (av h8 (av h9 (av h10 (av h11 (av h12 (apc (lg x2.right eSym 6) (apc ((oK (ac (ar (ac rfl)))) : okT 3 (L42_1_d0 a1 x2) = true) (apc (e13 : L42_0_2_e a1 a2 v1 x2 (x2.right.length : Int) 0 = some (.ret, ⟨fr 110 g13 [(2, vb false)], y13⟩)) apn))))))))))))))) (by kernel_rfl)
           | k1 =>
            obtain ⟨g13, e13⟩ := L42_0_2_run a1 a2 v1 x2 (x2.right.length : Int) 0 _ h13
            rw [← sj h]
            exact rnd [(13, .d true), (14, .v (.ro (eProd x2))), (19, .v (vb true)), (24, .v (i6 (x2.right.length : Int))), (25, .d false), (30, .d false), (35, .d false), (40, .d false), (46, .d false), (51, .d false), (60, .d true), (63, .d false), (68, .v (i6 (x2.right.length : Int))), (2002, .l (.brk 2) (L42_1_d2 a1 a2 g13 v1 x2)), (6000, .d true)] (av h1 (apc (ig eProd 7 .i64 h2) (apc q2 (apc (lg x2.right eSym 6) (av h5 (av h6 (av h7 (av h8 (av h9 (av h10 (av h11 (av h12 (apc (lg x2.right eSym 6) (apc ((oK (ac (ar (ac rfl)))) : okT 3 (L42_1_d0 a1 x2) = true) (apc (e13 : L42_0_2_e a1 a2 v1 x2 (x2.right.length : Int) 0 = some ((.brk 2), L42_1_d2 a1 a2 g13 v1 x2)) (apc ((oK (ac rfl)) : okT 1 (L42_1_d0 a1 x2) = true) apn)))))))))))))))) (by kernel_rfl)
         ·
          refine bn h fun r12 h12 h => ?_
          cases r12 with
          | k0 =>
           obtain ⟨g12, y12, e12⟩ := L42_0_2_run a1 a2 v1 x2 (x2.right.length : Int) 0 _ h12
           rw [← sj h]
           exact xretY [(13, .d true), (14, .v (.ro (eProd x2))), (19, .v (vb true)), (24, .v (i6 (x2.right.length : Int))), (25, .d false), (30, .d false), (35, .d false), (40, .d false), (46, .d false), (51, .d false), (60, .d false), (68, .v (i6 (x2.right.length : Int))), (2002, .l .ret ⟨fr 110 g12 [(2, vb false)], y12⟩), (6000, .d true)] (av h1 (apc (ig eProd 7 .i64 h2) (apc q2 (apc (lg x2.right eSym 6) (av h5 (av h6 (av h7 (av h8 (av h9 (av h10 (av h11 (apc (lg x2.right eSym 6) (apc ((oK (ac (ar (ac rfl)))) : okT 3 (L42_1_d0 a1 x2) = true) (apc (e12 : L42_0_2_e a1 a2 v1 x2 (x2.right.length : Int) 0 = some (.ret, ⟨fr 110 g12 [(2, vb false)], y12⟩)) apn)))))))))))))) (by kernel_rfl)
          | k1 =>
           obtain ⟨g12, e12⟩ := L42_0_2_run a1 a2 v1 x2 (x2.right.length : Int) 0 _ h12
           rw [← sj h]
           exact rnd [(13, .d true), (14, .v (.ro (eProd x2))), (19, .v (vb true)), (24, .v (i6 (x2.right.length : Int))), (25, .d false), (30, .d false), (35, .d false), (40, .d false), (46, .d false), (51, .d false), (60, .d false), (68, .v (i6 (x2.right.length : Int))), (2002, .l (.brk 2) (L42_1_d3 a1 a2 g12 v1 x2)), (6000, .d true)] (av h1 (apc (ig eProd 7 .i64 h2) (apc q2 (apc (lg x2.right eSym 6) (av h5 (av h6 (av h7 (av h8 (av h9 (av h10 (av h11 (apc (lg x2.right eSym 6) (apc ((oK (ac (ar (ac rfl)))) : okT 3 (L42_1_d0 a1 x2) = true) (apc (e12 : L42_0_2_e a1 a2 v1 x2 (x2.right.length : Int) 0 = some ((.brk 2), L42_1_d3 a1 a2 g12 v1 x2)) (apc ((oK (ac rfl)) : okT 1 (L42_1_d0 a1 x2) = true) apn))))))))))))))) (by kernel_rfl)
  ·
   rw [← sj h]
   exact xretY [(13, .d true), (14, .v (.ro (eProd x2))), (19, .v (vb false)), (6000, .d true)] (av h1 (apc (ig eProd 7 .i64 h2) (apc ((((F67_ok x2 a1 h3).own rfl (purAs_cons rfl (purAs_cons (purA_ptr rfl (mapO_con rfl (mapO_con rfl (mapO_con rfl (mapO_con rfl (mapO_con rfl rfl)))))) purAs_nil)) rfl).trans (congrArg (fun z => some (vb z)) h4)) : CP prg 67 [i6 x2.left, .ptr 0 0] (L42_1_d0 a1 x2) = some (vb false)) apn))) (by kernel_rfl)
 ·
  rw [← sj h]
  exact xbrk [(13, .d false), (6000, .d true)] (av h1 apn) (by kernel_rfl)
theorem L42_1_run (s0 : Int) (e : E_L42_1) (h : runL (fun s => L42_1 a1 a2 s) s0 = some e) : L42_1_x a1 e (L42_1_e a1 a2 s0) := by
  have q := @loop_sound' (Int) E_L42_1 (fun s => L42_1 a1 a2 s) (fun s => L42_1_e a1 a2 s) (L42_1_x a1) (fun s r h => L42_1_ok a1 a2 s h) s0 e h
  exact q
end
def F42_v (a1 : GramD) (x0 : Bool) : AV := (vb x0)
def F42 (a1 : GramD) : Option Bool :=
  ((runL (fun s => L42_1 a1 (a1.prods.length : Int) s) 0).bind fun r1 => match r1 with | .k0 => (some false) | .k1 => (some (decide ((a1.prods.length : Int) ≤ 1000))))
abbrev F42_d0 (g1 : Nat → AV) (a1 : GramD) : St := ⟨fr 110 g1 [(1, .ptr 0 0), (10, ls 7 eProd a1.prods)], [bG a1]⟩
theorem F42_ok (a1 : GramD) {r : Bool} (h : F42 a1 = some r) : PR1 prg 42 [aG a1] (F42_v a1 r) := by
 unfold F42 at h
 refine bn h fun r1 h1 h => ?_
 cases r1 with
 | k0 =>
  obtain ⟨g1, y1, e1⟩ := L42_1_run a1 (lP a1) 0 _ h1
  rw [← sj h]
  exact fpr [(11, .v (i6 (lP a1))), (2000, .l .ret ⟨fr 110 g1 [(2, vb false)], y1⟩), (6000, .d true)] (apc (lg a1.prods eProd 7) (apc ((oK (ac rfl)) : okT 1 [bG a1] = true) (apc (e1 : L42_1_e a1 (lP a1) 0 = some (.ret, ⟨fr 110 g1 [(2, vb false)], y1⟩)) apn))) rfl (by kernel_rfl)
 | k1 =>
  obtain ⟨g1, e1⟩ := L42_1_run a1 (lP a1) 0 _ h1
  rw [← sj h]
  exact fpr [(11, .v (i6 (lP a1))), (2000, .l (.brk 0) (F42_d0 g1 a1)), (108, .v (i6 (lP a1))), (6000, .d true)] (apc (lg a1.prods eProd 7) (apc ((oK (ac rfl)) : okT 1 [bG a1] = true) (apc (e1 : L42_1_e a1 (lP a1) 0 = some ((.brk 0), F42_d0 g1 a1)) (apc (lg a1.prods eProd 7) apn)))) rfl (by kernel_rfl)
def F68_v (a1 : ForbD) (a2 : GramD) (x0 : Bool) : AV := (vb x0)
def F68 (a1 : ForbD) (a2 : GramD) : Option Bool :=
  (bif (decide (a1.parent ≥ 0)) then (bif (decide (a1.parent < (a2.prods.length : Int))) then ((getI a2.prods a1.parent).bind fun x3 => (some (x3.role != 11))) else (some false)) else (some false))
theorem F68_ok (a1 : ForbD) (a2 : GramD) {r : Bool} (h : F68 a1 a2 = some r) : PR1 prg 68 [i6 a1.parent, (.ro (eGram a2))] (F68_v a1 a2 r) := by
 unfold F68 at h
 refine bi h ?_ ?_ <;> intro h1 h
 ·
  refine bi h ?_ ?_ <;> intro h2 h
  ·
   refine bn h fun x3 h3 h => ?_
   rw [← sj h]
   exact fpr [(5, .d true), (10, .v (i6 (lP a2))), (11, .d true), (17, .v (.ro (eProd x3)))] (av h1 (apc (lg a2.prods eProd 7) (av h2 (apc (ig eProd 7 .i64 h3) apn)))) rfl (by kernel_rfl)
  ·
   rw [← sj h]
   exact fpr [(5, .d true), (10, .v (i6 (lP a2))), (11, .d false)] (av h1 (apc (lg a2.prods eProd 7) (av h2 apn))) rfl (by kernel_rfl)
 ·
  rw [← sj h]
  exact fpr [(5, .d false)] (av h1 apn) rfl (by kernel_rfl)
def F68_2_v (a1 : ForbD) (a2 : GramD) (x0 : Bool) : AV := (vb x0)
def F68_2 (a1 : ForbD) (a2 : GramD) : Option Bool :=
  (bif (decide (a1.child ≥ 0)) then (bif (decide (a1.child < (a2.prods.length : Int))) then ((getI a2.prods a1.child).bind fun x3 => (some (x3.role != 11))) else (some false)) else (some false))
theorem F68_2_ok (a1 : ForbD) (a2 : GramD) {r : Bool} (h : F68_2 a1 a2 = some r) : PR1 prg 68 [i6 a1.child, (.ro (eGram a2))] (F68_2_v a1 a2 r) := by
 unfold F68_2 at h
 refine bi h ?_ ?_ <;> intro h1 h
 ·
  refine bi h ?_ ?_ <;> intro h2 h
  ·
   refine bn h fun x3 h3 h => ?_
   rw [← sj h]
   exact fpr [(5, .d true), (10, .v (i6 (lP a2))), (11, .d true), (17, .v (.ro (eProd x3)))] (av h1 (apc (lg a2.prods eProd 7) (av h2 (apc (ig eProd 7 .i64 h3) apn)))) rfl (by kernel_rfl)
  ·
   rw [← sj h]
   exact fpr [(5, .d true), (10, .v (i6 (lP a2))), (11, .d false)] (av h1 (apc (lg a2.prods eProd 7) (av h2 apn))) rfl (by kernel_rfl)
 ·
  rw [← sj h]
  exact fpr [(5, .d false)] (av h1 apn) rfl (by kernel_rfl)
inductive E_L43_0 where
  | k0
  | k1 (x0 : List ((Int × Int × Int) × Int))
section
variable (a1 : GramD) (a2 : Int)
def L43_0 (v1 : Int) (v2 : List ((Int × Int × Int) × Int)) : Option (E_L43_0 ⊕ (Int × (List ((Int × Int × Int) × Int)))) :=
  (bif (decide (v1 < a2)) then ((getI a1.forbid v1).bind fun x2 => (bif (decide ((mget 0 (mput (x2.parent, x2.at_, x2.child) (IntKind.wrap .i64 ((mget 0 v2 (x2.parent, x2.at_, x2.child)) + 1)) v2) (x2.parent, x2.at_, x2.child)) > 1)) then (some (.inl (.k0))) else ((F68 x2 a1).bind fun x4 => (bif x4 then ((F68_2 x2 a1).bind fun x6 => (bif x6 then (bif (decide (x2.at_ < 1)) then (some (.inl (.k0))) else ((getI a1.prods x2.parent).bind fun x9 => (bif (decide (x2.at_ > (x9.right.length : Int))) then (some (.inl (.k0))) else ((getI x9.right (IntKind.wrap .i64 (x2.at_ - 1))).bind fun x11 => (bif (x11.kind != 1) then (some (.inl (.k0))) else ((getI a1.prods x2.child).bind fun x13 => (bif (x11.sort != x13.left) then (some (.inl (.k0))) else (some (.inr ((IntKind.wrap .i64 (v1 + 1)), (mput (x2.parent, x2.at_, x2.child) (IntKind.wrap .i64 ((mget 0 v2 (x2.parent, x2.at_, x2.child)) + 1)) v2))))))))))) else (some (.inl (.k0))))) else (some (.inl (.k0))))))) else (some (.inl (.k1 v2))))
def L43_0_s (v1 : Int) (v2 : List ((Int × Int × Int) × Int)) : St := ⟨fr 87 ug [(1, .ptr 0 0), (3, .mp 1), (4, (.fn 68 [.ptr 0 0])), (11, ls 3 eForb a1.forbid), (12, i6 a2), (13, i6 v1)], [bG a1, .map (mrow (fun n => .agg [vi .i64 n.1, vi .i64 n.2.1, vi .i64 n.2.2]) (fun n => vi .i64 n) v2)]⟩
abbrev L43_0_e (v1 : Int) (v2 : List ((Int × Int × Int) × Int)) := evH prg 2 [1, 3, 4, 11, 12, 13] ir43_l0 (L43_0_s a1 a2 v1 v2)
def L43_0_x (e : E_L43_0) (r : Option (Out × St)) : Prop := match e with | .k0 => ∃ g y, r = some (.ret, ⟨fr 87 g [(2, vb false)], y⟩) | .k1 x0 => ∃ g, r = some ((.brk 0), ⟨fr 87 g [(1, .ptr 0 0), (11, ls 3 eForb a1.forbid)], [bG a1, .map (mrow (fun n => .agg [vi .i64 n.1, vi .i64 n.2.1, vi .i64 n.2.2]) (fun n => vi .i64 n) x0)]⟩)
abbrev L43_0_d0 (v2 : List ((Int × Int × Int) × Int)) (x2 : ForbD) : List AB := [bG a1, .map (mrow (fun n => .agg [vi .i64 n.1, vi .i64 n.2.1, vi .i64 n.2.2]) (fun n => vi .i64 n) v2), .cells 78 ((eForb x2).map .p)]
abbrev L43_0_d1 (v2 : List ((Int × Int × Int) × Int)) (x2 : ForbD) : List AB := [bG a1, .map (mrow (fun n => .agg [vi .i64 n.1, vi .i64 n.2.1, vi .i64 n.2.2]) (fun n => vi .i64 n) (ment 0 v2 (x2.parent, x2.at_, x2.child))), .cells 78 ((eForb x2).map .p)]
abbrev L43_0_d2 (x2 : ForbD) (v2 : List ((Int × Int × Int) × Int)) : List AB := [bG a1, .map (mrow (fun n => .agg [vi .i64 n.1, vi .i64 n.2.1, vi .i64 n.2.2]) (fun n => vi .i64 n) (mput (x2.parent, x2.at_, x2.child) (w6 ((mget 0 v2 (x2.parent, x2.at_, x2.child)) + 1)) v2)), .cells 78 ((eForb x2).map .p)]
abbrev L43_0_c0 (x2 : ForbD) (v2 : List ((Int × Int × Int) × Int)) : List (Nat × Hint) := [(15, .v (.ro (eForb x2))), (19, .v (i6 (mget 0 v2 (x2.parent, x2.at_, x2.child)))), (21, .r (.tup [(i6 (mget 0 v2 (x2.parent, x2.at_, x2.child))), (i6 (midx v2 (x2.parent, x2.at_, x2.child) : Int))]) (L43_0_d1 a1 v2 x2)), (8020, .r ud (L43_0_d2 a1 x2 v2)), (25, .v (i6 (mget 0 (mput (x2.parent, x2.at_, x2.child) (w6 ((mget 0 v2 (x2.parent, x2.at_, x2.child)) + 1)) v2) (x2.parent, x2.at_, x2.child))))]
theorem L43_0_ok (v1 : Int) (v2 : List ((Int × Int × Int) × Int)) {r : E_L43_0 ⊕ (Int × (List ((Int × Int × Int) × Int)))} (h : L43_0 a1 a2 v1 v2 = some r) : OkR (fun e => L43_0_x a1 e (L43_0_e a1 a2 v1 v2)) (fun s => L43_0_e a1 a2 v1 v2 = L43_0_e a1 a2 s.1 s.2) r := by
 unfold L43_0 at h
 refine bi h ?_ ?_ <;> intro h1 h
 ·
  refine bn h fun x2 h2 h => ?_
  have q2 := ((lk_row key_int3 (es := v2) (k := (x2.parent, x2.at_, x2.child)) (z := 0) rfl rfl) : lkA (L43_0_d0 a1 v2 x2) [1, 1, 1] .true .false [(.val (.int .i64 0))] .false (.mp 1) (.agg ((eForb x2).map .p)) = some (i6 (mget 0 v2 (x2.parent, x2.at_, x2.child))))
  have q3 := ((en_row key_int3 (es := v2) (k := (x2.parent, x2.at_, x2.child)) (z := 0) rfl rfl) : enA (L43_0_d0 a1 v2 x2) [1, 1, 1] .true .false [(.val (.int .i64 0))] (.mp 1) (.agg ((eForb x2).map .p)) = some ((.tup [(i6 (mget 0 v2 (x2.parent, x2.at_, x2.child))), (i6 (midx v2 (x2.parent, x2.at_, x2.child) : Int))]), L43_0_d1 a1 v2 x2))
  have q4 := (⟨es_row key_int3 (es := v2) (k := (x2.parent, x2.at_, x2.child)) (v := (w6 ((mget 0 v2 (x2.parent, x2.at_, x2.child)) + 1))) (z := 0) rfl, rfl⟩ : esA (L43_0_d1 a1 v2 x2) (.mp 1) (i6 (midx v2 (x2.parent, x2.at_, x2.child) : Int)) (i6 (w6 ((mget 0 v2 (x2.parent, x2.at_, x2.child)) + 1))) = some (L43_0_d2 a1 x2 v2) ∧ ud = ud)
  have q5 := ((lk_row key_int3 (es := (mput (x2.parent, x2.at_, x2.child) (w6 ((mget 0 v2 (x2.parent, x2.at_, x2.child)) + 1)) v2)) (k := (x2.parent, x2.at_, x2.child)) (z := 0) rfl rfl) : lkA (L43_0_d2 a1 x2 v2) [1, 1, 1] .true .false [(.val (.int .i64 0))] .false (.mp 1) (.agg ((eForb x2).map .p)) = some (i6 (mget 0 (mput (x2.parent, x2.at_, x2.child) (w6 ((mget 0 v2 (x2.parent, x2.at_, x2.child)) + 1)) v2) (x2.parent, x2.at_, x2.child))))
  refine bi h ?_ ?_ <;> intro h3 h
  ·
   rw [← sj h]
   exact xretY ([(14, .d true)] ++ ((L43_0_c0 a1 x2 v2) ++ [(26, .d true), (6000, .d true)])) (av h1 (apc (ig eForb 3 .i64 h2) (apc q2 (apc q3 (apc q4 (apc q5 (av h3 apn))))))) (by kernel_rfl)
  ·
   refine bn h fun x4 h4 h => ?_
   refine bi h ?_ ?_ <;> intro h5 h
   ·
    have q7 := ((((F68_ok x2 a1 h4).own rfl (purAs_cons rfl (purAs_cons (purA_ptr rfl (mapO_con rfl (mapO_con rfl (mapO_con rfl (mapO_con rfl (mapO_con rfl rfl)))))) purAs_nil)) rfl).trans (congrArg (fun z => some (vb z)) h5)) : CP prg 68 [i6 x2.parent, .ptr 0 0] (L43_0_d2 a1 x2 v2) = some (vb true))
    refine bn h fun x6 h6 h => ?_
    refine bi h ?_ ?_ <;> intro h7 h
    ·
     have q8 := ((((F68_2_ok x2 a1 h6).own rfl (purAs_cons rfl (purAs_cons (purA_ptr rfl (mapO_con rfl (mapO_con rfl (mapO_con rfl (mapO_con rfl (mapO_con rfl rfl)))))) purAs_nil)) rfl).trans (congrArg (fun z => some (vb z)) h7)) : CP prg 68 [i6 x2.child, .ptr 0 0] (L43_0_d2 a1 x2 v2) = some (vb true))
     refine bi h ?_ ?_ <;> intro h8 h
     ·
      rw [← sj h]
      exact xretY ([(14, .d true)] ++ ((L43_0_c0 a1 x2 v2) ++ [(26, .d false), (31, .v (vb true)), (38, .v (vb true)), (44, .d true), (6000, .d true)])) (av h1 (apc (ig eForb 3 .i64 h2) (apc q2 (apc q3 (apc q4 (apc q5 (av h3 (apc q7 (apc q8 (av h8 apn)))))))))) (by kernel_rfl)
     ·
      refine bn h fun x9 h9 h => ?_
      refine bi h ?_ ?_ <;> intro h10 h
      ·
       rw [← sj h]
       exact xretY ([(14, .d true)] ++ ((L43_0_c0 a1 x2 v2) ++ [(26, .d false), (31, .v (vb true)), (38, .v (vb true)), (44, .d false), (53, .v (.ro (eProd x9))), (56, .v (i6 (x9.right.length : Int))), (57, .d true), (6000, .d true)])) (av h1 (apc (ig eForb 3 .i64 h2) (apc q2 (apc q3 (apc q4 (apc q5 (av h3 (apc q7 (apc q8 (av h8 (apc (ig eProd 7 .i64 h9) (apc (lg x9.right eSym 6) (av h10 apn))))))))))))) (by kernel_rfl)
      ·
       refine bn h fun x11 h11 h => ?_
       refine bi h ?_ ?_ <;> intro h12 h
       ·
        rw [← sj h]
        exact xretY ([(14, .d true)] ++ ((L43_0_c0 a1 x2 v2) ++ [(26, .d false), (31, .v (vb true)), (38, .v (vb true)), (44, .d false), (53, .v (.ro (eProd x9))), (56, .v (i6 (x9.right.length : Int))), (57, .d false), (63, .v (.ro (eProd x9))), (69, .v (.ro (eSym x11))), (73, .d true), (6000, .d true)])) (av h1 (apc (ig eForb 3 .i64 h2) (apc q2 (apc q3 (apc q4 (apc q5 (av h3 (apc q7 (apc q8 (av h8 (apc (ig eProd 7 .i64 h9) (apc (lg x9.right eSym 6) (av h10 (apc (ig eProd 7 .i64 h9) (apc (ig eSym 6 .i64 h11) (av h12 apn)))))))))))))))) (by kernel_rfl)
       ·
        refine bn h fun x13 h13 h => ?_
        refine bi h ?_ ?_ <;> intro h14 h
        ·
         rw [← sj h]
         exact xretY ([(14, .d true)] ++ ((L43_0_c0 a1 x2 v2) ++ [(26, .d false), (31, .v (vb true)), (38, .v (vb true)), (44, .d false), (53, .v (.ro (eProd x9))), (56, .v (i6 (x9.right.length : Int))), (57, .d false), (63, .v (.ro (eProd x9))), (69, .v (.ro (eSym x11))), (73, .d false), (81, .v (.ro (eProd x13))), (84, .d true), (6000, .d true)])) (av h1 (apc (ig eForb 3 .i64 h2) (apc q2 (apc q3 (apc q4 (apc q5 (av h3 (apc q7 (apc q8 (av h8 (apc (ig eProd 7 .i64 h9) (apc (lg x9.right eSym 6) (av h10 (apc (ig eProd 7 .i64 h9) (apc (ig eSym 6 .i64 h11) (av h12 (apc (ig eProd 7 .i64 h13) (av h14 apn)))))))))))))))))) (by kernel_rfl)
        ·
         rw [← sj h]
         exact rnd ([(14, .d true)] ++ ((L43_0_c0 a1 x2 v2) ++ [(26, .d false), (31, .v (vb true)), (38, .v (vb true)), (44, .d false), (53, .v (.ro (eProd x9))), (56, .v (i6 (x9.right.length : Int))), (57, .d false), (63, .v (.ro (eProd x9))), (69, .v (.ro (eSym x11))), (73, .d false), (81, .v (.ro (eProd x13))), (84, .d false), (6000, .d true)])) (av h1 (apc (ig eForb 3 .i64 h2) (apc q2 (apc q3 (apc q4 (apc q5 (av h3 (apc q7 (apc q8 (av h8 (apc (ig eProd 7 .i64 h9) (apc (lg x9.right eSym 6) (av h10 (apc (ig eProd 7 .i64 h9) (apc (ig eSym 6 .i64 h11) (av h12 (apc (ig eProd 7 .i64 h13) (av h14 (apc ((oK (ac (abl_cons (abl_map (fun _ => rfl) (fun _ => rfl)) rfl))) : okT 2 [bG a1, .map (mrow (fun n => .agg [vi .i64 n.1, vi .i64 n.2.1, vi .i64 n.2.2]) (fun n => vi .i64 n) (mput (x2.parent, x2.at_, x2.child) (w6 ((mget 0 v2 (x2.parent, x2.at_, x2.child)) + 1)) v2)), .cells 78 ((eForb x2).map .p), .cells 68 ((eSym x11).map .p)] = true) apn))))))))))))))))))) (by kernel_rfl)
    ·
     rw [← sj h]
     exact xretY ([(14, .d true)] ++ ((L43_0_c0 a1 x2 v2) ++ [(26, .d false), (31, .v (vb true)), (38, .v (vb false)), (6000, .d true)])) (av h1 (apc (ig eForb 3 .i64 h2) (apc q2 (apc q3 (apc q4 (apc q5 (av h3 (apc q7 (apc ((((F68_2_ok x2 a1 h6).own rfl (purAs_cons rfl (purAs_cons (purA_ptr rfl (mapO_con rfl (mapO_con rfl (mapO_con rfl (mapO_con rfl (mapO_con rfl rfl)))))) purAs_nil)) rfl).trans (congrArg (fun z => some (vb z)) h7)) : CP prg 68 [i6 x2.child, .ptr 0 0] (L43_0_d2 a1 x2 v2) = some (vb false)) apn))))))))) (by kernel_rfl)
   ·
    rw [← sj h]
    exact xretY ([(14, .d true)] ++ ((L43_0_c0 a1 x2 v2) ++ [(26, .d false), (31, .v (vb false)), (6000, .d true)])) (av h1 (apc (ig eForb 3 .i64 h2) (apc q2 (apc q3 (apc q4 (apc q5 (av h3 (apc ((((F68_ok x2 a1 h4).own rfl (purAs_cons rfl (purAs_cons (purA_ptr rfl (mapO_con rfl (mapO_con rfl (mapO_con rfl (mapO_con rfl (mapO_con rfl rfl)))))) purAs_nil)) rfl).trans (congrArg (fun z => some (vb z)) h5)) : CP prg 68 [i6 x2.parent, .ptr 0 0] (L43_0_d2 a1 x2 v2) = some (vb false)) apn)))))))) (by kernel_rfl)
 ·
  rw [← sj h]
  exact xbrk [(14, .d false), (6000, .d true)] (av h1 apn) (by kernel_rfl)
theorem L43_0_run (s0 : Int × (List ((Int × Int × Int) × Int))) (e : E_L43_0) (h : runL (fun s => L43_0 a1 a2 s.1 s.2) s0 = some e) : L43_0_x a1 e (L43_0_e a1 a2 s0.1 s0.2) := by
  have q := @loop_sound' (Int × (List ((Int × Int × Int) × Int))) E_L43_0 (fun s => L43_0 a1 a2 s.1 s.2) (fun s => L43_0_e a1 a2 s.1 s.2) (L43_0_x a1) (fun s r h => L43_0_ok a1 a2 s.1 s.2 h) s0 e h
  exact q
end
def F43_v (a1 : GramD) (x0 : Bool) : AV := (vb x0)
def F43 (a1 : GramD) : Option Bool :=
  ((runL (fun s => L43_0 a1 (a1.forbid.length : Int) s.1 s.2) (0, [])).bind fun r1 => match r1 with | .k0 => (some false) | .k1 x1_0 => (some true))
abbrev F43_d0 (g1 : Nat → AV) (a1 : GramD) (x1_0 : List ((Int × Int × Int) × Int)) : St := ⟨fr 87 g1 [(1, .ptr 0 0), (11, ls 3 eForb a1.forbid)], [bG a1, .map (mrow (fun n => .agg [vi .i64 n.1, vi .i64 n.2.1, vi .i64 n.2.2]) (fun n => vi .i64 n) x1_0)]⟩
theorem F43_ok (a1 : GramD) {r : Bool} (h : F43 a1 = some r) : PR1 prg 43 [aG a1] (F43_v a1 r) := by
 unfold F43 at h
 refine bn h fun r1 h1 h => ?_
 cases r1 with
 | k0 =>
  obtain ⟨g1, y1, e1⟩ := L43_0_run a1 (lF a1) (0, []) _ h1
  rw [← sj h]
  exact fpr [(12, .v (i6 (lF a1))), (2000, .l .ret ⟨fr 87 g1 [(2, vb false)], y1⟩), (6000, .d true)] (apc (lg a1.forbid eForb 3) (apc ((oK (ac (ac rfl))) : okT 2 [bG a1, .map []] = true) (apc (e1 : L43_0_e a1 (lF a1) 0 ([]) = some (.ret, ⟨fr 87 g1 [(2, vb false)], y1⟩)) apn))) rfl (by kernel_rfl)
 | k1 x1_0 =>
  obtain ⟨g1, e1⟩ := L43_0_run a1 (lF a1) (0, []) _ h1
  rw [← sj h]
  exact fpr [(12, .v (i6 (lF a1))), (2000, .l (.brk 0) (F43_d0 g1 a1 x1_0)), (6000, .d true)] (apc (lg a1.forbid eForb 3) (apc ((oK (ac (ac rfl))) : okT 2 [bG a1, .map []] = true) (apc (e1 : L43_0_e a1 (lF a1) 0 ([]) = some ((.brk 0), F43_d0 g1 a1 x1_0)) apn))) rfl (by kernel_rfl)
inductive E_L44_0 where
  | k0
  | k1 (x0 : List (Int × Int))
section
variable (a1 : GramD) (a2 : Int)
def L44_0 (v1 : Int) (v2 : List (Int × Int)) : Option (E_L44_0 ⊕ (Int × (List (Int × Int)))) :=
  (bif (decide (v1 < a2)) then ((getI a1.follow v1).bind fun x2 => (bif (decide ((mget 0 (mput x2.sort (IntKind.wrap .i64 ((mget 0 v2 x2.sort) + 1)) v2) x2.sort) > 1)) then (some (.inl (.k0))) else (bif (decide (x2.sort < 0)) then (some (.inl (.k0))) else (bif (decide (x2.sort ≥ (a1.sorts.length : Int))) then (some (.inl (.k0))) else (bif ((x2.a == 0) && ((x2.b == 0) && ((x2.c == 0) && ((x2.d == 0) && true)))) then (some (.inl (.k0))) else (some (.inr ((IntKind.wrap .i64 (v1 + 1)), (mput x2.sort (IntKind.wrap .i64 ((mget 0 v2 x2.sort) + 1)) v2))))))))) else (some (.inl (.k1 v2))))
def L44_0_s (v1 : Int) (v2 : List (Int × Int)) : St := ⟨fr 44 ug [(1, .ptr 0 0), (3, .mp 1), (8, ls 5 eFoll a1.follow), (9, i6 a2), (10, i6 v1)], [bG a1, .map (mrow (fun n => vi .i64 n) (fun n => vi .i64 n) v2)]⟩
abbrev L44_0_e (v1 : Int) (v2 : List (Int × Int)) := evH prg 2 [1, 3, 8, 9, 10] ir44_l0 (L44_0_s a1 a2 v1 v2)
def L44_0_x (e : E_L44_0) (r : Option (Out × St)) : Prop := match e with | .k0 => ∃ g y, r = some (.ret, ⟨fr 44 g [(2, vb false)], y⟩) | .k1 x0 => ∃ g, r = some ((.brk 0), ⟨fr 44 g [(1, .ptr 0 0), (8, ls 5 eFoll a1.follow)], [bG a1, .map (mrow (fun n => vi .i64 n) (fun n => vi .i64 n) x0)]⟩)
abbrev L44_0_d0 (v2 : List (Int × Int)) (x2 : FollD) : List AB := [bG a1, .map (mrow (fun n => vi .i64 n) (fun n => vi .i64 n) v2), .cells 80 ((eFoll x2).map .p)]
abbrev L44_0_d1 (x2 : FollD) (v2 : List (Int × Int)) : List AB := [bG a1, .map (mrow (fun n => vi .i64 n) (fun n => vi .i64 n) (mput x2.sort (w6 ((mget 0 v2 x2.sort) + 1)) v2)), .cells 80 ((eFoll x2).map .p)]
abbrev L44_0_c0 (x2 : FollD) (v2 : List (Int × Int)) : List (Nat × Hint) := [(12, .v (.ro (eFoll x2))), (17, .v (i6 (mget 0 v2 x2.sort))), (7018, .r ud (L44_0_d1 a1 x2 v2)), (22, .v (i6 (mget 0 (mput x2.sort (w6 ((mget 0 v2 x2.sort) + 1)) v2) x2.sort)))]
theorem L44_0_ok (v1 : Int) (v2 : List (Int × Int)) {r : E_L44_0 ⊕ (Int × (List (Int × Int)))} (h : L44_0 a1 a2 v1 v2 = some r) : OkR (fun e => L44_0_x a1 e (L44_0_e a1 a2 v1 v2)) (fun s => L44_0_e a1 a2 v1 v2 = L44_0_e a1 a2 s.1 s.2) r := by
 unfold L44_0 at h
 refine bi h ?_ ?_ <;> intro h1 h
 ·
  refine bn h fun x2 h2 h => ?_
  have q2 := ((lk_row key_int (es := v2) (k := x2.sort) (z := 0) rfl rfl) : lkA (L44_0_d0 a1 v2 x2) [1] .false .false [(.val (.int .i64 0))] .false (.mp 1) (i6 x2.sort) = some (i6 (mget 0 v2 x2.sort)))
  have q3 := (⟨up_row key_int (es := v2) (k := x2.sort) (v := (w6 ((mget 0 v2 x2.sort) + 1))) rfl, rfl⟩ : upA (L44_0_d0 a1 v2 x2) [1] .false (.mp 1) (i6 x2.sort) (i6 (w6 ((mget 0 v2 x2.sort) + 1))) = some (L44_0_d1 a1 x2 v2) ∧ ud = ud)
  have q4 := ((lk_row key_int (es := (mput x2.sort (w6 ((mget 0 v2 x2.sort) + 1)) v2)) (k := x2.sort) (z := 0) rfl rfl) : lkA (L44_0_d1 a1 x2 v2) [1] .false .false [(.val (.int .i64 0))] .false (.mp 1) (i6 x2.sort) = some (i6 (mget 0 (mput x2.sort (w6 ((mget 0 v2 x2.sort) + 1)) v2) x2.sort)))
  refine bi h ?_ ?_ <;> intro h3 h
  ·
   rw [← sj h]
   exact xretY ([(11, .d true)] ++ ((L44_0_c0 a1 x2 v2) ++ [(23, .d true), (6000, .d true)])) (av h1 (apc (ig eFoll 5 .i64 h2) (apc q2 (apc q3 (apc q4 (av h3 apn)))))) (by kernel_rfl)
  ·
   refine bi h ?_ ?_ <;> intro h4 h
   ·
    rw [← sj h]
    exact xretY ([(11, .d true)] ++ ((L44_0_c0 a1 x2 v2) ++ [(23, .d false), (27, .d true), (6000, .d true)])) (av h1 (apc (ig eFoll 5 .i64 h2) (apc q2 (apc q3 (apc q4 (av h3 (av h4 apn))))))) (by kernel_rfl)
   ·
    refine bi h ?_ ?_ <;> intro h5 h
    ·
     rw [← sj h]
     exact xretY ([(11, .d true)] ++ ((L44_0_c0 a1 x2 v2) ++ [(23, .d false), (27, .d false), (34, .v (i6 (lS a1))), (35, .d true), (6000, .d true)])) (av h1 (apc (ig eFoll 5 .i64 h2) (apc q2 (apc q3 (apc q4 (av h3 (av h4 (apc (lg a1.sorts eStr 1) (av h5 apn))))))))) (by kernel_rfl)
    ·
     refine bi h ?_ ?_ <;> intro h6 h
     ·
      rw [← sj h]
      exact xretY ([(11, .d true)] ++ ((L44_0_c0 a1 x2 v2) ++ [(23, .d false), (27, .d false), (34, .v (i6 (lS a1))), (35, .d false), (41, .d true), (6000, .d true)])) (av h1 (apc (ig eFoll 5 .i64 h2) (apc q2 (apc q3 (apc q4 (av h3 (av h4 (apc (lg a1.sorts eStr 1) (av h5 (av h6 apn)))))))))) (by kernel_rfl)
     ·
      rw [← sj h]
      exact rnd ([(11, .d true)] ++ ((L44_0_c0 a1 x2 v2) ++ [(23, .d false), (27, .d false), (34, .v (i6 (lS a1))), (35, .d false), (41, .d false), (6000, .d true)])) (av h1 (apc (ig eFoll 5 .i64 h2) (apc q2 (apc q3 (apc q4 (av h3 (av h4 (apc (lg a1.sorts eStr 1) (av h5 (av h6 (apc ((oK (ac (abl_cons (abl_map (fun _ => rfl) (fun _ => rfl)) rfl))) : okT 2 (L44_0_d1 a1 x2 v2) = true) apn))))))))))) (by kernel_rfl)
 ·
  rw [← sj h]
  exact xbrk [(11, .d false), (6000, .d true)] (av h1 apn) (by kernel_rfl)
theorem L44_0_run (s0 : Int × (List (Int × Int))) (e : E_L44_0) (h : runL (fun s => L44_0 a1 a2 s.1 s.2) s0 = some e) : L44_0_x a1 e (L44_0_e a1 a2 s0.1 s0.2) := by
  have q := @loop_sound' (Int × (List (Int × Int))) E_L44_0 (fun s => L44_0 a1 a2 s.1 s.2) (fun s => L44_0_e a1 a2 s.1 s.2) (L44_0_x a1) (fun s r h => L44_0_ok a1 a2 s.1 s.2 h) s0 e h
  exact q
end
def F44_v (a1 : GramD) (x0 : Bool) : AV := (vb x0)
def F44 (a1 : GramD) : Option Bool :=
  ((runL (fun s => L44_0 a1 (a1.follow.length : Int) s.1 s.2) (0, [])).bind fun r1 => match r1 with | .k0 => (some false) | .k1 x1_0 => (some true))
abbrev F44_d0 (g1 : Nat → AV) (a1 : GramD) (x1_0 : List (Int × Int)) : St := ⟨fr 44 g1 [(1, .ptr 0 0), (8, ls 5 eFoll a1.follow)], [bG a1, .map (mrow (fun n => vi .i64 n) (fun n => vi .i64 n) x1_0)]⟩
theorem F44_ok (a1 : GramD) {r : Bool} (h : F44 a1 = some r) : PR1 prg 44 [aG a1] (F44_v a1 r) := by
 unfold F44 at h
 refine bn h fun r1 h1 h => ?_
 cases r1 with
 | k0 =>
  obtain ⟨g1, y1, e1⟩ := L44_0_run a1 (lW a1) (0, []) _ h1
  rw [← sj h]
  exact fpr [(9, .v (i6 (lW a1))), (2000, .l .ret ⟨fr 44 g1 [(2, vb false)], y1⟩), (6000, .d true)] (apc (lg a1.follow eFoll 5) (apc ((oK (ac (ac rfl))) : okT 2 [bG a1, .map []] = true) (apc (e1 : L44_0_e a1 (lW a1) 0 ([]) = some (.ret, ⟨fr 44 g1 [(2, vb false)], y1⟩)) apn))) rfl (by kernel_rfl)
 | k1 x1_0 =>
  obtain ⟨g1, e1⟩ := L44_0_run a1 (lW a1) (0, []) _ h1
  rw [← sj h]
  exact fpr [(9, .v (i6 (lW a1))), (2000, .l (.brk 0) (F44_d0 g1 a1 x1_0)), (6000, .d true)] (apc (lg a1.follow eFoll 5) (apc ((oK (ac (ac rfl))) : okT 2 [bG a1, .map []] = true) (apc (e1 : L44_0_e a1 (lW a1) 0 ([]) = some ((.brk 0), F44_d0 g1 a1 x1_0)) apn))) rfl (by kernel_rfl)
inductive E_L15_0 where
  | k0
  | k1
section
variable (a1 : GramD)
def L15_0 (v1 : Int) : Option (E_L15_0 ⊕ (Int)) :=
  (bif (decide (v1 < 4)) then (bif (v1 == 0) then ((F41 a1).bind fun x3 => (bif x3 then (some (.inr ((IntKind.wrap .i64 (v1 + 1))))) else (some (.inl (.k0))))) else (bif (v1 == 1) then ((F42 a1).bind fun x4 => (bif x4 then (some (.inr ((IntKind.wrap .i64 (v1 + 1))))) else (some (.inl (.k0))))) else (bif (v1 == 2) then ((F43 a1).bind fun x5 => (bif x5 then (some (.inr ((IntKind.wrap .i64 (v1 + 1))))) else (some (.inl (.k0))))) else (bif (v1 == 3) then ((F44 a1).bind fun x6 => (bif x6 then (some (.inr ((IntKind.wrap .i64 (v1 + 1))))) else (some (.inl (.k0))))) else none)))) else (some (.inl (.k1))))
def L15_0_s (v1 : Int) : St := ⟨fr 14 ug [(1, .ptr 0 0), (5, (.agg [(.fn 41 []), (.fn 42 []), (.fn 43 []), (.fn 44 [])])), (6, i6 v1)], [bG a1]⟩
abbrev L15_0_e (v1 : Int) := evH prg 1 [1, 5, 6] ir15_l0 (L15_0_s a1 v1)
def L15_0_x (e : E_L15_0) (r : Option (Out × St)) : Prop := match e with | .k0 => ∃ g y, r = some (.ret, ⟨fr 14 g [(2, i6 160)], y⟩) | .k1 => ∃ g, r = some ((.brk 0), ⟨fr 14 g [], [bG a1]⟩)
theorem L15_0_ok (v1 : Int) {r : E_L15_0 ⊕ (Int)} (h : L15_0 a1 v1 = some r) : OkR (fun e => L15_0_x a1 e (L15_0_e a1 v1)) (fun s => L15_0_e a1 v1 = L15_0_e a1 s) r := by
 unfold L15_0 at h
 refine bi h ?_ ?_ <;> intro h1 h
 ·
  refine bi h ?_ ?_ <;> intro h2 h
  ·
   have q1 := ((ix_lit h2 (fun z => ixG false 4 1 (.agg [(.fn 41 []), (.fn 42 []), (.fn 43 []), (.fn 44 [])]) (i6 z)) rfl) : ixG false 4 1 (.agg [(.fn 41 []), (.fn 42 []), (.fn 43 []), (.fn 44 [])]) (i6 v1) = some (.fn 41 []))
   refine bn h fun x3 h3 h => ?_
   refine bi h ?_ ?_ <;> intro h4 h
   ·
    rw [← sj h]
    exact rnd [(7, .d true), (8, .v (.fn 41 [])), (11, .v (vb true)), (6000, .d true)] (av h1 (apc q1 (apc ((((F41_ok a1 h3).cp rfl _).trans (congrArg (fun z => some (vb z)) h4)) : CP prg 41 [aG a1] [bG a1] = some (vb true)) (apc ((oK (ac rfl)) : okT 1 [bG a1] = true) apn)))) (by kernel_rfl)
   ·
    rw [← sj h]
    exact xretY [(7, .d true), (8, .v (.fn 41 [])), (11, .v (vb false)), (6000, .d true)] (av h1 (apc q1 (apc ((((F41_ok a1 h3).cp rfl _).trans (congrArg (fun z => some (vb z)) h4)) : CP prg 41 [aG a1] [bG a1] = some (vb false)) apn))) (by kernel_rfl)
  ·
   refine bi h ?_ ?_ <;> intro h3 h
   ·
    have q1 := ((ix_lit h3 (fun z => ixG false 4 1 (.agg [(.fn 41 []), (.fn 42 []), (.fn 43 []), (.fn 44 [])]) (i6 z)) rfl) : ixG false 4 1 (.agg [(.fn 41 []), (.fn 42 []), (.fn 43 []), (.fn 44 [])]) (i6 v1) = some (.fn 42 []))
    refine bn h fun x4 h4 h => ?_
    refine bi h ?_ ?_ <;> intro h5 h
    ·
     rw [← sj h]
     exact rnd [(7, .d true), (8, .v (.fn 42 [])), (11, .v (vb true)), (6000, .d true)] (av h1 (apc q1 (apc ((((F42_ok a1 h4).cp rfl _).trans (congrArg (fun z => some (vb z)) h5)) : CP prg 42 [aG a1] [bG a1] = some (vb true)) (apc ((oK (ac rfl)) : okT 1 [bG a1] = true) apn)))) (by kernel_rfl)
    ·
     rw [← sj h]
     exact xretY [(7, .d true), (8, .v (.fn 42 [])), (11, .v (vb false)), (6000, .d true)] (av h1 (apc q1 (apc ((((F42_ok a1 h4).cp rfl _).trans (congrArg (fun z => some (vb z)) h5)) : CP prg 42 [aG a1] [bG a1] = some (vb false)) apn))) (by kernel_rfl)
   ·
    refine bi h ?_ ?_ <;> intro h4 h
    ·
     have q1 := ((ix_lit h4 (fun z => ixG false 4 1 (.agg [(.fn 41 []), (.fn 42 []), (.fn 43 []), (.fn 44 [])]) (i6 z)) rfl) : ixG false 4 1 (.agg [(.fn 41 []), (.fn 42 []), (.fn 43 []), (.fn 44 [])]) (i6 v1) = some (.fn 43 []))
     refine bn h fun x5 h5 h => ?_
     refine bi h ?_ ?_ <;> intro h6 h
     ·
      rw [← sj h]
      exact rnd [(7, .d true), (8, .v (.fn 43 [])), (11, .v (vb true)), (6000, .d true)] (av h1 (apc q1 (apc ((((F43_ok a1 h5).cp rfl _).trans (congrArg (fun z => some (vb z)) h6)) : CP prg 43 [aG a1] [bG a1] = some (vb true)) (apc ((oK (ac rfl)) : okT 1 [bG a1] = true) apn)))) (by kernel_rfl)
     ·
      rw [← sj h]
      exact xretY [(7, .d true), (8, .v (.fn 43 [])), (11, .v (vb false)), (6000, .d true)] (av h1 (apc q1 (apc ((((F43_ok a1 h5).cp rfl _).trans (congrArg (fun z => some (vb z)) h6)) : CP prg 43 [aG a1] [bG a1] = some (vb false)) apn))) (by kernel_rfl)
    ·
     refine bi h ?_ ?_ <;> intro h5 h
     ·
      have q1 := ((ix_lit h5 (fun z => ixG false 4 1 (.agg [(.fn 41 []), (.fn 42 []), (.fn 43 []), (.fn 44 [])]) (i6 z)) rfl) : ixG false 4 1 (.agg [(.fn 41 []), (.fn 42 []), (.fn 43 []), (.fn 44 [])]) (i6 v1) = some (.fn 44 []))
      refine bn h fun x6 h6 h => ?_
      refine bi h ?_ ?_ <;> intro h7 h
      ·
       rw [← sj h]
       exact rnd [(7, .d true), (8, .v (.fn 44 [])), (11, .v (vb true)), (6000, .d true)] (av h1 (apc q1 (apc ((((F44_ok a1 h6).cp rfl _).trans (congrArg (fun z => some (vb z)) h7)) : CP prg 44 [aG a1] [bG a1] = some (vb true)) (apc ((oK (ac rfl)) : okT 1 [bG a1] = true) apn)))) (by kernel_rfl)
      ·
       rw [← sj h]
       exact xretY [(7, .d true), (8, .v (.fn 44 [])), (11, .v (vb false)), (6000, .d true)] (av h1 (apc q1 (apc ((((F44_ok a1 h6).cp rfl _).trans (congrArg (fun z => some (vb z)) h7)) : CP prg 44 [aG a1] [bG a1] = some (vb false)) apn))) (by kernel_rfl)
     ·
      cases h
 ·
  rw [← sj h]
  exact xbrk [(7, .d false), (6000, .d true)] (av h1 apn) (by kernel_rfl)
theorem L15_0_run (s0 : Int) (e : E_L15_0) (h : runL (fun s => L15_0 a1 s) s0 = some e) : L15_0_x a1 e (L15_0_e a1 s0) := by
  have q := @loop_sound' (Int) E_L15_0 (fun s => L15_0 a1 s) (fun s => L15_0_e a1 s) (L15_0_x a1) (fun s r h => L15_0_ok a1 s h) s0 e h
  exact q
end
def F15_v (a1 : GramD) (x0 : Int) : AV := (i6 x0)
def F15 (a1 : GramD) : Option Int :=
  ((runL (fun s => L15_0 a1 s) 0).bind fun r1 => match r1 with | .k0 => (some 160) | .k1 => (some 0))
theorem F15_ok (a1 : GramD) {r : Int} (h : F15 a1 = some r) : PR1 prg 15 [aG a1] (F15_v a1 r) := by
 unfold F15 at h
 refine bn h fun r1 h1 h => ?_
 cases r1 with
 | k0 =>
  obtain ⟨g1, y1, e1⟩ := L15_0_run a1 0 _ h1
  rw [← sj h]
  exact fpr [(2000, .l .ret ⟨fr 14 g1 [(2, i6 160)], y1⟩), (6000, .d true)] (apc ((oK (ac rfl)) : okT 1 [bG a1] = true) (apc (e1 : L15_0_e a1 0 = some (.ret, ⟨fr 14 g1 [(2, i6 160)], y1⟩)) apn)) rfl (by kernel_rfl)
 | k1 =>
  obtain ⟨g1, e1⟩ := L15_0_run a1 0 _ h1
  rw [← sj h]
  exact fpr [(2000, .l (.brk 0) ⟨fr 14 g1 [], [bG a1]⟩), (6000, .d true)] (apc ((oK (ac rfl)) : okT 1 [bG a1] = true) (apc (e1 : L15_0_e a1 0 = some ((.brk 0), ⟨fr 14 g1 [], [bG a1]⟩)) apn)) rfl (by kernel_rfl)
def F63_v (a1 : SymD) (a2 : GramD) (a3 : List Bool) (a4 : Nat) (a5 : ProdD) (x0 : Bool) : AV := (vb x0)
def F63_h (a1 : SymD) (a2 : GramD) (a3 : List Bool) (a4 : Nat) (a5 : ProdD) (x0 : Bool) : List AB := [bG a2, yB0, yB 0 a3, yB0, .cells 83 [.sl 2 0 1 0 a4], .cells 103 [(.fn 63 [.ptr 4 0])], yY0, bP a5, .cells 68 ((eSym a1).map .p), .cells 68 ((eSym a1).map .p)]
def F63 (a1 : SymD) (a3 : List Bool) (a4 : Nat) : Option Bool :=
  (bif (a1.kind == 0) then (some true) else ((ixN a4 a1.sort).bind fun x2 => ((a3[x2]?).bind fun x3 => (some x3))))
theorem F63_ok (a1 : SymD) (a2 : GramD) (a3 : List Bool) (a4 : Nat) (a5 : ProdD) {r : Bool} (h : F63 a1 a3 a4 = some r) : CS prg 63 [(.agg ((eSym a1).map .p)), .ptr 4 0] [bG a2, yB0, yB 0 a3, yB0, .cells 83 [.sl 2 0 1 0 a4], .cells 103 [(.fn 63 [.ptr 4 0])], yY0, bP a5, .cells 68 ((eSym a1).map .p)] = some (F63_v a1 a2 a3 a4 a5 r, F63_h a1 a2 a3 a4 a5 r) := by
 unfold F63 at h
 refine bi h ?_ ?_ <;> intro h1 h
 ·
  rw [← sj h]
  exact fcs [(6, .d true)] (av h1 apn) (by kernel_rfl)
 ·
  refine bn h fun x2 h2 h => ?_
  refine bn h fun x3 h3 h => ?_
  rw [← sj h]
  exact fcs [(6, .d false), (11, .v (.rp 2 0 1 x2 0)), (12, .v (vb x3))] (av h1 (apc ((idx_sl h2) : idxA 1 (.sl 2 0 1 0 a4) (i6 a1.sort) = some (.rp 2 0 1 x2 0)) (apc ((ld_row rfl h3 rfl) : ldA [bG a2, yB0, yB 0 a3, yB0, .cells 83 [.sl 2 0 1 0 a4], .cells 103 [(.fn 63 [.ptr 4 0])], yY0, bP a5, .cells 68 ((eSym a1).map .p), .cells 68 ((eSym a1).map .p)] .false 1 (.rp 2 0 1 x2 0) = some (vb x3)) apn))) (by kernel_rfl)
def F64_v (a1 : SymD) (a2 : GramD) (a3 : List Bool) (a4 : Nat) (a5 : ProdD) (x0 : Bool) : AV := (vb x0)
def F64_h (a1 : SymD) (a2 : GramD) (a3 : List Bool) (a4 : Nat) (a5 : ProdD) (x0 : Bool) : List AB := [bG a2, yB0, yB 0 a3, yB0, .cells 83 [.sl 2 0 1 0 a4], .cells 103 [(.fn 63 [.ptr 4 0])], yY0, bP a5, .cells 68 ((eSym a1).map .p), .cells 68 ((eSym a1).map .p)]
def F64 (a1 : SymD) (a3 : List Bool) (a4 : Nat) : Option Bool :=
  ((F63 a1 a3 a4).bind fun x1 => (some (!x1)))
abbrev F64_d0 (a2 : GramD) (a3 : List Bool) (a4 : Nat) (a5 : ProdD) (a1 : SymD) : List AB := [bG a2, yB0, yB 0 a3, yB0, .cells 83 [.sl 2 0 1 0 a4], .cells 103 [(.fn 63 [.ptr 4 0])], yY0, bP a5, .cells 68 ((eSym a1).map .p), .cells 68 ((eSym a1).map .p)]
theorem F64_ok (a1 : SymD) (a2 : GramD) (a3 : List Bool) (a4 : Nat) (a5 : ProdD) {r : Bool} (h : F64 a1 a3 a4 = some r) : CS prg 64 [(.agg ((eSym a1).map .p)), .ptr 5 0] [bG a2, yB0, yB 0 a3, yB0, .cells 83 [.sl 2 0 1 0 a4], .cells 103 [(.fn 63 [.ptr 4 0])], yY0, bP a5] = some (F64_v a1 a2 a3 a4 a5 r, F64_h a1 a2 a3 a4 a5 r) := by
 unfold F64 at h
 refine bn h fun x1 h1 h => ?_
 rw [← sj h]
 exact fcs [(6, .r (vb x1) (F64_d0 a2 a3 a4 a5 a1))] (apc ((F63_ok a1 a2 a3 a4 a5 h1) : CS prg 63 [(.agg ((eSym a1).map .p)), .ptr 4 0] [bG a2, yB0, yB 0 a3, yB0, .cells 83 [.sl 2 0 1 0 a4], .cells 103 [(.fn 63 [.ptr 4 0])], yY0, bP a5, .cells 68 ((eSym a1).map .p)] = some ((vb x1), F64_d0 a2 a3 a4 a5 a1)) apn) (by kernel_rfl)
inductive E_L72_0 where
  | k0 (x0 x1 x2 x3 x4 x5 x6 : Int)
  | k1
section
variable (a1 : ProdD) (a2 : Int) (a3 : GramD) (a4 : List Bool) (a5 : Nat)
def L72_0 (v1 : Int) : Option (E_L72_0 ⊕ (Int)) :=
  (bif (decide (v1 < a2)) then ((getI a1.right v1).bind fun x2 => ((F64 x2 a4 a5).bind fun x3 => (bif x3 then (some (.inl (.k0 v1 x2.kind x2.a x2.b x2.c x2.d x2.sort))) else (some (.inr ((IntKind.wrap .i64 (v1 + 1)))))))) else (some (.inl (.k1))))
def L72_0_s (v1 : Int) : St := ⟨fr 19 ug [(0, ls 6 eSym a1.right), (1, (.fn 64 [.ptr 5 0])), (7, i6 a2), (8, i6 v1)], [bG a3, yB0, yB 0 a4, yB0, .cells 83 [.sl 2 0 1 0 a5], .cells 103 [(.fn 63 [.ptr 4 0])], yY0, bP a1]⟩
abbrev L72_0_e (v1 : Int) := evH prg 8 [0, 1, 7, 8] ir72_l0 (L72_0_s a1 a2 a3 a4 a5 v1)
def L72_0_x (e : E_L72_0) (r : Option (Out × St)) : Prop := match e with | .k0 x0 x1 x2 x3 x4 x5 x6 => ∃ g, r = some (.ret, ⟨fr 19 g [(4, i6 x0)], [bG a3, yB0, yB 0 a4, yB0, .cells 83 [.sl 2 0 1 0 a5], .cells 103 [(.fn 63 [.ptr 4 0])], yY0, bP a1, .cells 68 [i6 x1, vi .u64 x2, vi .u64 x3, vi .u64 x4, vi .u64 x5, i6 x6], .cells 68 [i6 x1, vi .u64 x2, vi .u64 x3, vi .u64 x4, vi .u64 x5, i6 x6]]⟩) | .k1 => ∃ g, r = some ((.brk 0), ⟨fr 19 g [(0, ls 6 eSym a1.right)], [bG a3, yB0, yB 0 a4, yB0, .cells 83 [.sl 2 0 1 0 a5], .cells 103 [(.fn 63 [.ptr 4 0])], yY0, bP a1]⟩)
abbrev L72_0_d0 (x2 : SymD) : List AB := [bG a3, yB0, yB 0 a4, yB0, .cells 83 [.sl 2 0 1 0 a5], .cells 103 [(.fn 63 [.ptr 4 0])], yY0, bP a1, .cells 68 ((eSym x2).map .p), .cells 68 ((eSym x2).map .p)]
abbrev L72_0_d1 : List AB := [bG a3, yB0, yB 0 a4, yB0, .cells 83 [.sl 2 0 1 0 a5], .cells 103 [(.fn 63 [.ptr 4 0])], yY0, bP a1]
theorem L72_0_ok (v1 : Int) {r : E_L72_0 ⊕ (Int)} (h : L72_0 a1 a2 a4 a5 v1 = some r) : OkR (fun e => L72_0_x a1 a3 a4 a5 e (L72_0_e a1 a2 a3 a4 a5 v1)) (fun s => L72_0_e a1 a2 a3 a4 a5 v1 = L72_0_e a1 a2 a3 a4 a5 s) r := by
 unfold L72_0 at h
 refine bi h ?_ ?_ <;> intro h1 h
 ·
  refine bn h fun x2 h2 h => ?_
  refine bn h fun x3 h3 h => ?_
  refine bi h ?_ ?_ <;> intro h4 h
  ·
   rw [← sj h]
   exact xret [(9, .d true), (14, .v (.ro (eSym x2))), (16, .r (vb true) (L72_0_d0 a1 a3 a4 a5 x2)), (6000, .d true)] (av h1 (apc (ig eSym 6 .i64 h2) (apc (((F64_ok x2 a3 a4 a5 a1 h3).trans (congrArg (fun z => some (vb z, ((L72_0_d0 a1 a3 a4 a5 x2) : List AB))) h4)) : CS prg 64 [(.agg ((eSym x2).map .p)), .ptr 5 0] (L72_0_d1 a1 a3 a4 a5) = some (vb true, L72_0_d0 a1 a3 a4 a5 x2)) apn))) (by kernel_rfl)
  ·
   rw [← sj h]
   exact rnd [(9, .d true), (14, .v (.ro (eSym x2))), (16, .r (vb false) (L72_0_d0 a1 a3 a4 a5 x2)), (6000, .d true)] (av h1 (apc (ig eSym 6 .i64 h2) (apc (((F64_ok x2 a3 a4 a5 a1 h3).trans (congrArg (fun z => some (vb z, ((L72_0_d0 a1 a3 a4 a5 x2) : List AB))) h4)) : CS prg 64 [(.agg ((eSym x2).map .p)), .ptr 5 0] (L72_0_d1 a1 a3 a4 a5) = some (vb false, L72_0_d0 a1 a3 a4 a5 x2)) (apc ((oK (ac (ar (ar (ar (ac (ac (ar (ac rfl))))))))) : okT 8 (L72_0_d0 a1 a3 a4 a5 x2) = true) apn)))) (by kernel_rfl)
 ·
  rw [← sj h]
  exact xbrk [(9, .d false), (6000, .d true)] (av h1 apn) (by kernel_rfl)
theorem L72_0_run (s0 : Int) (e : E_L72_0) (h : runL (fun s => L72_0 a1 a2 a4 a5 s) s0 = some e) : L72_0_x a1 a3 a4 a5 e (L72_0_e a1 a2 a3 a4 a5 s0) := by
  have q := @loop_sound' (Int) E_L72_0 (fun s => L72_0 a1 a2 a4 a5 s) (fun s => L72_0_e a1 a2 a3 a4 a5 s) (L72_0_x a1 a3 a4 a5) (fun s r h => L72_0_ok a1 a2 a3 a4 a5 s h) s0 e h
  exact q
end
inductive R_F72 where
  | k0 (x0 x1 x2 x3 x4 x5 x6 : Int)
  | k1
def F72_v (a1 : ProdD) (a2 : GramD) (a3 : List Bool) (a4 : Nat) (r : R_F72) : AV := match r with | .k0 x0 x1 x2 x3 x4 x5 x6 => (i6 x0) | .k1 => (i6 (-1))
def F72_h (a1 : ProdD) (a2 : GramD) (a3 : List Bool) (a4 : Nat) (r : R_F72) : List AB := match r with | .k0 x0 x1 x2 x3 x4 x5 x6 => [bG a2, yB0, yB 0 a3, yB0, .cells 83 [.sl 2 0 1 0 a4], .cells 103 [(.fn 63 [.ptr 4 0])], yY0, bP a1, .cells 68 [i6 x1, vi .u64 x2, vi .u64 x3, vi .u64 x4, vi .u64 x5, i6 x6], .cells 68 [i6 x1, vi .u64 x2, vi .u64 x3, vi .u64 x4, vi .u64 x5, i6 x6]] | .k1 => [bG a2, yB0, yB 0 a3, yB0, .cells 83 [.sl 2 0 1 0 a4], .cells 103 [(.fn 63 [.ptr 4 0])], yY0, bP a1]
def F72 (a1 : ProdD) (a3 : List Bool) (a4 : Nat) : Option R_F72 :=
  ((runL (fun s => L72_0 a1 (a1.right.length : Int) a3 a4 s) 0).bind fun r1 => match r1 with | .k0 x1_0 x1_1 x1_2 x1_3 x1_4 x1_5 x1_6 => (some (.k0 x1_0 x1_1 x1_2 x1_3 x1_4 x1_5 x1_6)) | .k1 => (some (.k1)))
abbrev F72_d0 (g1 : Nat → AV) (x1_0 : Int) (a2 : GramD) (a3 : List Bool) (a4 : Nat) (a1 : ProdD) (x1_1 x1_2 x1_3 x1_4 x1_5 x1_6 : Int) : St := ⟨fr 19 g1 [(4, i6 x1_0)], [bG a2, yB0, yB 0 a3, yB0, .cells 83 [.sl 2 0 1 0 a4], .cells 103 [(.fn 63 [.ptr 4 0])], yY0, bP a1, .cells 68 [i6 x1_1, vi .u64 x1_2, vi .u64 x1_3, vi .u64 x1_4, vi .u64 x1_5, i6 x1_6], .cells 68 [i6 x1_1, vi .u64 x1_2, vi .u64 x1_3, vi .u64 x1_4, vi .u64 x1_5, i6 x1_6]]⟩
abbrev F72_d1 (a2 : GramD) (a3 : List Bool) (a4 : Nat) (a1 : ProdD) : List AB := [bG a2, yB0, yB 0 a3, yB0, .cells 83 [.sl 2 0 1 0 a4], .cells 103 [(.fn 63 [.ptr 4 0])], yY0, bP a1]
abbrev F72_d2 (g1 : Nat → AV) (a1 : ProdD) (a2 : GramD) (a3 : List Bool) (a4 : Nat) : St := ⟨fr 19 g1 [(0, ls 6 eSym a1.right)], [bG a2, yB0, yB 0 a3, yB0, .cells 83 [.sl 2 0 1 0 a4], .cells 103 [(.fn 63 [.ptr 4 0])], yY0, bP a1]⟩
theorem F72_ok (a1 : ProdD) (a2 : GramD) (a3 : List Bool) (a4 : Nat) {r : R_F72} (h : F72 a1 a3 a4 = some r) : CS prg 72 [ls 6 eSym a1.right, (.fn 64 [.ptr 5 0])] [bG a2, yB0, yB 0 a3, yB0, .cells 83 [.sl 2 0 1 0 a4], .cells 103 [(.fn 63 [.ptr 4 0])], yY0, bP a1] = some (F72_v a1 a2 a3 a4 r, F72_h a1 a2 a3 a4 r) := by
 unfold F72 at h
 refine bn h fun r1 h1 h => ?_
 cases r1 with
 | k0 x1_0 x1_1 x1_2 x1_3 x1_4 x1_5 x1_6 =>
  obtain ⟨g1, e1⟩ := L72_0_run a1 (a1.right.length : Int) a2 a3 a4 0 _ h1
  rw [← sj h]
  exact fcs [(7, .v (i6 (a1.right.length : Int))), (2000, .l .ret (F72_d0 g1 x1_0 a2 a3 a4 a1 x1_1 x1_2 x1_3 x1_4 x1_5 x1_6)), (6000, .d true)] (apc (lg a1.right eSym 6) (apc ((oK (ac (ar (ar (ar (ac (ac (ar (ac rfl))))))))) : okT 8 (F72_d1 a2 a3 a4 a1) = true) (apc (e1 : L72_0_e a1 (a1.right.length : Int) a2 a3 a4 0 = some (.ret, F72_d0 g1 x1_0 a2 a3 a4 a1 x1_1 x1_2 x1_3 x1_4 x1_5 x1_6)) apn))) (by kernel_rfl)
 | k1 =>
  obtain ⟨g1, e1⟩ := L72_0_run a1 (a1.right.length : Int) a2 a3 a4 0 _ h1
  rw [← sj h]
  exact fcs [(7, .v (i6 (a1.right.length : Int))), (2000, .l (.brk 0) (F72_d2 g1 a1 a2 a3 a4)), (6000, .d true)] (apc (lg a1.right eSym 6) (apc ((oK (ac (ar (ar (ar (ac (ac (ar (ac rfl))))))))) : okT 8 (F72_d1 a2 a3 a4 a1) = true) (apc (e1 : L72_0_e a1 (a1.right.length : Int) a2 a3 a4 0 = some ((.brk 0), F72_d2 g1 a1 a2 a3 a4)) apn))) (by kernel_rfl)
inductive R_F54 where
  | k0 (x0 : Bool) (x1 x2 x3 x4 x5 x6 : Int)
  | k1
def F54_v (a1 : ProdD) (a2 : GramD) (a3 : List Bool) (a4 : Nat) (r : R_F54) : AV := match r with | .k0 x0 x1 x2 x3 x4 x5 x6 => (vb x0) | .k1 => (vb false)
def F54_h (a1 : ProdD) (a2 : GramD) (a3 : List Bool) (a4 : Nat) (r : R_F54) : List AB := match r with | .k0 x0 x1 x2 x3 x4 x5 x6 => [bG a2, yB0, yB 0 a3, yB0, .cells 83 [.sl 2 0 1 0 a4], .cells 103 [(.fn 63 [.ptr 4 0])], yY0, bP a1, .cells 68 [i6 x1, vi .u64 x2, vi .u64 x3, vi .u64 x4, vi .u64 x5, i6 x6], .cells 68 [i6 x1, vi .u64 x2, vi .u64 x3, vi .u64 x4, vi .u64 x5, i6 x6]] | .k1 => [bG a2, yB0, yB 0 a3, yB0, .cells 83 [.sl 2 0 1 0 a4], .cells 103 [(.fn 63 [.ptr 4 0])], yY0, bP a1]
def F54 (a1 : ProdD) (a3 : List Bool) (a4 : Nat) : Option R_F54 :=
  ((F72 a1 a3 a4).bind fun r1 => match r1 with | .k0 x1_0 x1_1 x1_2 x1_3 x1_4 x1_5 x1_6 => (some (.k0 (decide (x1_0 ≥ 0)) x1_1 x1_2 x1_3 x1_4 x1_5 x1_6)) | .k1 => (some (.k1)))
abbrev F54_d0 (a2 : GramD) (a3 : List Bool) (a4 : Nat) (a1 : ProdD) (x1_1 x1_2 x1_3 x1_4 x1_5 x1_6 : Int) : List AB := [bG a2, yB0, yB 0 a3, yB0, .cells 83 [.sl 2 0 1 0 a4], .cells 103 [(.fn 63 [.ptr 4 0])], yY0, bP a1, .cells 68 [i6 x1_1, vi .u64 x1_2, vi .u64 x1_3, vi .u64 x1_4, vi .u64 x1_5, i6 x1_6], .cells 68 [i6 x1_1, vi .u64 x1_2, vi .u64 x1_3, vi .u64 x1_4, vi .u64 x1_5, i6 x1_6]]
abbrev F54_d1 (a2 : GramD) (a3 : List Bool) (a4 : Nat) (a1 : ProdD) : List AB := [bG a2, yB0, yB 0 a3, yB0, .cells 83 [.sl 2 0 1 0 a4], .cells 103 [(.fn 63 [.ptr 4 0])], yY0, bP a1]
theorem F54_ok (a1 : ProdD) (a2 : GramD) (a3 : List Bool) (a4 : Nat) {r : R_F54} (h : F54 a1 a3 a4 = some r) : CS prg 54 [ls 6 eSym a1.right, (.fn 64 [.ptr 5 0])] [bG a2, yB0, yB 0 a3, yB0, .cells 83 [.sl 2 0 1 0 a4], .cells 103 [(.fn 63 [.ptr 4 0])], yY0, bP a1] = some (F54_v a1 a2 a3 a4 r, F54_h a1 a2 a3 a4 r) := by
 unfold F54 at h
 refine bn h fun r1 h1 h => ?_
 cases r1 with
 | k0 x1_0 x1_1 x1_2 x1_3 x1_4 x1_5 x1_6 =>
  rw [← sj h]
  exact fcs [(7, .r (i6 x1_0) (F54_d0 a2 a3 a4 a1 x1_1 x1_2 x1_3 x1_4 x1_5 x1_6))] (apc ((F72_ok a1 a2 a3 a4 h1) : CS prg 72 [ls 6 eSym a1.right, (.fn 64 [.ptr 5 0])] (F54_d1 a2 a3 a4 a1) = some ((i6 x1_0), F54_d0 a2 a3 a4 a1 x1_1 x1_2 x1_3 x1_4 x1_5 x1_6)) apn) (by kernel_rfl)
 | k1 =>
  rw [← sj h]
  exact fcs [(7, .r (i6 (-1)) (F54_d1 a2 a3 a4 a1))] (apc ((F72_ok a1 a2 a3 a4 h1) : CS prg 72 [ls 6 eSym a1.right, (.fn 64 [.ptr 5 0])] (F54_d1 a2 a3 a4 a1) = some ((i6 (-1)), F54_d1 a2 a3 a4 a1)) apn) (by kernel_rfl)
inductive E_L36_0 where
  | k0 (x0 : List Bool) (x1 : Int) (x2 : List SymD) (x3 : ByteArray) (x4 : Int) (x5 x6 : Bool) (x7 x8 x9 x10 x11 x12 x13 : Int)
  | k1 (x0 : List Bool) (x1 : Int) (x2 : List SymD) (x3 : ByteArray) (x4 : Int) (x5 x6 : Bool) (x7 : Int)
  | k2
section
variable (a1 : GramD) (a2 : Int) (a3 : List Bool) (a4 : Nat)
def L36_0 (v1 : Int) : Option (E_L36_0 ⊕ (Int)) :=
  (bif (decide (v1 < a2)) then ((getI a1.prods v1).bind fun x2 => (bif (x2.role != 11) then ((ixN a4 x2.left).bind fun x4 => ((a3[x4]?).bind fun x5 => (bif x5 then (some (.inr ((IntKind.wrap .i64 (v1 + 1))))) else ((F54 x2 a3 a4).bind fun r7 => match r7 with | .k0 x7_0 x7_1 x7_2 x7_3 x7_4 x7_5 x7_6 => (bif x7_0 then (some (.inr ((IntKind.wrap .i64 (v1 + 1))))) else (some (.inl (.k0 (a3.set x4 true) x2.left x2.right x2.cons x2.role x2.prefer x2.avoid x2.frm x7_1 x7_2 x7_3 x7_4 x7_5 x7_6)))) | .k1 => (some (.inl (.k1 (a3.set x4 true) x2.left x2.right x2.cons x2.role x2.prefer x2.avoid x2.frm))))))) else (some (.inr ((IntKind.wrap .i64 (v1 + 1))))))) else (some (.inl (.k2))))
def L36_0_s (v1 : Int) : St := ⟨fr 43 ug [(1, .ptr 0 0), (3, .ptr 4 0), (4, .ptr 5 0), (13, ls 7 eProd a1.prods), (14, i6 a2), (15, i6 v1)], [bG a1, yB0, yB 0 a3, yB0, .cells 83 [.sl 2 0 1 0 a4], .cells 103 [(.fn 63 [.ptr 4 0])]]⟩
abbrev L36_0_e (v1 : Int) := evH prg 6 [1, 3, 4, 13, 14, 15] ir36_l0 (L36_0_s a1 a2 a3 a4 v1)
def L36_0_x (e : E_L36_0) (r : Option (Out × St)) : Prop := match e with | .k0 x0 x1 x2 x3 x4 x5 x6 x7 x8 x9 x10 x11 x12 x13 => ∃ g, r = some ((.brk 1000000), ⟨fr 43 g [(1, .ptr 0 0), (3, .ptr 4 0), (4, .ptr 5 0), (13, ls 7 eProd a1.prods)], [bG a1, yB0, yB 0 x0, yB0, .cells 83 [.sl 2 0 1 0 a4], .cells 103 [(.fn 63 [.ptr 4 0])], yY0, .cells 46 [i6 x1, ls 6 eSym x2, vs x3, i6 x4, vb x5, vb x6, i6 x7], .cells 68 [i6 x8, vi .u64 x9, vi .u64 x10, vi .u64 x11, vi .u64 x12, i6 x13], .cells 68 [i6 x8, vi .u64 x9, vi .u64 x10, vi .u64 x11, vi .u64 x12, i6 x13]]⟩) | .k1 x0 x1 x2 x3 x4 x5 x6 x7 => ∃ g, r = some ((.brk 1000000), ⟨fr 43 g [(1, .ptr 0 0), (3, .ptr 4 0), (4, .ptr 5 0), (13, ls 7 eProd a1.prods)], [bG a1, yB0, yB 0 x0, yB0, .cells 83 [.sl 2 0 1 0 a4], .cells 103 [(.fn 63 [.ptr 4 0])], yY0, .cells 46 [i6 x1, ls 6 eSym x2, vs x3, i6 x4, vb x5, vb x6, i6 x7]]⟩) | .k2 => ∃ g, r = some ((.brk 0), ⟨fr 43 g [(1, .ptr 0 0), (3, .ptr 4 0), (4, .ptr 5 0), (13, ls 7 eProd a1.prods)], [bG a1, yB0, yB 0 a3, yB0, .cells 83 [.sl 2 0 1 0 a4], .cells 103 [(.fn 63 [.ptr 4 0])]]⟩)
abbrev L36_0_d0 (x2 : ProdD) : List AB := [bG a1, yB0, yB 0 a3, yB0, .cells 83 [.sl 2 0 1 0 a4], .cells 103 [(.fn 63 [.ptr 4 0])], yY0, bP x2]
abbrev L36_0_d1 (x2 : ProdD) (x7_1 x7_2 x7_3 x7_4 x7_5 x7_6 : Int) : List AB := [bG a1, yB0, yB 0 a3, yB0, .cells 83 [.sl 2 0 1 0 a4], .cells 103 [(.fn 63 [.ptr 4 0])], yY0, bP x2, .cells 68 [i6 x7_1, vi .u64 x7_2, vi .u64 x7_3, vi .u64 x7_4, vi .u64 x7_5, i6 x7_6], .cells 68 [i6 x7_1, vi .u64 x7_2, vi .u64 x7_3, vi .u64 x7_4, vi .u64 x7_5, i6 x7_6]]
abbrev L36_0_d2 (x4 : Nat) (x2 : ProdD) (x7_1 x7_2 x7_3 x7_4 x7_5 x7_6 : Int) : List AB := [bG a1, yB0, yB 0 (a3.set x4 true), yB0, .cells 83 [.sl 2 0 1 0 a4], .cells 103 [(.fn 63 [.ptr 4 0])], yY0, bP x2, .cells 68 [i6 x7_1, vi .u64 x7_2, vi .u64 x7_3, vi .u64 x7_4, vi .u64 x7_5, i6 x7_6], .cells 68 [i6 x7_1, vi .u64 x7_2, vi .u64 x7_3, vi .u64 x7_4, vi .u64 x7_5, i6 x7_6]]
abbrev L36_0_d3 (x4 : Nat) (x2 : ProdD) : List AB := [bG a1, yB0, yB 0 (a3.set x4 true), yB0, .cells 83 [.sl 2 0 1 0 a4], .cells 103 [(.fn 63 [.ptr 4 0])], yY0, bP x2]
theorem L36_0_ok (v1 : Int) {r : E_L36_0 ⊕ (Int)} (h : L36_0 a1 a2 a3 a4 v1 = some r) : OkR (fun e => L36_0_x a1 a3 a4 e (L36_0_e a1 a2 a3 a4 v1)) (fun s => L36_0_e a1 a2 a3 a4 v1 = L36_0_e a1 a2 a3 a4 s) r := by
 unfold L36_0 at h
 refine bi h ?_ ?_ <;> intro h1 h
 ·
  refine bn h fun x2 h2 h => ?_
  refine bi h ?_ ?_ <;> intro h3 h
  ·
   refine bn h fun x4 h4 h => ?_
   have q3 := ((idx_sl h4) : idxA 1 (.sl 2 0 1 0 a4) (i6 x2.left) = some (.rp 2 0 1 x4 0))
   refine bn h fun x5 h5 h => ?_
   refine bi h ?_ ?_ <;> intro h6 h
   ·
    rw [← sj h]
    exact rnd [(16, .d true), (17, .v (.ro (eProd x2))), (21, .d true), (26, .v (.rp 2 0 1 x4 0)), (27, .v (vb true)), (6000, .d true)] (av h1 (apc (ig eProd 7 .i64 h2) (av h3 (apc q3 (apc (((ld_row (V := vb x5) rfl h5 rfl).trans (congrArg (fun z => some (vb z)) h6)) : ldA (L36_0_d0 a1 a3 a4 x2) .false 1 (.rp 2 0 1 x4 0) = some (vb true)) (apc ((oK (ac (ar (ar (ar (ac (ac rfl))))))) : okT 6 (L36_0_d0 a1 a3 a4 x2) = true) apn)))))) (by kernel_rfl)
   ·
    have q4 := (((ld_row (V := vb x5) rfl h5 rfl).trans (congrArg (fun z => some (vb z)) h6)) : ldA (L36_0_d0 a1 a3 a4 x2) .false 1 (.rp 2 0 1 x4 0) = some (vb false))
    refine bn h fun r7 h7 h => ?_
    cases r7 with
    | k0 x7_0 x7_1 x7_2 x7_3 x7_4 x7_5 x7_6 =>
     refine bi h ?_ ?_ <;> intro h8 h
     ·
      rw [← sj h]
      exact rnd [(16, .d true), (17, .v (.ro (eProd x2))), (21, .d true), (26, .v (.rp 2 0 1 x4 0)), (27, .v (vb false)), (34, .r (vb true) (L36_0_d1 a1 a3 a4 x2 x7_1 x7_2 x7_3 x7_4 x7_5 x7_6)), (6000, .d true)] (av h1 (apc (ig eProd 7 .i64 h2) (av h3 (apc q3 (apc q4 (apc (((F54_ok x2 a1 a3 a4 h7).trans (congrArg (fun z => some (vb z, ((L36_0_d1 a1 a3 a4 x2 x7_1 x7_2 x7_3 x7_4 x7_5 x7_6) : List AB))) h8)) : CS prg 54 [ls 6 eSym x2.right, (.fn 64 [.ptr 5 0])] (L36_0_d0 a1 a3 a4 x2) = some (vb true, L36_0_d1 a1 a3 a4 x2 x7_1 x7_2 x7_3 x7_4 x7_5 x7_6)) (apc ((oK (ac (ar (ar (ar (ac (ac rfl))))))) : okT 6 (L36_0_d1 a1 a3 a4 x2 x7_1 x7_2 x7_3 x7_4 x7_5 x7_6) = true) apn))))))) (by kernel_rfl)
     ·
      rw [← sj h]
      exact xbrk [(16, .d true), (17, .v (.ro (eProd x2))), (21, .d true), (26, .v (.rp 2 0 1 x4 0)), (27, .v (vb false)), (34, .r (vb false) (L36_0_d1 a1 a3 a4 x2 x7_1 x7_2 x7_3 x7_4 x7_5 x7_6)), (40, .v (.rp 2 0 1 x4 0)), (1040, .r ud (L36_0_d2 a1 a3 a4 x4 x2 x7_1 x7_2 x7_3 x7_4 x7_5 x7_6)), (6000, .d true)] (av h1 (apc (ig eProd 7 .i64 h2) (av h3 (apc q3 (apc q4 (apc (((F54_ok x2 a1 a3 a4 h7).trans (congrArg (fun z => some (vb z, ((L36_0_d1 a1 a3 a4 x2 x7_1 x7_2 x7_3 x7_4 x7_5 x7_6) : List AB))) h8)) : CS prg 54 [ls 6 eSym x2.right, (.fn 64 [.ptr 5 0])] (L36_0_d0 a1 a3 a4 x2) = some (vb false, L36_0_d1 a1 a3 a4 x2 x7_1 x7_2 x7_3 x7_4 x7_5 x7_6)) (apc ((idx_sl h4) : idxA 1 (.sl 2 0 1 0 a4) (i6 x2.left) = some (.rp 2 0 1 x4 0)) (apc (⟨st_row (v' := true) rfl h5 rfl rfl (Nat.le_of_ble_eq_true rfl) rfl, rfl⟩ : stA (L36_0_d1 a1 a3 a4 x2 x7_1 x7_2 x7_3 x7_4 x7_5 x7_6) 1 (.rp 2 0 1 x4 0) (vb true) = some (L36_0_d2 a1 a3 a4 x4 x2 x7_1 x7_2 x7_3 x7_4 x7_5 x7_6) ∧ ud = ud) apn)))))))) (by kernel_rfl)
    | k1 =>
     rw [← sj h]
     exact xbrk [(16, .d true), (17, .v (.ro (eProd x2))), (21, .d true), (26, .v (.rp 2 0 1 x4 0)), (27, .v (vb false)), (34, .r (vb false) (L36_0_d0 a1 a3 a4 x2)), (40, .v (.rp 2 0 1 x4 0)), (1040, .r ud (L36_0_d3 a1 a3 a4 x4 x2)), (6000, .d true)] (av h1 (apc (ig eProd 7 .i64 h2) (av h3 (apc q3 (apc q4 (apc ((F54_ok x2 a1 a3 a4 h7) : CS prg 54 [ls 6 eSym x2.right, (.fn 64 [.ptr 5 0])] (L36_0_d0 a1 a3 a4 x2) = some ((vb false), L36_0_d0 a1 a3 a4 x2)) (apc ((idx_sl h4) : idxA 1 (.sl 2 0 1 0 a4) (i6 x2.left) = some (.rp 2 0 1 x4 0)) (apc (⟨st_row (v' := true) rfl h5 rfl rfl (Nat.le_of_ble_eq_true rfl) rfl, rfl⟩ : stA (L36_0_d0 a1 a3 a4 x2) 1 (.rp 2 0 1 x4 0) (vb true) = some (L36_0_d3 a1 a3 a4 x4 x2) ∧ ud = ud) apn)))))))) (by kernel_rfl)
  ·
   rw [← sj h]
   exact rnd [(16, .d true), (17, .v (.ro (eProd x2))), (21, .d false), (6000, .d true)] (av h1 (apc (ig eProd 7 .i64 h2) (av h3 (apc ((oK (ac (ar (ar (ar (ac (ac rfl))))))) : okT 6 (L36_0_d0 a1 a3 a4 x2) = true) apn)))) (by kernel_rfl)
 ·
  rw [← sj h]
  exact xbrk [(16, .d false), (6000, .d true)] (av h1 apn) (by kernel_rfl)
theorem L36_0_run (s0 : Int) (e : E_L36_0) (h : runL (fun s => L36_0 a1 a2 a3 a4 s) s0 = some e) : L36_0_x a1 a3 a4 e (L36_0_e a1 a2 a3 a4 s0) := by
  have q := @loop_sound' (Int) E_L36_0 (fun s => L36_0 a1 a2 a3 a4 s) (fun s => L36_0_e a1 a2 a3 a4 s) (L36_0_x a1 a3 a4) (fun s r h => L36_0_ok a1 a2 a3 a4 s h) s0 e h
  exact q
end
inductive E_L36_1 where
  | k0 (x0 : List Bool)
section
variable (a1 : GramD) (a3 : Nat)
def L36_1 (v1 : List Bool) : Option (E_L36_1 ⊕ ((List Bool))) :=
  ((runL (fun s => L36_0 a1 (a1.prods.length : Int) v1 a3 s) 0).bind fun r1 => match r1 with | .k0 x1_0 x1_1 x1_2 x1_3 x1_4 x1_5 x1_6 x1_7 x1_8 x1_9 x1_10 x1_11 x1_12 x1_13 => (some (.inr (x1_0))) | .k1 x1_0 x1_1 x1_2 x1_3 x1_4 x1_5 x1_6 x1_7 => (some (.inr (x1_0))) | .k2 => (some (.inl (.k0 v1))))
def L36_1_s (v1 : List Bool) : St := ⟨fr 43 ug [(1, .ptr 0 0), (3, .ptr 4 0), (4, .ptr 5 0)], [bG a1, yB0, yB 0 v1, yB0, .cells 83 [.sl 2 0 1 0 a3], .cells 103 [(.fn 63 [.ptr 4 0])]]⟩
abbrev L36_1_e (v1 : List Bool) := evH prg 6 [1, 3, 4] ir36_l1 (L36_1_s a1 a3 v1)
def L36_1_x (e : E_L36_1) (r : Option (Out × St)) : Prop := match e with | .k0 x0 => ∃ g, r = some (.ret, ⟨fr 43 g [(2, .sl 2 0 1 0 a3)], [bG a1, yB0, yB 0 x0, yB0, .cells 83 [.sl 2 0 1 0 a3], .cells 103 [(.fn 63 [.ptr 4 0])]]⟩)
abbrev L36_1_d0 (g1 : Nat → AV) (x1_0 : List Bool) (x1_1 : Int) (x1_2 : List SymD) (x1_3 : ByteArray) (x1_4 : Int) (x1_5 x1_6 : Bool) (x1_7 x1_8 x1_9 x1_10 x1_11 x1_12 x1_13 : Int) : St := ⟨fr 43 g1 [(1, .ptr 0 0), (3, .ptr 4 0), (4, .ptr 5 0), (13, ls 7 eProd a1.prods)], [bG a1, yB0, yB 0 x1_0, yB0, .cells 83 [.sl 2 0 1 0 a3], .cells 103 [(.fn 63 [.ptr 4 0])], yY0, .cells 46 [i6 x1_1, ls 6 eSym x1_2, vs x1_3, i6 x1_4, vb x1_5, vb x1_6, i6 x1_7], .cells 68 [i6 x1_8, vi .u64 x1_9, vi .u64 x1_10, vi .u64 x1_11, vi .u64 x1_12, i6 x1_13], .cells 68 [i6 x1_8, vi .u64 x1_9, vi .u64 x1_10, vi .u64 x1_11, vi .u64 x1_12, i6 x1_13]]⟩
abbrev L36_1_d1 (v1 : List Bool) : List AB := [bG a1, yB0, yB 0 v1, yB0, .cells 83 [.sl 2 0 1 0 a3], .cells 103 [(.fn 63 [.ptr 4 0])]]
abbrev L36_1_d2 (g1 : Nat → AV) (x1_0 : List Bool) (x1_1 : Int) (x1_2 : List SymD) (x1_3 : ByteArray) (x1_4 : Int) (x1_5 x1_6 : Bool) (x1_7 : Int) : St := ⟨fr 43 g1 [(1, .ptr 0 0), (3, .ptr 4 0), (4, .ptr 5 0), (13, ls 7 eProd a1.prods)], [bG a1, yB0, yB 0 x1_0, yB0, .cells 83 [.sl 2 0 1 0 a3], .cells 103 [(.fn 63 [.ptr 4 0])], yY0, .cells 46 [i6 x1_1, ls 6 eSym x1_2, vs x1_3, i6 x1_4, vb x1_5, vb x1_6, i6 x1_7]]⟩
abbrev L36_1_d3 (g1 : Nat → AV) (v1 : List Bool) : St := ⟨fr 43 g1 [(1, .ptr 0 0), (3, .ptr 4 0), (4, .ptr 5 0), (13, ls 7 eProd a1.prods)], [bG a1, yB0, yB 0 v1, yB0, .cells 83 [.sl 2 0 1 0 a3], .cells 103 [(.fn 63 [.ptr 4 0])]]⟩
theorem L36_1_ok (v1 : List Bool) {r : E_L36_1 ⊕ ((List Bool))} (h : L36_1 a1 a3 v1 = some r) : OkR (fun e => L36_1_x a1 a3 e (L36_1_e a1 a3 v1)) (fun s => L36_1_e a1 a3 v1 = L36_1_e a1 a3 s) r := by
 unfold L36_1 at h
 refine bn h fun r1 h1 h => ?_
 cases r1 with
 | k0 x1_0 x1_1 x1_2 x1_3 x1_4 x1_5 x1_6 x1_7 x1_8 x1_9 x1_10 x1_11 x1_12 x1_13 =>
  obtain ⟨g1, e1⟩ := L36_0_run a1 (lP a1) v1 a3 0 _ h1
  rw [← sj h]
  exact rnd [(14, .v (i6 (lP a1))), (2000, .l (.brk 1000000) (L36_1_d0 a1 a3 g1 x1_0 x1_1 x1_2 x1_3 x1_4 x1_5 x1_6 x1_7 x1_8 x1_9 x1_10 x1_11 x1_12 x1_13)), (6000, .d true)] (apc (lg a1.prods eProd 7) (apc ((oK (ac (ar (ar (ar (ac (ac rfl))))))) : okT 6 (L36_1_d1 a1 a3 v1) = true) (apc (e1 : L36_0_e a1 (lP a1) v1 a3 0 = some ((.brk 1000000), L36_1_d0 a1 a3 g1 x1_0 x1_1 x1_2 x1_3 x1_4 x1_5 x1_6 x1_7 x1_8 x1_9 x1_10 x1_11 x1_12 x1_13)) (apc ((oK (ac (ar (ar (ar (ac (ac rfl))))))) : okT 6 [bG a1, yB0, yB 0 x1_0, yB0, .cells 83 [.sl 2 0 1 0 a3], .cells 103 [(.fn 63 [.ptr 4 0])], yY0, .cells 46 [i6 x1_1, ls 6 eSym x1_2, vs x1_3, i6 x1_4, vb x1_5, vb x1_6, i6 x1_7], .cells 68 [i6 x1_8, vi .u64 x1_9, vi .u64 x1_10, vi .u64 x1_11, vi .u64 x1_12, i6 x1_13], .cells 68 [i6 x1_8, vi .u64 x1_9, vi .u64 x1_10, vi .u64 x1_11, vi .u64 x1_12, i6 x1_13]] = true) apn)))) (by kernel_rfl)
 | k1 x1_0 x1_1 x1_2 x1_3 x1_4 x1_5 x1_6 x1_7 =>
  obtain ⟨g1, e1⟩ := L36_0_run a1 (lP a1) v1 a3 0 _ h1
  rw [← sj h]
  exact rnd [(14, .v (i6 (lP a1))), (2000, .l (.brk 1000000) (L36_1_d2 a1 a3 g1 x1_0 x1_1 x1_2 x1_3 x1_4 x1_5 x1_6 x1_7)), (6000, .d true)] (apc (lg a1.prods eProd 7) (apc ((oK (ac (ar (ar (ar (ac (ac rfl))))))) : okT 6 (L36_1_d1 a1 a3 v1) = true) (apc (e1 : L36_0_e a1 (lP a1) v1 a3 0 = some ((.brk 1000000), L36_1_d2 a1 a3 g1 x1_0 x1_1 x1_2 x1_3 x1_4 x1_5 x1_6 x1_7)) (apc ((oK (ac (ar (ar (ar (ac (ac rfl))))))) : okT 6 [bG a1, yB0, yB 0 x1_0, yB0, .cells 83 [.sl 2 0 1 0 a3], .cells 103 [(.fn 63 [.ptr 4 0])], yY0, .cells 46 [i6 x1_1, ls 6 eSym x1_2, vs x1_3, i6 x1_4, vb x1_5, vb x1_6, i6 x1_7]] = true) apn)))) (by kernel_rfl)
 | k2 =>
  obtain ⟨g1, e1⟩ := L36_0_run a1 (lP a1) v1 a3 0 _ h1
  rw [← sj h]
  exact xret [(14, .v (i6 (lP a1))), (2000, .l (.brk 0) (L36_1_d3 a1 a3 g1 v1)), (6000, .d true)] (apc (lg a1.prods eProd 7) (apc ((oK (ac (ar (ar (ar (ac (ac rfl))))))) : okT 6 (L36_1_d1 a1 a3 v1) = true) (apc (e1 : L36_0_e a1 (lP a1) v1 a3 0 = some ((.brk 0), L36_1_d3 a1 a3 g1 v1)) apn))) (by kernel_rfl)
theorem L36_1_run (s0 : (List Bool)) (e : E_L36_1) (h : runL (fun s => L36_1 a1 a3 s) s0 = some e) : L36_1_x a1 a3 e (L36_1_e a1 a3 s0) := by
  have q := @loop_sound' ((List Bool)) E_L36_1 (fun s => L36_1 a1 a3 s) (fun s => L36_1_e a1 a3 s) (L36_1_x a1 a3) (fun s r h => L36_1_ok a1 a3 s h) s0 e h
  exact q
end
def F36_v (a1 : GramD) (x0 : (List Bool)) : AV := (ls 1 eBool x0)
def F36 (a1 : GramD) : Option (List Bool) :=
  (bif (mkOk (a1.sorts.length : Int) 1) then ((runL (fun s => L36_1 a1 (Int.toNat (a1.sorts.length : Int)) s) ((List.replicate (Int.toNat (a1.sorts.length : Int)) false))).bind fun r2 => match r2 with | .k0 x2_0 => (bif (decide ((Int.toNat (a1.sorts.length : Int)) ≤ x2_0.length)) then (some (x2_0.take (Int.toNat (a1.sorts.length : Int)))) else none)) else none)
abbrev F36_d0 (a1 : GramD) : List AB := [bG a1, yB0, yB 0 (List.replicate (tS a1) false)]
abbrev F36_d1 (g2 : Nat → AV) (a1 : GramD) (x2_0 : List Bool) : St := ⟨fr 43 g2 [(2, (.sl 2 0 1 0 (tS a1)))], [bG a1, yB0, yB 0 x2_0, yB0, .cells 83 [(.sl 2 0 1 0 (tS a1))], .cells 103 [(.fn 63 [.ptr 4 0])]]⟩
abbrev F36_c0 (a1 : GramD) : List (Nat × Hint) := [(10, .r (.sl 2 0 1 0 (tS a1)) (F36_d0 a1))]
abbrev F36_c1 (g2 : Nat → AV) (a1 : GramD) (x2_0 : List Bool) : List (Nat × Hint) := [(2002000, .l .ret (F36_d1 g2 a1 x2_0))]
theorem F36_ok (a1 : GramD) {r : (List Bool)} (h : F36 a1 = some r) : PR2 prg 36 [aG a1] (F36_v a1 r) := by
 unfold F36 at h
 refine bi h ?_ ?_ <;> intro h1 h
 ·
  have q1 := ((mk_row' (h := [bG a1, yB0]) (e := eBool) (z := false) h1 rfl) : (mkA 4 1 1 [.val (.bool false)] (i6 (lS a1)) (i6 (lS a1)) 2).map (fun x => (x.1, [bG a1, yB0] ++ [x.2])) = some ((.sl 2 0 1 0 (tS a1)), F36_d0 a1))
  refine bn h fun r2 h2 h => ?_
  cases r2 with
  | k0 x2_0 =>
   obtain ⟨g2, e2⟩ := L36_1_run a1 (tS a1) ((List.replicate (tS a1) false)) _ h2
   have q2 := ((oK (ac (ar (ar (ar (ac (ac rfl))))))) : okT 6 [bG a1, yB0, yB 0 (List.replicate (tS a1) false), yB0, .cells 83 [(.sl 2 0 1 0 (tS a1))], .cells 103 [(.fn 63 [.ptr 4 0])]] = true)
   have q3 := (e2 : L36_1_e a1 (tS a1) (List.replicate (tS a1) false) = some (.ret, F36_d1 g2 a1 x2_0))
   refine bi h ?_ ?_ <;> intro h3 h
   ·
    rw [← sj h]
    exact fpn (v := (.sl 2 0 1 0 (tS a1))) (h' := [bG a1, yB0, yB 0 x2_0, yB0, .cells 83 [(.sl 2 0 1 0 (tS a1))], .cells 103 [(.fn 63 [.ptr 4 0])]]) ([(9, .v (i6 (lS a1)))] ++ ((F36_c0 a1) ++ ((F36_c1 g2 a1 x2_0) ++ [(6000, .d true)]))) (apc (lg a1.sorts eStr 1) (apc q1 (apc q2 (apc q3 apn)))) (purA_sl (e := eBool) rfl h3) rfl (purA_sl (e := eBool) (getq rfl (nols_ra (fun _ => rfl))) h3) (by kernel_rfl)
   ·
    cases h
 ·
  cases h
def F65_3_v (a1 : Int) (a2 : GramD) (a3 : List Bool) (a4 : Nat) (a5 : List Bool) (a6 : Nat) (a7 : List Bool) (a8 : Nat) (a9 : List Bool) (a10 : Nat) (x0 : (List Bool)) : AV := (.tup [])
def F65_3_h (a1 : Int) (a2 : GramD) (a3 : List Bool) (a4 : Nat) (a5 : List Bool) (a6 : Nat) (a7 : List Bool) (a8 : Nat) (a9 : List Bool) (a10 : Nat) (x0 : (List Bool)) : List AB := [bG a2, .cells 86 [(.fn 53 [(.ro [.lst 1 (a3.map eBool)])])], yB a4 a5, yB a6 x0, yB a8 a9, .cells 83 [.sl 3 a6 1 0 a10], .cells 111 [(.fn 65 [.ptr 5 0, .ptr 0 0, .ptr 1 0, .ptr 6 0])]]
abbrev T_F65_3 := Int → GramD → (List Bool) → Nat → (List Bool) → Nat → (List Bool) → Nat → (List Bool) → Nat → Option (List Bool)
abbrev H_F65_3 (f : T_F65_3) : Prop := ∀ (a1 : Int) (a2 : GramD) (a3 : List Bool) (a4 : Nat) (a5 : List Bool) (a6 : Nat) (a7 : List Bool) (a8 : Nat) (a9 : List Bool) (a10 : Nat) {r : (List Bool)}, f a1 a2 a3 a4 a5 a6 a7 a8 a9 a10 = some r → ∀ hx : List AB, CS prg 65 [i6 a1, .ptr 5 0, .ptr 0 0, .ptr 1 0, .ptr 6 0] ([bG a2, .cells 86 [(.fn 53 [(.ro [.lst 1 (a3.map eBool)])])], yB a4 a5, yB a6 a7, yB a8 a9, .cells 83 [.sl 3 a6 1 0 a10], .cells 111 [(.fn 65 [.ptr 5 0, .ptr 0 0, .ptr 1 0, .ptr 6 0])]] ++ hx) = some (F65_3_v a1 a2 a3 a4 a5 a6 a7 a8 a9 a10 r, F65_3_h a1 a2 a3 a4 a5 a6 a7 a8 a9 a10 r ++ hx)
def F55_3_v (a1 : SymD) (a2 : List Bool) (a3 : ProdD) (x0 : Bool) : AV := (vb x0)
def F55_3_h (a1 : SymD) (a2 : List Bool) (a3 : ProdD) (x0 : Bool) : List AB := [bP a3, .cells 68 ((eSym a1).map .p)]
def F55_3 (a1 : SymD) (a2 : List Bool) : Option Bool :=
  (bif (a1.kind == 1) then ((getI a2 a1.sort).bind fun x2 => (some (!x2))) else (some false))
theorem F55_3_ok (a1 : SymD) (a2 : List Bool) (a3 : ProdD) {r : Bool} (h : F55_3 a1 a2 = some r) : CS prg 55 [(.agg ((eSym a1).map .p)), (.ro [.lst 1 (a2.map eBool)])] [bP a3] = some (F55_3_v a1 a2 a3 r, F55_3_h a1 a2 a3 r) := by
 unfold F55_3 at h
 refine bi h ?_ ?_ <;> intro h1 h
 ·
  refine bn h fun x2 h2 h => ?_
  rw [← sj h]
  exact fcs [(6, .d true), (11, .v (.ro [.val (.bool x2)]))] (av h1 (apc (ig eBool 1 .i64 h2) apn)) (by kernel_rfl)
 ·
  rw [← sj h]
  exact fcs [(6, .d false)] (av h1 apn) (by kernel_rfl)
inductive E_L72_0_4 where
  | k0 (x0 x1 x2 x3 x4 x5 x6 : Int)
  | k1
section
variable (a1 : ProdD) (a2 : List Bool) (a3 : Int)
def L72_0_4 (v1 : Int) : Option (E_L72_0_4 ⊕ (Int)) :=
  (bif (decide (v1 < a3)) then ((getI a1.right v1).bind fun x2 => ((F55_3 x2 a2).bind fun x3 => (bif x3 then (some (.inl (.k0 v1 x2.kind x2.a x2.b x2.c x2.d x2.sort))) else (some (.inr ((IntKind.wrap .i64 (v1 + 1)))))))) else (some (.inl (.k1))))
def L72_0_4_s (v1 : Int) : St := ⟨fr 19 ug [(0, ls 6 eSym a1.right), (1, (.fn 55 [(.ro [.lst 1 (a2.map eBool)])])), (7, i6 a3), (8, i6 v1)], [bP a1]⟩
abbrev L72_0_4_e (v1 : Int) := evH prg 1 [0, 1, 7, 8] ir72_l0 (L72_0_4_s a1 a2 a3 v1)
def L72_0_4_x (e : E_L72_0_4) (r : Option (Out × St)) : Prop := match e with | .k0 x0 x1 x2 x3 x4 x5 x6 => ∃ g, r = some (.ret, ⟨fr 19 g [(4, i6 x0)], [bP a1, .cells 68 [i6 x1, vi .u64 x2, vi .u64 x3, vi .u64 x4, vi .u64 x5, i6 x6]]⟩) | .k1 => ∃ g, r = some ((.brk 0), ⟨fr 19 g [(0, ls 6 eSym a1.right)], [bP a1]⟩)
theorem L72_0_4_ok (v1 : Int) {r : E_L72_0_4 ⊕ (Int)} (h : L72_0_4 a1 a2 a3 v1 = some r) : OkR (fun e => L72_0_4_x a1 e (L72_0_4_e a1 a2 a3 v1)) (fun s => L72_0_4_e a1 a2 a3 v1 = L72_0_4_e a1 a2 a3 s) r := by
 unfold L72_0_4 at h
 refine bi h ?_ ?_ <;> intro h1 h
 ·
  refine bn h fun x2 h2 h => ?_
  refine bn h fun x3 h3 h => ?_
  refine bi h ?_ ?_ <;> intro h4 h
  ·
   rw [← sj h]
   exact xret [(9, .d true), (14, .v (.ro (eSym x2))), (16, .r (vb true) [bP a1, .cells 68 ((eSym x2).map .p)]), (6000, .d true)] (av h1 (apc (ig eSym 6 .i64 h2) (apc (((F55_3_ok x2 a2 a1 h3).trans (congrArg (fun z => some (vb z, ([bP a1, .cells 68 ((eSym x2).map .p)] : List AB))) h4)) : CS prg 55 [(.agg ((eSym x2).map .p)), (.ro [.lst 1 (a2.map eBool)])] [bP a1] = some (vb true, [bP a1, .cells 68 ((eSym x2).map .p)])) apn))) (by kernel_rfl)
  ·
   rw [← sj h]
   exact rnd [(9, .d true), (14, .v (.ro (eSym x2))), (16, .r (vb false) [bP a1, .cells 68 ((eSym x2).map .p)]), (6000, .d true)] (av h1 (apc (ig eSym 6 .i64 h2) (apc (((F55_3_ok x2 a2 a1 h3).trans (congrArg (fun z => some (vb z, ([bP a1, .cells 68 ((eSym x2).map .p)] : List AB))) h4)) : CS prg 55 [(.agg ((eSym x2).map .p)), (.ro [.lst 1 (a2.map eBool)])] [bP a1] = some (vb false, [bP a1, .cells 68 ((eSym x2).map .p)])) (apc ((oK (ac rfl)) : okT 1 [bP a1, .cells 68 ((eSym x2).map .p)] = true) apn)))) (by kernel_rfl)
 ·
  rw [← sj h]
  exact xbrk [(9, .d false), (6000, .d true)] (av h1 apn) (by kernel_rfl)
theorem L72_0_4_run (s0 : Int) (e : E_L72_0_4) (h : runL (fun s => L72_0_4 a1 a2 a3 s) s0 = some e) : L72_0_4_x a1 e (L72_0_4_e a1 a2 a3 s0) := by
  have q := @loop_sound' (Int) E_L72_0_4 (fun s => L72_0_4 a1 a2 a3 s) (fun s => L72_0_4_e a1 a2 a3 s) (L72_0_4_x a1) (fun s r h => L72_0_4_ok a1 a2 a3 s h) s0 e h
  exact q
end
inductive R_F72_4 where
  | k0 (x0 x1 x2 x3 x4 x5 x6 : Int)
  | k1
def F72_4_v (a1 : ProdD) (a2 : List Bool) (r : R_F72_4) : AV := match r with | .k0 x0 x1 x2 x3 x4 x5 x6 => (i6 x0) | .k1 => (i6 (-1))
def F72_4_h (a1 : ProdD) (a2 : List Bool) (r : R_F72_4) : List AB := match r with | .k0 x0 x1 x2 x3 x4 x5 x6 => [bP a1, .cells 68 [i6 x1, vi .u64 x2, vi .u64 x3, vi .u64 x4, vi .u64 x5, i6 x6]] | .k1 => [bP a1]
def F72_4 (a1 : ProdD) (a2 : List Bool) : Option R_F72_4 :=
  ((runL (fun s => L72_0_4 a1 a2 (a1.right.length : Int) s) 0).bind fun r1 => match r1 with | .k0 x1_0 x1_1 x1_2 x1_3 x1_4 x1_5 x1_6 => (some (.k0 x1_0 x1_1 x1_2 x1_3 x1_4 x1_5 x1_6)) | .k1 => (some (.k1)))
abbrev F72_4_d0 (g1 : Nat → AV) (x1_0 : Int) (a1 : ProdD) (x1_1 x1_2 x1_3 x1_4 x1_5 x1_6 : Int) : St := ⟨fr 19 g1 [(4, i6 x1_0)], [bP a1, .cells 68 [i6 x1_1, vi .u64 x1_2, vi .u64 x1_3, vi .u64 x1_4, vi .u64 x1_5, i6 x1_6]]⟩
abbrev F72_4_d1 (g1 : Nat → AV) (a1 : ProdD) : St := ⟨fr 19 g1 [(0, ls 6 eSym a1.right)], [bP a1]⟩
theorem F72_4_ok (a1 : ProdD) (a2 : List Bool) {r : R_F72_4} (h : F72_4 a1 a2 = some r) : CS prg 72 [ls 6 eSym a1.right, (.fn 55 [(.ro [.lst 1 (a2.map eBool)])])] [bP a1] = some (F72_4_v a1 a2 r, F72_4_h a1 a2 r) := by
 unfold F72_4 at h
 refine bn h fun r1 h1 h => ?_
 cases r1 with
 | k0 x1_0 x1_1 x1_2 x1_3 x1_4 x1_5 x1_6 =>
  obtain ⟨g1, e1⟩ := L72_0_4_run a1 a2 (a1.right.length : Int) 0 _ h1
  rw [← sj h]
  exact fcs [(7, .v (i6 (a1.right.length : Int))), (2000, .l .ret (F72_4_d0 g1 x1_0 a1 x1_1 x1_2 x1_3 x1_4 x1_5 x1_6)), (6000, .d true)] (apc (lg a1.right eSym 6) (apc ((oK (ac rfl)) : okT 1 [bP a1] = true) (apc (e1 : L72_0_4_e a1 a2 (a1.right.length : Int) 0 = some (.ret, F72_4_d0 g1 x1_0 a1 x1_1 x1_2 x1_3 x1_4 x1_5 x1_6)) apn))) (by kernel_rfl)
 | k1 =>
  obtain ⟨g1, e1⟩ := L72_0_4_run a1 a2 (a1.right.length : Int) 0 _ h1
  rw [← sj h]
  exact fcs [(7, .v (i6 (a1.right.length : Int))), (2000, .l (.brk 0) (F72_4_d1 g1 a1)), (6000, .d true)] (apc (lg a1.right eSym 6) (apc ((oK (ac rfl)) : okT 1 [bP a1] = true) (apc (e1 : L72_0_4_e a1 a2 (a1.right.length : Int) 0 = some ((.brk 0), F72_4_d1 g1 a1)) apn))) (by kernel_rfl)
inductive R_F54_4 where
  | k0 (x0 : Bool) (x1 x2 x3 x4 x5 x6 : Int)
  | k1
def F54_4_v (a1 : ProdD) (a2 : List Bool) (r : R_F54_4) : AV := match r with | .k0 x0 x1 x2 x3 x4 x5 x6 => (vb x0) | .k1 => (vb false)
def F54_4_h (a1 : ProdD) (a2 : List Bool) (r : R_F54_4) : List AB := match r with | .k0 x0 x1 x2 x3 x4 x5 x6 => [bP a1, .cells 68 [i6 x1, vi .u64 x2, vi .u64 x3, vi .u64 x4, vi .u64 x5, i6 x6]] | .k1 => [bP a1]
def F54_4 (a1 : ProdD) (a2 : List Bool) : Option R_F54_4 :=
  ((F72_4 a1 a2).bind fun r1 => match r1 with | .k0 x1_0 x1_1 x1_2 x1_3 x1_4 x1_5 x1_6 => (some (.k0 (decide (x1_0 ≥ 0)) x1_1 x1_2 x1_3 x1_4 x1_5 x1_6)) | .k1 => (some (.k1)))
abbrev F54_4_d0 (a1 : ProdD) (x1_1 x1_2 x1_3 x1_4 x1_5 x1_6 : Int) : List AB := [bP a1, .cells 68 [i6 x1_1, vi .u64 x1_2, vi .u64 x1_3, vi .u64 x1_4, vi .u64 x1_5, i6 x1_6]]
theorem F54_4_ok (a1 : ProdD) (a2 : List Bool) {r : R_F54_4} (h : F54_4 a1 a2 = some r) : CS prg 54 [ls 6 eSym a1.right, (.fn 55 [(.ro [.lst 1 (a2.map eBool)])])] [bP a1] = some (F54_4_v a1 a2 r, F54_4_h a1 a2 r) := by
 unfold F54_4 at h
 refine bn h fun r1 h1 h => ?_
 cases r1 with
 | k0 x1_0 x1_1 x1_2 x1_3 x1_4 x1_5 x1_6 =>
  rw [← sj h]
  exact fcs [(7, .r (i6 x1_0) (F54_4_d0 a1 x1_1 x1_2 x1_3 x1_4 x1_5 x1_6))] (apc ((F72_4_ok a1 a2 h1) : CS prg 72 [ls 6 eSym a1.right, (.fn 55 [(.ro [.lst 1 (a2.map eBool)])])] [bP a1] = some ((i6 x1_0), F54_4_d0 a1 x1_1 x1_2 x1_3 x1_4 x1_5 x1_6)) apn) (by kernel_rfl)
 | k1 =>
  rw [← sj h]
  exact fcs [(7, .r (i6 (-1)) [bP a1])] (apc ((F72_4_ok a1 a2 h1) : CS prg 72 [ls 6 eSym a1.right, (.fn 55 [(.ro [.lst 1 (a2.map eBool)])])] [bP a1] = some ((i6 (-1)), [bP a1])) apn) (by kernel_rfl)
def F53_3_v (a1 : ProdD) (a2 : List Bool) (x0 : Bool) : AV := (vb x0)
def F53_3 (a1 : ProdD) (a2 : List Bool) : Option Bool :=
  ((getI a2 a1.left).bind fun x1 => (bif x1 then ((F54_4 a1 a2).bind fun r3 => match r3 with | .k0 x3_0 x3_1 x3_2 x3_3 x3_4 x3_5 x3_6 => (some (!x3_0)) | .k1 => (some true)) else (some false)))
abbrev F53_3_d0 (a1 : ProdD) (x3_1 x3_2 x3_3 x3_4 x3_5 x3_6 : Int) : List AB := [bP a1, .cells 68 [i6 x3_1, vi .u64 x3_2, vi .u64 x3_3, vi .u64 x3_4, vi .u64 x3_5, i6 x3_6]]
theorem F53_3_ok (a1 : ProdD) (a2 : List Bool) {r : Bool} (h : F53_3 a1 a2 = some r) : PR1 prg 53 [aP a1, (.ro [.lst 1 (a2.map eBool)])] (F53_3_v a1 a2 r) := by
 unfold F53_3 at h
 refine bn h fun x1 h1 h => ?_
 refine bi h ?_ ?_ <;> intro h2 h
 ·
  refine bn h fun r3 h3 h => ?_
  cases r3 with
  | k0 x3_0 x3_1 x3_2 x3_3 x3_4 x3_5 x3_6 =>
   rw [← sj h]
   exact fpr [(7, .v (.ro [.val (.bool x1)])), (8, .d true), (13, .r (vb x3_0) (F53_3_d0 a1 x3_1 x3_2 x3_3 x3_4 x3_5 x3_6))] (apc (ig eBool 1 .i64 h1) (av h2 (apc ((F54_4_ok a1 a2 h3) : CS prg 54 [ls 6 eSym a1.right, (.fn 55 [(.ro [.lst 1 (a2.map eBool)])])] [bP a1] = some ((vb x3_0), F53_3_d0 a1 x3_1 x3_2 x3_3 x3_4 x3_5 x3_6)) apn))) rfl (by kernel_rfl)
  | k1 =>
   rw [← sj h]
   exact fpr [(7, .v (.ro [.val (.bool x1)])), (8, .d true), (13, .r (vb false) [bP a1])] (apc (ig eBool 1 .i64 h1) (av h2 (apc ((F54_4_ok a1 a2 h3) : CS prg 54 [ls 6 eSym a1.right, (.fn 55 [(.ro [.lst 1 (a2.map eBool)])])] [bP a1] = some ((vb false), [bP a1])) apn))) rfl (by kernel_rfl)
 ·
  rw [← sj h]
  exact fpr [(7, .v (.ro [.val (.bool x1)])), (8, .d false)] (apc (ig eBool 1 .i64 h1) (av h2 apn)) rfl (by kernel_rfl)
inductive E_L65_0_8 where
  | k0 (x0 : List Bool)
def L65_0_8 (rF65_3 : T_F65_3) (a2 : GramD) (a5 : ProdD) (a6 : Int) (a7 : List Bool) (a8 : Nat) (a9 : List Bool) (a10 a12 : Nat) (a13 : List Bool) (a14 : Nat) (v1 : Int) (v2 : List Bool) : Option (E_L65_0_8 ⊕ (Int × (List Bool))) :=
  (bif (decide (v1 < a6)) then ((getI a5.right v1).bind fun x2 => (bif (x2.kind == 1) then ((rF65_3 x2.sort a2 a7 a8 a9 a10 v2 a12 a13 a14).bind fun x4 => (some (.inr ((IntKind.wrap .i64 (v1 + 1)), x4)))) else (some (.inr ((IntKind.wrap .i64 (v1 + 1)), v2))))) else (some (.inl (.k0 v2))))
def L65_0_8_s (a1 : Int) (a2 : GramD) (a3 a4 : Int) (a5 : ProdD) (a6 : Int) (a7 : List Bool) (a8 : Nat) (a9 : List Bool) (a10 a12 : Nat) (a13 : List Bool) (a14 : Nat) (v1 : Int) (v2 : List Bool) : St := ⟨fr 55 ug [(0, i6 a1), (3, .ptr 1 0), (4, .ptr 6 0), (18, ls 7 eProd a2.prods), (19, i6 a3), (20, i6 a4), (40, ls 6 eSym a5.right), (41, i6 a6), (42, i6 v1)], [bG a2, .cells 86 [(.fn 53 [(.ro [.lst 1 (a7.map eBool)])])], yB a8 a9, yB a10 v2, yB a12 a13, .cells 83 [.sl 3 a10 1 0 a14], .cells 111 [(.fn 65 [.ptr 5 0, .ptr 0 0, .ptr 1 0, .ptr 6 0])], yY0, bP a5]⟩
abbrev L65_0_8_e (a1 : Int) (a2 : GramD) (a3 a4 : Int) (a5 : ProdD) (a6 : Int) (a7 : List Bool) (a8 : Nat) (a9 : List Bool) (a10 a12 : Nat) (a13 : List Bool) (a14 : Nat) (v1 : Int) (v2 : List Bool) := evH prg 9 [0, 3, 4, 18, 19, 20, 40, 41, 42] ir65_l0 (L65_0_8_s a1 a2 a3 a4 a5 a6 a7 a8 a9 a10 a12 a13 a14 v1 v2)
def L65_0_8_x (a1 : Int) (a2 : GramD) (a3 a4 : Int) (a5 : ProdD) (a6 : Int) (a7 : List Bool) (a8 : Nat) (a9 : List Bool) (a10 a12 : Nat) (a13 : List Bool) (a14 : Nat) (e : E_L65_0_8) (r : Option (Out × St)) : Prop := match e with | .k0 x0 => ∃ g, r = some ((.brk 2), ⟨fr 55 g [(0, i6 a1), (3, .ptr 1 0), (4, .ptr 6 0), (18, ls 7 eProd a2.prods), (19, i6 a3), (20, i6 a4), (40, ls 6 eSym a5.right)], [bG a2, .cells 86 [(.fn 53 [(.ro [.lst 1 (a7.map eBool)])])], yB a8 a9, yB a10 x0, yB a12 a13, .cells 83 [.sl 3 a10 1 0 a14], .cells 111 [(.fn 65 [.ptr 5 0, .ptr 0 0, .ptr 1 0, .ptr 6 0])], yY0, bP a5]⟩)
abbrev L65_0_8_d0 (a2 : GramD) (a7 : List Bool) (a8 : Nat) (a9 : List Bool) (a10 : Nat) (x4 : List Bool) (a12 : Nat) (a13 : List Bool) (a14 : Nat) (a5 : ProdD) (x2 : SymD) : List AB := [bG a2, .cells 86 [(.fn 53 [(.ro [.lst 1 (a7.map eBool)])])], yB a8 a9, yB a10 x4, yB a12 a13, .cells 83 [.sl 3 a10 1 0 a14], .cells 111 [(.fn 65 [.ptr 5 0, .ptr 0 0, .ptr 1 0, .ptr 6 0])], yY0, bP a5, .cells 68 ((eSym x2).map .p)]
abbrev L65_0_8_d1 (a2 : GramD) (a7 : List Bool) (a8 : Nat) (a9 : List Bool) (a10 : Nat) (v2 : List Bool) (a12 : Nat) (a13 : List Bool) (a14 : Nat) (a5 : ProdD) (x2 : SymD) : List AB := [bG a2, .cells 86 [(.fn 53 [(.ro [.lst 1 (a7.map eBool)])])], yB a8 a9, yB a10 v2, yB a12 a13, .cells 83 [.sl 3 a10 1 0 a14], .cells 111 [(.fn 65 [.ptr 5 0, .ptr 0 0, .ptr 1 0, .ptr 6 0])], yY0, bP a5, .cells 68 ((eSym x2).map .p)]
theorem L65_0_8_ok (rF65_3 : T_F65_3) (hF65_3 : H_F65_3 rF65_3) (a1 : Int) (a2 : GramD) (a3 a4 : Int) (a5 : ProdD) (a6 : Int) (a7 : List Bool) (a8 : Nat) (a9 : List Bool) (a10 a12 : Nat) (a13 : List Bool) (a14 : Nat) (v1 : Int) (v2 : List Bool) {r : E_L65_0_8 ⊕ (Int × (List Bool))} (h : L65_0_8 rF65_3 a2 a5 a6 a7 a8 a9 a10 a12 a13 a14 v1 v2 = some r) : OkR (fun e => L65_0_8_x a1 a2 a3 a4 a5 a6 a7 a8 a9 a10 a12 a13 a14 e (L65_0_8_e a1 a2 a3 a4 a5 a6 a7 a8 a9 a10 a12 a13 a14 v1 v2)) (fun s => L65_0_8_e a1 a2 a3 a4 a5 a6 a7 a8 a9 a10 a12 a13 a14 v1 v2 = L65_0_8_e a1 a2 a3 a4 a5 a6 a7 a8 a9 a10 a12 a13 a14 s.1 s.2) r := by
 unfold L65_0_8 at h
 refine bi h ?_ ?_ <;> intro h1 h
 ·
  refine bn h fun x2 h2 h => ?_
  refine bi h ?_ ?_ <;> intro h3 h
  ·
   refine bn h fun x4 h4 h => ?_
   rw [← sj h]
   exact rnd [(43, .d true), (44, .v (.ro (eSym x2))), (48, .d true), (52, .r (.tup []) (L65_0_8_d0 a2 a7 a8 a9 a10 x4 a12 a13 a14 a5 x2)), (6000, .d true)] (av h1 (apc (ig eSym 6 .i64 h2) (av h3 (apc ((hF65_3 x2.sort a2 a7 a8 a9 a10 v2 a12 a13 a14 h4 [yY0, bP a5, .cells 68 ((eSym x2).map .p)]) : CS prg 65 [i6 x2.sort, .ptr 5 0, .ptr 0 0, .ptr 1 0, .ptr 6 0] (L65_0_8_d1 a2 a7 a8 a9 a10 v2 a12 a13 a14 a5 x2) = some ((.tup []), L65_0_8_d0 a2 a7 a8 a9 a10 x4 a12 a13 a14 a5 x2)) (apc ((oK (ac (ac (ar (ar (ar (ac (ac (ar (ac rfl)))))))))) : okT 9 (L65_0_8_d0 a2 a7 a8 a9 a10 x4 a12 a13 a14 a5 x2) = true) apn))))) (by kernel_rfl)
  ·
   rw [← sj h]
   exact rnd [(43, .d true), (44, .v (.ro (eSym x2))), (48, .d false), (6000, .d true)] (av h1 (apc (ig eSym 6 .i64 h2) (av h3 (apc ((oK (ac (ac (ar (ar (ar (ac (ac (ar (ac rfl)))))))))) : okT 9 (L65_0_8_d1 a2 a7 a8 a9 a10 v2 a12 a13 a14 a5 x2) = true) apn)))) (by kernel_rfl)
 ·
  rw [← sj h]
  exact xbrk [(43, .d false), (6000, .d true)] (av h1 apn) (by kernel_rfl)
theorem L65_0_8_run (rF65_3 : T_F65_3) (hF65_3 : H_F65_3 rF65_3) (a1 : Int) (a2 : GramD) (a3 a4 : Int) (a5 : ProdD) (a6 : Int) (a7 : List Bool) (a8 : Nat) (a9 : List Bool) (a10 a12 : Nat) (a13 : List Bool) (a14 : Nat) (s0 : Int × (List Bool)) (e : E_L65_0_8) (h : runL (fun s => L65_0_8 rF65_3 a2 a5 a6 a7 a8 a9 a10 a12 a13 a14 s.1 s.2) s0 = some e) : L65_0_8_x a1 a2 a3 a4 a5 a6 a7 a8 a9 a10 a12 a13 a14 e (L65_0_8_e a1 a2 a3 a4 a5 a6 a7 a8 a9 a10 a12 a13 a14 s0.1 s0.2) := by
  have q := @loop_sound' (Int × (List Bool)) E_L65_0_8 (fun s => L65_0_8 rF65_3 a2 a5 a6 a7 a8 a9 a10 a12 a13 a14 s.1 s.2) (fun s => L65_0_8_e a1 a2 a3 a4 a5 a6 a7 a8 a9 a10 a12 a13 a14 s.1 s.2) (L65_0_8_x a1 a2 a3 a4 a5 a6 a7 a8 a9 a10 a12 a13 a14) (fun s r h => L65_0_8_ok rF65_3 hF65_3 a1 a2 a3 a4 a5 a6 a7 a8 a9 a10 a12 a13 a14 s.1 s.2 h) s0 e h
  exact q
inductive E_L65_1_3 where
  | k0 (x0 : List Bool)
def L65_1_3 (rF65_3 : T_F65_3) (a1 : Int) (a2 : GramD) (a3 : Int) (a4 : List Bool) (a5 : Nat) (a6 : List Bool) (a7 a9 : Nat) (a10 : List Bool) (a11 : Nat) (v1 : Int) (v2 : List Bool) : Option (E_L65_1_3 ⊕ (Int × (List Bool))) :=
  (bif (decide (v1 < a3)) then ((getI a2.prods v1).bind fun x2 => (bif (x2.left != a1) then (some (.inr ((IntKind.wrap .i64 (v1 + 1)), v2))) else (bif (x2.role == 11) then (some (.inr ((IntKind.wrap .i64 (v1 + 1)), v2))) else ((F53_3 x2 a4).bind fun x5 => (bif x5 then ((runL (fun s => L65_0_8 rF65_3 a2 x2 (x2.right.length : Int) a4 a5 a6 a7 a9 a10 a11 s.1 s.2) (0, v2)).bind fun r7 => match r7 with | .k0 x7_0 => (some (.inr ((IntKind.wrap .i64 (v1 + 1)), x7_0)))) else (some (.inr ((IntKind.wrap .i64 (v1 + 1)), v2)))))))) else (some (.inl (.k0 v2))))
def L65_1_3_s (a1 : Int) (a2 : GramD) (a3 : Int) (a4 : List Bool) (a5 : Nat) (a6 : List Bool) (a7 a9 : Nat) (a10 : List Bool) (a11 : Nat) (v1 : Int) (v2 : List Bool) : St := ⟨fr 55 ug [(0, i6 a1), (3, .ptr 1 0), (4, .ptr 6 0), (18, ls 7 eProd a2.prods), (19, i6 a3), (20, i6 v1)], [bG a2, .cells 86 [(.fn 53 [(.ro [.lst 1 (a4.map eBool)])])], yB a5 a6, yB a7 v2, yB a9 a10, .cells 83 [.sl 3 a7 1 0 a11], .cells 111 [(.fn 65 [.ptr 5 0, .ptr 0 0, .ptr 1 0, .ptr 6 0])]]⟩
abbrev L65_1_3_e (a1 : Int) (a2 : GramD) (a3 : Int) (a4 : List Bool) (a5 : Nat) (a6 : List Bool) (a7 a9 : Nat) (a10 : List Bool) (a11 : Nat) (v1 : Int) (v2 : List Bool) := evH prg 7 [0, 3, 4, 18, 19, 20] ir65_l1 (L65_1_3_s a1 a2 a3 a4 a5 a6 a7 a9 a10 a11 v1 v2)
def L65_1_3_x (a1 : Int) (a2 : GramD) (a3 : Int) (a4 : List Bool) (a5 : Nat) (a6 : List Bool) (a7 a9 : Nat) (a10 : List Bool) (a11 : Nat) (e : E_L65_1_3) (r : Option (Out × St)) : Prop := match e with | .k0 x0 => ∃ g, r = some ((.brk 0), ⟨fr 55 g [(0, i6 a1), (18, ls 7 eProd a2.prods)], [bG a2, .cells 86 [(.fn 53 [(.ro [.lst 1 (a4.map eBool)])])], yB a5 a6, yB a7 x0, yB a9 a10, .cells 83 [.sl 3 a7 1 0 a11], .cells 111 [(.fn 65 [.ptr 5 0, .ptr 0 0, .ptr 1 0, .ptr 6 0])]]⟩)
abbrev L65_1_3_d0 (a2 : GramD) (a4 : List Bool) (a5 : Nat) (a6 : List Bool) (a7 : Nat) (v2 : List Bool) (a9 : Nat) (a10 : List Bool) (a11 : Nat) (x2 : ProdD) : List AB := [bG a2, .cells 86 [(.fn 53 [(.ro [.lst 1 (a4.map eBool)])])], yB a5 a6, yB a7 v2, yB a9 a10, .cells 83 [.sl 3 a7 1 0 a11], .cells 111 [(.fn 65 [.ptr 5 0, .ptr 0 0, .ptr 1 0, .ptr 6 0])], yY0, bP x2]
abbrev L65_1_3_d1 (g7 : Nat → AV) (a1 : Int) (a2 : GramD) (a3 v1 : Int) (x2 : ProdD) (a4 : List Bool) (a5 : Nat) (a6 : List Bool) (a7 : Nat) (x7_0 : List Bool) (a9 : Nat) (a10 : List Bool) (a11 : Nat) : St := ⟨fr 55 g7 [(0, i6 a1), (3, .ptr 1 0), (4, .ptr 6 0), (18, ls 7 eProd a2.prods), (19, i6 a3), (20, i6 v1), (40, ls 6 eSym x2.right)], [bG a2, .cells 86 [(.fn 53 [(.ro [.lst 1 (a4.map eBool)])])], yB a5 a6, yB a7 x7_0, yB a9 a10, .cells 83 [.sl 3 a7 1 0 a11], .cells 111 [(.fn 65 [.ptr 5 0, .ptr 0 0, .ptr 1 0, .ptr 6 0])], yY0, bP x2]⟩
theorem L65_1_3_ok (rF65_3 : T_F65_3) (hF65_3 : H_F65_3 rF65_3) (a1 : Int) (a2 : GramD) (a3 : Int) (a4 : List Bool) (a5 : Nat) (a6 : List Bool) (a7 a9 : Nat) (a10 : List Bool) (a11 : Nat) (v1 : Int) (v2 : List Bool) {r : E_L65_1_3 ⊕ (Int × (List Bool))} (h : L65_1_3 rF65_3 a1 a2 a3 a4 a5 a6 a7 a9 a10 a11 v1 v2 = some r) : OkR (fun e => L65_1_3_x a1 a2 a3 a4 a5 a6 a7 a9 a10 a11 e (L65_1_3_e a1 a2 a3 a4 a5 a6 a7 a9 a10 a11 v1 v2)) (fun s => L65_1_3_e a1 a2 a3 a4 a5 a6 a7 a9 a10 a11 v1 v2 = L65_1_3_e a1 a2 a3 a4 a5 a6 a7 a9 a10 a11 s.1 s.2) r := by
 unfold L65_1_3 at h
 refine bi h ?_ ?_ <;> intro h1 h
 ·
  refine bn h fun x2 h2 h => ?_
  refine bi h ?_ ?_ <;> intro h3 h
  ·
   rw [← sj h]
   exact rnd [(21, .d true), (22, .v (.ro (eProd x2))), (27, .d true), (6000, .d true)] (av h1 (apc (ig eProd 7 .i64 h2) (av h3 (apc ((oK (ac (ac (ar (ar (ar (ac (ac rfl)))))))) : okT 7 (L65_1_3_d0 a2 a4 a5 a6 a7 v2 a9 a10 a11 x2) = true) apn)))) (by kernel_rfl)
  ·
   refine bi h ?_ ?_ <;> intro h4 h
   ·
    rw [← sj h]
    exact rnd [(21, .d true), (22, .v (.ro (eProd x2))), (27, .d false), (31, .d true), (6000, .d true)] (av h1 (apc (ig eProd 7 .i64 h2) (av h3 (av h4 (apc ((oK (ac (ac (ar (ar (ar (ac (ac rfl)))))))) : okT 7 (L65_1_3_d0 a2 a4 a5 a6 a7 v2 a9 a10 a11 x2) = true) apn))))) (by kernel_rfl)
   ·
    refine bn h fun x5 h5 h => ?_
    refine bi h ?_ ?_ <;> intro h6 h
    ·
     refine bn h fun r7 h7 h => ?_
     cases r7 with
     | k0 x7_0 =>
      obtain ⟨g7, e7⟩ := L65_0_8_run rF65_3 hF65_3 a1 a2 a3 v1 x2 (x2.right.length : Int) a4 a5 a6 a7 a9 a10 a11 (0, v2) _ h7
      rw [← sj h]
      exact rnd [(21, .d true), (22, .v (.ro (eProd x2))), (27, .d false), (31, .d false), (36, .v (vb true)), (41, .v (i6 (x2.right.length : Int))), (2002, .l (.brk 2) (L65_1_3_d1 g7 a1 a2 a3 v1 x2 a4 a5 a6 a7 x7_0 a9 a10 a11)), (6000, .d true)] (av h1 (apc (ig eProd 7 .i64 h2) (av h3 (av h4 (apc ((((F53_3_ok x2 a4 h5).cp rfl _).trans (congrArg (fun z => some (vb z)) h6)) : CP prg 53 [aP x2, (.ro [.lst 1 (a4.map eBool)])] (L65_1_3_d0 a2 a4 a5 a6 a7 v2 a9 a10 a11 x2) = some (vb true)) (apc (lg x2.right eSym 6) (apc ((oK (ac (ac (ar (ar (ar (ac (ac (ar (ac rfl)))))))))) : okT 9 (L65_1_3_d0 a2 a4 a5 a6 a7 v2 a9 a10 a11 x2) = true) (apc (e7 : L65_0_8_e a1 a2 a3 v1 x2 (x2.right.length : Int) a4 a5 a6 a7 a9 a10 a11 0 v2 = some ((.brk 2), L65_1_3_d1 g7 a1 a2 a3 v1 x2 a4 a5 a6 a7 x7_0 a9 a10 a11)) (apc ((oK (ac (ac (ar (ar (ar (ac (ac rfl)))))))) : okT 7 [bG a2, .cells 86 [(.fn 53 [(.ro [.lst 1 (a4.map eBool)])])], yB a5 a6, yB a7 x7_0, yB a9 a10, .cells 83 [.sl 3 a7 1 0 a11], .cells 111 [(.fn 65 [.ptr 5 0, .ptr 0 0, .ptr 1 0, .ptr 6 0])], yY0, bP x2] = true) apn))))))))) (by kernel_rfl)
    ·
     rw [← sj h]
     exact rnd [(21, .d true), (22, .v (.ro (eProd x2))), (27, .d false), (31, .d false), (36, .v (vb false)), (6000, .d true)] (av h1 (apc (ig eProd 7 .i64 h2) (av h3 (av h4 (apc ((((F53_3_ok x2 a4 h5).cp rfl _).trans (congrArg (fun z => some (vb z)) h6)) : CP prg 53 [aP x2, (.ro [.lst 1 (a4.map eBool)])] (L65_1_3_d0 a2 a4 a5 a6 a7 v2 a9 a10 a11 x2) = some (vb false)) (apc ((oK (ac (ac (ar (ar (ar (ac (ac rfl)))))))) : okT 7 (L65_1_3_d0 a2 a4 a5 a6 a7 v2 a9 a10 a11 x2) = true) apn)))))) (by kernel_rfl)
 ·
  rw [← sj h]
  exact xbrk [(21, .d false), (6000, .d true)] (av h1 apn) (by kernel_rfl)
theorem L65_1_3_run (rF65_3 : T_F65_3) (hF65_3 : H_F65_3 rF65_3) (a1 : Int) (a2 : GramD) (a3 : Int) (a4 : List Bool) (a5 : Nat) (a6 : List Bool) (a7 a9 : Nat) (a10 : List Bool) (a11 : Nat) (s0 : Int × (List Bool)) (e : E_L65_1_3) (h : runL (fun s => L65_1_3 rF65_3 a1 a2 a3 a4 a5 a6 a7 a9 a10 a11 s.1 s.2) s0 = some e) : L65_1_3_x a1 a2 a3 a4 a5 a6 a7 a9 a10 a11 e (L65_1_3_e a1 a2 a3 a4 a5 a6 a7 a9 a10 a11 s0.1 s0.2) := by
  have q := @loop_sound' (Int × (List Bool)) E_L65_1_3 (fun s => L65_1_3 rF65_3 a1 a2 a3 a4 a5 a6 a7 a9 a10 a11 s.1 s.2) (fun s => L65_1_3_e a1 a2 a3 a4 a5 a6 a7 a9 a10 a11 s.1 s.2) (L65_1_3_x a1 a2 a3 a4 a5 a6 a7 a9 a10 a11) (fun s r h => L65_1_3_ok rF65_3 hF65_3 a1 a2 a3 a4 a5 a6 a7 a9 a10 a11 s.1 s.2 h) s0 e h
  exact q
def F65_3_b (rF65_3 : T_F65_3) (a1 : Int) (a2 : GramD) (a3 : List Bool) (a4 : Nat) (a5 : List Bool) (a6 : Nat) (a7 : List Bool) (a8 : Nat) (a9 : List Bool) (a10 : Nat) : Option (List Bool) :=
  ((ixN a10 a1).bind fun x1 => ((a7[x1]?).bind fun x2 => (bif x2 then (some a7) else ((runL (fun s => L65_1_3 rF65_3 a1 a2 (a2.prods.length : Int) a3 a4 a5 a6 a8 a9 a10 s.1 s.2) (0, a7.set x1 true)).bind fun r4 => match r4 with | .k0 x4_0 => (some x4_0)))))
abbrev F65_3_d0 (a2 : GramD) (a3 : List Bool) (a4 : Nat) (a5 : List Bool) (a6 : Nat) (a7 : List Bool) (a8 : Nat) (a9 : List Bool) (a10 : Nat) : List AB := [bG a2, .cells 86 [(.fn 53 [(.ro [.lst 1 (a3.map eBool)])])], yB a4 a5, yB a6 a7, yB a8 a9, .cells 83 [.sl 3 a6 1 0 a10], .cells 111 [(.fn 65 [.ptr 5 0, .ptr 0 0, .ptr 1 0, .ptr 6 0])]]
abbrev F65_3_d1 (a2 : GramD) (a3 : List Bool) (a4 : Nat) (a5 : List Bool) (a6 : Nat) (a7 : List Bool) (x1 a8 : Nat) (a9 : List Bool) (a10 : Nat) : List AB := [bG a2, .cells 86 [(.fn 53 [(.ro [.lst 1 (a3.map eBool)])])], yB a4 a5, yB a6 (a7.set x1 true), yB a8 a9, .cells 83 [.sl 3 a6 1 0 a10], .cells 111 [(.fn 65 [.ptr 5 0, .ptr 0 0, .ptr 1 0, .ptr 6 0])]]
abbrev F65_3_d2 (g4 : Nat → AV) (a1 : Int) (a2 : GramD) (a3 : List Bool) (a4 : Nat) (a5 : List Bool) (a6 : Nat) (x4_0 : List Bool) (a8 : Nat) (a9 : List Bool) (a10 : Nat) : St := ⟨fr 55 g4 [(0, i6 a1), (18, ls 7 eProd a2.prods)], [bG a2, .cells 86 [(.fn 53 [(.ro [.lst 1 (a3.map eBool)])])], yB a4 a5, yB a6 x4_0, yB a8 a9, .cells 83 [.sl 3 a6 1 0 a10], .cells 111 [(.fn 65 [.ptr 5 0, .ptr 0 0, .ptr 1 0, .ptr 6 0])]]⟩
theorem F65_3_bok (rF65_3 : T_F65_3) (hF65_3 : H_F65_3 rF65_3) (a1 : Int) (a2 : GramD) (a3 : List Bool) (a4 : Nat) (a5 : List Bool) (a6 : Nat) (a7 : List Bool) (a8 : Nat) (a9 : List Bool) (a10 : Nat) {r : (List Bool)} (h : F65_3_b rF65_3 a1 a2 a3 a4 a5 a6 a7 a8 a9 a10 = some r) : ∀ hx : List AB, CS prg 65 [i6 a1, .ptr 5 0, .ptr 0 0, .ptr 1 0, .ptr 6 0] ([bG a2, .cells 86 [(.fn 53 [(.ro [.lst 1 (a3.map eBool)])])], yB a4 a5, yB a6 a7, yB a8 a9, .cells 83 [.sl 3 a6 1 0 a10], .cells 111 [(.fn 65 [.ptr 5 0, .ptr 0 0, .ptr 1 0, .ptr 6 0])]] ++ hx) = some (F65_3_v a1 a2 a3 a4 a5 a6 a7 a8 a9 a10 r, F65_3_h a1 a2 a3 a4 a5 a6 a7 a8 a9 a10 r ++ hx) := by
 unfold F65_3_b at h
 refine bn h fun x1 h1 h => ?_
 have q0 := ((idx_sl h1) : idxA 1 (.sl 3 a6 1 0 a10) (i6 a1) = some (.rp 3 a6 1 x1 0))
 refine bn h fun x2 h2 h => ?_
 refine bi h ?_ ?_ <;> intro h3 h
 ·
  rw [← sj h]
  exact fcF (m := 7) (v := (.tup [])) (h' := (F65_3_d0 a2 a3 a4 a5 a6 a7 a8 a9 a10)) [(12, .v (.rp 3 a6 1 x1 0)), (13, .v (vb true))] (apc q0 (apc (((ld_row (V := vb x2) rfl h2 rfl).trans (congrArg (fun z => some (vb z)) h3)) : ldA (F65_3_d0 a2 a3 a4 a5 a6 a7 a8 a9 a10) .false 1 (.rp 3 a6 1 x1 0) = some (vb true)) apn)) rfl (ac (ac (ar (ar (ar (ac (ac rfl))))))) rfl (ac (ac (ar (ar (ar (ac (ac rfl))))))) rfl (by kernel_rfl)
 ·
  refine bn h fun r4 h4 h => ?_
  cases r4 with
  | k0 x4_0 =>
   obtain ⟨g4, e4⟩ := L65_1_3_run rF65_3 hF65_3 a1 a2 (lP a2) a3 a4 a5 a6 a8 a9 a10 (0, a7.set x1 true) _ h4
   rw [← sj h]
   exact fcF (m := 7) (v := (.tup [])) (h' := [bG a2, .cells 86 [(.fn 53 [(.ro [.lst 1 (a3.map eBool)])])], yB a4 a5, yB a6 x4_0, yB a8 a9, .cells 83 [.sl 3 a6 1 0 a10], .cells 111 [(.fn 65 [.ptr 5 0, .ptr 0 0, .ptr 1 0, .ptr 6 0])]]) [(12, .v (.rp 3 a6 1 x1 0)), (13, .v (vb false)), (16, .v (.rp 3 a6 1 x1 0)), (1016, .r ud (F65_3_d1 a2 a3 a4 a5 a6 a7 x1 a8 a9 a10)), (19, .v (i6 (lP a2))), (2000, .l (.brk 0) (F65_3_d2 g4 a1 a2 a3 a4 a5 a6 x4_0 a8 a9 a10)), (6000, .d true)] (apc q0 (apc (((ld_row (V := vb x2) rfl h2 rfl).trans (congrArg (fun z => some (vb z)) h3)) : ldA (F65_3_d0 a2 a3 a4 a5 a6 a7 a8 a9 a10) .false 1 (.rp 3 a6 1 x1 0) = some (vb false)) (apc ((idx_sl h1) : idxA 1 (.sl 3 a6 1 0 a10) (i6 a1) = some (.rp 3 a6 1 x1 0)) (apc (⟨st_row (v' := true) rfl h2 rfl rfl (Nat.le_of_ble_eq_true rfl) rfl, rfl⟩ : stA (F65_3_d0 a2 a3 a4 a5 a6 a7 a8 a9 a10) 1 (.rp 3 a6 1 x1 0) (vb true) = some (F65_3_d1 a2 a3 a4 a5 a6 a7 x1 a8 a9 a10) ∧ ud = ud) (apc (lg a2.prods eProd 7) (apc ((oK (ac (ac (ar (ar (ar (ac (ac rfl)))))))) : okT 7 (F65_3_d1 a2 a3 a4 a5 a6 a7 x1 a8 a9 a10) = true) (apc (e4 : L65_1_3_e a1 a2 (lP a2) a3 a4 a5 a6 a8 a9 a10 0 (a7.set x1 true) = some ((.brk 0), F65_3_d2 g4 a1 a2 a3 a4 a5 a6 x4_0 a8 a9 a10)) apn))))))) rfl (ac (ac (ar (ar (ar (ac (ac rfl))))))) rfl (ac (ac (ar (ar (ar (ac (ac rfl))))))) rfl (by kernel_rfl)
def F65_3 : Nat → T_F65_3
  | 0 => fun _ _ _ _ _ _ _ _ _ _ => none
  | Nf + 1 => F65_3_b (F65_3 Nf)
theorem F65_3_ok (Nf : Nat) : H_F65_3 (F65_3 Nf) := by
  induction Nf with
  | zero => intro a1 a2 a3 a4 a5 a6 a7 a8 a9 a10 r h; have h : (none : Option (List Bool)) = some r := h; cases h
  | succ Nf ih => intro a1 a2 a3 a4 a5 a6 a7 a8 a9 a10 r h; exact F65_3_bok (F65_3 Nf) ih a1 a2 a3 a4 a5 a6 a7 a8 a9 a10 h
def F37_2_v (a1 : GramD) (a2 : List Bool) (x0 : (List Bool)) : AV := (ls 1 eBool x0)
def F37_2 (Nf : Nat) (a1 : GramD) (a2 : List Bool) : Option (List Bool) :=
  (bif (mkOk (a1.sorts.length : Int) 1) then ((F65_3 Nf a1.start a1 a2 0 ([]) 0 (List.replicate (Int.toNat (a1.sorts.length : Int)) false) 0 ([]) (Int.toNat (a1.sorts.length : Int))).bind fun x2 => (bif (decide ((Int.toNat (a1.sorts.length : Int)) ≤ x2.length)) then (some (x2.take (Int.toNat (a1.sorts.length : Int)))) else none)) else none)
abbrev F37_2_d0 (a1 : GramD) (a2 : List Bool) : List AB := [bG a1, .cells 86 [(.fn 53 [(.ro [.lst 1 (a2.map eBool)])])], yB0]
abbrev F37_2_d1 (a1 : GramD) (a2 : List Bool) : List AB := [bG a1, .cells 86 [(.fn 53 [(.ro [.lst 1 (a2.map eBool)])])], yB0, yB 0 (List.replicate (tS a1) false)]
abbrev F37_2_d2 (a1 : GramD) (a2 x2 : List Bool) : List AB := [bG a1, .cells 86 [(.fn 53 [(.ro [.lst 1 (a2.map eBool)])])], yB 0 ([]), yB 0 x2, yB 0 ([]), .cells 83 [(.sl 3 0 1 0 (tS a1))], .cells 111 [(.fn 65 [.ptr 5 0, .ptr 0 0, .ptr 1 0, .ptr 6 0])]]
abbrev F37_2_c0 (a1 : GramD) (a2 : List Bool) : List (Nat × Hint) := [(10, .r (.sl 3 0 1 0 (tS a1)) (F37_2_d1 a1 a2))]
abbrev F37_2_c1 (a1 : GramD) (a2 x2 : List Bool) : List (Nat × Hint) := [(15, .r (.tup []) (F37_2_d2 a1 a2 x2))]
theorem F37_2_ok (Nf : Nat) (a1 : GramD) (a2 : List Bool) {r : (List Bool)} (h : F37_2 Nf a1 a2 = some r) : PR2 prg 37 [aG a1, (.fn 53 [(.ro [.lst 1 (a2.map eBool)])])] (F37_2_v a1 a2 r) := by
 unfold F37_2 at h
 refine bi h ?_ ?_ <;> intro h1 h
 ·
  have q1 := ((mk_row' (h := (F37_2_d0 a1 a2)) (e := eBool) (z := false) h1 rfl) : (mkA 4 1 1 [.val (.bool false)] (i6 (lS a1)) (i6 (lS a1)) 3).map (fun x => (x.1, (F37_2_d0 a1 a2) ++ [x.2])) = some ((.sl 3 0 1 0 (tS a1)), F37_2_d1 a1 a2))
  refine bn h fun x2 h2 h => ?_
  have q2 := ((F65_3_ok Nf a1.start a1 a2 0 ([]) 0 (List.replicate (tS a1) false) 0 ([]) (tS a1) h2 []) : CS prg 65 [i6 a1.start, .ptr 5 0, .ptr 0 0, .ptr 1 0, .ptr 6 0] [bG a1, .cells 86 [(.fn 53 [(.ro [.lst 1 (a2.map eBool)])])], yB0, yB 0 (List.replicate (tS a1) false), yB0, .cells 83 [(.sl 3 0 1 0 (tS a1))], .cells 111 [(.fn 65 [.ptr 5 0, .ptr 0 0, .ptr 1 0, .ptr 6 0])]] = some ((.tup []), F37_2_d2 a1 a2 x2))
  refine bi h ?_ ?_ <;> intro h3 h
  ·
   rw [← sj h]
   exact fpn (v := (.sl 3 0 1 0 (tS a1))) (h' := (F37_2_d2 a1 a2 x2)) ([(9, .v (i6 (lS a1)))] ++ ((F37_2_c0 a1 a2) ++ (F37_2_c1 a1 a2 x2))) (apc (lg a1.sorts eStr 1) (apc q1 (apc q2 apn))) (purA_sl (e := eBool) rfl h3) rfl (purA_sl (e := eBool) (getq rfl (nols_ra (fun _ => rfl))) h3) (by kernel_rfl)
  ·
   cases h
 ·
  cases h
inductive E_L24_4 where
  | k0 (x0 : Nat) (x1 : List ByteArray) (x2 : Nat) (x3 : List Int)
section
variable (a1 : List Bool) (a2 a3 : Nat) (a4 : GramD) (a5 : Int) (a6 : List Bool) (a8 : List Int)
def L24_4 (v1 : Int) (v2 : Nat) (v3 : List ByteArray) (v4 : Nat) (v5 : List Int) : Option (E_L24_4 ⊕ (Int × Nat × (List ByteArray) × Nat × (List Int))) :=
  (bif (decide (v1 < a5)) then ((getI a4.sorts v1).bind fun x2 => ((ixN a2 v1).bind fun x3 => ((v5[x3]?).bind fun x4 => ((getI a1 v1).bind fun x5 => (bif x5 then (((v5.set x3 (-1))[x3]?).bind fun x7 => (bif (apOk v4 1 v3.length 16) then (bif (decide (v4 + 1 ≤ v3.length)) then (some (.inr ((IntKind.wrap .i64 (v1 + 1)), v2, (splice v3 v4 [x2]), v4 + 1, ((v5.set x3 (-1)).set x3 ((v4 : Nat) : Int))))) else (some (.inr ((IntKind.wrap .i64 (v1 + 1)), v2 + 1, (v3.take v4 ++ [x2]), v4 + 1, ((v5.set x3 (-1)).set x3 ((v4 : Nat) : Int)))))) else none)) else (some (.inr ((IntKind.wrap .i64 (v1 + 1)), v2, v3, v4, (v5.set x3 (-1)))))))))) else (some (.inl (.k0 v2 v3 v4 v5))))
def L24_4_s (v1 : Int) (v2 : Nat) (v3 : List ByteArray) (v4 : Nat) (v5 : List Int) : St := ⟨fr 212 ug [(1, .ptr 0 0), (2, .ptr 5 0), (6, (.fn 53 [.ptr 7 0])), (7, ls 1 eBool a1), (8, .ptr 12 0), (9, .sl 13 0 1 0 a2), (10, .sl 14 0 1 0 a3), (52, ls 1 eStr a4.sorts), (53, i6 a5), (54, i6 v1)], [bG a4, yS0, yP0, yF0, yW0, cG 1 0 0 2 0 0 0 3 0 0 4 0 0, yB0, .cells 83 [ls 1 eBool a6], yS v2 v3, yP0, yF0, yW0, cG 8 v2 v4 9 0 0 0 10 0 0 11 0 0, yI 0 v5, yI 0 a8]⟩
abbrev L24_4_e (v1 : Int) (v2 : Nat) (v3 : List ByteArray) (v4 : Nat) (v5 : List Int) := evH prg 15 [1, 2, 6, 7, 8, 9, 10, 52, 53, 54] ir24_l4 (L24_4_s a1 a2 a3 a4 a5 a6 a8 v1 v2 v3 v4 v5)
def L24_4_x (e : E_L24_4) (r : Option (Out × St)) : Prop := match e with | .k0 x0 x1 x2 x3 => ∃ g, r = some ((.brk 0), ⟨fr 212 g [(1, .ptr 0 0), (2, .ptr 5 0), (6, (.fn 53 [.ptr 7 0])), (7, ls 1 eBool a1), (8, .ptr 12 0), (9, .sl 13 0 1 0 a2), (10, .sl 14 0 1 0 a3), (52, ls 1 eStr a4.sorts)], [bG a4, yS0, yP0, yF0, yW0, cG 1 0 0 2 0 0 0 3 0 0 4 0 0, yB0, .cells 83 [ls 1 eBool a6], yS x0 x1, yP0, yF0, yW0, cG 8 x0 x2 9 0 0 0 10 0 0 11 0 0, yI 0 x3, yI 0 a8]⟩)
abbrev L24_4_d0 (v2 : Nat) (v3 : List ByteArray) (v4 : Nat) (v5 : List Int) (x3 : Nat) : List AB := [bG a4, yS0, yP0, yF0, yW0, cG 1 0 0 2 0 0 0 3 0 0 4 0 0, yB0, .cells 83 [ls 1 eBool a6], yS v2 v3, yP0, yF0, yW0, cG 8 v2 v4 9 0 0 0 10 0 0 11 0 0, yI 0 (v5.set x3 (-1)), yI 0 a8]
abbrev L24_4_d1 (v2 : Nat) (v3 : List ByteArray) (v4 : Nat) (v5 : List Int) (x3 : Nat) : List AB := [bG a4, yS0, yP0, yF0, yW0, cG 1 0 0 2 0 0 0 3 0 0 4 0 0, yB0, .cells 83 [ls 1 eBool a6], yS v2 v3, yP0, yF0, yW0, cG 8 v2 v4 9 0 0 0 10 0 0 11 0 0, yI 0 ((v5.set x3 (-1)).set x3 ((v4 : Nat) : Int)), yI 0 a8]
abbrev L24_4_d2 (v2 : Nat) (v3 : List ByteArray) (v4 : Nat) (x2 : ByteArray) (v5 : List Int) (x3 : Nat) : List AB := [bG a4, yS0, yP0, yF0, yW0, cG 1 0 0 2 0 0 0 3 0 0 4 0 0, yB0, .cells 83 [ls 1 eBool a6], yS v2 (splice v3 v4 [x2]), yP0, yF0, yW0, cG 8 v2 v4 9 0 0 0 10 0 0 11 0 0, yI 0 ((v5.set x3 (-1)).set x3 ((v4 : Nat) : Int)), yI 0 a8, .row 9 1 0 [[vs x2]]]
abbrev L24_4_d3 (v2 : Nat) (v3 : List ByteArray) (v4 : Nat) (v5 : List Int) (x3 : Nat) (x2 : ByteArray) : List AB := [bG a4, yS0, yP0, yF0, yW0, cG 1 0 0 2 0 0 0 3 0 0 4 0 0, yB0, .cells 83 [ls 1 eBool a6], yS v2 v3, yP0, yF0, yW0, cG 8 v2 v4 9 0 0 0 10 0 0 11 0 0, yI 0 ((v5.set x3 (-1)).set x3 ((v4 : Nat) : Int)), yI 0 a8, .row 9 1 0 [[vs x2]]]
abbrev L24_4_d4 (v2 : Nat) (v3 : List ByteArray) (v4 : Nat) (x2 : ByteArray) (v5 : List Int) (x3 : Nat) : List AB := [bG a4, yS0, yP0, yF0, yW0, cG 1 0 0 2 0 0 0 3 0 0 4 0 0, yB0, .cells 83 [ls 1 eBool a6], yS (v2 + 1) (v3.take v4 ++ [x2]), yP0, yF0, yW0, cG 8 v2 v4 9 0 0 0 10 0 0 11 0 0, yI 0 ((v5.set x3 (-1)).set x3 ((v4 : Nat) : Int)), yI 0 a8, .row 9 1 0 [[vs x2]]]
abbrev L24_4_c0 (v2 : Nat) (v3 : List ByteArray) (v4 : Nat) (v5 : List Int) (x3 : Nat) : List (Nat × Hint) := [(1061, .r ud (L24_4_d0 a4 a6 a8 v2 v3 v4 v5 x3))]
abbrev L24_4_c1 (v2 : Nat) (v3 : List ByteArray) (v4 : Nat) (v5 : List Int) (x3 : Nat) : List (Nat × Hint) := [(1071, .r ud (L24_4_d1 a4 a6 a8 v2 v3 v4 v5 x3))]
theorem L24_4_ok (v1 : Int) (v2 : Nat) (v3 : List ByteArray) (v4 : Nat) (v5 : List Int) {r : E_L24_4 ⊕ (Int × Nat × (List ByteArray) × Nat × (List Int))} (h : L24_4 a1 a2 a4 a5 v1 v2 v3 v4 v5 = some r) : OkR (fun e => L24_4_x a1 a2 a3 a4 a6 a8 e (L24_4_e a1 a2 a3 a4 a5 a6 a8 v1 v2 v3 v4 v5)) (fun s => L24_4_e a1 a2 a3 a4 a5 a6 a8 v1 v2 v3 v4 v5 = L24_4_e a1 a2 a3 a4 a5 a6 a8 s.1 s.2.1 s.2.2.1 s.2.2.2.1 s.2.2.2.2) r := by
 unfold L24_4 at h
 refine bi h ?_ ?_ <;> intro h1 h
 ·
  refine bn h fun x2 h2 h => ?_
  refine bn h fun x3 h3 h => ?_
  have q2 := ((idx_sl h3) : idxA 1 (.sl 13 0 1 0 a2) (i6 v1) = some (.rp 13 0 1 x3 0))
  refine bn h fun x4 h4 h => ?_
  have q3 := (⟨st_row (v' := (-1)) rfl h4 rfl rfl (Nat.le_of_ble_eq_true rfl) rfl, rfl⟩ : stA [bG a4, yS0, yP0, yF0, yW0, cG 1 0 0 2 0 0 0 3 0 0 4 0 0, yB0, .cells 83 [ls 1 eBool a6], yS v2 v3, yP0, yF0, yW0, cG 8 v2 v4 9 0 0 0 10 0 0 11 0 0, yI 0 v5, yI 0 a8] 1 (.rp 13 0 1 x3 0) (i6 (-1)) = some (L24_4_d0 a4 a6 a8 v2 v3 v4 v5 x3) ∧ ud = ud)
  refine bn h fun x5 h5 h => ?_
  refine bi h ?_ ?_ <;> intro h6 h
  ·
   have q6 := ((idx_sl h3) : idxA 1 (.sl 13 0 1 0 a2) (i6 v1) = some (.rp 13 0 1 x3 0))
   refine bn h fun x7 h7 h => ?_
   have q7 := (⟨st_row (v' := ((v4 : Nat) : Int)) rfl h7 rfl rfl (Nat.le_of_ble_eq_true rfl) rfl, rfl⟩ : stA (L24_4_d0 a4 a6 a8 v2 v3 v4 v5 x3) 1 (.rp 13 0 1 x3 0) (i6 ((v4 : Nat) : Int)) = some (L24_4_d1 a4 a6 a8 v2 v3 v4 v5 x3) ∧ ud = ud)
   refine bi h ?_ ?_ <;> intro h8 h
   ·
    refine bi h ?_ ?_ <;> intro h9 h
    ·
     rw [← sj h]
     exact rnd ([(55, .d true), (57, .v (.ro [.val (.string x2)])), (61, .v (.rp 13 0 1 x3 0))] ++ ((L24_4_c0 a4 a6 a8 v2 v3 v4 v5 x3) ++ ([(64, .v (.ro [.val (.bool x5)])), (65, .d true), (71, .v (.rp 13 0 1 x3 0))] ++ ((L24_4_c1 a4 a6 a8 v2 v3 v4 v5 x3) ++ [(76, .r (.sl 8 v2 1 0 (v4 + 1)) (L24_4_d2 a4 a6 a8 v2 v3 v4 x2 v5 x3)), (6000, .d true)])))) (av h1 (apc (ig eStr 1 .i64 h2) (apc q2 (apc q3 (apc (ig eBool 1 .i64 h5) (av h6 (apc q6 (apc q7 (apc ((ap_in (e := eStr) (xs := v3) (news := [x2]) rfl (rows_x (e := eStr) (xs := [x2]) rfl) rfl h8 h9) : appA (L24_4_d3 a4 a6 a8 v2 v3 v4 v5 x3 x2) 9 1 16 (.sl 8 v2 1 0 v4) (.sl 15 0 1 0 1) = some ((.sl 8 v2 1 0 (v4 + 1)), L24_4_d2 a4 a6 a8 v2 v3 v4 x2 v5 x3)) (apc ((oK (ac (ar (ar (ar (ar (ac (ar (ac (ar (ar (ar (ar (ac (ar (ar rfl)))))))))))))))) : okT 15 [bG a4, yS0, yP0, yF0, yW0, cG 1 0 0 2 0 0 0 3 0 0 4 0 0, yB0, .cells 83 [ls 1 eBool a6], yS v2 (splice v3 v4 [x2]), yP0, yF0, yW0, .cells 27 [(.sl 8 v2 1 0 (v4 + 1)), .sl 9 0 7 0 0, i6 0, .sl 10 0 3 0 0, .sl 11 0 5 0 0], yI 0 ((v5.set x3 (-1)).set x3 ((v4 : Nat) : Int)), yI 0 a8, .row 9 1 0 [[vs x2]]] = true) apn)))))))))) (by kernel_rfl)
    ·
     rw [← sj h]
     exact rnd ([(55, .d true), (57, .v (.ro [.val (.string x2)])), (61, .v (.rp 13 0 1 x3 0))] ++ ((L24_4_c0 a4 a6 a8 v2 v3 v4 v5 x3) ++ ([(64, .v (.ro [.val (.bool x5)])), (65, .d true), (71, .v (.rp 13 0 1 x3 0))] ++ ((L24_4_c1 a4 a6 a8 v2 v3 v4 v5 x3) ++ [(76, .r (.sl 8 (v2 + 1) 1 0 (v4 + 1)) (L24_4_d4 a4 a6 a8 v2 v3 v4 x2 v5 x3)), (6000, .d true)])))) (av h1 (apc (ig eStr 1 .i64 h2) (apc q2 (apc q3 (apc (ig eBool 1 .i64 h5) (av h6 (apc q6 (apc q7 (apc ((ap_out (e := eStr) (xs := v3) (news := [x2]) rfl (rows_x (e := eStr) (xs := [x2]) rfl) rfl h8 h9) : appA (L24_4_d3 a4 a6 a8 v2 v3 v4 v5 x3 x2) 9 1 16 (.sl 8 v2 1 0 v4) (.sl 15 0 1 0 1) = some ((.sl 8 (v2 + 1) 1 0 (v4 + 1)), L24_4_d4 a4 a6 a8 v2 v3 v4 x2 v5 x3)) (apc ((oK (ac (ar (ar (ar (ar (ac (ar (ac (ar (ar (ar (ar (ac (ar (ar rfl)))))))))))))))) : okT 15 [bG a4, yS0, yP0, yF0, yW0, cG 1 0 0 2 0 0 0 3 0 0 4 0 0, yB0, .cells 83 [ls 1 eBool a6], yS (v2 + 1) (v3.take v4 ++ [x2]), yP0, yF0, yW0, .cells 27 [(.sl 8 (v2 + 1) 1 0 (v4 + 1)), .sl 9 0 7 0 0, i6 0, .sl 10 0 3 0 0, .sl 11 0 5 0 0], yI 0 ((v5.set x3 (-1)).set x3 ((v4 : Nat) : Int)), yI 0 a8, .row 9 1 0 [[vs x2]]] = true) apn)))))))))) (by kernel_rfl)
   ·
    cases h
  ·
   rw [← sj h]
   exact rnd ([(55, .d true), (57, .v (.ro [.val (.string x2)])), (61, .v (.rp 13 0 1 x3 0))] ++ ((L24_4_c0 a4 a6 a8 v2 v3 v4 v5 x3) ++ [(64, .v (.ro [.val (.bool x5)])), (65, .d false), (6000, .d true)])) (av h1 (apc (ig eStr 1 .i64 h2) (apc q2 (apc q3 (apc (ig eBool 1 .i64 h5) (av h6 (apc ((oK (ac (ar (ar (ar (ar (ac (ar (ac (ar (ar (ar (ar (ac (ar (ar rfl)))))))))))))))) : okT 15 (L24_4_d0 a4 a6 a8 v2 v3 v4 v5 x3) = true) apn))))))) (by kernel_rfl)
 ·
  rw [← sj h]
  exact xbrk [(55, .d false), (6000, .d true)] (av h1 apn) (by kernel_rfl)
theorem L24_4_run (s0 : Int × Nat × (List ByteArray) × Nat × (List Int)) (e : E_L24_4) (h : runL (fun s => L24_4 a1 a2 a4 a5 s.1 s.2.1 s.2.2.1 s.2.2.2.1 s.2.2.2.2) s0 = some e) : L24_4_x a1 a2 a3 a4 a6 a8 e (L24_4_e a1 a2 a3 a4 a5 a6 a8 s0.1 s0.2.1 s0.2.2.1 s0.2.2.2.1 s0.2.2.2.2) := by
  have q := @loop_sound' (Int × Nat × (List ByteArray) × Nat × (List Int)) E_L24_4 (fun s => L24_4 a1 a2 a4 a5 s.1 s.2.1 s.2.2.1 s.2.2.2.1 s.2.2.2.2) (fun s => L24_4_e a1 a2 a3 a4 a5 a6 a8 s.1 s.2.1 s.2.2.1 s.2.2.2.1 s.2.2.2.2) (L24_4_x a1 a2 a3 a4 a6 a8) (fun s r h => L24_4_ok a1 a2 a3 a4 a5 a6 a8 s.1 s.2.1 s.2.2.1 s.2.2.2.1 s.2.2.2.2 h) s0 e h
  exact q
end
inductive E_L24_2_3 where
  | k0 (x0 : List SymD)
section
variable (a1 : List Bool) (a2 a3 : Nat) (a4 : GramD) (a5 a6 : Int) (a7 a8 : Nat) (a9 : Int) (a10 : List Bool) (a11 : Nat) (a12 : List ByteArray) (a13 : Nat) (a14 : List ProdD) (a15 a16 : Nat) (a17 : Int) (a18 a19 : List Int) (a20 : Int) (a21 : ProdD)
def L24_2_3 (v1 : Int) (v2 : List SymD) : Option (E_L24_2_3 ⊕ (Int × (List SymD))) :=
  (bif (decide (v1 < a9)) then ((ixN a8 v1).bind fun x2 => ((v2[x2]?).bind fun x3 => (bif (x3.kind == 1) then ((ixN a2 x3.sort).bind fun x5 => ((a18[x5]?).bind fun x6 => (some (.inr ((IntKind.wrap .i64 (v1 + 1)), (v2.set x2 (⟨x3.kind, x3.a, x3.b, x3.c, x3.d, x6⟩ : SymD))))))) else (some (.inr ((IntKind.wrap .i64 (v1 + 1)), v2)))))) else (some (.inl (.k0 v2))))
def L24_2_3_s (v1 : Int) (v2 : List SymD) : St := ⟨fr 212 ug [(1, .ptr 0 0), (2, .ptr 5 0), (6, (.fn 53 [.ptr 7 0])), (7, ls 1 eBool a1), (8, .ptr 12 0), (9, .sl 13 0 1 0 a2), (10, .sl 14 0 1 0 a3), (14, .ptr 16 0), (86, ls 7 eProd a4.prods), (87, i6 a5), (88, i6 a6), (125, .sl 18 a7 6 0 a8), (126, i6 a9), (127, i6 v1)], [bG a4, yS0, yP0, yF0, yW0, cG 1 0 0 2 0 0 0 3 0 0 4 0 0, yB0, .cells 83 [ls 1 eBool a10], yS a11 a12, yP a13 a14, yF0, yW0, cG 8 a11 a15 9 a13 a16 a17 10 0 0 11 0 0, yI 0 a18, yI 0 a19, yY0, .cells 46 [i6 a20, .sl 18 a7 6 0 a8, vs a21.cons, i6 a21.role, vb a21.prefer, vb a21.avoid, i6 a21.frm], yY0, yY a7 v2]⟩
abbrev L24_2_3_e (v1 : Int) (v2 : List SymD) := evH prg 19 [1, 2, 6, 7, 8, 9, 10, 14, 86, 87, 88, 125, 126, 127] ir24_l2 (L24_2_3_s a1 a2 a3 a4 a5 a6 a7 a8 a9 a10 a11 a12 a13 a14 a15 a16 a17 a18 a19 a20 a21 v1 v2)
def L24_2_3_x (e : E_L24_2_3) (r : Option (Out × St)) : Prop := match e with | .k0 x0 => ∃ g, r = some ((.brk 4), ⟨fr 212 g [(1, .ptr 0 0), (2, .ptr 5 0), (6, (.fn 53 [.ptr 7 0])), (7, ls 1 eBool a1), (8, .ptr 12 0), (9, .sl 13 0 1 0 a2), (10, .sl 14 0 1 0 a3), (14, .ptr 16 0), (86, ls 7 eProd a4.prods), (87, i6 a5), (88, i6 a6), (125, .sl 18 a7 6 0 a8)], [bG a4, yS0, yP0, yF0, yW0, cG 1 0 0 2 0 0 0 3 0 0 4 0 0, yB0, .cells 83 [ls 1 eBool a10], yS a11 a12, yP a13 a14, yF0, yW0, cG 8 a11 a15 9 a13 a16 a17 10 0 0 11 0 0, yI 0 a18, yI 0 a19, yY0, .cells 46 [i6 a20, .sl 18 a7 6 0 a8, vs a21.cons, i6 a21.role, vb a21.prefer, vb a21.avoid, i6 a21.frm], yY0, yY a7 x0]⟩)
abbrev L24_2_3_d0 (v2 : List SymD) (x2 : Nat) (x3 : SymD) (x6 : Int) : List AB := [bG a4, yS0, yP0, yF0, yW0, cG 1 0 0 2 0 0 0 3 0 0 4 0 0, yB0, .cells 83 [ls 1 eBool a10], yS a11 a12, yP a13 a14, yF0, yW0, cG 8 a11 a15 9 a13 a16 a17 10 0 0 11 0 0, yI 0 a18, yI 0 a19, yY0, .cells 46 [i6 a20, .sl 18 a7 6 0 a8, vs a21.cons, i6 a21.role, vb a21.prefer, vb a21.avoid, i6 a21.frm], yY0, yY a7 (v2.set x2 (⟨x3.kind, x3.a, x3.b, x3.c, x3.d, x6⟩ : SymD)), .cells 68 ((eSym x3).map .p)]
abbrev L24_2_3_d1 (v2 : List SymD) (x3 : SymD) : List AB := [bG a4, yS0, yP0, yF0, yW0, cG 1 0 0 2 0 0 0 3 0 0 4 0 0, yB0, .cells 83 [ls 1 eBool a10], yS a11 a12, yP a13 a14, yF0, yW0, cG 8 a11 a15 9 a13 a16 a17 10 0 0 11 0 0, yI 0 a18, yI 0 a19, yY0, .cells 46 [i6 a20, .sl 18 a7 6 0 a8, vs a21.cons, i6 a21.role, vb a21.prefer, vb a21.avoid, i6 a21.frm], yY0, yY a7 v2, .cells 68 ((eSym x3).map .p)]
theorem L24_2_3_ok (v1 : Int) (v2 : List SymD) {r : E_L24_2_3 ⊕ (Int × (List SymD))} (h : L24_2_3 a2 a8 a9 a18 v1 v2 = some r) : OkR (fun e => L24_2_3_x a1 a2 a3 a4 a5 a6 a7 a8 a10 a11 a12 a13 a14 a15 a16 a17 a18 a19 a20 a21 e (L24_2_3_e a1 a2 a3 a4 a5 a6 a7 a8 a9 a10 a11 a12 a13 a14 a15 a16 a17 a18 a19 a20 a21 v1 v2)) (fun s => L24_2_3_e a1 a2 a3 a4 a5 a6 a7 a8 a9 a10 a11 a12 a13 a14 a15 a16 a17 a18 a19 a20 a21 v1 v2 = L24_2_3_e a1 a2 a3 a4 a5 a6 a7 a8 a9 a10 a11 a12 a13 a14 a15 a16 a17 a18 a19 a20 a21 s.1 s.2) r := by
 unfold L24_2_3 at h
 refine bi h ?_ ?_ <;> intro h1 h
 ·
  refine bn h fun x2 h2 h => ?_
  have q1 := ((idx_sl h2) : idxA 6 (.sl 18 a7 6 0 a8) (i6 v1) = some (.rp 18 a7 6 x2 0))
  refine bn h fun x3 h3 h => ?_
  have q2 := ((ld_row rfl h3 rfl) : ldA [bG a4, yS0, yP0, yF0, yW0, cG 1 0 0 2 0 0 0 3 0 0 4 0 0, yB0, .cells 83 [ls 1 eBool a10], yS a11 a12, yP a13 a14, yF0, yW0, cG 8 a11 a15 9 a13 a16 a17 10 0 0 11 0 0, yI 0 a18, yI 0 a19, yY0, .cells 46 [i6 a20, .sl 18 a7 6 0 a8, vs a21.cons, i6 a21.role, vb a21.prefer, vb a21.avoid, i6 a21.frm], yY0, yY a7 v2] .true 6 (.rp 18 a7 6 x2 0) = some (.agg ((eSym x3).map .p)))
  refine bi h ?_ ?_ <;> intro h4 h
  ·
   refine bn h fun x5 h5 h => ?_
   refine bn h fun x6 h6 h => ?_
   rw [← sj h]
   exact rnd [(128, .d true), (130, .v (.rp 18 a7 6 x2 0)), (131, .v (.agg ((eSym x3).map .p))), (134, .d true), (141, .v (.rp 13 0 1 x5 0)), (142, .v (i6 x6)), (143, .v (.rp 18 a7 6 x2 0)), (1144, .r ud (L24_2_3_d0 a4 a7 a8 a10 a11 a12 a13 a14 a15 a16 a17 a18 a19 a20 a21 v2 x2 x3 x6)), (6000, .d true)] (av h1 (apc q1 (apc q2 (av h4 (apc ((idx_sl h5) : idxA 1 (.sl 13 0 1 0 a2) (i6 x3.sort) = some (.rp 13 0 1 x5 0)) (apc ((ld_row rfl h6 rfl) : ldA (L24_2_3_d1 a4 a7 a8 a10 a11 a12 a13 a14 a15 a16 a17 a18 a19 a20 a21 v2 x3) .false 1 (.rp 13 0 1 x5 0) = some (i6 x6)) (apc ((idx_sl h2) : idxA 6 (.sl 18 a7 6 0 a8) (i6 v1) = some (.rp 18 a7 6 x2 0)) (apc (⟨st_row (v' := (⟨x3.kind, x3.a, x3.b, x3.c, x3.d, x6⟩ : SymD)) rfl h3 rfl rfl (Nat.le_of_ble_eq_true rfl) rfl, rfl⟩ : stA (L24_2_3_d1 a4 a7 a8 a10 a11 a12 a13 a14 a15 a16 a17 a18 a19 a20 a21 v2 x3) 1 (.rp 18 a7 6 x2 5) (i6 x6) = some (L24_2_3_d0 a4 a7 a8 a10 a11 a12 a13 a14 a15 a16 a17 a18 a19 a20 a21 v2 x2 x3 x6) ∧ ud = ud) (apc ((oK (ac (ar (ar (ar (ar (ac (ar (ac (ar (ar (ar (ar (ac (ar (ar (ar (ac (ar (ar rfl)))))))))))))))))))) : okT 19 (L24_2_3_d0 a4 a7 a8 a10 a11 a12 a13 a14 a15 a16 a17 a18 a19 a20 a21 v2 x2 x3 x6) = true) apn))))))))) (by kernel_rfl)
  ·
   rw [← sj h]
   exact rnd [(128, .d true), (130, .v (.rp 18 a7 6 x2 0)), (131, .v (.agg ((eSym x3).map .p))), (134, .d false), (6000, .d true)] (av h1 (apc q1 (apc q2 (av h4 (apc ((oK (ac (ar (ar (ar (ar (ac (ar (ac (ar (ar (ar (ar (ac (ar (ar (ar (ac (ar (ar rfl)))))))))))))))))))) : okT 19 (L24_2_3_d1 a4 a7 a8 a10 a11 a12 a13 a14 a15 a16 a17 a18 a19 a20 a21 v2 x3) = true) apn))))) (by kernel_rfl)
 ·
  rw [← sj h]
  exact xbrk [(128, .d false), (6000, .d true)] (av h1 apn) (by kernel_rfl)
theorem L24_2_3_run (s0 : Int × (List SymD)) (e : E_L24_2_3) (h : runL (fun s => L24_2_3 a2 a8 a9 a18 s.1 s.2) s0 = some e) : L24_2_3_x a1 a2 a3 a4 a5 a6 a7 a8 a10 a11 a12 a13 a14 a15 a16 a17 a18 a19 a20 a21 e (L24_2_3_e a1 a2 a3 a4 a5 a6 a7 a8 a9 a10 a11 a12 a13 a14 a15 a16 a17 a18 a19 a20 a21 s0.1 s0.2) := by
  have q := @loop_sound' (Int × (List SymD)) E_L24_2_3 (fun s => L24_2_3 a2 a8 a9 a18 s.1 s.2) (fun s => L24_2_3_e a1 a2 a3 a4 a5 a6 a7 a8 a9 a10 a11 a12 a13 a14 a15 a16 a17 a18 a19 a20 a21 s.1 s.2) (L24_2_3_x a1 a2 a3 a4 a5 a6 a7 a8 a10 a11 a12 a13 a14 a15 a16 a17 a18 a19 a20 a21) (fun s r h => L24_2_3_ok a1 a2 a3 a4 a5 a6 a7 a8 a9 a10 a11 a12 a13 a14 a15 a16 a17 a18 a19 a20 a21 s.1 s.2 h) s0 e h
  exact q
end
inductive E_L24_3 where
  | k0 (x0 : Nat) (x1 : List ProdD) (x2 : Nat) (x3 : List Int)
section
variable (a1 : List Bool) (a2 a3 : Nat) (a4 : GramD) (a5 : Int) (a6 : List Bool) (a7 : Nat) (a8 : List ByteArray) (a9 : Nat) (a10 : Int) (a11 : List Int)
def L24_3 (v1 : Int) (v2 : Nat) (v3 : List ProdD) (v4 : Nat) (v5 : List Int) : Option (E_L24_3 ⊕ (Int × Nat × (List ProdD) × Nat × (List Int))) :=
  (bif (decide (v1 < a5)) then ((getI a4.prods v1).bind fun x2 => ((ixN a3 v1).bind fun x3 => ((v5[x3]?).bind fun x4 => ((getI a1 x2.left).bind fun x5 => (bif x5 then ((F53_3 x2 a6).bind fun x7 => (bif x7 then (((v5.set x3 (-1))[x3]?).bind fun x9 => ((ixN a2 x2.left).bind fun x10 => ((a11[x10]?).bind fun x11 => (bif (clOk x2.right.length 48) then ((runL (fun s => L24_2_3 a2 x2.right.length ((x2.right.length : Nat) : Int) a11 s.1 s.2) (0, x2.right)).bind fun r13 => match r13 with | .k0 x13_0 => (bif (apOk v4 1 v3.length 72) then (bif (decide (v4 + 1 ≤ v3.length)) then (bif (decide (x2.right.length ≤ x13_0.length)) then (some (.inr ((IntKind.wrap .i64 (v1 + 1)), v2, (splice v3 v4 [(⟨x11, x13_0.take x2.right.length, x2.cons, x2.role, x2.prefer, x2.avoid, x2.frm⟩ : ProdD)]), v4 + 1, ((v5.set x3 (-1)).set x3 ((v4 : Nat) : Int))))) else none) else (bif (decide (x2.right.length ≤ x13_0.length)) then (some (.inr ((IntKind.wrap .i64 (v1 + 1)), v2 + 1, (v3.take v4 ++ [(⟨x11, x13_0.take x2.right.length, x2.cons, x2.role, x2.prefer, x2.avoid, x2.frm⟩ : ProdD)]), v4 + 1, ((v5.set x3 (-1)).set x3 ((v4 : Nat) : Int))))) else none)) else none)) else none)))) else (some (.inr ((IntKind.wrap .i64 (v1 + 1)), v2, v3, v4, (v5.set x3 (-1))))))) else (some (.inr ((IntKind.wrap .i64 (v1 + 1)), v2, v3, v4, (v5.set x3 (-1)))))))))) else (some (.inl (.k0 v2 v3 v4 v5))))
def L24_3_s (v1 : Int) (v2 : Nat) (v3 : List ProdD) (v4 : Nat) (v5 : List Int) : St := ⟨fr 212 ug [(1, .ptr 0 0), (2, .ptr 5 0), (6, (.fn 53 [.ptr 7 0])), (7, ls 1 eBool a1), (8, .ptr 12 0), (9, .sl 13 0 1 0 a2), (10, .sl 14 0 1 0 a3), (86, ls 7 eProd a4.prods), (87, i6 a5), (88, i6 v1)], [bG a4, yS0, yP0, yF0, yW0, cG 1 0 0 2 0 0 0 3 0 0 4 0 0, yB0, .cells 83 [ls 1 eBool a6], yS a7 a8, yP v2 v3, yF0, yW0, cG 8 a7 a9 9 v2 v4 a10 10 0 0 11 0 0, yI 0 a11, yI 0 v5]⟩
abbrev L24_3_e (v1 : Int) (v2 : Nat) (v3 : List ProdD) (v4 : Nat) (v5 : List Int) := evH prg 15 [1, 2, 6, 7, 8, 9, 10, 86, 87, 88] ir24_l3 (L24_3_s a1 a2 a3 a4 a5 a6 a7 a8 a9 a10 a11 v1 v2 v3 v4 v5)
def L24_3_x (e : E_L24_3) (r : Option (Out × St)) : Prop := match e with | .k0 x0 x1 x2 x3 => ∃ g, r = some ((.brk 2), ⟨fr 212 g [(1, .ptr 0 0), (2, .ptr 5 0), (6, (.fn 53 [.ptr 7 0])), (7, ls 1 eBool a1), (8, .ptr 12 0), (9, .sl 13 0 1 0 a2), (10, .sl 14 0 1 0 a3), (86, ls 7 eProd a4.prods)], [bG a4, yS0, yP0, yF0, yW0, cG 1 0 0 2 0 0 0 3 0 0 4 0 0, yB0, .cells 83 [ls 1 eBool a6], yS a7 a8, yP x0 x1, yF0, yW0, cG 8 a7 a9 9 x0 x2 a10 10 0 0 11 0 0, yI 0 a11, yI 0 x3]⟩)
abbrev L24_3_d0 (v2 : Nat) (v3 : List ProdD) (v4 : Nat) (v5 : List Int) (x3 : Nat) (x2 : ProdD) : List AB := [bG a4, yS0, yP0, yF0, yW0, cG 1 0 0 2 0 0 0 3 0 0 4 0 0, yB0, .cells 83 [ls 1 eBool a6], yS a7 a8, yP v2 v3, yF0, yW0, cG 8 a7 a9 9 v2 v4 a10 10 0 0 11 0 0, yI 0 a11, yI 0 (v5.set x3 (-1)), yY0, bP x2]
abbrev L24_3_d1 (v2 : Nat) (v3 : List ProdD) (v4 : Nat) (v5 : List Int) (x3 : Nat) (x2 : ProdD) : List AB := [bG a4, yS0, yP0, yF0, yW0, cG 1 0 0 2 0 0 0 3 0 0 4 0 0, yB0, .cells 83 [ls 1 eBool a6], yS a7 a8, yP v2 v3, yF0, yW0, cG 8 a7 a9 9 v2 v4 a10 10 0 0 11 0 0, yI 0 a11, yI 0 ((v5.set x3 (-1)).set x3 ((v4 : Nat) : Int)), yY0, bP x2]
abbrev L24_3_d2 (g13 : Nat → AV) (v1 : Int) (x2 : ProdD) (v2 : Nat) (v3 : List ProdD) (v4 : Nat) (v5 : List Int) (x3 : Nat) (x11 : Int) (x13_0 : List SymD) : St := ⟨fr 212 g13 [(1, .ptr 0 0), (2, .ptr 5 0), (6, (.fn 53 [.ptr 7 0])), (7, ls 1 eBool a1), (8, .ptr 12 0), (9, .sl 13 0 1 0 a2), (10, .sl 14 0 1 0 a3), (14, .ptr 16 0), (86, ls 7 eProd a4.prods), (87, i6 a5), (88, i6 v1), (125, (.sl 18 (gnz x2.right) 6 0 x2.right.length))], [bG a4, yS0, yP0, yF0, yW0, cG 1 0 0 2 0 0 0 3 0 0 4 0 0, yB0, .cells 83 [ls 1 eBool a6], yS a7 a8, yP v2 v3, yF0, yW0, cG 8 a7 a9 9 v2 v4 a10 10 0 0 11 0 0, yI 0 a11, yI 0 ((v5.set x3 (-1)).set x3 ((v4 : Nat) : Int)), yY0, .cells 46 [i6 x11, (.sl 18 (gnz x2.right) 6 0 x2.right.length), vs x2.cons, i6 x2.role, vb x2.prefer, vb x2.avoid, i6 x2.frm], yY0, yY (gnz x2.right) x13_0]⟩
abbrev L24_3_d3 (v2 : Nat) (v3 : List ProdD) (v4 : Nat) (v5 : List Int) (x3 : Nat) (x11 : Int) (x2 : ProdD) (x13_0 : List SymD) : List AB := [bG a4, yS0, yP0, yF0, yW0, cG 1 0 0 2 0 0 0 3 0 0 4 0 0, yB0, .cells 83 [ls 1 eBool a6], yS a7 a8, yP v2 v3, yF0, yW0, cG 8 a7 a9 9 v2 v4 a10 10 0 0 11 0 0, yI 0 a11, yI 0 ((v5.set x3 (-1)).set x3 ((v4 : Nat) : Int)), yY0, .cells 46 [i6 x11, (.sl 18 (gnz x2.right) 6 0 x2.right.length), vs x2.cons, i6 x2.role, vb x2.prefer, vb x2.avoid, i6 x2.frm], yY0, yY (gnz x2.right) x13_0, .row 46 7 0 [[i6 x11, (.sl 18 (gnz x2.right) 6 0 x2.right.length), vs x2.cons, i6 x2.role, vb x2.prefer, vb x2.avoid, i6 x2.frm]]]
abbrev L24_3_d4 (v2 : Nat) (v3 : List ProdD) (v4 : Nat) (x11 : Int) (x2 : ProdD) (v5 : List Int) (x3 : Nat) (x13_0 : List SymD) : List AB := [bG a4, yS0, yP0, yF0, yW0, cG 1 0 0 2 0 0 0 3 0 0 4 0 0, yB0, .cells 83 [ls 1 eBool a6], yS a7 a8, .row 46 7 v2 (splice (ra eProd v3) v4 [[i6 x11, (.sl 18 (gnz x2.right) 6 0 x2.right.length), vs x2.cons, i6 x2.role, vb x2.prefer, vb x2.avoid, i6 x2.frm]]), yF0, yW0, cG 8 a7 a9 9 v2 v4 a10 10 0 0 11 0 0, yI 0 a11, yI 0 ((v5.set x3 (-1)).set x3 ((v4 : Nat) : Int)), yY0, .cells 46 [i6 x11, (.sl 18 (gnz x2.right) 6 0 x2.right.length), vs x2.cons, i6 x2.role, vb x2.prefer, vb x2.avoid, i6 x2.frm], yY0, yY (gnz x2.right) x13_0, .row 46 7 0 [[i6 x11, (.sl 18 (gnz x2.right) 6 0 x2.right.length), vs x2.cons, i6 x2.role, vb x2.prefer, vb x2.avoid, i6 x2.frm]]]
abbrev L24_3_d5 (v2 : Nat) (v3 : List ProdD) (v4 : Nat) (x11 : Int) (x13_0 : List SymD) (x2 : ProdD) (v5 : List Int) (x3 : Nat) : List AB := [bG a4, yS0, yP0, yF0, yW0, cG 1 0 0 2 0 0 0 3 0 0 4 0 0, yB0, .cells 83 [ls 1 eBool a6], yS a7 a8, yP v2 (splice v3 v4 [(⟨x11, x13_0.take x2.right.length, x2.cons, x2.role, x2.prefer, x2.avoid, x2.frm⟩ : ProdD)]), yF0, yW0, .cells 27 [.sl 8 a7 1 0 a9, (.sl 9 v2 7 0 (v4 + 1)), i6 a10, .sl 10 0 3 0 0, .sl 11 0 5 0 0], yI 0 a11, yI 0 ((v5.set x3 (-1)).set x3 ((v4 : Nat) : Int))]
abbrev L24_3_d6 (v2 : Nat) (v3 : List ProdD) (v4 : Nat) (x11 : Int) (x2 : ProdD) (v5 : List Int) (x3 : Nat) (x13_0 : List SymD) : List AB := [bG a4, yS0, yP0, yF0, yW0, cG 1 0 0 2 0 0 0 3 0 0 4 0 0, yB0, .cells 83 [ls 1 eBool a6], yS a7 a8, .row 46 7 (v2 + 1) ((ra eProd v3).take v4 ++ [[i6 x11, (.sl 18 (gnz x2.right) 6 0 x2.right.length), vs x2.cons, i6 x2.role, vb x2.prefer, vb x2.avoid, i6 x2.frm]]), yF0, yW0, cG 8 a7 a9 9 v2 v4 a10 10 0 0 11 0 0, yI 0 a11, yI 0 ((v5.set x3 (-1)).set x3 ((v4 : Nat) : Int)), yY0, .cells 46 [i6 x11, (.sl 18 (gnz x2.right) 6 0 x2.right.length), vs x2.cons, i6 x2.role, vb x2.prefer, vb x2.avoid, i6 x2.frm], yY0, yY (gnz x2.right) x13_0, .row 46 7 0 [[i6 x11, (.sl 18 (gnz x2.right) 6 0 x2.right.length), vs x2.cons, i6 x2.role, vb x2.prefer, vb x2.avoid, i6 x2.frm]]]
abbrev L24_3_d7 (v2 : Nat) (v3 : List ProdD) (v4 : Nat) (x11 : Int) (x13_0 : List SymD) (x2 : ProdD) (v5 : List Int) (x3 : Nat) : List AB := [bG a4, yS0, yP0, yF0, yW0, cG 1 0 0 2 0 0 0 3 0 0 4 0 0, yB0, .cells 83 [ls 1 eBool a6], yS a7 a8, yP (v2 + 1) (v3.take v4 ++ [(⟨x11, x13_0.take x2.right.length, x2.cons, x2.role, x2.prefer, x2.avoid, x2.frm⟩ : ProdD)]), yF0, yW0, .cells 27 [.sl 8 a7 1 0 a9, (.sl 9 (v2 + 1) 7 0 (v4 + 1)), i6 a10, .sl 10 0 3 0 0, .sl 11 0 5 0 0], yI 0 a11, yI 0 ((v5.set x3 (-1)).set x3 ((v4 : Nat) : Int))]
abbrev L24_3_c0 (v2 : Nat) (v3 : List ProdD) (v4 : Nat) (v5 : List Int) (x3 : Nat) (x2 : ProdD) : List (Nat × Hint) := [(1095, .r ud (L24_3_d0 a4 a6 a7 a8 a9 a10 a11 v2 v3 v4 v5 x3 x2))]
abbrev L24_3_c1 (v2 : Nat) (v3 : List ProdD) (v4 : Nat) (v5 : List Int) (x3 : Nat) (x2 : ProdD) : List (Nat × Hint) := [(1113, .r ud (L24_3_d1 a4 a6 a7 a8 a9 a10 a11 v2 v3 v4 v5 x3 x2))]
abbrev L24_3_c2 (x2 : ProdD) : List (Nat × Hint) := [(121, .r (.sl 18 (gnz x2.right) 6 0 x2.right.length) [yY0, yY (gnz x2.right) x2.right])]
abbrev L24_3_c3 (g13 : Nat → AV) (v1 : Int) (x2 : ProdD) (v2 : Nat) (v3 : List ProdD) (v4 : Nat) (v5 : List Int) (x3 : Nat) (x11 : Int) (x13_0 : List SymD) : List (Nat × Hint) := [(2004, .l (.brk 4) (L24_3_d2 a1 a2 a3 a4 a5 a6 a7 a8 a9 a10 a11 g13 v1 x2 v2 v3 v4 v5 x3 x11 x13_0))]
abbrev L24_3_c4 (v2 v4 : Nat) (v3 : List ProdD) (x11 : Int) (x2 : ProdD) (v5 : List Int) (x3 : Nat) (x13_0 : List SymD) : List (Nat × Hint) := [(150, .r (.sl 9 v2 7 0 (v4 + 1)) (L24_3_d4 a4 a6 a7 a8 a9 a10 a11 v2 v3 v4 x11 x2 v5 x3 x13_0))]
abbrev L24_3_c5 (v2 v4 : Nat) (v3 : List ProdD) (x11 : Int) (x2 : ProdD) (v5 : List Int) (x3 : Nat) (x13_0 : List SymD) : List (Nat × Hint) := [(150, .r (.sl 9 (v2 + 1) 7 0 (v4 + 1)) (L24_3_d6 a4 a6 a7 a8 a9 a10 a11 v2 v3 v4 x11 x2 v5 x3 x13_0))]
theorem L24_3_ok (v1 : Int) (v2 : Nat) (v3 : List ProdD) (v4 : Nat) (v5 : List Int) {r : E_L24_3 ⊕ (Int × Nat × (List ProdD) × Nat × (List Int))} (h : L24_3 a1 a2 a3 a4 a5 a6 a11 v1 v2 v3 v4 v5 = some r) : OkR (fun e => L24_3_x a1 a2 a3 a4 a6 a7 a8 a9 a10 a11 e (L24_3_e a1 a2 a3 a4 a5 a6 a7 a8 a9 a10 a11 v1 v2 v3 v4 v5)) (fun s => L24_3_e a1 a2 a3 a4 a5 a6 a7 a8 a9 a10 a11 v1 v2 v3 v4 v5 = L24_3_e a1 a2 a3 a4 a5 a6 a7 a8 a9 a10 a11 s.1 s.2.1 s.2.2.1 s.2.2.2.1 s.2.2.2.2) r := by
 unfold L24_3 at h
 refine bi h ?_ ?_ <;> intro h1 h
 ·
  refine bn h fun x2 h2 h => ?_
  refine bn h fun x3 h3 h => ?_
  have q2 := ((idx_sl h3) : idxA 1 (.sl 14 0 1 0 a3) (i6 v1) = some (.rp 14 0 1 x3 0))
  refine bn h fun x4 h4 h => ?_
  have q3 := (⟨st_row (v' := (-1)) rfl h4 rfl rfl (Nat.le_of_ble_eq_true rfl) rfl, rfl⟩ : stA [bG a4, yS0, yP0, yF0, yW0, cG 1 0 0 2 0 0 0 3 0 0 4 0 0, yB0, .cells 83 [ls 1 eBool a6], yS a7 a8, yP v2 v3, yF0, yW0, cG 8 a7 a9 9 v2 v4 a10 10 0 0 11 0 0, yI 0 a11, yI 0 v5, yY0, bP x2] 1 (.rp 14 0 1 x3 0) (i6 (-1)) = some (L24_3_d0 a4 a6 a7 a8 a9 a10 a11 v2 v3 v4 v5 x3 x2) ∧ ud = ud)
  refine bn h fun x5 h5 h => ?_
  refine bi h ?_ ?_ <;> intro h6 h
  ·
   refine bn h fun x7 h7 h => ?_
   refine bi h ?_ ?_ <;> intro h8 h
   ·
    have q6 := ((((F53_3_ok x2 a6 h7).own rfl (purAs_cons rfl (purAs_cons (purA_ptr rfl (mapO_con rfl rfl)) purAs_nil)) rfl).trans (congrArg (fun z => some (vb z)) h8)) : CP prg 53 [aP x2, .ptr 7 0] (L24_3_d0 a4 a6 a7 a8 a9 a10 a11 v2 v3 v4 v5 x3 x2) = some (vb true))
    have q7 := ((idx_sl h3) : idxA 1 (.sl 14 0 1 0 a3) (i6 v1) = some (.rp 14 0 1 x3 0))
    refine bn h fun x9 h9 h => ?_
    have q8 := (⟨st_row (v' := ((v4 : Nat) : Int)) rfl h9 rfl rfl (Nat.le_of_ble_eq_true rfl) rfl, rfl⟩ : stA (L24_3_d0 a4 a6 a7 a8 a9 a10 a11 v2 v3 v4 v5 x3 x2) 1 (.rp 14 0 1 x3 0) (i6 ((v4 : Nat) : Int)) = some (L24_3_d1 a4 a6 a7 a8 a9 a10 a11 v2 v3 v4 v5 x3 x2) ∧ ud = ud)
    refine bn h fun x10 h10 h => ?_
    have q9 := ((idx_sl h10) : idxA 1 (.sl 13 0 1 0 a2) (i6 x2.left) = some (.rp 13 0 1 x10 0))
    refine bn h fun x11 h11 h => ?_
    have q10 := ((ld_row rfl h11 rfl) : ldA [bG a4, yS0, yP0, yF0, yW0, cG 1 0 0 2 0 0 0 3 0 0 4 0 0, yB0, .cells 83 [ls 1 eBool a6], yS a7 a8, yP v2 v3, yF0, yW0, cG 8 a7 a9 9 v2 v4 a10 10 0 0 11 0 0, yI 0 a11, yI 0 ((v5.set x3 (-1)).set x3 ((v4 : Nat) : Int)), yY0, bP x2, .hole, .hole] .false 1 (.rp 13 0 1 x10 0) = some (i6 x11))
    refine bi h ?_ ?_ <;> intro h12 h
    ·
     have q11 := ((xA_cl (e := eSym) (xs := x2.right) rfl (fun _ _ => rfl) h12) : xA prg 56 [ls 6 eSym x2.right] 1 17 = some ((.sl 18 (gnz x2.right) 6 0 x2.right.length), [yY0, yY (gnz x2.right) x2.right]))
     refine bn h fun r13 h13 h => ?_
     cases r13 with
     | k0 x13_0 =>
      obtain ⟨g13, e13⟩ := L24_2_3_run a1 a2 a3 a4 a5 v1 (gnz x2.right) x2.right.length ((x2.right.length : Nat) : Int) a6 a7 a8 v2 v3 a9 v4 a10 a11 ((v5.set x3 (-1)).set x3 ((v4 : Nat) : Int)) x11 x2 (0, x2.right) _ h13
      have q12 := ((oK (ac (ar (ar (ar (ar (ac (ar (ac (ar (ar (ar (ar (ac (ar (ar (ar (ac (ar (ar rfl)))))))))))))))))))) : okT 19 [bG a4, yS0, yP0, yF0, yW0, cG 1 0 0 2 0 0 0 3 0 0 4 0 0, yB0, .cells 83 [ls 1 eBool a6], yS a7 a8, yP v2 v3, yF0, yW0, cG 8 a7 a9 9 v2 v4 a10 10 0 0 11 0 0, yI 0 a11, yI 0 ((v5.set x3 (-1)).set x3 ((v4 : Nat) : Int)), yY0, .cells 46 [i6 x11, (.sl 18 (gnz x2.right) 6 0 x2.right.length), vs x2.cons, i6 x2.role, vb x2.prefer, vb x2.avoid, i6 x2.frm], yY0, yY (gnz x2.right) x2.right] = true)
      have q13 := (e13 : L24_2_3_e a1 a2 a3 a4 a5 v1 (gnz x2.right) x2.right.length ((x2.right.length : Nat) : Int) a6 a7 a8 v2 v3 a9 v4 a10 a11 ((v5.set x3 (-1)).set x3 ((v4 : Nat) : Int)) x11 x2 0 x2.right = some ((.brk 4), L24_3_d2 a1 a2 a3 a4 a5 a6 a7 a8 a9 a10 a11 g13 v1 x2 v2 v3 v4 v5 x3 x11 x13_0))
      refine bi h ?_ ?_ <;> intro h14 h
      ·
       refine bi h ?_ ?_ <;> intro h15 h
       ·
        have q14 := ((ap_pin (e := eProd) (xs := v3) (cs := [i6 x11, (.sl 18 (gnz x2.right) 6 0 x2.right.length), vs x2.cons, i6 x2.role, vb x2.prefer, vb x2.avoid, i6 x2.frm]) rfl rfl h14 h15) : appA (L24_3_d3 a4 a6 a7 a8 a9 a10 a11 v2 v3 v4 v5 x3 x11 x2 x13_0) 46 7 72 (.sl 9 v2 7 0 v4) (.sl 19 0 7 0 1) = some ((.sl 9 v2 7 0 (v4 + 1)), L24_3_d4 a4 a6 a7 a8 a9 a10 a11 v2 v3 v4 x11 x2 v5 x3 x13_0))
        refine bi h ?_ ?_ <;> intro h16 h
        ·
         rw [← sj h]
         exact rnd ([(89, .d true), (91, .v (.ro (eProd x2))), (95, .v (.rp 14 0 1 x3 0))] ++ ((L24_3_c0 a4 a6 a7 a8 a9 a10 a11 v2 v3 v4 v5 x3 x2) ++ ([(99, .v (.ro [.val (.bool x5)])), (100, .d true), (105, .v (vb true)), (113, .v (.rp 14 0 1 x3 0))] ++ ((L24_3_c1 a4 a6 a7 a8 a9 a10 a11 v2 v3 v4 v5 x3 x2) ++ ([(117, .v (.rp 13 0 1 x10 0)), (118, .v (i6 x11))] ++ ((L24_3_c2 x2) ++ ((L24_3_c3 a1 a2 a3 a4 a5 a6 a7 a8 a9 a10 a11 g13 v1 x2 v2 v3 v4 v5 x3 x11 x13_0) ++ ((L24_3_c4 a4 a6 a7 a8 a9 a10 a11 v2 v4 v3 x11 x2 v5 x3 x13_0) ++ [(6000, .d true), (6001, .r ud (L24_3_d5 a4 a6 a7 a8 a9 a10 a11 v2 v3 v4 x11 x13_0 x2 v5 x3))])))))))) (av h1 (apc (ig eProd 7 .i64 h2) (apc q2 (apc q3 (apc (ig eBool 1 .i64 h5) (av h6 (apc q6 (apc q7 (apc q8 (apc q9 (apc q10 (apc q11 (apc q12 (apc q13 (apc q14 (apc ((frz_of rfl (frz_same rfl (frz_same abl_row (frz_same abl_row (frz_same abl_row (frz_same abl_row (frz_same rfl (frz_same abl_row (frz_same rfl (frz_same abl_row (frz_con (frz_pin (e := eProd) (xs := v3) (w := (⟨x11, x13_0.take x2.right.length, x2.cons, x2.role, x2.prefer, x2.avoid, x2.frm⟩ : ProdD)) (fzc_p (fzc_s rfl (purP_sl (e := eSym) (xs := x13_0) rfl h16) (fzc_p (fzc_p (fzc_p (fzc_p (fzc_p fzc_nil)))))))) (frz_same abl_row (frz_same abl_row (frz_same rfl (frz_same abl_row (frz_same abl_row frz_nil)))))))))))))))) : frzT 15 [bG a4, yS0, yP0, yF0, yW0, cG 1 0 0 2 0 0 0 3 0 0 4 0 0, yB0, .cells 83 [ls 1 eBool a6], yS a7 a8, .row 46 7 v2 (splice (ra eProd v3) v4 [[i6 x11, (.sl 18 (gnz x2.right) 6 0 x2.right.length), vs x2.cons, i6 x2.role, vb x2.prefer, vb x2.avoid, i6 x2.frm]]), yF0, yW0, .cells 27 [.sl 8 a7 1 0 a9, (.sl 9 v2 7 0 (v4 + 1)), i6 a10, .sl 10 0 3 0 0, .sl 11 0 5 0 0], yI 0 a11, yI 0 ((v5.set x3 (-1)).set x3 ((v4 : Nat) : Int)), yY0, .cells 46 [i6 x11, (.sl 18 (gnz x2.right) 6 0 x2.right.length), vs x2.cons, i6 x2.role, vb x2.prefer, vb x2.avoid, i6 x2.frm], yY0, yY (gnz x2.right) x13_0, .row 46 7 0 [[i6 x11, (.sl 18 (gnz x2.right) 6 0 x2.right.length), vs x2.cons, i6 x2.role, vb x2.prefer, vb x2.avoid, i6 x2.frm]]] = some (L24_3_d5 a4 a6 a7 a8 a9 a10 a11 v2 v3 v4 x11 x13_0 x2 v5 x3)) apn)))))))))))))))) (by kernel_rfl)
        ·
         cases h
       ·
        have q14 := ((ap_pout (e := eProd) (xs := v3) (cs := [i6 x11, (.sl 18 (gnz x2.right) 6 0 x2.right.length), vs x2.cons, i6 x2.role, vb x2.prefer, vb x2.avoid, i6 x2.frm]) rfl rfl h14 h15) : appA (L24_3_d3 a4 a6 a7 a8 a9 a10 a11 v2 v3 v4 v5 x3 x11 x2 x13_0) 46 7 72 (.sl 9 v2 7 0 v4) (.sl 19 0 7 0 1) = some ((.sl 9 (v2 + 1) 7 0 (v4 + 1)), L24_3_d6 a4 a6 a7 a8 a9 a10 a11 v2 v3 v4 x11 x2 v5 x3 x13_0))
        refine bi h ?_ ?_ <;> intro h16 h
        ·
         rw [← sj h]
         exact rnd ([(89, .d true), (91, .v (.ro (eProd x2))), (95, .v (.rp 14 0 1 x3 0))] ++ ((L24_3_c0 a4 a6 a7 a8 a9 a10 a11 v2 v3 v4 v5 x3 x2) ++ ([(99, .v (.ro [.val (.bool x5)])), (100, .d true), (105, .v (vb true)), (113, .v (.rp 14 0 1 x3 0))] ++ ((L24_3_c1 a4 a6 a7 a8 a9 a10 a11 v2 v3 v4 v5 x3 x2) ++ ([(117, .v (.rp 13 0 1 x10 0)), (118, .v (i6 x11))] ++ ((L24_3_c2 x2) ++ ((L24_3_c3 a1 a2 a3 a4 a5 a6 a7 a8 a9 a10 a11 g13 v1 x2 v2 v3 v4 v5 x3 x11 x13_0) ++ ((L24_3_c5 a4 a6 a7 a8 a9 a10 a11 v2 v4 v3 x11 x2 v5 x3 x13_0) ++ [(6000, .d true), (6001, .r ud (L24_3_d7 a4 a6 a7 a8 a9 a10 a11 v2 v3 v4 x11 x13_0 x2 v5 x3))])))))))) (av h1 (apc (ig eProd 7 .i64 h2) (apc q2 (apc q3 (apc (ig eBool 1 .i64 h5) (av h6 (apc q6 (apc q7 (apc q8 (apc q9 (apc q10 (apc q11 (apc q12 (apc q13 (apc q14 (apc ((frz_of rfl (frz_same rfl (frz_same abl_row (frz_same abl_row (frz_same abl_row (frz_same abl_row (frz_same rfl (frz_same abl_row (frz_same rfl (frz_same abl_row (frz_con (frz_pout (e := eProd) (xs := v3) (w := (⟨x11, x13_0.take x2.right.length, x2.cons, x2.role, x2.prefer, x2.avoid, x2.frm⟩ : ProdD)) (fzc_p (fzc_s rfl (purP_sl (e := eSym) (xs := x13_0) rfl h16) (fzc_p (fzc_p (fzc_p (fzc_p (fzc_p fzc_nil)))))))) (frz_same abl_row (frz_same abl_row (frz_same rfl (frz_same abl_row (frz_same abl_row frz_nil)))))))))))))))) : frzT 15 [bG a4, yS0, yP0, yF0, yW0, cG 1 0 0 2 0 0 0 3 0 0 4 0 0, yB0, .cells 83 [ls 1 eBool a6], yS a7 a8, .row 46 7 (v2 + 1) ((ra eProd v3).take v4 ++ [[i6 x11, (.sl 18 (gnz x2.right) 6 0 x2.right.length), vs x2.cons, i6 x2.role, vb x2.prefer, vb x2.avoid, i6 x2.frm]]), yF0, yW0, .cells 27 [.sl 8 a7 1 0 a9, (.sl 9 (v2 + 1) 7 0 (v4 + 1)), i6 a10, .sl 10 0 3 0 0, .sl 11 0 5 0 0], yI 0 a11, yI 0 ((v5.set x3 (-1)).set x3 ((v4 : Nat) : Int)), yY0, .cells 46 [i6 x11, (.sl 18 (gnz x2.right) 6 0 x2.right.length), vs x2.cons, i6 x2.role, vb x2.prefer, vb x2.avoid, i6 x2.frm], yY0, yY (gnz x2.right) x13_0, .row 46 7 0 [[i6 x11, (.sl 18 (gnz x2.right) 6 0 x2.right.length), vs x2.cons, i6 x2.role, vb x2.prefer, vb x2.avoid, i6 x2.frm]]] = some (L24_3_d7 a4 a6 a7 a8 a9 a10 a11 v2 v3 v4 x11 x13_0 x2 v5 x3)) apn)))))))))))))))) (by kernel_rfl)
        ·
         cases h
      ·
       cases h
    ·
     cases h
   ·
    rw [← sj h]
    exact rnd ([(89, .d true), (91, .v (.ro (eProd x2))), (95, .v (.rp 14 0 1 x3 0))] ++ ((L24_3_c0 a4 a6 a7 a8 a9 a10 a11 v2 v3 v4 v5 x3 x2) ++ [(99, .v (.ro [.val (.bool x5)])), (100, .d true), (105, .v (vb false)), (6000, .d true)])) (av h1 (apc (ig eProd 7 .i64 h2) (apc q2 (apc q3 (apc (ig eBool 1 .i64 h5) (av h6 (apc ((((F53_3_ok x2 a6 h7).own rfl (purAs_cons rfl (purAs_cons (purA_ptr rfl (mapO_con rfl rfl)) purAs_nil)) rfl).trans (congrArg (fun z => some (vb z)) h8)) : CP prg 53 [aP x2, .ptr 7 0] (L24_3_d0 a4 a6 a7 a8 a9 a10 a11 v2 v3 v4 v5 x3 x2) = some (vb false)) (apc ((oK (ac (ar (ar (ar (ar (ac (ar (ac (ar (ar (ar (ar (ac (ar (ar rfl)))))))))))))))) : okT 15 (L24_3_d0 a4 a6 a7 a8 a9 a10 a11 v2 v3 v4 v5 x3 x2) = true) apn)))))))) (by kernel_rfl)
  ·
   rw [← sj h]
   exact rnd ([(89, .d true), (91, .v (.ro (eProd x2))), (95, .v (.rp 14 0 1 x3 0))] ++ ((L24_3_c0 a4 a6 a7 a8 a9 a10 a11 v2 v3 v4 v5 x3 x2) ++ [(99, .v (.ro [.val (.bool x5)])), (100, .d false), (6000, .d true)])) (av h1 (apc (ig eProd 7 .i64 h2) (apc q2 (apc q3 (apc (ig eBool 1 .i64 h5) (av h6 (apc ((oK (ac (ar (ar (ar (ar (ac (ar (ac (ar (ar (ar (ar (ac (ar (ar rfl)))))))))))))))) : okT 15 (L24_3_d0 a4 a6 a7 a8 a9 a10 a11 v2 v3 v4 v5 x3 x2) = true) apn))))))) (by kernel_rfl)
 ·
  rw [← sj h]
  exact xbrk [(89, .d false), (6000, .d true)] (av h1 apn) (by kernel_rfl)
theorem L24_3_run (s0 : Int × Nat × (List ProdD) × Nat × (List Int)) (e : E_L24_3) (h : runL (fun s => L24_3 a1 a2 a3 a4 a5 a6 a11 s.1 s.2.1 s.2.2.1 s.2.2.2.1 s.2.2.2.2) s0 = some e) : L24_3_x a1 a2 a3 a4 a6 a7 a8 a9 a10 a11 e (L24_3_e a1 a2 a3 a4 a5 a6 a7 a8 a9 a10 a11 s0.1 s0.2.1 s0.2.2.1 s0.2.2.2.1 s0.2.2.2.2) := by
  have q := @loop_sound' (Int × Nat × (List ProdD) × Nat × (List Int)) E_L24_3 (fun s => L24_3 a1 a2 a3 a4 a5 a6 a11 s.1 s.2.1 s.2.2.1 s.2.2.2.1 s.2.2.2.2) (fun s => L24_3_e a1 a2 a3 a4 a5 a6 a7 a8 a9 a10 a11 s.1 s.2.1 s.2.2.1 s.2.2.2.1 s.2.2.2.2) (L24_3_x a1 a2 a3 a4 a6 a7 a8 a9 a10 a11) (fun s r h => L24_3_ok a1 a2 a3 a4 a5 a6 a7 a8 a9 a10 a11 s.1 s.2.1 s.2.2.1 s.2.2.2.1 s.2.2.2.2 h) s0 e h
  exact q
end
inductive E_L24_1_2 where
  | k0 (x0 : Nat) (x1 : List ForbD) (x2 : Nat)
section
variable (a1 a2 : Nat) (a3 : GramD) (a4 : Int) (a5 : List Bool) (a6 : Nat) (a7 : List ByteArray) (a8 : Nat) (a9 : List ProdD) (a10 a11 : Nat) (a12 : Int) (a13 a14 : List Int)
def L24_1_2 (v1 : Int) (v2 : Nat) (v3 : List ForbD) (v4 : Nat) : Option (E_L24_1_2 ⊕ (Int × Nat × (List ForbD) × Nat)) :=
  (bif (decide (v1 < a4)) then ((getI a3.forbid v1).bind fun x2 => ((ixN a2 x2.parent).bind fun x3 => ((a14[x3]?).bind fun x4 => ((ixN a2 x2.child).bind fun x5 => ((a14[x5]?).bind fun x6 => (bif (decide (x4 ≥ 0)) then (bif (decide (x6 ≥ 0)) then (bif (apOk v4 1 v3.length 24) then (bif (decide (v4 + 1 ≤ v3.length)) then (some (.inr ((IntKind.wrap .i64 (v1 + 1)), v2, (splice v3 v4 [(⟨x4, x2.at_, x6⟩ : ForbD)]), v4 + 1))) else (some (.inr ((IntKind.wrap .i64 (v1 + 1)), v2 + 1, (v3.take v4 ++ [(⟨x4, x2.at_, x6⟩ : ForbD)]), v4 + 1)))) else none) else (some (.inr ((IntKind.wrap .i64 (v1 + 1)), v2, v3, v4)))) else (some (.inr ((IntKind.wrap .i64 (v1 + 1)), v2, v3, v4))))))))) else (some (.inl (.k0 v2 v3 v4))))
def L24_1_2_s (v1 : Int) (v2 : Nat) (v3 : List ForbD) (v4 : Nat) : St := ⟨fr 212 ug [(1, .ptr 0 0), (2, .ptr 5 0), (8, .ptr 12 0), (9, .sl 13 0 1 0 a1), (10, .sl 14 0 1 0 a2), (154, ls 3 eForb a3.forbid), (155, i6 a4), (156, i6 v1)], [bG a3, yS0, yP0, yF0, yW0, cG 1 0 0 2 0 0 0 3 0 0 4 0 0, yB0, .cells 83 [ls 1 eBool a5], yS a6 a7, yP a8 a9, yF v2 v3, yW0, cG 8 a6 a10 9 a8 a11 a12 10 v2 v4 11 0 0, yI 0 a13, yI 0 a14]⟩
abbrev L24_1_2_e (v1 : Int) (v2 : Nat) (v3 : List ForbD) (v4 : Nat) := evH prg 15 [1, 2, 8, 9, 10, 154, 155, 156] ir24_l1 (L24_1_2_s a1 a2 a3 a4 a5 a6 a7 a8 a9 a10 a11 a12 a13 a14 v1 v2 v3 v4)
def L24_1_2_x (e : E_L24_1_2) (r : Option (Out × St)) : Prop := match e with | .k0 x0 x1 x2 => ∃ g, r = some ((.brk 6), ⟨fr 212 g [(1, .ptr 0 0), (2, .ptr 5 0), (8, .ptr 12 0), (9, .sl 13 0 1 0 a1), (10, .sl 14 0 1 0 a2), (154, ls 3 eForb a3.forbid)], [bG a3, yS0, yP0, yF0, yW0, cG 1 0 0 2 0 0 0 3 0 0 4 0 0, yB0, .cells 83 [ls 1 eBool a5], yS a6 a7, yP a8 a9, yF x0 x1, yW0, cG 8 a6 a10 9 a8 a11 a12 10 x0 x2 11 0 0, yI 0 a13, yI 0 a14]⟩)
abbrev L24_1_2_d0 (v2 : Nat) (v3 : List ForbD) (v4 : Nat) (x2 : ForbD) : List AB := [bG a3, yS0, yP0, yF0, yW0, cG 1 0 0 2 0 0 0 3 0 0 4 0 0, yB0, .cells 83 [ls 1 eBool a5], yS a6 a7, yP a8 a9, yF v2 v3, yW0, cG 8 a6 a10 9 a8 a11 a12 10 v2 v4 11 0 0, yI 0 a13, yI 0 a14, .cells 78 ((eForb x2).map .p)]
abbrev L24_1_2_d1 (v2 : Nat) (v3 : List ForbD) (v4 : Nat) (x4 : Int) (x2 : ForbD) (x6 : Int) : List AB := [bG a3, yS0, yP0, yF0, yW0, cG 1 0 0 2 0 0 0 3 0 0 4 0 0, yB0, .cells 83 [ls 1 eBool a5], yS a6 a7, yP a8 a9, yF v2 (splice v3 v4 [(⟨x4, x2.at_, x6⟩ : ForbD)]), yW0, cG 8 a6 a10 9 a8 a11 a12 10 v2 v4 11 0 0, yI 0 a13, yI 0 a14, .cells 78 ((eForb x2).map .p), .row 78 3 0 [[i6 x4, i6 x2.at_, i6 x6]]]
abbrev L24_1_2_d2 (v2 : Nat) (v3 : List ForbD) (v4 : Nat) (x2 : ForbD) (x4 x6 : Int) : List AB := [bG a3, yS0, yP0, yF0, yW0, cG 1 0 0 2 0 0 0 3 0 0 4 0 0, yB0, .cells 83 [ls 1 eBool a5], yS a6 a7, yP a8 a9, yF v2 v3, yW0, cG 8 a6 a10 9 a8 a11 a12 10 v2 v4 11 0 0, yI 0 a13, yI 0 a14, .cells 78 ((eForb x2).map .p), .row 78 3 0 [[i6 x4, i6 x2.at_, i6 x6]]]
abbrev L24_1_2_d3 (v2 : Nat) (v3 : List ForbD) (v4 : Nat) (x4 : Int) (x2 : ForbD) (x6 : Int) : List AB := [bG a3, yS0, yP0, yF0, yW0, cG 1 0 0 2 0 0 0 3 0 0 4 0 0, yB0, .cells 83 [ls 1 eBool a5], yS a6 a7, yP a8 a9, yF (v2 + 1) (v3.take v4 ++ [(⟨x4, x2.at_, x6⟩ : ForbD)]), yW0, cG 8 a6 a10 9 a8 a11 a12 10 v2 v4 11 0 0, yI 0 a13, yI 0 a14, .cells 78 ((eForb x2).map .p), .row 78 3 0 [[i6 x4, i6 x2.at_, i6 x6]]]
theorem L24_1_2_ok (v1 : Int) (v2 : Nat) (v3 : List ForbD) (v4 : Nat) {r : E_L24_1_2 ⊕ (Int × Nat × (List ForbD) × Nat)} (h : L24_1_2 a2 a3 a4 a14 v1 v2 v3 v4 = some r) : OkR (fun e => L24_1_2_x a1 a2 a3 a5 a6 a7 a8 a9 a10 a11 a12 a13 a14 e (L24_1_2_e a1 a2 a3 a4 a5 a6 a7 a8 a9 a10 a11 a12 a13 a14 v1 v2 v3 v4)) (fun s => L24_1_2_e a1 a2 a3 a4 a5 a6 a7 a8 a9 a10 a11 a12 a13 a14 v1 v2 v3 v4 = L24_1_2_e a1 a2 a3 a4 a5 a6 a7 a8 a9 a10 a11 a12 a13 a14 s.1 s.2.1 s.2.2.1 s.2.2.2) r := by
 unfold L24_1_2 at h
 refine bi h ?_ ?_ <;> intro h1 h
 ·
  refine bn h fun x2 h2 h => ?_
  refine bn h fun x3 h3 h => ?_
  have q2 := ((idx_sl h3) : idxA 1 (.sl 14 0 1 0 a2) (i6 x2.parent) = some (.rp 14 0 1 x3 0))
  refine bn h fun x4 h4 h => ?_
  have q3 := ((ld_row rfl h4 rfl) : ldA (L24_1_2_d0 a3 a5 a6 a7 a8 a9 a10 a11 a12 a13 a14 v2 v3 v4 x2) .false 1 (.rp 14 0 1 x3 0) = some (i6 x4))
  refine bn h fun x5 h5 h => ?_
  have q4 := ((idx_sl h5) : idxA 1 (.sl 14 0 1 0 a2) (i6 x2.child) = some (.rp 14 0 1 x5 0))
  refine bn h fun x6 h6 h => ?_
  have q5 := ((ld_row rfl h6 rfl) : ldA (L24_1_2_d0 a3 a5 a6 a7 a8 a9 a10 a11 a12 a13 a14 v2 v3 v4 x2) .false 1 (.rp 14 0 1 x5 0) = some (i6 x6))
  refine bi h ?_ ?_ <;> intro h7 h
  ·
   refine bi h ?_ ?_ <;> intro h8 h
   ·
    refine bi h ?_ ?_ <;> intro h9 h
    ·
     refine bi h ?_ ?_ <;> intro h10 h
     ·
      rw [← sj h]
      exact rnd [(157, .d true), (158, .v (.ro (eForb x2))), (163, .v (.rp 14 0 1 x3 0)), (164, .v (i6 x4)), (168, .v (.rp 14 0 1 x5 0)), (169, .v (i6 x6)), (171, .d true), (174, .d true), (184, .r (.sl 10 v2 3 0 (v4 + 1)) (L24_1_2_d1 a3 a5 a6 a7 a8 a9 a10 a11 a12 a13 a14 v2 v3 v4 x4 x2 x6)), (6000, .d true)] (av h1 (apc (ig eForb 3 .i64 h2) (apc q2 (apc q3 (apc q4 (apc q5 (av h7 (av h8 (apc ((ap_in (e := eForb) (xs := v3) (news := [(⟨x4, x2.at_, x6⟩ : ForbD)]) rfl (rows_x (e := eForb) (xs := [(⟨x4, x2.at_, x6⟩ : ForbD)]) rfl) rfl h9 h10) : appA (L24_1_2_d2 a3 a5 a6 a7 a8 a9 a10 a11 a12 a13 a14 v2 v3 v4 x2 x4 x6) 78 3 24 (.sl 10 v2 3 0 v4) (.sl 16 0 3 0 1) = some ((.sl 10 v2 3 0 (v4 + 1)), L24_1_2_d1 a3 a5 a6 a7 a8 a9 a10 a11 a12 a13 a14 v2 v3 v4 x4 x2 x6)) (apc ((oK (ac (ar (ar (ar (ar (ac (ar (ac (ar (ar (ar (ar (ac (ar (ar rfl)))))))))))))))) : okT 15 [bG a3, yS0, yP0, yF0, yW0, cG 1 0 0 2 0 0 0 3 0 0 4 0 0, yB0, .cells 83 [ls 1 eBool a5], yS a6 a7, yP a8 a9, yF v2 (splice v3 v4 [(⟨x4, x2.at_, x6⟩ : ForbD)]), yW0, .cells 27 [.sl 8 a6 1 0 a10, .sl 9 a8 7 0 a11, i6 a12, (.sl 10 v2 3 0 (v4 + 1)), .sl 11 0 5 0 0], yI 0 a13, yI 0 a14, .cells 78 ((eForb x2).map .p), .row 78 3 0 [[i6 x4, i6 x2.at_, i6 x6]]] = true) apn)))))))))) (by kernel_rfl)
     ·
      rw [← sj h]
      exact rnd [(157, .d true), (158, .v (.ro (eForb x2))), (163, .v (.rp 14 0 1 x3 0)), (164, .v (i6 x4)), (168, .v (.rp 14 0 1 x5 0)), (169, .v (i6 x6)), (171, .d true), (174, .d true), (184, .r (.sl 10 (v2 + 1) 3 0 (v4 + 1)) (L24_1_2_d3 a3 a5 a6 a7 a8 a9 a10 a11 a12 a13 a14 v2 v3 v4 x4 x2 x6)), (6000, .d true)] (av h1 (apc (ig eForb 3 .i64 h2) (apc q2 (apc q3 (apc q4 (apc q5 (av h7 (av h8 (apc ((ap_out (e := eForb) (xs := v3) (news := [(⟨x4, x2.at_, x6⟩ : ForbD)]) rfl (rows_x (e := eForb) (xs := [(⟨x4, x2.at_, x6⟩ : ForbD)]) rfl) rfl h9 h10) : appA (L24_1_2_d2 a3 a5 a6 a7 a8 a9 a10 a11 a12 a13 a14 v2 v3 v4 x2 x4 x6) 78 3 24 (.sl 10 v2 3 0 v4) (.sl 16 0 3 0 1) = some ((.sl 10 (v2 + 1) 3 0 (v4 + 1)), L24_1_2_d3 a3 a5 a6 a7 a8 a9 a10 a11 a12 a13 a14 v2 v3 v4 x4 x2 x6)) (apc ((oK (ac (ar (ar (ar (ar (ac (ar (ac (ar (ar (ar (ar (ac (ar (ar rfl)))))))))))))))) : okT 15 [bG a3, yS0, yP0, yF0, yW0, cG 1 0 0 2 0 0 0 3 0 0 4 0 0, yB0, .cells 83 [ls 1 eBool a5], yS a6 a7, yP a8 a9, yF (v2 + 1) (v3.take v4 ++ [(⟨x4, x2.at_, x6⟩ : ForbD)]), yW0, .cells 27 [.sl 8 a6 1 0 a10, .sl 9 a8 7 0 a11, i6 a12, (.sl 10 (v2 + 1) 3 0 (v4 + 1)), .sl 11 0 5 0 0], yI 0 a13, yI 0 a14, .cells 78 ((eForb x2).map .p), .row 78 3 0 [[i6 x4, i6 x2.at_, i6 x6]]] = true) apn)))))))))) (by kernel_rfl)
    ·
     cases h
   ·
    rw [← sj h]
    exact rnd [(157, .d true), (158, .v (.ro (eForb x2))), (163, .v (.rp 14 0 1 x3 0)), (164, .v (i6 x4)), (168, .v (.rp 14 0 1 x5 0)), (169, .v (i6 x6)), (171, .d true), (174, .d false), (6000, .d true)] (av h1 (apc (ig eForb 3 .i64 h2) (apc q2 (apc q3 (apc q4 (apc q5 (av h7 (av h8 (apc ((oK (ac (ar (ar (ar (ar (ac (ar (ac (ar (ar (ar (ar (ac (ar (ar rfl)))))))))))))))) : okT 15 (L24_1_2_d0 a3 a5 a6 a7 a8 a9 a10 a11 a12 a13 a14 v2 v3 v4 x2) = true) apn))))))))) (by kernel_rfl)
  ·
   rw [← sj h]
   exact rnd [(157, .d true), (158, .v (.ro (eForb x2))), (163, .v (.rp 14 0 1 x3 0)), (164, .v (i6 x4)), (168, .v (.rp 14 0 1 x5 0)), (169, .v (i6 x6)), (171, .d false), (6000, .d true)] (av h1 (apc (ig eForb 3 .i64 h2) (apc q2 (apc q3 (apc q4 (apc q5 (av h7 (apc ((oK (ac (ar (ar (ar (ar (ac (ar (ac (ar (ar (ar (ar (ac (ar (ar rfl)))))))))))))))) : okT 15 (L24_1_2_d0 a3 a5 a6 a7 a8 a9 a10 a11 a12 a13 a14 v2 v3 v4 x2) = true) apn)))))))) (by kernel_rfl)
 ·
  rw [← sj h]
  exact xbrk [(157, .d false), (6000, .d true)] (av h1 apn) (by kernel_rfl)
theorem L24_1_2_run (s0 : Int × Nat × (List ForbD) × Nat) (e : E_L24_1_2) (h : runL (fun s => L24_1_2 a2 a3 a4 a14 s.1 s.2.1 s.2.2.1 s.2.2.2) s0 = some e) : L24_1_2_x a1 a2 a3 a5 a6 a7 a8 a9 a10 a11 a12 a13 a14 e (L24_1_2_e a1 a2 a3 a4 a5 a6 a7 a8 a9 a10 a11 a12 a13 a14 s0.1 s0.2.1 s0.2.2.1 s0.2.2.2) := by
  have q := @loop_sound' (Int × Nat × (List ForbD) × Nat) E_L24_1_2 (fun s => L24_1_2 a2 a3 a4 a14 s.1 s.2.1 s.2.2.1 s.2.2.2) (fun s => L24_1_2_e a1 a2 a3 a4 a5 a6 a7 a8 a9 a10 a11 a12 a13 a14 s.1 s.2.1 s.2.2.1 s.2.2.2) (L24_1_2_x a1 a2 a3 a5 a6 a7 a8 a9 a10 a11 a12 a13 a14) (fun s r h => L24_1_2_ok a1 a2 a3 a4 a5 a6 a7 a8 a9 a10 a11 a12 a13 a14 s.1 s.2.1 s.2.2.1 s.2.2.2 h) s0 e h
  exact q
end
end
end Go.Proofs.Try
