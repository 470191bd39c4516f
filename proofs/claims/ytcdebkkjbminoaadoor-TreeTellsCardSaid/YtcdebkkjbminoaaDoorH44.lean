/- What the texts of TreeWalk and TreeTells stand on. -/
import Derived.Test.YtcdebkkjbminoaaDoorH43
import Derived.Test.YtcdebkkjbminoaaDoorT4
namespace Go.Proofs.Tryd
set_option linter.unusedSimpArgs false
set_option linter.unusedVariables false
set_option linter.unusedSectionVars false
set_option maxHeartbeats 4000000
open Go Go.Vs
noncomputable section
section
variable [ErC]
inductive R_F17 where
  | k0 (x0 x1 : Int) (x2 : List TreeX)
def F17_v (a1 : TreeD) (r : R_F17) : AV := match r with | .k0 x0 x1 x2 => (.agg [i6 x0, vi .u8 x1, (.p (.lsx 3 (eTreesX x2) [moreT]))])
abbrev T_F17 := TreeD → Option R_F17
abbrev H_F17 (f : T_F17) : Prop := ∀ (a1 : TreeD) {r : R_F17}, f a1 = some r → PR1 pg 17 [(.agg ((cT a1).map .p))] (F17_v a1 r)
inductive E_L17_0 where
  | k0 (x0 x1 : Nat) (x2 : List TreeX)
def L17_0 (rF17 : T_F17) (a1 : TreeD) (v1 v2 : Nat) (v3 : Int) (v4 : List TreeX) : Option (E_L17_0 ⊕ (Nat × Nat × Int × (List TreeX))) :=
  (bif (decide (v3 < (a1.kids.length : Int))) then ((getI a1.kids v3).bind fun x2 => ((rF17 x2).bind fun r3 => match r3 with | .k0 x3_0 x3_1 x3_2 => (bif (apOk v2 1 v4.length 40) then (bif (decide (v2 + 1 ≤ v4.length)) then (some (.inr (v1, v2 + 1, (IntKind.wrap .i64 (v3 + 1)), (splice v4 v2 [TreeD.mk x3_0 x3_1 x3_2])))) else (some (.inr ((v1 + 1), v2 + 1, (IntKind.wrap .i64 (v3 + 1)), (v4.take v2 ++ [TreeD.mk x3_0 x3_1 x3_2]))))) else none))) else (some (.inl (.k0 v1 v2 v4))))
def L17_0_s (a1 : TreeD) (v1 v2 : Nat) (v3 : Int) (v4 : List TreeX) : St := ⟨fr 31 ug [(1, .ptr 0 0), (2, .ptr 1 0), (3, .sl 2 v1 3 0 v2), (4, i6 v3)], [.cells 25 ((cT a1).map .p), .cells 25 [i6 0, vi .u8 0, n0], .row 25 3 v1 (ra cX v4)]⟩
theorem L17_0_k (a1 : TreeD) (v1 v2 : Nat) (v3 : Int) (v4 : List TreeX) : okT 3 (L17_0_s a1 v1 v2 v3 v4).h = true := (okT_of rfl (ac (ac (ar rfl))))
abbrev L17_0_e (a1 : TreeD) (v1 v2 : Nat) (v3 : Int) (v4 : List TreeX) := evH pg 3 [1, 2, 3, 4] ir17_l0 (L17_0_s a1 v1 v2 v3 v4)
def L17_0_x (a1 : TreeD) (e : E_L17_0) (r : Option (Out × St)) : Prop := match e with | .k0 x0 x1 x2 => ∃ g, r = some ((.brk 0), ⟨fr 31 g [(1, .ptr 0 0), (2, .ptr 1 0), (3, .sl 2 x0 3 0 x1)], [.cells 25 ((cT a1).map .p), .cells 25 [i6 0, vi .u8 0, n0], .row 25 3 x0 (ra cX x2)]⟩)
abbrev L17_0_d0 (a1 : TreeD) (v1 : Nat) (v4 : List TreeX) (v2 : Nat) (x3_0 x3_1 : Int) (x3_2 : List TreeX) : List AB := [.cells 25 ((cT a1).map .p), .cells 25 [i6 0, vi .u8 0, n0], .row 25 3 v1 (ra cX (splice v4 v2 [TreeD.mk x3_0 x3_1 x3_2])), .row 25 3 0 [[i6 x3_0, vi .u8 x3_1, (.p (.lsx 3 (eTreesX x3_2) [moreT]))]]]
abbrev L17_0_d1 (a1 : TreeD) (v1 : Nat) (v4 : List TreeX) (x3_0 x3_1 : Int) (x3_2 : List TreeX) : List AB := [.cells 25 ((cT a1).map .p), .cells 25 [i6 0, vi .u8 0, n0], .row 25 3 v1 (ra cX v4), .row 25 3 0 [[i6 x3_0, vi .u8 x3_1, (.p (.lsx 3 (eTreesX x3_2) [moreT]))]]]
abbrev L17_0_d2 (a1 : TreeD) (v1 : Nat) (v4 : List TreeX) (v2 : Nat) (x3_0 x3_1 : Int) (x3_2 : List TreeX) : List AB := [.cells 25 ((cT a1).map .p), .cells 25 [i6 0, vi .u8 0, n0], .row 25 3 (v1 + 1) (ra cX (v4.take v2 ++ [TreeD.mk x3_0 x3_1 x3_2])), .row 25 3 0 [[i6 x3_0, vi .u8 x3_1, (.p (.lsx 3 (eTreesX x3_2) [moreT]))]]]
theorem L17_0_ok (rF17 : T_F17) (hF17 : H_F17 rF17) (a1 : TreeD) (v1 v2 : Nat) (v3 : Int) (v4 : List TreeX) {r : E_L17_0 ⊕ (Nat × Nat × Int × (List TreeX))} (h : L17_0 rF17 a1 v1 v2 v3 v4 = some r) : OkR (fun e => L17_0_x a1 e (L17_0_e a1 v1 v2 v3 v4)) (fun s => L17_0_e a1 v1 v2 v3 v4 = L17_0_e a1 s.1 s.2.1 s.2.2.1 s.2.2.2) r := by
 unfold L17_0 at h
 have q0 := ((lgr tr_map) : lnA (.p (.lst 3 (eTrees a1.kids))) = some (i6 (a1.kids.length : Int)))
 apply bi h <;> intro h1 h
 ·
  have k1 := ka [(8, .v (i6 (a1.kids.length : Int))), (9, .d true)] (apc q0 (av h1 apn))
  apply bn h; intro x2 h2 h
  have q2 := ((igr tr_map h2) : idxA 3 (.p (.lst 3 (eTrees a1.kids))) (i6 v3) = some (.ro (cT x2)))
  apply bn h; intro r3 h3 h
  cases r3 with
  | k0 x3_0 x3_1 x3_2 =>
   have q3 := (((hF17 x2 h3).cp rfl _) : CP pg 17 [(.agg ((cT x2).map .p))] [.cells 25 ((cT a1).map .p), .cells 25 [i6 0, vi .u8 0, n0], .row 25 3 v1 (ra cX v4)] = some (.agg [i6 x3_0, vi .u8 x3_1, (.p (.lsx 3 (eTreesX x3_2) [moreT]))]))
   have k4 := k1.a [(16, .v (.ro (cT x2))), (18, .v (.agg [i6 x3_0, vi .u8 x3_1, (.p (.lsx 3 (eTreesX x3_2) [moreT]))]))] (apc q2 (apc q3 apn))
   apply bi h <;> intro h4 h
   ·
    apply bi h <;> intro h5 h
    ·
     rw [← sj h]
     exact rn ([(20, .r (.sl 2 v1 3 0 (v2 + 1)) (L17_0_d0 a1 v1 v4 v2 x3_0 x3_1 x3_2)), (6000, .d true)] ++ kH k4) (k4.b (apc ((ap_in (e := cX) (xs := v4) (news := [TreeD.mk x3_0 x3_1 x3_2]) rfl (rows_x (e := cX) (xs := [TreeD.mk x3_0 x3_1 x3_2]) rfl) rfl h4 h5) : appA (L17_0_d1 a1 v1 v4 x3_0 x3_1 x3_2) 25 3 40 (.sl 2 v1 3 0 v2) (.sl 3 0 3 0 1) = some ((.sl 2 v1 3 0 (v2 + 1)), L17_0_d0 a1 v1 v4 v2 x3_0 x3_1 x3_2)) (apc (L17_0_k a1 v1 (v2 + 1) (w6 (v3 + 1)) (splice v4 v2 [TreeD.mk x3_0 x3_1 x3_2])) apn)))
    ·
     rw [← sj h]
     exact rn ([(20, .r (.sl 2 (v1 + 1) 3 0 (v2 + 1)) (L17_0_d2 a1 v1 v4 v2 x3_0 x3_1 x3_2)), (6000, .d true)] ++ kH k4) (k4.b (apc ((ap_out (e := cX) (xs := v4) (news := [TreeD.mk x3_0 x3_1 x3_2]) rfl (rows_x (e := cX) (xs := [TreeD.mk x3_0 x3_1 x3_2]) rfl) rfl h4 h5) : appA (L17_0_d1 a1 v1 v4 x3_0 x3_1 x3_2) 25 3 40 (.sl 2 v1 3 0 v2) (.sl 3 0 3 0 1) = some ((.sl 2 (v1 + 1) 3 0 (v2 + 1)), L17_0_d2 a1 v1 v4 v2 x3_0 x3_1 x3_2)) (apc (L17_0_k a1 (v1 + 1) (v2 + 1) (w6 (v3 + 1)) (v4.take v2 ++ [TreeD.mk x3_0 x3_1 x3_2])) apn)))
   ·
    cases h
 ·
  rw [← sj h]
  exact xb [(8, .v (i6 (a1.kids.length : Int))), (9, .d false), (6000, .d true)] (apc q0 (av h1 apn))
theorem L17_0_run (rF17 : T_F17) (hF17 : H_F17 rF17) (a1 : TreeD) (s0 : Nat × Nat × Int × (List TreeX)) (e : E_L17_0) (h : runL (fun s => L17_0 rF17 a1 s.1 s.2.1 s.2.2.1 s.2.2.2) s0 = some e) : L17_0_x a1 e (L17_0_e a1 s0.1 s0.2.1 s0.2.2.1 s0.2.2.2) := by
  have q := @loop_sound' (Nat × Nat × Int × (List TreeX)) E_L17_0 (fun s => L17_0 rF17 a1 s.1 s.2.1 s.2.2.1 s.2.2.2) (fun s => L17_0_e a1 s.1 s.2.1 s.2.2.1 s.2.2.2) (L17_0_x a1) (fun s r h => L17_0_ok rF17 hF17 a1 s.1 s.2.1 s.2.2.1 s.2.2.2 h) s0 e h
  exact q
def F17_b (rF17 : T_F17) (a1 : TreeD) : Option R_F17 :=
  ((runL (fun s => L17_0 rF17 a1 s.1 s.2.1 s.2.2.1 s.2.2.2) (0, 0, 0, [])).bind fun r1 => match r1 with | .k0 x1_0 x1_1 x1_2 => (bif (apOk x1_1 1 x1_2.length 40) then (bif (decide (x1_2.length = x1_1)) then (bif (slOk (a1.kids.length : Int) (x1_1 + 1) (x1_2.length + 1)) then (bif (decide ((Int.toNat (a1.kids.length : Int)) = x1_2.length)) then (some (.k0 a1.prod a1.byte x1_2)) else none) else none) else none) else none))
abbrev F17_d0 (g1 : Nat → AV) (x1_0 x1_1 : Nat) (a1 : TreeD) (x1_2 : List TreeX) : St := ⟨fr 31 g1 [(1, .ptr 0 0), (2, .ptr 1 0), (3, .sl 2 x1_0 3 0 x1_1)], [.cells 25 ((cT a1).map .p), .cells 25 [i6 0, vi .u8 0, n0], .row 25 3 x1_0 (ra cX x1_2)]⟩
abbrev F17_d1 (a1 : TreeD) (x1_0 : Nat) (x1_2 : List TreeX) : List AB := [.cells 25 ((cT a1).map .p), .cells 25 [i6 0, vi .u8 0, n0], .row 25 3 (x1_0 + 1) (ra cX x1_2 ++ [[(i6 (-77)), vi .u8 0, n0]]), .row 25 3 0 [[(i6 (-77)), vi .u8 0, n0]]]
abbrev F17_d2 (a1 : TreeD) (x1_2 : List TreeX) : List AB := [.cells 25 [i6 a1.prod, vi .u8 a1.byte, (.p (.lsx 3 (eTreesX x1_2) [moreT]))], .cells 25 [i6 0, vi .u8 0, n0], .dead, .row 25 3 0 [[(i6 (-77)), vi .u8 0, n0]]]
theorem F17_bok (rF17 : T_F17) (hF17 : H_F17 rF17) (a1 : TreeD) {r : R_F17} (h : F17_b rF17 a1 = some r) : PR1 pg 17 [(.agg ((cT a1).map .p))] (F17_v a1 r) := by
 unfold F17_b at h
 have q0 := ((lgr tr_map) : lnA (.p (.lst 3 (eTrees a1.kids))) = some (i6 (a1.kids.length : Int)))
 apply bn h; intro r1 h1 h
 cases r1 with
 | k0 x1_0 x1_1 x1_2 =>
  obtain ⟨g1, e1⟩ := L17_0_run rF17 hF17 a1 (0, 0, 0, []) _ h1
  have q1 := (e1 : L17_0_e a1 0 0 0 ([]) = some ((.brk 0), F17_d0 g1 x1_0 x1_1 a1 x1_2))
  have k2 := ka [(2000, .l (.brk 0) (F17_d0 g1 x1_0 x1_1 a1 x1_2))] (apc (L17_0_k a1 0 0 0 ([])) (apc q1 apn))
  apply bi h <;> intro h2 h
  ·
   apply bi h <;> intro h3 h
   ·
    have q3 := ((ap_sent (e := cX) (xs := x1_2) rfl rfl h2 h3) : appA [.cells 25 ((cT a1).map .p), .cells 25 [i6 0, vi .u8 0, n0], .row 25 3 x1_0 (ra cX x1_2), .row 25 3 0 [[(i6 (-77)), vi .u8 0, n0]]] 25 3 40 (.sl 2 x1_0 3 0 x1_1) (.sl 3 0 3 0 1) = some ((.sl 2 (x1_0 + 1) 3 0 (x1_1 + 1)), F17_d1 a1 x1_0 x1_2))
    have k4 := k2.a [(24, .r (.sl 2 (x1_0 + 1) 3 0 (x1_1 + 1)) (F17_d1 a1 x1_0 x1_2)), (27, .v (i6 (a1.kids.length : Int)))] (apc q3 (apc q0 apn))
    apply bi h <;> intro h4 h
    ·
     have q5 := ((sl_sent (e := cX) (xs := x1_2) rfl h4) : slA (F17_d1 a1 x1_0 x1_2) 3 (.sl 2 (x1_0 + 1) 3 0 (x1_1 + 1)) (some 0) (some (a1.kids.length : Int)) = some (.sl 2 (x1_0 + 1) 3 0 (Int.toNat (a1.kids.length : Int))))
     have k6 := k4.a [(28, .v (.sl 2 (x1_0 + 1) 3 0 (Int.toNat (a1.kids.length : Int))))] (apc q5 apn)
     apply bi h <;> intro h5 h
     ·
      rw [← sj h]
      exact fq ([(9000, .l .norm ⟨[g1 0, .ptr 0 0, .ptr 1 0, .sl 2 x1_0 3 0 x1_1, g1 4, g1 5, g1 6, g1 7, g1 8, g1 9, g1 10, g1 11, g1 12, g1 13, g1 14, g1 15, g1 16, g1 17, g1 18, g1 19, g1 20, .sl 2 x1_0 3 0 x1_1, (.agg [(i6 (-77)), vi .u8 0, n0]), .sl 3 0 3 0 1, (.sl 2 (x1_0 + 1) 3 0 (x1_1 + 1)), .ptr 0 2, (.p (.lst 3 (eTrees a1.kids))), (i6 (a1.kids.length : Int)), (.sl 2 (x1_0 + 1) 3 0 (Int.toNat (a1.kids.length : Int))), .ptr 0 2, g1 30], F17_d2 a1 x1_2⟩), (6000, .d true)] ++ kH k6) (k6.b (apc ((frzS_sp (e := cX) (xs := x1_2) (ms := moreT) rfl rfl rfl rfl h5 (by rw [← trX_map]; kernel_rfl)) : frzS [] [] [(1, 95, 2, 0)] ⟨[g1 0, .ptr 0 0, .ptr 1 0, .sl 2 x1_0 3 0 x1_1, g1 4, g1 5, g1 6, g1 7, g1 8, g1 9, g1 10, g1 11, g1 12, g1 13, g1 14, g1 15, g1 16, g1 17, g1 18, g1 19, g1 20, .sl 2 x1_0 3 0 x1_1, (.agg [(i6 (-77)), vi .u8 0, n0]), .sl 3 0 3 0 1, (.sl 2 (x1_0 + 1) 3 0 (x1_1 + 1)), .ptr 0 2, (.p (.lst 3 (eTrees a1.kids))), (i6 (a1.kids.length : Int)), (.sl 2 (x1_0 + 1) 3 0 (Int.toNat (a1.kids.length : Int))), .ptr 0 2, g1 30], [.cells 25 [i6 a1.prod, vi .u8 a1.byte, (.sl 2 (x1_0 + 1) 3 0 (Int.toNat (a1.kids.length : Int)))], .cells 25 [i6 0, vi .u8 0, n0], .row 25 3 (x1_0 + 1) (ra cX x1_2 ++ [[(i6 (-77)), vi .u8 0, n0]]), .row 25 3 0 [[(i6 (-77)), vi .u8 0, n0]]]⟩ = ⟨[g1 0, .ptr 0 0, .ptr 1 0, .sl 2 x1_0 3 0 x1_1, g1 4, g1 5, g1 6, g1 7, g1 8, g1 9, g1 10, g1 11, g1 12, g1 13, g1 14, g1 15, g1 16, g1 17, g1 18, g1 19, g1 20, .sl 2 x1_0 3 0 x1_1, (.agg [(i6 (-77)), vi .u8 0, n0]), .sl 3 0 3 0 1, (.sl 2 (x1_0 + 1) 3 0 (x1_1 + 1)), .ptr 0 2, (.p (.lst 3 (eTrees a1.kids))), (i6 (a1.kids.length : Int)), (.sl 2 (x1_0 + 1) 3 0 (Int.toNat (a1.kids.length : Int))), .ptr 0 2, g1 30], F17_d2 a1 x1_2⟩) apn))
     ·
      cases h
    ·
     cases h
   ·
    cases h
  ·
   cases h
def F17 : Nat → T_F17
  | 0 => fun _ => none
  | Nf + 1 => F17_b (F17 Nf)
theorem F17_ok (Nf : Nat) : H_F17 (F17 Nf) := by
  induction Nf with
  | zero => intro a1 r h; have h : (none : Option R_F17) = some r := h; cases h
  | succ Nf ih => intro a1 r h; exact F17_bok (F17 Nf) ih a1 h
def F45_2_v (a1 : TreeD) (a2 : Int) (x0 : Bool) : AV := (vb x0)
abbrev T_F45_2 := TreeD → Int → Option Bool
abbrev H_F45_2 (f : T_F45_2) : Prop := ∀ (a1 : TreeD) (a2 : Int) {r : Bool}, f a1 a2 = some r → PR1 pg 45 [(.agg ((cT a1).map .p)), i6 a2] (F45_2_v a1 a2 r)
inductive E_L45_0_2 where
  | k0
  | k1
def L45_0_2 (rF45_2 : T_F45_2) (a1 : Int) (a2 : TreeD) (v1 : Int) : Option (E_L45_0_2 ⊕ (Int)) :=
  (bif (decide (v1 < (a2.kids.length : Int))) then ((getI a2.kids v1).bind fun x2 => ((rF45_2 x2 (IntKind.wrap .i64 (a1 - 1))).bind fun x3 => (bif x3 then (some (.inl (.k0))) else (some (.inr ((IntKind.wrap .i64 (v1 + 1)))))))) else (some (.inl (.k1))))
def L45_0_2_s (a1 : Int) (a2 : TreeD) (v1 : Int) : St := ⟨fr 23 ug [(1, i6 a1), (2, .ptr 0 0), (5, i6 v1)], [.cells 25 ((cT a2).map .p)]⟩
theorem L45_0_2_k (a1 : Int) (a2 : TreeD) (v1 : Int) : okT 1 (L45_0_2_s a1 a2 v1).h = true := (okT_of rfl (ac rfl))
abbrev L45_0_2_e (a1 : Int) (a2 : TreeD) (v1 : Int) := evH pg 1 [1, 2, 5] ir45_l0 (L45_0_2_s a1 a2 v1)
def L45_0_2_x (a1 : Int) (a2 : TreeD) (e : E_L45_0_2) (r : Option (Out × St)) : Prop := match e with | .k0 => ∃ g y, r = some (.ret, ⟨fr 23 g [(4, vb true)], y⟩) | .k1 => ∃ g, r = some ((.brk 0), ⟨fr 23 g [(1, i6 a1)], [.cells 25 ((cT a2).map .p)]⟩)
theorem L45_0_2_ok (rF45_2 : T_F45_2) (hF45_2 : H_F45_2 rF45_2) (a1 : Int) (a2 : TreeD) (v1 : Int) {r : E_L45_0_2 ⊕ (Int)} (h : L45_0_2 rF45_2 a1 a2 v1 = some r) : OkR (fun e => L45_0_2_x a1 a2 e (L45_0_2_e a1 a2 v1)) (fun s => L45_0_2_e a1 a2 v1 = L45_0_2_e a1 a2 s) r := by
 unfold L45_0_2 at h
 have q0 := ((lgr tr_map) : lnA (.p (.lst 3 (eTrees a2.kids))) = some (i6 (a2.kids.length : Int)))
 apply bi h <;> intro h1 h
 ·
  have k1 := ka [(11, .v (i6 (a2.kids.length : Int))), (12, .d true)] (apc q0 (av h1 apn))
  apply bn h; intro x2 h2 h
  have q2 := ((igr tr_map h2) : idxA 3 (.p (.lst 3 (eTrees a2.kids))) (i6 v1) = some (.ro (cT x2)))
  apply bn h; intro x3 h3 h
  apply bi h <;> intro h4 h
  ·
   rw [← sj h]
   exact xy ([(18, .v (.ro (cT x2))), (22, .v (vb true)), (6000, .d true)] ++ kH k1) (k1.b (apc q2 (apc ((((hF45_2 x2 (w6 (a1 - 1)) h3).cp rfl _).trans (congrArg (fun z => some (vb z)) h4)) : CP pg 45 [(.agg ((cT x2).map .p)), (i6 (w6 (a1 - 1)))] [.cells 25 ((cT a2).map .p)] = some (vb true)) apn)))
  ·
   rw [← sj h]
   exact rn ([(18, .v (.ro (cT x2))), (22, .v (vb false)), (6000, .d true)] ++ kH k1) (k1.b (apc q2 (apc ((((hF45_2 x2 (w6 (a1 - 1)) h3).cp rfl _).trans (congrArg (fun z => some (vb z)) h4)) : CP pg 45 [(.agg ((cT x2).map .p)), (i6 (w6 (a1 - 1)))] [.cells 25 ((cT a2).map .p)] = some (vb false)) (apc (L45_0_2_k a1 a2 (w6 (v1 + 1))) apn))))
 ·
  rw [← sj h]
  exact xb [(11, .v (i6 (a2.kids.length : Int))), (12, .d false), (6000, .d true)] (apc q0 (av h1 apn))
theorem L45_0_2_run (rF45_2 : T_F45_2) (hF45_2 : H_F45_2 rF45_2) (a1 : Int) (a2 : TreeD) (s0 : Int) (e : E_L45_0_2) (h : runL (fun s => L45_0_2 rF45_2 a1 a2 s) s0 = some e) : L45_0_2_x a1 a2 e (L45_0_2_e a1 a2 s0) := by
  have q := @loop_sound' (Int) E_L45_0_2 (fun s => L45_0_2 rF45_2 a1 a2 s) (fun s => L45_0_2_e a1 a2 s) (L45_0_2_x a1 a2) (fun s r h => L45_0_2_ok rF45_2 hF45_2 a1 a2 s h) s0 e h
  exact q
def F45_2_b (rF45_2 : T_F45_2) (a1 : TreeD) (a2 : Int) : Option Bool :=
  (bif (decide (a2 < 1)) then (some true) else ((runL (fun s => L45_0_2 rF45_2 a2 a1 s) 0).bind fun r2 => match r2 with | .k0 => (some true) | .k1 => (some false)))
theorem F45_2_bok (rF45_2 : T_F45_2) (hF45_2 : H_F45_2 rF45_2) (a1 : TreeD) (a2 : Int) {r : Bool} (h : F45_2_b rF45_2 a1 a2 = some r) : PR1 pg 45 [(.agg ((cT a1).map .p)), i6 a2] (F45_2_v a1 a2 r) := by
 unfold F45_2_b at h
 apply bi h <;> intro h1 h
 ·
  rw [← sj h]
  exact fq [(7, .d true)] (av h1 apn)
 ·
  apply bn h; intro r2 h2 h
  cases r2 with
  | k0 =>
   obtain ⟨g2, y2, e2⟩ := L45_0_2_run rF45_2 hF45_2 a2 a1 0 _ h2
   rw [← sj h]
   exact fq [(7, .d false), (2000, .l .ret ⟨fr 23 g2 [(4, vb true)], y2⟩), (6000, .d true)] (av h1 (apc (L45_0_2_k a2 a1 0) (apc (e2 : L45_0_2_e a2 a1 0 = some (.ret, ⟨fr 23 g2 [(4, vb true)], y2⟩)) apn)))
  | k1 =>
   obtain ⟨g2, e2⟩ := L45_0_2_run rF45_2 hF45_2 a2 a1 0 _ h2
   rw [← sj h]
   exact fq [(7, .d false), (2000, .l (.brk 0) ⟨fr 23 g2 [(1, i6 a2)], [.cells 25 ((cT a1).map .p)]⟩), (6000, .d true)] (av h1 (apc (L45_0_2_k a2 a1 0) (apc (e2 : L45_0_2_e a2 a1 0 = some ((.brk 0), ⟨fr 23 g2 [(1, i6 a2)], [.cells 25 ((cT a1).map .p)]⟩)) apn)))
def F45_2 : Nat → T_F45_2
  | 0 => fun _ _ => none
  | Nf + 1 => F45_2_b (F45_2 Nf)
theorem F45_2_ok (Nf : Nat) : H_F45_2 (F45_2 Nf) := by
  induction Nf with
  | zero => intro a1 a2 r h; have h : (none : Option Bool) = some r := h; cases h
  | succ Nf ih => intro a1 a2 r h; exact F45_2_bok (F45_2 Nf) ih a1 a2 h
def F46_v (a1 : TreeD) (x0 : Bool) : AV := (vb x0)
abbrev T_F46 := TreeD → Option Bool
abbrev H_F46 (f : T_F46) : Prop := ∀ (a1 : TreeD) {r : Bool}, f a1 = some r → PR1 pg 46 [(.agg ((cT a1).map .p))] (F46_v a1 r)
inductive E_L46_0 where
  | k0
  | k1
def L46_0 (rF46 : T_F46) (a1 : TreeD) (v1 : Int) : Option (E_L46_0 ⊕ (Int)) :=
  (bif (decide (v1 < (a1.kids.length : Int))) then ((getI a1.kids v1).bind fun x2 => ((rF46 x2).bind fun x3 => (bif x3 then (some (.inr ((IntKind.wrap .i64 (v1 + 1))))) else (some (.inl (.k0)))))) else (some (.inl (.k1))))
def L46_0_s (a1 : TreeD) (v1 : Int) : St := ⟨fr 47 ug [(1, .ptr 0 0), (3, i6 v1)], [.cells 25 ((cT a1).map .p)]⟩
theorem L46_0_k (a1 : TreeD) (v1 : Int) : okT 1 (L46_0_s a1 v1).h = true := (okT_of rfl (ac rfl))
abbrev L46_0_e (a1 : TreeD) (v1 : Int) := evH pg 1 [1, 3] ir46_l0 (L46_0_s a1 v1)
def L46_0_x (a1 : TreeD) (e : E_L46_0) (r : Option (Out × St)) : Prop := match e with | .k0 => ∃ g y, r = some (.ret, ⟨fr 47 g [(2, vb false)], y⟩) | .k1 => ∃ g, r = some ((.brk 0), ⟨fr 47 g [(1, .ptr 0 0)], [.cells 25 ((cT a1).map .p)]⟩)
theorem L46_0_ok (rF46 : T_F46) (hF46 : H_F46 rF46) (a1 : TreeD) (v1 : Int) {r : E_L46_0 ⊕ (Int)} (h : L46_0 rF46 a1 v1 = some r) : OkR (fun e => L46_0_x a1 e (L46_0_e a1 v1)) (fun s => L46_0_e a1 v1 = L46_0_e a1 s) r := by
 unfold L46_0 at h
 have q0 := ((lgr tr_map) : lnA (.p (.lst 3 (eTrees a1.kids))) = some (i6 (a1.kids.length : Int)))
 apply bi h <;> intro h1 h
 ·
  have k1 := ka [(36, .v (i6 (a1.kids.length : Int))), (37, .d true)] (apc q0 (av h1 apn))
  apply bn h; intro x2 h2 h
  have q2 := ((igr tr_map h2) : idxA 3 (.p (.lst 3 (eTrees a1.kids))) (i6 v1) = some (.ro (cT x2)))
  apply bn h; intro x3 h3 h
  apply bi h <;> intro h4 h
  ·
   rw [← sj h]
   exact rn ([(43, .v (.ro (cT x2))), (45, .v (vb true)), (6000, .d true)] ++ kH k1) (k1.b (apc q2 (apc ((((hF46 x2 h3).cp rfl _).trans (congrArg (fun z => some (vb z)) h4)) : CP pg 46 [(.agg ((cT x2).map .p))] [.cells 25 ((cT a1).map .p)] = some (vb true)) (apc (L46_0_k a1 (w6 (v1 + 1))) apn))))
  ·
   rw [← sj h]
   exact xy ([(43, .v (.ro (cT x2))), (45, .v (vb false)), (6000, .d true)] ++ kH k1) (k1.b (apc q2 (apc ((((hF46 x2 h3).cp rfl _).trans (congrArg (fun z => some (vb z)) h4)) : CP pg 46 [(.agg ((cT x2).map .p))] [.cells 25 ((cT a1).map .p)] = some (vb false)) apn)))
 ·
  rw [← sj h]
  exact xb [(36, .v (i6 (a1.kids.length : Int))), (37, .d false), (6000, .d true)] (apc q0 (av h1 apn))
theorem L46_0_run (rF46 : T_F46) (hF46 : H_F46 rF46) (a1 : TreeD) (s0 : Int) (e : E_L46_0) (h : runL (fun s => L46_0 rF46 a1 s) s0 = some e) : L46_0_x a1 e (L46_0_e a1 s0) := by
  have q := @loop_sound' (Int) E_L46_0 (fun s => L46_0 rF46 a1 s) (fun s => L46_0_e a1 s) (L46_0_x a1) (fun s r h => L46_0_ok rF46 hF46 a1 s h) s0 e h
  exact q
def F46_b (rF46 : T_F46) (a1 : TreeD) : Option Bool :=
  (bif (decide (a1.prod < (-1))) then (some false) else (bif (decide (a1.prod > 2147483647)) then (some false) else (bif (a1.prod == (-1)) then (bif (decide ((a1.kids.length : Int) > 0)) then (some false) else (bif (decide (a1.prod ≥ 0)) then (bif (a1.byte != 0) then (some false) else ((runL (fun s => L46_0 rF46 a1 s) 0).bind fun r7 => match r7 with | .k0 => (some false) | .k1 => (some true))) else ((runL (fun s => L46_0 rF46 a1 s) 0).bind fun r6 => match r6 with | .k0 => (some false) | .k1 => (some true)))) else (bif (decide (a1.prod ≥ 0)) then (bif (a1.byte != 0) then (some false) else ((runL (fun s => L46_0 rF46 a1 s) 0).bind fun r6 => match r6 with | .k0 => (some false) | .k1 => (some true))) else ((runL (fun s => L46_0 rF46 a1 s) 0).bind fun r5 => match r5 with | .k0 => (some false) | .k1 => (some true))))))
theorem F46_bok (rF46 : T_F46) (hF46 : H_F46 rF46) (a1 : TreeD) {r : Bool} (h : F46_b rF46 a1 = some r) : PR1 pg 46 [(.agg ((cT a1).map .p))] (F46_v a1 r) := by
 unfold F46_b at h
 have q0 := ((lgr tr_map) : lnA (.p (.lst 3 (eTrees a1.kids))) = some (i6 (a1.kids.length : Int)))
 apply bi h <;> intro h1 h
 ·
  rw [← sj h]
  exact fq [(6, .d true)] (av h1 apn)
 ·
  apply bi h <;> intro h2 h
  ·
   rw [← sj h]
   exact fq [(6, .d false), (10, .d true)] (av h1 (av h2 apn))
  ·
   have k1 := ka [(6, .d false), (10, .d false)] (av h1 (av h2 apn))
   apply bi h <;> intro h3 h
   ·
    have k2 := k1.a [(15, .d true), (19, .v (i6 (a1.kids.length : Int)))] (av h3 (apc q0 apn))
    apply bi h <;> intro h4 h
    ·
     rw [← sj h]
     exact fq ([(20, .d true)] ++ kH k2) (k2.b (av h4 apn))
    ·
     apply bi h <;> intro h5 h
     ·
      have k3 := k2.a [(20, .d false), (26, .d true)] (av h4 (av h5 apn))
      apply bi h <;> intro h6 h
      ·
       rw [← sj h]
       exact fq ([(30, .d true)] ++ kH k3) (k3.b (av h6 apn))
      ·
       apply bn h; intro r7 h7 h
       cases r7 with
       | k0 =>
        obtain ⟨g7, y7, e7⟩ := L46_0_run rF46 hF46 a1 0 _ h7
        rw [← sj h]
        exact fq ([(30, .d false), (2000, .l .ret ⟨fr 47 g7 [(2, vb false)], y7⟩), (6000, .d true)] ++ kH k3) (k3.b (av h6 (apc (L46_0_k a1 0) (apc (e7 : L46_0_e a1 0 = some (.ret, ⟨fr 47 g7 [(2, vb false)], y7⟩)) apn))))
       | k1 =>
        obtain ⟨g7, e7⟩ := L46_0_run rF46 hF46 a1 0 _ h7
        rw [← sj h]
        exact fq ([(30, .d false), (2000, .l (.brk 0) ⟨fr 47 g7 [(1, .ptr 0 0)], [.cells 25 ((cT a1).map .p)]⟩), (6000, .d true)] ++ kH k3) (k3.b (av h6 (apc (L46_0_k a1 0) (apc (e7 : L46_0_e a1 0 = some ((.brk 0), ⟨fr 47 g7 [(1, .ptr 0 0)], [.cells 25 ((cT a1).map .p)]⟩)) apn))))
     ·
      have k4 := k2.a [(20, .d false), (26, .d false)] (av h4 (av h5 apn))
      apply bn h; intro r6 h6 h
      cases r6 with
      | k0 =>
       obtain ⟨g6, y6, e6⟩ := L46_0_run rF46 hF46 a1 0 _ h6
       rw [← sj h]
       exact fq ([(2000, .l .ret ⟨fr 47 g6 [(2, vb false)], y6⟩), (6000, .d true)] ++ kH k4) (k4.b (apc (L46_0_k a1 0) (apc (e6 : L46_0_e a1 0 = some (.ret, ⟨fr 47 g6 [(2, vb false)], y6⟩)) apn)))
      | k1 =>
       obtain ⟨g6, e6⟩ := L46_0_run rF46 hF46 a1 0 _ h6
       rw [← sj h]
       exact fq ([(2000, .l (.brk 0) ⟨fr 47 g6 [(1, .ptr 0 0)], [.cells 25 ((cT a1).map .p)]⟩), (6000, .d true)] ++ kH k4) (k4.b (apc (L46_0_k a1 0) (apc (e6 : L46_0_e a1 0 = some ((.brk 0), ⟨fr 47 g6 [(1, .ptr 0 0)], [.cells 25 ((cT a1).map .p)]⟩)) apn)))
   ·
    apply bi h <;> intro h4 h
    ·
     have k5 := k1.a [(15, .d false), (26, .d true)] (av h3 (av h4 apn))
     apply bi h <;> intro h5 h
     ·
      rw [← sj h]
      exact fq ([(30, .d true)] ++ kH k5) (k5.b (av h5 apn))
     ·
      apply bn h; intro r6 h6 h
      cases r6 with
      | k0 =>
       obtain ⟨g6, y6, e6⟩ := L46_0_run rF46 hF46 a1 0 _ h6
       rw [← sj h]
       exact fq ([(30, .d false), (2000, .l .ret ⟨fr 47 g6 [(2, vb false)], y6⟩), (6000, .d true)] ++ kH k5) (k5.b (av h5 (apc (L46_0_k a1 0) (apc (e6 : L46_0_e a1 0 = some (.ret, ⟨fr 47 g6 [(2, vb false)], y6⟩)) apn))))
      | k1 =>
       obtain ⟨g6, e6⟩ := L46_0_run rF46 hF46 a1 0 _ h6
       rw [← sj h]
       exact fq ([(30, .d false), (2000, .l (.brk 0) ⟨fr 47 g6 [(1, .ptr 0 0)], [.cells 25 ((cT a1).map .p)]⟩), (6000, .d true)] ++ kH k5) (k5.b (av h5 (apc (L46_0_k a1 0) (apc (e6 : L46_0_e a1 0 = some ((.brk 0), ⟨fr 47 g6 [(1, .ptr 0 0)], [.cells 25 ((cT a1).map .p)]⟩)) apn))))
    ·
     have k6 := k1.a [(15, .d false), (26, .d false)] (av h3 (av h4 apn))
     apply bn h; intro r5 h5 h
     cases r5 with
     | k0 =>
      obtain ⟨g5, y5, e5⟩ := L46_0_run rF46 hF46 a1 0 _ h5
      rw [← sj h]
      exact fq ([(2000, .l .ret ⟨fr 47 g5 [(2, vb false)], y5⟩), (6000, .d true)] ++ kH k6) (k6.b (apc (L46_0_k a1 0) (apc (e5 : L46_0_e a1 0 = some (.ret, ⟨fr 47 g5 [(2, vb false)], y5⟩)) apn)))
     | k1 =>
      obtain ⟨g5, e5⟩ := L46_0_run rF46 hF46 a1 0 _ h5
      rw [← sj h]
      exact fq ([(2000, .l (.brk 0) ⟨fr 47 g5 [(1, .ptr 0 0)], [.cells 25 ((cT a1).map .p)]⟩), (6000, .d true)] ++ kH k6) (k6.b (apc (L46_0_k a1 0) (apc (e5 : L46_0_e a1 0 = some ((.brk 0), ⟨fr 47 g5 [(1, .ptr 0 0)], [.cells 25 ((cT a1).map .p)]⟩)) apn)))
def F46 : Nat → T_F46
  | 0 => fun _ => none
  | Nf + 1 => F46_b (F46 Nf)
theorem F46_ok (Nf : Nat) : H_F46 (F46 Nf) := by
  induction Nf with
  | zero => intro a1 r h; have h : (none : Option Bool) = some r := h; cases h
  | succ Nf ih => intro a1 r h; exact F46_bok (F46 Nf) ih a1 h
def F18_v (a1 : TreeD) (x0 : Int) : AV := (i6 x0)
def F18 (Nf : Nat) (a1 : TreeD) : Option Int :=
  ((F45_2 Nf a1 16384).bind fun x1 => (bif x1 then (some 3) else ((F46 Nf a1).bind fun x3 => (bif x3 then (some 0) else (some 240)))))
theorem F18_ok (Nf : Nat) (a1 : TreeD) {r : Int} (h : F18 Nf a1 = some r) : PR1 pg 18 [(.agg ((cT a1).map .p))] (F18_v a1 r) := by
 unfold F18 at h
 apply bn h; intro x1 h1 h
 apply bi h <;> intro h2 h
 ·
  rw [← sj h]
  exact fq [(4, .v (vb true))] (apc ((((F45_2_ok Nf a1 16384 h1).cp rfl _).trans (congrArg (fun z => some (vb z)) h2)) : CP pg 45 [(.agg ((cT a1).map .p)), i6 16384] [.cells 25 ((cT a1).map .p)] = some (vb true)) apn)
 ·
  have q0 := ((((F45_2_ok Nf a1 16384 h1).cp rfl _).trans (congrArg (fun z => some (vb z)) h2)) : CP pg 45 [(.agg ((cT a1).map .p)), i6 16384] [.cells 25 ((cT a1).map .p)] = some (vb false))
  apply bn h; intro x3 h3 h
  apply bi h <;> intro h4 h
  ·
   rw [← sj h]
   exact fq [(4, .v (vb false)), (6, .v (vb true))] (apc q0 (apc ((((F46_ok Nf a1 h3).cp rfl _).trans (congrArg (fun z => some (vb z)) h4)) : CP pg 46 [(.agg ((cT a1).map .p))] [.cells 25 ((cT a1).map .p)] = some (vb true)) apn))
  ·
   rw [← sj h]
   exact fq [(4, .v (vb false)), (6, .v (vb false))] (apc q0 (apc ((((F46_ok Nf a1 h3).cp rfl _).trans (congrArg (fun z => some (vb z)) h4)) : CP pg 46 [(.agg ((cT a1).map .p))] [.cells 25 ((cT a1).map .p)] = some (vb false)) apn))
inductive R_F47 where
  | k0 (x0 x1 x2 : Int)
def F47_v (a1 : TreeD) (r : R_F47) : AV := match r with | .k0 x0 x1 x2 => (.tup [i6 x0, i6 x1, i6 x2])
abbrev T_F47 := TreeD → Option R_F47
abbrev H_F47 (f : T_F47) : Prop := ∀ (a1 : TreeD) {r : R_F47}, f a1 = some r → PR1 pg 47 [(.agg ((cT a1).map .p))] (F47_v a1 r)
inductive E_L47_0 where
  | k0 (x0 x1 x2 : Int)
def L47_0 (rF47 : T_F47) (a1 : TreeD) (a2 : Int) (v1 v2 v3 v4 : Int) : Option (E_L47_0 ⊕ (Int × Int × Int × Int)) :=
  (bif (decide (v4 < a2)) then ((getI a1.kids v4).bind fun x2 => ((rF47 x2).bind fun r3 => match r3 with | .k0 x3_0 x3_1 x3_2 => (some (.inr ((IntKind.wrap .i64 (v1 + x3_0)), (IntKind.wrap .i64 (v2 + x3_1)), (if v3 < x3_2 then x3_2 else v3), (IntKind.wrap .i64 (v4 + 1))))))) else (some (.inl (.k0 v1 v2 v3))))
def L47_0_s (a1 : TreeD) (a2 : Int) (v1 v2 v3 v4 : Int) : St := ⟨fr 43 ug [(5, i6 v1), (6, i6 v2), (7, i6 v3), (17, (.p (.lst 3 (eTrees a1.kids)))), (18, i6 a2), (19, i6 v4)], [.cells 25 ((cT a1).map .p)]⟩
theorem L47_0_k (a1 : TreeD) (a2 : Int) (v1 v2 v3 v4 : Int) : okT 1 (L47_0_s a1 a2 v1 v2 v3 v4).h = true := (okT_of rfl (ac rfl))
abbrev L47_0_e (a1 : TreeD) (a2 : Int) (v1 v2 v3 v4 : Int) := evH pg 1 [5, 6, 7, 17, 18, 19] ir47_l0 (L47_0_s a1 a2 v1 v2 v3 v4)
def L47_0_x (a1 : TreeD) (a2 : Int) (e : E_L47_0) (r : Option (Out × St)) : Prop := match e with | .k0 x0 x1 x2 => ∃ g, r = some ((.brk 0), ⟨fr 43 g [(5, i6 x0), (6, i6 x1), (7, i6 x2), (17, (.p (.lst 3 (eTrees a1.kids))))], [.cells 25 ((cT a1).map .p)]⟩)
theorem L47_0_ok (rF47 : T_F47) (hF47 : H_F47 rF47) (a1 : TreeD) (a2 : Int) (v1 v2 v3 v4 : Int) {r : E_L47_0 ⊕ (Int × Int × Int × Int)} (h : L47_0 rF47 a1 a2 v1 v2 v3 v4 = some r) : OkR (fun e => L47_0_x a1 a2 e (L47_0_e a1 a2 v1 v2 v3 v4)) (fun s => L47_0_e a1 a2 v1 v2 v3 v4 = L47_0_e a1 a2 s.1 s.2.1 s.2.2.1 s.2.2.2) r := by
 unfold L47_0 at h
 apply bi h <;> intro h1 h
 ·
  apply bn h; intro x2 h2 h
  apply bn h; intro r3 h3 h
  cases r3 with
  | k0 x3_0 x3_1 x3_2 =>
   rw [← sj h]
   exact rn [(20, .d true), (21, .v (.ro (cT x2))), (25, .v (.tup [i6 x3_0, i6 x3_1, i6 x3_2])), (6000, .d true)] (av h1 (apc ((igr tr_map h2) : idxA 3 (.p (.lst 3 (eTrees a1.kids))) (i6 v4) = some (.ro (cT x2))) (apc (((hF47 x2 h3).cp rfl _) : CP pg 47 [(.agg ((cT x2).map .p))] [.cells 25 ((cT a1).map .p), yT0, .cells 25 ((cT x2).map .p)] = some (.tup [i6 x3_0, i6 x3_1, i6 x3_2])) (apc (L47_0_k a1 a2 (w6 (v1 + x3_0)) (w6 (v2 + x3_1)) (if v3 < x3_2 then x3_2 else v3) (w6 (v4 + 1))) apn))))
 ·
  rw [← sj h]
  exact xb [(20, .d false), (6000, .d true)] (av h1 apn)
theorem L47_0_run (rF47 : T_F47) (hF47 : H_F47 rF47) (a1 : TreeD) (a2 : Int) (s0 : Int × Int × Int × Int) (e : E_L47_0) (h : runL (fun s => L47_0 rF47 a1 a2 s.1 s.2.1 s.2.2.1 s.2.2.2) s0 = some e) : L47_0_x a1 a2 e (L47_0_e a1 a2 s0.1 s0.2.1 s0.2.2.1 s0.2.2.2) := by
  have q := @loop_sound' (Int × Int × Int × Int) E_L47_0 (fun s => L47_0 rF47 a1 a2 s.1 s.2.1 s.2.2.1 s.2.2.2) (fun s => L47_0_e a1 a2 s.1 s.2.1 s.2.2.1 s.2.2.2) (L47_0_x a1 a2) (fun s r h => L47_0_ok rF47 hF47 a1 a2 s.1 s.2.1 s.2.2.1 s.2.2.2 h) s0 e h
  exact q
inductive E_L47_0_2 where
  | k0 (x0 x1 x2 : Int)
def L47_0_2 (rF47 : T_F47) (a1 : TreeD) (a2 : Int) (v1 v2 v3 v4 : Int) : Option (E_L47_0_2 ⊕ (Int × Int × Int × Int)) :=
  (bif (decide (v4 < a2)) then ((getI a1.kids v4).bind fun x2 => ((rF47 x2).bind fun r3 => match r3 with | .k0 x3_0 x3_1 x3_2 => (some (.inr ((IntKind.wrap .i64 (v1 + x3_0)), (IntKind.wrap .i64 (v2 + x3_1)), (if v3 < x3_2 then x3_2 else v3), (IntKind.wrap .i64 (v4 + 1))))))) else (some (.inl (.k0 v1 v2 v3))))
def L47_0_2_s (a1 : TreeD) (a2 : Int) (v1 v2 v3 v4 : Int) : St := ⟨fr 43 ug [(5, i6 v1), (6, i6 v2), (7, i6 v3), (17, (.p (.lst 3 (eTrees a1.kids)))), (18, i6 a2), (19, i6 v4)], [.cells 25 ((cT a1).map .p)]⟩
theorem L47_0_2_k (a1 : TreeD) (a2 : Int) (v1 v2 v3 v4 : Int) : okT 1 (L47_0_2_s a1 a2 v1 v2 v3 v4).h = true := (okT_of rfl (ac rfl))
abbrev L47_0_2_e (a1 : TreeD) (a2 : Int) (v1 v2 v3 v4 : Int) := evH pg 1 [5, 6, 7, 17, 18, 19] ir47_l0 (L47_0_2_s a1 a2 v1 v2 v3 v4)
def L47_0_2_x (a1 : TreeD) (a2 : Int) (e : E_L47_0_2) (r : Option (Out × St)) : Prop := match e with | .k0 x0 x1 x2 => ∃ g, r = some ((.brk 0), ⟨fr 43 g [(5, i6 x0), (6, i6 x1), (7, i6 x2), (17, (.p (.lst 3 (eTrees a1.kids))))], [.cells 25 ((cT a1).map .p)]⟩)
theorem L47_0_2_ok (rF47 : T_F47) (hF47 : H_F47 rF47) (a1 : TreeD) (a2 : Int) (v1 v2 v3 v4 : Int) {r : E_L47_0_2 ⊕ (Int × Int × Int × Int)} (h : L47_0_2 rF47 a1 a2 v1 v2 v3 v4 = some r) : OkR (fun e => L47_0_2_x a1 a2 e (L47_0_2_e a1 a2 v1 v2 v3 v4)) (fun s => L47_0_2_e a1 a2 v1 v2 v3 v4 = L47_0_2_e a1 a2 s.1 s.2.1 s.2.2.1 s.2.2.2) r := by
 unfold L47_0_2 at h
 apply bi h <;> intro h1 h
 ·
  apply bn h; intro x2 h2 h
  apply bn h; intro r3 h3 h
  cases r3 with
  | k0 x3_0 x3_1 x3_2 =>
   rw [← sj h]
   exact rn [(20, .d true), (21, .v (.ro (cT x2))), (25, .v (.tup [i6 x3_0, i6 x3_1, i6 x3_2])), (6000, .d true)] (av h1 (apc ((igr tr_map h2) : idxA 3 (.p (.lst 3 (eTrees a1.kids))) (i6 v4) = some (.ro (cT x2))) (apc (((hF47 x2 h3).cp rfl _) : CP pg 47 [(.agg ((cT x2).map .p))] [.cells 25 ((cT a1).map .p), yT0, .cells 25 ((cT x2).map .p)] = some (.tup [i6 x3_0, i6 x3_1, i6 x3_2])) (apc (L47_0_2_k a1 a2 (w6 (v1 + x3_0)) (w6 (v2 + x3_1)) (if v3 < x3_2 then x3_2 else v3) (w6 (v4 + 1))) apn))))
 ·
  rw [← sj h]
  exact xb [(20, .d false), (6000, .d true)] (av h1 apn)
theorem L47_0_2_run (rF47 : T_F47) (hF47 : H_F47 rF47) (a1 : TreeD) (a2 : Int) (s0 : Int × Int × Int × Int) (e : E_L47_0_2) (h : runL (fun s => L47_0_2 rF47 a1 a2 s.1 s.2.1 s.2.2.1 s.2.2.2) s0 = some e) : L47_0_2_x a1 a2 e (L47_0_2_e a1 a2 s0.1 s0.2.1 s0.2.2.1 s0.2.2.2) := by
  have q := @loop_sound' (Int × Int × Int × Int) E_L47_0_2 (fun s => L47_0_2 rF47 a1 a2 s.1 s.2.1 s.2.2.1 s.2.2.2) (fun s => L47_0_2_e a1 a2 s.1 s.2.1 s.2.2.1 s.2.2.2) (L47_0_2_x a1 a2) (fun s r h => L47_0_2_ok rF47 hF47 a1 a2 s.1 s.2.1 s.2.2.1 s.2.2.2 h) s0 e h
  exact q
def F47_b (rF47 : T_F47) (a1 : TreeD) : Option R_F47 :=
  (bif (decide (a1.prod < 0)) then ((runL (fun s => L47_0 rF47 a1 (a1.kids.length : Int) s.1 s.2.1 s.2.2.1 s.2.2.2) (1, 1, 0, 0)).bind fun r2 => match r2 with | .k0 x2_0 x2_1 x2_2 => (some (.k0 x2_0 x2_1 (IntKind.wrap .i64 (x2_2 + 1))))) else ((runL (fun s => L47_0_2 rF47 a1 (a1.kids.length : Int) s.1 s.2.1 s.2.2.1 s.2.2.2) (1, 0, 0, 0)).bind fun r2 => match r2 with | .k0 x2_0 x2_1 x2_2 => (some (.k0 x2_0 x2_1 (IntKind.wrap .i64 (x2_2 + 1))))))
abbrev F47_d0 (g2 : Nat → AV) (x2_0 x2_1 x2_2 : Int) (a1 : TreeD) : St := ⟨fr 43 g2 [(5, i6 x2_0), (6, i6 x2_1), (7, i6 x2_2), (17, (.p (.lst 3 (eTrees a1.kids))))], [.cells 25 ((cT a1).map .p)]⟩
theorem F47_bok (rF47 : T_F47) (hF47 : H_F47 rF47) (a1 : TreeD) {r : R_F47} (h : F47_b rF47 a1 = some r) : PR1 pg 47 [(.agg ((cT a1).map .p))] (F47_v a1 r) := by
 unfold F47_b at h
 have q0 := ((lgr tr_map) : lnA (.p (.lst 3 (eTrees a1.kids))) = some (i6 (a1.kids.length : Int)))
 apply bi h <;> intro h1 h
 ·
  apply bn h; intro r2 h2 h
  cases r2 with
  | k0 x2_0 x2_1 x2_2 =>
   obtain ⟨g2, e2⟩ := L47_0_run rF47 hF47 a1 (a1.kids.length : Int) (1, 1, 0, 0) _ h2
   rw [← sj h]
   exact fq [(15, .d true), (18, .v (i6 (a1.kids.length : Int))), (2000, .l (.brk 0) (F47_d0 g2 x2_0 x2_1 x2_2 a1)), (6000, .d true)] (av h1 (apc q0 (apc (L47_0_k a1 (a1.kids.length : Int) 1 1 0 0) (apc (e2 : L47_0_e a1 (a1.kids.length : Int) 1 1 0 0 = some ((.brk 0), F47_d0 g2 x2_0 x2_1 x2_2 a1)) apn))))
 ·
  apply bn h; intro r2 h2 h
  cases r2 with
  | k0 x2_0 x2_1 x2_2 =>
   obtain ⟨g2, e2⟩ := L47_0_2_run rF47 hF47 a1 (a1.kids.length : Int) (1, 0, 0, 0) _ h2
   rw [← sj h]
   exact fq [(15, .d false), (18, .v (i6 (a1.kids.length : Int))), (2000, .l (.brk 0) (F47_d0 g2 x2_0 x2_1 x2_2 a1)), (6000, .d true)] (av h1 (apc q0 (apc (L47_0_2_k a1 (a1.kids.length : Int) 1 0 0 0) (apc (e2 : L47_0_2_e a1 (a1.kids.length : Int) 1 0 0 0 = some ((.brk 0), F47_d0 g2 x2_0 x2_1 x2_2 a1)) apn))))
def F47 : Nat → T_F47
  | 0 => fun _ => none
  | Nf + 1 => F47_b (F47 Nf)
theorem F47_ok (Nf : Nat) : H_F47 (F47 Nf) := by
  induction Nf with
  | zero => intro a1 r h; have h : (none : Option R_F47) = some r := h; cases h
  | succ Nf ih => intro a1 r h; exact F47_bok (F47 Nf) ih a1 h
inductive R_F19 where
  | k0 (x0 x1 x2 : Int)
def F19_v (a1 : TreeD) (r : R_F19) : AV := match r with | .k0 x0 x1 x2 => (.tup [i6 x0, i6 x1, i6 x2])
def F19 (Nf : Nat) (a1 : TreeD) : Option R_F19 :=
  ((F23 a1).bind fun x1 => (bif (x1 != 0) then (some (.k0 0 0 0)) else ((F47 Nf a1).bind fun r3 => match r3 with | .k0 x3_0 x3_1 x3_2 => (some (.k0 x3_0 x3_1 x3_2)))))
theorem F19_ok (Nf : Nat) (a1 : TreeD) {r : R_F19} (h : F19 Nf a1 = some r) : PR1 pg 19 [(.agg ((cT a1).map .p))] (F19_v a1 r) := by
 unfold F19 at h
 apply bn h; intro x1 h1 h
 have q0 := (((F23_ok a1 h1).cp rfl _) : CP pg 23 [(.agg ((cT a1).map .p))] [.cells 25 ((cT a1).map .p)] = some (i6 x1))
 apply bi h <;> intro h2 h
 ·
  rw [← sj h]
  exact fq [(6, .v (i6 x1)), (7, .d true)] (apc q0 (av h2 apn))
 ·
  apply bn h; intro r3 h3 h
  cases r3 with
  | k0 x3_0 x3_1 x3_2 =>
   rw [← sj h]
   exact fq [(6, .v (i6 x1)), (7, .d false), (9, .v (.tup [i6 x3_0, i6 x3_1, i6 x3_2]))] (apc q0 (av h2 (apc (((F47_ok Nf a1 h3).cp rfl _) : CP pg 47 [(.agg ((cT a1).map .p))] [.cells 25 ((cT a1).map .p)] = some (.tup [i6 x3_0, i6 x3_1, i6 x3_2])) apn)))
inductive R_F21 where
  | k0 (x0 x1 : Int) (x2 : List TreeD)
def F21_v (a1 : TreeD) (r : R_F21) : AV := match r with | .k0 x0 x1 x2 => (.fn 51 [(.ro [.val (.int .i64 x0), .val (.int .u8 x1), .lst 3 (eTrees x2)])])
def F21 (a1 : TreeD) : Option R_F21 :=
  (some (.k0 a1.prod a1.byte a1.kids))
theorem F21_ok (a1 : TreeD) {r : R_F21} (h : F21 a1 = some r) : PR1 pg 21 [(.agg ((cT a1).map .p))] (F21_v a1 r) := by
 unfold F21 at h
 rw [← sj h]
 exact fpo (v := (.fn 51 [.ptr 0 0])) (h' := [.cells 25 ((cT a1).map .p)]) [] apn (purA_fn (purAs_cons (purA_ptr rfl (mapO_con rfl (mapO_con rfl (mapO_con rfl rfl)))) purAs_nil)) (by kernel_rfl)
def F22_v (a1 : TreeX) (a2 : TreeD) (x0 : Bool) : AV := (vb x0)
abbrev T_F22 := TreeX → TreeD → Option Bool
abbrev H_F22 (f : T_F22) : Prop := ∀ (a1 : TreeX) (a2 : TreeD) {r : Bool}, f a1 a2 = some r → PR1 pg 22 [(.agg ((cX a1).map .p)), (.agg ((cT a2).map .p))] (F22_v a1 a2 r)
inductive E_L22_0 where
  | k0
  | k1
def L22_0 (rF22 : T_F22) (a1 : TreeX) (a2 : TreeD) (v1 : Int) : Option (E_L22_0 ⊕ (Int)) :=
  (bif (decide (v1 < (a2.kids.length : Int))) then ((getI a1.kids v1).bind fun x2 => ((getI a2.kids v1).bind fun x3 => ((rF22 x2 x3).bind fun x4 => (bif x4 then (some (.inr ((IntKind.wrap .i64 (v1 + 1))))) else (some (.inl (.k0))))))) else (some (.inl (.k1))))
def L22_0_s (a1 : TreeX) (a2 : TreeD) (v1 : Int) : St := ⟨fr 62 ug [(2, (.ro (cX a1))), (3, (.ro (cT a2))), (5, i6 v1)], []⟩
theorem L22_0_k (a1 : TreeX) (a2 : TreeD) (v1 : Int) : okT 0 (L22_0_s a1 a2 v1).h = true := (okT_of rfl rfl)
abbrev L22_0_e (a1 : TreeX) (a2 : TreeD) (v1 : Int) := evH pg 0 [2, 3, 5] ir22_l0 (L22_0_s a1 a2 v1)
def L22_0_x (a1 : TreeX) (a2 : TreeD) (e : E_L22_0) (r : Option (Out × St)) : Prop := match e with | .k0 => ∃ g y, r = some (.ret, ⟨fr 62 g [(4, vb false)], y⟩) | .k1 => ∃ g, r = some ((.brk 0), ⟨fr 62 g [(2, (.ro (cX a1))), (3, (.ro (cT a2)))], []⟩)
theorem L22_0_ok (rF22 : T_F22) (hF22 : H_F22 rF22) (a1 : TreeX) (a2 : TreeD) (v1 : Int) {r : E_L22_0 ⊕ (Int)} (h : L22_0 rF22 a1 a2 v1 = some r) : OkR (fun e => L22_0_x a1 a2 e (L22_0_e a1 a2 v1)) (fun s => L22_0_e a1 a2 v1 = L22_0_e a1 a2 s) r := by
 unfold L22_0 at h
 have q0 := ((lgr tr_map) : lnA (.p (.lst 3 (eTrees a2.kids))) = some (i6 (a2.kids.length : Int)))
 have q1 := (rfl : ldF [] .false .false 1 (.ro [.lsx 3 (eTreesX a1.kids) [moreT]]) = some (.p (.lst 3 (eTreesX a1.kids))))
 apply bi h <;> intro h1 h
 ·
  have k2 := ka [(46, .v (i6 (a2.kids.length : Int))), (47, .d true), (51, .v (.p (.lst 3 (eTreesX a1.kids))))] (apc q0 (av h1 (apc q1 apn)))
  apply bn h; intro x2 h2 h
  have q3 := ((igr trX_map h2) : idxA 3 (.p (.lst 3 (eTreesX a1.kids))) (i6 v1) = some (.ro (cX x2)))
  apply bn h; intro x3 h3 h
  have q4 := ((igr tr_map h3) : idxA 3 (.p (.lst 3 (eTrees a2.kids))) (i6 v1) = some (.ro (cT x3)))
  have k5 := k2.a [(53, .v (.ro (cX x2))), (58, .v (.ro (cT x3)))] (apc q3 (apc q4 apn))
  apply bn h; intro x4 h4 h
  apply bi h <;> intro h5 h
  ·
   rw [← sj h]
   exact rn ([(60, .v (vb true)), (6000, .d true)] ++ kH k5) (k5.b (apc ((((hF22 x2 x3 h4).cp rfl _).trans (congrArg (fun z => some (vb z)) h5)) : CP pg 22 [(.agg ((cX x2).map .p)), (.agg ((cT x3).map .p))] [] = some (vb true)) (apc (L22_0_k a1 a2 (w6 (v1 + 1))) apn)))
  ·
   rw [← sj h]
   exact xy ([(60, .v (vb false)), (6000, .d true)] ++ kH k5) (k5.b (apc ((((hF22 x2 x3 h4).cp rfl _).trans (congrArg (fun z => some (vb z)) h5)) : CP pg 22 [(.agg ((cX x2).map .p)), (.agg ((cT x3).map .p))] [] = some (vb false)) apn))
 ·
  rw [← sj h]
  exact xb [(46, .v (i6 (a2.kids.length : Int))), (47, .d false), (6000, .d true)] (apc q0 (av h1 apn))
theorem L22_0_run (rF22 : T_F22) (hF22 : H_F22 rF22) (a1 : TreeX) (a2 : TreeD) (s0 : Int) (e : E_L22_0) (h : runL (fun s => L22_0 rF22 a1 a2 s) s0 = some e) : L22_0_x a1 a2 e (L22_0_e a1 a2 s0) := by
  have q := @loop_sound' (Int) E_L22_0 (fun s => L22_0 rF22 a1 a2 s) (fun s => L22_0_e a1 a2 s) (L22_0_x a1 a2) (fun s r h => L22_0_ok rF22 hF22 a1 a2 s h) s0 e h
  exact q
def F22_b (rF22 : T_F22) (a1 : TreeX) (a2 : TreeD) : Option Bool :=
  (bif (a1.prod != a2.prod) then (some false) else (bif (a1.byte != a2.byte) then (some false) else (bif ((a1.kids.length : Int) != (a2.kids.length : Int)) then (some false) else (bif (decide (0 ≤ (IntKind.wrap .i64 ((a2.kids.length : Int) + 1)) ∧ (IntKind.wrap .i64 ((a2.kids.length : Int) + 1)) ≤ (a1.kids.length : Int) + 1)) then (bif (decide ((IntKind.wrap .i64 ((a2.kids.length : Int) + 1)) = (a1.kids.length : Int) + 1 ∧ (a2.kids.length : Int) = (a1.kids.length : Int))) then ((runL (fun s => L22_0 rF22 a1 a2 s) 0).bind fun r6 => match r6 with | .k0 => (some false) | .k1 => (some true)) else none) else none))))
theorem F22_bok (rF22 : T_F22) (hF22 : H_F22 rF22) (a1 : TreeX) (a2 : TreeD) {r : Bool} (h : F22_b rF22 a1 a2 = some r) : PR1 pg 22 [(.agg ((cX a1).map .p)), (.agg ((cT a2).map .p))] (F22_v a1 a2 r) := by
 unfold F22_b at h
 have q0 := (rfl : ldF [] .false .false 1 (.ro [.lsx 3 (eTreesX a1.kids) [moreT]]) = some (.p (.lst 3 (eTreesX a1.kids))))
 have q1 := ((lgr trX_map) : lnA (.p (.lst 3 (eTreesX a1.kids))) = some (i6 (a1.kids.length : Int)))
 have q2 := ((lgr tr_map) : lnA (.p (.lst 3 (eTrees a2.kids))) = some (i6 (a2.kids.length : Int)))
 apply bi h <;> intro h1 h
 ·
  rw [← sj h]
  exact fq [(10, .d true)] (av h1 apn)
 ·
  apply bi h <;> intro h2 h
  ·
   rw [← sj h]
   exact fq [(10, .d false), (16, .d true)] (av h1 (av h2 apn))
  ·
   have k3 := ka [(10, .d false), (16, .d false), (20, .v (.p (.lst 3 (eTreesX a1.kids)))), (21, .v (i6 (a1.kids.length : Int))), (24, .v (i6 (a2.kids.length : Int)))] (av h1 (av h2 (apc q0 (apc q1 (apc q2 apn)))))
   apply bi h <;> intro h3 h
   ·
    rw [← sj h]
    exact fq ([(25, .d true)] ++ kH k3) (k3.b (av h3 apn))
   ·
    have k4 := k3.a [(25, .d false), (32, .v (i6 (a2.kids.length : Int)))] (av h3 (apc q2 apn))
    apply bi h <;> intro h4 h
    ·
     have q5 := ((slX_one (n := a1.kids.length) (by rw [trX_map, List.length_map]) h4) : slXA 3 (.p (.lsx 3 (eTreesX a1.kids) [moreT])) (some 0) (some (w6 ((a2.kids.length : Int) + 1))) = some (.p (.lst 3 (((eTreesX a1.kids) ++ [moreT]).take (Int.toNat (w6 ((a2.kids.length : Int) + 1)))))))
     have k6 := k4.a [(34, .v (.p (.lst 3 (((eTreesX a1.kids) ++ [moreT]).take (Int.toNat (w6 ((a2.kids.length : Int) + 1))))))), (37, .v (i6 (a2.kids.length : Int)))] (apc q5 (apc q2 apn))
     apply bi h <;> intro h5 h
     ·
      have q7 := ((idX_one (n := a1.kids.length) (by rw [trX_map, List.length_map]) h5) : idxA 3 (.p (.lst 3 (((eTreesX a1.kids) ++ [moreT]).take (Int.toNat (w6 ((a2.kids.length : Int) + 1)))))) (i6 (a2.kids.length : Int)) = some (.ro [.val (.int .i64 (-77)), .val (.int .u8 0), .val (.slice .none 0 0)]))
      have k8 := k6.a [(38, .v (.ro [.val (.int .i64 (-77)), .val (.int .u8 0), .val (.slice .none 0 0)]))] (apc q7 apn)
      apply bn h; intro r6 h6 h
      cases r6 with
      | k0 =>
       obtain ⟨g6, y6, e6⟩ := L22_0_run rF22 hF22 a1 a2 0 _ h6
       rw [← sj h]
       exact fq ([(2000, .l .ret ⟨fr 62 g6 [(4, vb false)], y6⟩), (6000, .d true)] ++ kH k8) (k8.b (apc (L22_0_k a1 a2 0) (apc (e6 : L22_0_e a1 a2 0 = some (.ret, ⟨fr 62 g6 [(4, vb false)], y6⟩)) apn)))
      | k1 =>
       obtain ⟨g6, e6⟩ := L22_0_run rF22 hF22 a1 a2 0 _ h6
       rw [← sj h]
       exact fq ([(2000, .l (.brk 0) ⟨fr 62 g6 [(2, (.ro (cX a1))), (3, (.ro (cT a2)))], []⟩), (6000, .d true)] ++ kH k8) (k8.b (apc (L22_0_k a1 a2 0) (apc (e6 : L22_0_e a1 a2 0 = some ((.brk 0), ⟨fr 62 g6 [(2, (.ro (cX a1))), (3, (.ro (cT a2)))], []⟩)) apn)))
     ·
      cases h
    ·
     cases h
def F22 : Nat → T_F22
  | 0 => fun _ _ => none
  | Nf + 1 => F22_b (F22 Nf)
theorem F22_ok (Nf : Nat) : H_F22 (F22 Nf) := by
  induction Nf with
  | zero => intro a1 a2 r h; have h : (none : Option Bool) = some r := h; cases h
  | succ Nf ih => intro a1 a2 r h; exact F22_bok (F22 Nf) ih a1 a2 h
def F14_v (a1 a2 : TreeD) (x0 : Bool) : AV := (vb x0)
abbrev T_F14 := TreeD → TreeD → Option Bool
abbrev H_F14 (f : T_F14) : Prop := ∀ (a1 a2 : TreeD) {r : Bool}, f a1 a2 = some r → PR1 pg 14 [(.agg ((cT a1).map .p)), (.agg ((cT a2).map .p))] (F14_v a1 a2 r)
inductive E_L14_0 where
  | k0
  | k1
def L14_0 (rF14 : T_F14) (a1 a2 : TreeD) (v1 : Int) : Option (E_L14_0 ⊕ (Int)) :=
  (bif (decide (v1 < (a1.kids.length : Int))) then ((getI a1.kids v1).bind fun x2 => ((getI a2.kids v1).bind fun x3 => ((rF14 x2 x3).bind fun x4 => (bif x4 then (some (.inr ((IntKind.wrap .i64 (v1 + 1))))) else (some (.inl (.k0))))))) else (some (.inl (.k1))))
def L14_0_s (a1 a2 : TreeD) (v1 : Int) : St := ⟨fr 46 ug [(2, .ptr 0 0), (3, .ptr 1 0), (5, i6 v1)], [.cells 25 ((cT a1).map .p), .cells 25 ((cT a2).map .p)]⟩
theorem L14_0_k (a1 a2 : TreeD) (v1 : Int) : okT 2 (L14_0_s a1 a2 v1).h = true := (okT_of rfl (ac (ac rfl)))
abbrev L14_0_e (a1 a2 : TreeD) (v1 : Int) := evH pg 2 [2, 3, 5] ir14_l0 (L14_0_s a1 a2 v1)
def L14_0_x (a1 a2 : TreeD) (e : E_L14_0) (r : Option (Out × St)) : Prop := match e with | .k0 => ∃ g y, r = some (.ret, ⟨fr 46 g [(4, vb false)], y⟩) | .k1 => ∃ g, r = some ((.brk 0), ⟨fr 46 g [(2, .ptr 0 0), (3, .ptr 1 0)], [.cells 25 ((cT a1).map .p), .cells 25 ((cT a2).map .p)]⟩)
theorem L14_0_ok (rF14 : T_F14) (hF14 : H_F14 rF14) (a1 a2 : TreeD) (v1 : Int) {r : E_L14_0 ⊕ (Int)} (h : L14_0 rF14 a1 a2 v1 = some r) : OkR (fun e => L14_0_x a1 a2 e (L14_0_e a1 a2 v1)) (fun s => L14_0_e a1 a2 v1 = L14_0_e a1 a2 s) r := by
 unfold L14_0 at h
 have q0 := ((lgr tr_map) : lnA (.p (.lst 3 (eTrees a1.kids))) = some (i6 (a1.kids.length : Int)))
 apply bi h <;> intro h1 h
 ·
  have k1 := ka [(30, .v (i6 (a1.kids.length : Int))), (31, .d true)] (apc q0 (av h1 apn))
  apply bn h; intro x2 h2 h
  have q2 := ((igr tr_map h2) : idxA 3 (.p (.lst 3 (eTrees a1.kids))) (i6 v1) = some (.ro (cT x2)))
  apply bn h; intro x3 h3 h
  have q3 := ((igr tr_map h3) : idxA 3 (.p (.lst 3 (eTrees a2.kids))) (i6 v1) = some (.ro (cT x3)))
  have k4 := k1.a [(37, .v (.ro (cT x2))), (42, .v (.ro (cT x3)))] (apc q2 (apc q3 apn))
  apply bn h; intro x4 h4 h
  apply bi h <;> intro h5 h
  ·
   rw [← sj h]
   exact rn ([(44, .v (vb true)), (6000, .d true)] ++ kH k4) (k4.b (apc ((((hF14 x2 x3 h4).cp rfl _).trans (congrArg (fun z => some (vb z)) h5)) : CP pg 14 [(.agg ((cT x2).map .p)), (.agg ((cT x3).map .p))] [.cells 25 ((cT a1).map .p), .cells 25 ((cT a2).map .p)] = some (vb true)) (apc (L14_0_k a1 a2 (w6 (v1 + 1))) apn)))
  ·
   rw [← sj h]
   exact xy ([(44, .v (vb false)), (6000, .d true)] ++ kH k4) (k4.b (apc ((((hF14 x2 x3 h4).cp rfl _).trans (congrArg (fun z => some (vb z)) h5)) : CP pg 14 [(.agg ((cT x2).map .p)), (.agg ((cT x3).map .p))] [.cells 25 ((cT a1).map .p), .cells 25 ((cT a2).map .p)] = some (vb false)) apn))
 ·
  rw [← sj h]
  exact xb [(30, .v (i6 (a1.kids.length : Int))), (31, .d false), (6000, .d true)] (apc q0 (av h1 apn))
theorem L14_0_run (rF14 : T_F14) (hF14 : H_F14 rF14) (a1 a2 : TreeD) (s0 : Int) (e : E_L14_0) (h : runL (fun s => L14_0 rF14 a1 a2 s) s0 = some e) : L14_0_x a1 a2 e (L14_0_e a1 a2 s0) := by
  have q := @loop_sound' (Int) E_L14_0 (fun s => L14_0 rF14 a1 a2 s) (fun s => L14_0_e a1 a2 s) (L14_0_x a1 a2) (fun s r h => L14_0_ok rF14 hF14 a1 a2 s h) s0 e h
  exact q
def F14_b (rF14 : T_F14) (a1 a2 : TreeD) : Option Bool :=
  (bif (a1.prod != a2.prod) then (some false) else (bif (a1.byte != a2.byte) then (some false) else (bif ((a1.kids.length : Int) != (a2.kids.length : Int)) then (some false) else ((runL (fun s => L14_0 rF14 a1 a2 s) 0).bind fun r4 => match r4 with | .k0 => (some false) | .k1 => (some true)))))
abbrev F14_d0 (g4 : Nat → AV) (a1 a2 : TreeD) : St := ⟨fr 46 g4 [(2, .ptr 0 0), (3, .ptr 1 0)], [.cells 25 ((cT a1).map .p), .cells 25 ((cT a2).map .p)]⟩
theorem F14_bok (rF14 : T_F14) (hF14 : H_F14 rF14) (a1 a2 : TreeD) {r : Bool} (h : F14_b rF14 a1 a2 = some r) : PR1 pg 14 [(.agg ((cT a1).map .p)), (.agg ((cT a2).map .p))] (F14_v a1 a2 r) := by
 unfold F14_b at h
 have q0 := ((lgr tr_map) : lnA (.p (.lst 3 (eTrees a1.kids))) = some (i6 (a1.kids.length : Int)))
 have q1 := ((lgr tr_map) : lnA (.p (.lst 3 (eTrees a2.kids))) = some (i6 (a2.kids.length : Int)))
 apply bi h <;> intro h1 h
 ·
  rw [← sj h]
  exact fq [(10, .d true)] (av h1 apn)
 ·
  apply bi h <;> intro h2 h
  ·
   rw [← sj h]
   exact fq [(10, .d false), (16, .d true)] (av h1 (av h2 apn))
  ·
   have k2 := ka [(10, .d false), (16, .d false), (21, .v (i6 (a1.kids.length : Int))), (24, .v (i6 (a2.kids.length : Int)))] (av h1 (av h2 (apc q0 (apc q1 apn))))
   apply bi h <;> intro h3 h
   ·
    rw [← sj h]
    exact fq ([(25, .d true)] ++ kH k2) (k2.b (av h3 apn))
   ·
    apply bn h; intro r4 h4 h
    cases r4 with
    | k0 =>
     obtain ⟨g4, y4, e4⟩ := L14_0_run rF14 hF14 a1 a2 0 _ h4
     rw [← sj h]
     exact fq ([(25, .d false), (2000, .l .ret ⟨fr 46 g4 [(4, vb false)], y4⟩), (6000, .d true)] ++ kH k2) (k2.b (av h3 (apc (L14_0_k a1 a2 0) (apc (e4 : L14_0_e a1 a2 0 = some (.ret, ⟨fr 46 g4 [(4, vb false)], y4⟩)) apn))))
    | k1 =>
     obtain ⟨g4, e4⟩ := L14_0_run rF14 hF14 a1 a2 0 _ h4
     rw [← sj h]
     exact fq ([(25, .d false), (2000, .l (.brk 0) (F14_d0 g4 a1 a2)), (6000, .d true)] ++ kH k2) (k2.b (av h3 (apc (L14_0_k a1 a2 0) (apc (e4 : L14_0_e a1 a2 0 = some ((.brk 0), F14_d0 g4 a1 a2)) apn))))
def F14 : Nat → T_F14
  | 0 => fun _ _ => none
  | Nf + 1 => F14_b (F14 Nf)
theorem F14_ok (Nf : Nat) : H_F14 (F14 Nf) := by
  induction Nf with
  | zero => intro a1 a2 r h; have h : (none : Option Bool) = some r := h; cases h
  | succ Nf ih => intro a1 a2 r h; exact F14_bok (F14 Nf) ih a1 a2 h
def F24_2_v (a1 : TreeD) (x0 : Bool) : AV := (vb x0)
abbrev T_F24_2 := TreeD → Option Bool
abbrev H_F24_2 (f : T_F24_2) : Prop := ∀ (a1 : TreeD) {r : Bool}, f a1 = some r → PR1 pg 24 [(.agg ((cT a1).map .p)), (.agg ((cT a1).map .p))] (F24_2_v a1 r)
inductive E_L55_0_2 where
  | k0
  | k1
def L55_0_2 (rF24_2 : T_F24_2) (a1 : TreeD) (a2 : Int) (v1 : Int) : Option (E_L55_0_2 ⊕ (Int)) :=
  (bif (decide (v1 < a2)) then ((getI a1.kids v1).bind fun x2 => ((rF24_2 x2).bind fun x3 => (bif x3 then (some (.inr ((IntKind.wrap .i64 (v1 + 1))))) else (some (.inl (.k0)))))) else (some (.inl (.k1))))
def L55_0_2_s (a1 : TreeD) (a2 : Int) (v1 : Int) : St := ⟨fr 32 ug [(1, (.p (.lst 3 (eTrees a1.kids)))), (2, (.fn 24 [])), (15, (.p (.lst 3 (eTrees a1.kids)))), (16, i6 a2), (17, i6 v1)], []⟩
theorem L55_0_2_k (a1 : TreeD) (a2 : Int) (v1 : Int) : okT 0 (L55_0_2_s a1 a2 v1).h = true := (okT_of rfl rfl)
abbrev L55_0_2_e (a1 : TreeD) (a2 : Int) (v1 : Int) := evH pg 0 [1, 2, 15, 16, 17] ir55_l0 (L55_0_2_s a1 a2 v1)
def L55_0_2_x (a1 : TreeD) (a2 : Int) (e : E_L55_0_2) (r : Option (Out × St)) : Prop := match e with | .k0 => ∃ g y, r = some (.ret, ⟨fr 32 g [(6, vb false)], y⟩) | .k1 => ∃ g, r = some ((.brk 0), ⟨fr 32 g [(1, (.p (.lst 3 (eTrees a1.kids)))), (15, (.p (.lst 3 (eTrees a1.kids))))], []⟩)
abbrev L55_0_2_d0 (x2 : TreeD) : List AB := [yT0, .cells 25 ((cT x2).map .p), yT0, .cells 25 ((cT x2).map .p)]
theorem L55_0_2_ok (rF24_2 : T_F24_2) (hF24_2 : H_F24_2 rF24_2) (a1 : TreeD) (a2 : Int) (v1 : Int) {r : E_L55_0_2 ⊕ (Int)} (h : L55_0_2 rF24_2 a1 a2 v1 = some r) : OkR (fun e => L55_0_2_x a1 a2 e (L55_0_2_e a1 a2 v1)) (fun s => L55_0_2_e a1 a2 v1 = L55_0_2_e a1 a2 s) r := by
 unfold L55_0_2 at h
 apply bi h <;> intro h1 h
 ·
  apply bn h; intro x2 h2 h
  have q0 := ((igr tr_map h2) : idxA 3 (.p (.lst 3 (eTrees a1.kids))) (i6 v1) = some (.ro (cT x2)))
  have k1 := ka [(18, .d true), (20, .v (.ro (cT x2))), (24, .v (.ro (cT x2)))] (av h1 (apc q0 (apc q0 apn)))
  apply bn h; intro x3 h3 h
  apply bi h <;> intro h4 h
  ·
   rw [← sj h]
   exact rn ([(29, .v (vb true)), (6000, .d true)] ++ kH k1) (k1.b (apc ((((hF24_2 x2 h3).cp rfl _).trans (congrArg (fun z => some (vb z)) h4)) : CP pg 24 [(.agg ((cT x2).map .p)), (.agg ((cT x2).map .p))] (L55_0_2_d0 x2) = some (vb true)) (apc (L55_0_2_k a1 a2 (w6 (v1 + 1))) apn)))
  ·
   rw [← sj h]
   exact xy ([(29, .v (vb false)), (6000, .d true)] ++ kH k1) (k1.b (apc ((((hF24_2 x2 h3).cp rfl _).trans (congrArg (fun z => some (vb z)) h4)) : CP pg 24 [(.agg ((cT x2).map .p)), (.agg ((cT x2).map .p))] (L55_0_2_d0 x2) = some (vb false)) apn))
 ·
  rw [← sj h]
  exact xb [(18, .d false), (6000, .d true)] (av h1 apn)
theorem L55_0_2_run (rF24_2 : T_F24_2) (hF24_2 : H_F24_2 rF24_2) (a1 : TreeD) (a2 : Int) (s0 : Int) (e : E_L55_0_2) (h : runL (fun s => L55_0_2 rF24_2 a1 a2 s) s0 = some e) : L55_0_2_x a1 a2 e (L55_0_2_e a1 a2 s0) := by
  have q := @loop_sound' (Int) E_L55_0_2 (fun s => L55_0_2 rF24_2 a1 a2 s) (fun s => L55_0_2_e a1 a2 s) (L55_0_2_x a1 a2) (fun s r h => L55_0_2_ok rF24_2 hF24_2 a1 a2 s h) s0 e h
  exact q
def F55_2_v (a1 : TreeD) (x0 : Bool) : AV := (vb x0)
def F55_2 (rF24_2 : T_F24_2) (a1 : TreeD) : Option Bool :=
  (bif ((a1.kids.length : Int) != (a1.kids.length : Int)) then (some false) else ((runL (fun s => L55_0_2 rF24_2 a1 (a1.kids.length : Int) s) 0).bind fun r2 => match r2 with | .k0 => (some false) | .k1 => (some true)))
abbrev F55_2_d0 (g2 : Nat → AV) (a1 : TreeD) : St := ⟨fr 32 g2 [(1, (.p (.lst 3 (eTrees a1.kids)))), (15, (.p (.lst 3 (eTrees a1.kids))))], []⟩
theorem F55_2_ok (rF24_2 : T_F24_2) (hF24_2 : H_F24_2 rF24_2) (a1 : TreeD) {r : Bool} (h : F55_2 rF24_2 a1 = some r) : PR1 pg 55 [(.p (.lst 3 (eTrees a1.kids))), (.p (.lst 3 (eTrees a1.kids))), (.fn 24 [])] (F55_2_v a1 r) := by
 unfold F55_2 at h
 have q0 := ((lgr tr_map) : lnA (.p (.lst 3 (eTrees a1.kids))) = some (i6 (a1.kids.length : Int)))
 have k1 := ka [(11, .v (i6 (a1.kids.length : Int))), (13, .v (i6 (a1.kids.length : Int)))] (apc q0 (apc q0 apn))
 apply bi h <;> intro h1 h
 ·
  rw [← sj h]
  exact fq ([(14, .d true)] ++ kH k1) (k1.b (av h1 apn))
 ·
  have k2 := k1.a [(14, .d false), (16, .v (i6 (a1.kids.length : Int)))] (av h1 (apc q0 apn))
  apply bn h; intro r2 h2 h
  cases r2 with
  | k0 =>
   obtain ⟨g2, y2, e2⟩ := L55_0_2_run rF24_2 hF24_2 a1 (a1.kids.length : Int) 0 _ h2
   rw [← sj h]
   exact fq ([(2000, .l .ret ⟨fr 32 g2 [(6, vb false)], y2⟩), (6000, .d true)] ++ kH k2) (k2.b (apc (L55_0_2_k a1 (a1.kids.length : Int) 0) (apc (e2 : L55_0_2_e a1 (a1.kids.length : Int) 0 = some (.ret, ⟨fr 32 g2 [(6, vb false)], y2⟩)) apn)))
  | k1 =>
   obtain ⟨g2, e2⟩ := L55_0_2_run rF24_2 hF24_2 a1 (a1.kids.length : Int) 0 _ h2
   rw [← sj h]
   exact fq ([(2000, .l (.brk 0) (F55_2_d0 g2 a1)), (6000, .d true)] ++ kH k2) (k2.b (apc (L55_0_2_k a1 (a1.kids.length : Int) 0) (apc (e2 : L55_0_2_e a1 (a1.kids.length : Int) 0 = some ((.brk 0), F55_2_d0 g2 a1)) apn)))
def F24_2_b (rF24_2 : T_F24_2) (a1 : TreeD) : Option Bool :=
  (bif (a1.prod == a1.prod) then (bif (a1.byte == a1.byte) then ((F55_2 rF24_2 a1).bind fun x3 => (some x3)) else (some false)) else (some false))
theorem F24_2_bok (rF24_2 : T_F24_2) (hF24_2 : H_F24_2 rF24_2) (a1 : TreeD) {r : Bool} (h : F24_2_b rF24_2 a1 = some r) : PR1 pg 24 [(.agg ((cT a1).map .p)), (.agg ((cT a1).map .p))] (F24_2_v a1 r) := by
 unfold F24_2_b at h
 apply bi h <;> intro h1 h
 ·
  apply bi h <;> intro h2 h
  ·
   apply bn h; intro x3 h3 h
   rw [← sj h]
   exact fq [(9, .d true), (15, .d true), (22, .v (vb x3))] (av h1 (av h2 (apc (((F55_2_ok rF24_2 hF24_2 a1 h3).cp rfl _) : CP pg 55 [(.p (.lst 3 (eTrees a1.kids))), (.p (.lst 3 (eTrees a1.kids))), (.fn 24 [])] [.cells 25 ((cT a1).map .p), .cells 25 ((cT a1).map .p)] = some (vb x3)) apn)))
  ·
   rw [← sj h]
   exact fq [(9, .d true), (15, .d false)] (av h1 (av h2 apn))
 ·
  rw [← sj h]
  exact fq [(9, .d false)] (av h1 apn)
def F24_2 : Nat → T_F24_2
  | 0 => fun _ => none
  | Nf + 1 => F24_2_b (F24_2 Nf)
theorem F24_2_ok (Nf : Nat) : H_F24_2 (F24_2 Nf) := by
  induction Nf with
  | zero => intro a1 r h; have h : (none : Option Bool) = some r := h; cases h
  | succ Nf ih => intro a1 r h; exact F24_2_bok (F24_2 Nf) ih a1 h
inductive R_Y25_0_2 where
  | k0
def Y25_0_2_v (a1 : TreeD) (r : R_Y25_0_2) : AV := match r with | .k0 => (vb false)
def Y25_0_2_h (a1 : TreeD) (r : R_Y25_0_2) : List AB := match r with | .k0 => [.cells 4 [vb false], .cells 3 [i6 0], .loop 2 (some none) [13, 14] [(.fn 51 [(.ro (cT a1))]), n0, i6 0, (.p (.val undef)), (.ro [.val (.slice .none 0 0)]), (.ro [.val (.int .i64 0)]), .ptr 0 0, .ptr 1 0, (.p (.val undef)), (.p (.val undef)), (.fn 51 [(.ro (cT a1))]), vb false, (.fn 51 [(.ro (cT a1))]), (.p (.val undef)), (.p (.val undef)), (.p (.val undef)), (.p (.val undef)), (.p (.val undef)), (.p (.val undef)), (.p (.val undef)), (.p (.val undef)), (.p (.val undef)), (.p (.val undef)), (.p (.val undef)), (.p (.val undef)), (.p (.val undef)), (.p (.val undef)), (.p (.val undef)), (.p (.val undef)), (.p (.val undef)), (.p (.val undef)), (.p (.val undef)), (.p (.val undef)), (.p (.val undef)), (.p (.val undef)), (.p (.val undef)), (.p (.val undef)), (.p (.val undef)), (.p (.val undef)), (.p (.val undef)), (.p (.val undef)), (.p (.val undef))] ir25_a0 ir25_b0, .cells 91 [.yl 2], .cells 3 [i6 1], .cells 57 [(.fn 52 [.ptr 4 0, .ptr 3 0, .ptr 5 0])], .cells 25 ((cT a1).map .p)]
def Y25_0_2 : Option R_Y25_0_2 :=
  (some (.k0))
theorem Y25_0_2_ok (a1 : TreeD) {r : R_Y25_0_2} (h : Y25_0_2 = some r) : callY (ev pg) 2 [i6 0, (.agg ((cT a1).map .p))] [.cells 4 [vb false], .cells 3 [i6 0], .loop 0 none [13, 14] [(.fn 51 [(.ro (cT a1))]), n0, i6 0, (.p (.val undef)), (.ro [.val (.slice .none 0 0)]), (.ro [.val (.int .i64 0)]), .ptr 0 0, .ptr 1 0, (.p (.val undef)), (.p (.val undef)), (.fn 51 [(.ro (cT a1))]), vb false, (.fn 51 [(.ro (cT a1))]), (.p (.val undef)), (.p (.val undef)), (.p (.val undef)), (.p (.val undef)), (.p (.val undef)), (.p (.val undef)), (.p (.val undef)), (.p (.val undef)), (.p (.val undef)), (.p (.val undef)), (.p (.val undef)), (.p (.val undef)), (.p (.val undef)), (.p (.val undef)), (.p (.val undef)), (.p (.val undef)), (.p (.val undef)), (.p (.val undef)), (.p (.val undef)), (.p (.val undef)), (.p (.val undef)), (.p (.val undef)), (.p (.val undef)), (.p (.val undef)), (.p (.val undef)), (.p (.val undef)), (.p (.val undef)), (.p (.val undef)), (.p (.val undef))] ir25_a0 ir25_b0, .cells 91 [.yl 2], .cells 3 [i6 1], .cells 57 [(.fn 52 [.ptr 4 0, .ptr 3 0, .ptr 5 0])]] = some (Y25_0_2_v a1 r, Y25_0_2_h a1 r) := by
 unfold Y25_0_2 at h
 rw [← sj h]
 exact fyc [] apn (by kernel_rfl)
inductive R_F52_4 where
  | k0
def F52_4_v (a1 : TreeD) (r : R_F52_4) : AV := match r with | .k0 => (vb false)
def F52_4_h (a1 : TreeD) (r : R_F52_4) : List AB := match r with | .k0 => [.cells 4 [vb false], .cells 3 [i6 0], .loop 2 (some none) [13, 14] [(.fn 51 [(.ro (cT a1))]), n0, i6 0, (.p (.val undef)), (.ro [.val (.slice .none 0 0)]), (.ro [.val (.int .i64 0)]), .ptr 0 0, .ptr 1 0, (.p (.val undef)), (.p (.val undef)), (.fn 51 [(.ro (cT a1))]), vb false, (.fn 51 [(.ro (cT a1))]), (.p (.val undef)), (.p (.val undef)), (.p (.val undef)), (.p (.val undef)), (.p (.val undef)), (.p (.val undef)), (.p (.val undef)), (.p (.val undef)), (.p (.val undef)), (.p (.val undef)), (.p (.val undef)), (.p (.val undef)), (.p (.val undef)), (.p (.val undef)), (.p (.val undef)), (.p (.val undef)), (.p (.val undef)), (.p (.val undef)), (.p (.val undef)), (.p (.val undef)), (.p (.val undef)), (.p (.val undef)), (.p (.val undef)), (.p (.val undef)), (.p (.val undef)), (.p (.val undef)), (.p (.val undef)), (.p (.val undef)), (.p (.val undef))] ir25_a0 ir25_b0, .cells 91 [.yl 2], .cells 3 [i6 1], .cells 57 [(.fn 52 [.ptr 4 0, .ptr 3 0, .ptr 5 0])]]
def F52_4 : Option R_F52_4 :=
  ((Y25_0_2).bind fun r1 => match r1 with | .k0 => (some (.k0)))
abbrev F52_4_d0 (a1 : TreeD) : List AB := [.cells 4 [vb false], .cells 3 [i6 0], .loop 2 (some none) [13, 14] [(.fn 51 [(.ro (cT a1))]), n0, i6 0, (.p (.val undef)), (.ro [.val (.slice .none 0 0)]), (.ro [.val (.int .i64 0)]), .ptr 0 0, .ptr 1 0, (.p (.val undef)), (.p (.val undef)), (.fn 51 [(.ro (cT a1))]), vb false, (.fn 51 [(.ro (cT a1))]), (.p (.val undef)), (.p (.val undef)), (.p (.val undef)), (.p (.val undef)), (.p (.val undef)), (.p (.val undef)), (.p (.val undef)), (.p (.val undef)), (.p (.val undef)), (.p (.val undef)), (.p (.val undef)), (.p (.val undef)), (.p (.val undef)), (.p (.val undef)), (.p (.val undef)), (.p (.val undef)), (.p (.val undef)), (.p (.val undef)), (.p (.val undef)), (.p (.val undef)), (.p (.val undef)), (.p (.val undef)), (.p (.val undef)), (.p (.val undef)), (.p (.val undef)), (.p (.val undef)), (.p (.val undef)), (.p (.val undef)), (.p (.val undef))] ir25_a0 ir25_b0, .cells 91 [.yl 2], .cells 3 [i6 1], .cells 57 [(.fn 52 [.ptr 4 0, .ptr 3 0, .ptr 5 0])], .cells 25 ((cT a1).map .p)]
theorem F52_4_ok (a1 : TreeD) {r : R_F52_4} (h : F52_4 = some r) : ∀ hx : List AB, CS pg 52 [(.agg ((cT a1).map .p)), .ptr 4 0, .ptr 3 0, .ptr 5 0] ([.cells 4 [vb false], .cells 3 [i6 0], .loop 0 none [13, 14] [(.fn 51 [(.ro (cT a1))]), n0, i6 0, (.p (.val undef)), (.ro [.val (.slice .none 0 0)]), (.ro [.val (.int .i64 0)]), .ptr 0 0, .ptr 1 0, (.p (.val undef)), (.p (.val undef)), (.fn 51 [(.ro (cT a1))]), vb false, (.fn 51 [(.ro (cT a1))]), (.p (.val undef)), (.p (.val undef)), (.p (.val undef)), (.p (.val undef)), (.p (.val undef)), (.p (.val undef)), (.p (.val undef)), (.p (.val undef)), (.p (.val undef)), (.p (.val undef)), (.p (.val undef)), (.p (.val undef)), (.p (.val undef)), (.p (.val undef)), (.p (.val undef)), (.p (.val undef)), (.p (.val undef)), (.p (.val undef)), (.p (.val undef)), (.p (.val undef)), (.p (.val undef)), (.p (.val undef)), (.p (.val undef)), (.p (.val undef)), (.p (.val undef)), (.p (.val undef)), (.p (.val undef)), (.p (.val undef)), (.p (.val undef))] ir25_a0 ir25_b0, .cells 91 [.yl 2], .cells 3 [i6 0], .cells 57 [(.fn 52 [.ptr 4 0, .ptr 3 0, .ptr 5 0])]] ++ hx) = some (F52_4_v a1 r, F52_4_h a1 r ++ hx) := by
 unfold F52_4 at h
 apply bn h; intro r1 h1 h
 cases r1 with
 | k0 =>
  rw [← sj h]
  exact fcF (m := 6) (v := (vb false)) (h' := (F52_4_d0 a1)) [(14, .r (vb false) (F52_4_d0 a1))] (apc ((Y25_0_2_ok a1 h1) : callY (ev pg) 2 [i6 0, (.agg ((cT a1).map .p))] [.cells 4 [vb false], .cells 3 [i6 0], .loop 0 none [13, 14] [(.fn 51 [(.ro (cT a1))]), n0, i6 0, (.p (.val undef)), (.ro [.val (.slice .none 0 0)]), (.ro [.val (.int .i64 0)]), .ptr 0 0, .ptr 1 0, (.p (.val undef)), (.p (.val undef)), (.fn 51 [(.ro (cT a1))]), vb false, (.fn 51 [(.ro (cT a1))]), (.p (.val undef)), (.p (.val undef)), (.p (.val undef)), (.p (.val undef)), (.p (.val undef)), (.p (.val undef)), (.p (.val undef)), (.p (.val undef)), (.p (.val undef)), (.p (.val undef)), (.p (.val undef)), (.p (.val undef)), (.p (.val undef)), (.p (.val undef)), (.p (.val undef)), (.p (.val undef)), (.p (.val undef)), (.p (.val undef)), (.p (.val undef)), (.p (.val undef)), (.p (.val undef)), (.p (.val undef)), (.p (.val undef)), (.p (.val undef)), (.p (.val undef)), (.p (.val undef)), (.p (.val undef)), (.p (.val undef)), (.p (.val undef))] ir25_a0 ir25_b0, .cells 91 [.yl 2], .cells 3 [i6 1], .cells 57 [(.fn 52 [.ptr 4 0, .ptr 3 0, .ptr 5 0])]] = some ((vb false), F52_4_d0 a1)) apn) rfl (ac (ac (ac (ac (ac (ac rfl)))))) rfl (ac (ac (ac (ac (ac (ac rfl)))))) rfl (by kernel_rfl)
inductive R_F51_8 where
  | k0
  | k1
def F51_8_v (a1 : TreeD) (r : R_F51_8) : AV := match r with | .k0 => (.tup []) | .k1 => (.tup [])
def F51_8_h (a1 : TreeD) (r : R_F51_8) : List AB := match r with | .k0 => [.cells 4 [vb false], .cells 3 [i6 0], .loop 0 none [13, 14] [(.fn 51 [(.ro (cT a1))]), n0, i6 0, (.p (.val undef)), (.ro [.val (.slice .none 0 0)]), (.ro [.val (.int .i64 0)]), .ptr 0 0, .ptr 1 0, (.p (.val undef)), (.p (.val undef)), (.fn 51 [(.ro (cT a1))]), vb false, (.fn 51 [(.ro (cT a1))]), (.p (.val undef)), (.p (.val undef)), (.p (.val undef)), (.p (.val undef)), (.p (.val undef)), (.p (.val undef)), (.p (.val undef)), (.p (.val undef)), (.p (.val undef)), (.p (.val undef)), (.p (.val undef)), (.p (.val undef)), (.p (.val undef)), (.p (.val undef)), (.p (.val undef)), (.p (.val undef)), (.p (.val undef)), (.p (.val undef)), (.p (.val undef)), (.p (.val undef)), (.p (.val undef)), (.p (.val undef)), (.p (.val undef)), (.p (.val undef)), (.p (.val undef)), (.p (.val undef)), (.p (.val undef)), (.p (.val undef)), (.p (.val undef))] ir25_a0 ir25_b0, .cells 91 [.yl 2]] | .k1 => [.cells 4 [vb false], .cells 3 [i6 0], .loop 2 (some none) [13, 14] [(.fn 51 [(.ro (cT a1))]), n0, i6 0, (.p (.val undef)), (.ro [.val (.slice .none 0 0)]), (.ro [.val (.int .i64 0)]), .ptr 0 0, .ptr 1 0, (.p (.val undef)), (.p (.val undef)), (.fn 51 [(.ro (cT a1))]), vb false, (.fn 51 [(.ro (cT a1))]), (.p (.val undef)), (.p (.val undef)), (.p (.val undef)), (.p (.val undef)), (.p (.val undef)), (.p (.val undef)), (.p (.val undef)), (.p (.val undef)), (.p (.val undef)), (.p (.val undef)), (.p (.val undef)), (.p (.val undef)), (.p (.val undef)), (.p (.val undef)), (.p (.val undef)), (.p (.val undef)), (.p (.val undef)), (.p (.val undef)), (.p (.val undef)), (.p (.val undef)), (.p (.val undef)), (.p (.val undef)), (.p (.val undef)), (.p (.val undef)), (.p (.val undef)), (.p (.val undef)), (.p (.val undef)), (.p (.val undef)), (.p (.val undef))] ir25_a0 ir25_b0, .cells 91 [.yl 2], .cells 3 [i6 1], .cells 57 [(.fn 52 [.ptr 4 0, .ptr 3 0, .ptr 5 0])]]
def F51_8 (a1 : TreeD) : Option R_F51_8 :=
  ((F23 a1).bind fun x1 => (bif (x1 != 0) then (some (.k0)) else ((F52_4).bind fun r3 => match r3 with | .k0 => (some (.k1)))))
abbrev F51_8_d0 (a1 : TreeD) : List AB := [.cells 4 [vb false], .cells 3 [i6 0], .loop 2 (some none) [13, 14] [(.fn 51 [(.ro (cT a1))]), n0, i6 0, (.p (.val undef)), (.ro [.val (.slice .none 0 0)]), (.ro [.val (.int .i64 0)]), .ptr 0 0, .ptr 1 0, (.p (.val undef)), (.p (.val undef)), (.fn 51 [(.ro (cT a1))]), vb false, (.fn 51 [(.ro (cT a1))]), (.p (.val undef)), (.p (.val undef)), (.p (.val undef)), (.p (.val undef)), (.p (.val undef)), (.p (.val undef)), (.p (.val undef)), (.p (.val undef)), (.p (.val undef)), (.p (.val undef)), (.p (.val undef)), (.p (.val undef)), (.p (.val undef)), (.p (.val undef)), (.p (.val undef)), (.p (.val undef)), (.p (.val undef)), (.p (.val undef)), (.p (.val undef)), (.p (.val undef)), (.p (.val undef)), (.p (.val undef)), (.p (.val undef)), (.p (.val undef)), (.p (.val undef)), (.p (.val undef)), (.p (.val undef)), (.p (.val undef)), (.p (.val undef))] ir25_a0 ir25_b0, .cells 91 [.yl 2], .cells 3 [i6 1], .cells 57 [(.fn 52 [.ptr 4 0, .ptr 3 0, .ptr 5 0])]]
theorem F51_8_ok (a1 : TreeD) {r : R_F51_8} (h : F51_8 a1 = some r) : CS pg 51 [.yl 2, (.ro (cT a1))] [.cells 4 [vb false], .cells 3 [i6 0], .loop 0 none [13, 14] [(.fn 51 [(.ro (cT a1))]), n0, i6 0, (.p (.val undef)), (.ro [.val (.slice .none 0 0)]), (.ro [.val (.int .i64 0)]), .ptr 0 0, .ptr 1 0, (.p (.val undef)), (.p (.val undef)), (.fn 51 [(.ro (cT a1))]), vb false, (.fn 51 [(.ro (cT a1))]), (.p (.val undef)), (.p (.val undef)), (.p (.val undef)), (.p (.val undef)), (.p (.val undef)), (.p (.val undef)), (.p (.val undef)), (.p (.val undef)), (.p (.val undef)), (.p (.val undef)), (.p (.val undef)), (.p (.val undef)), (.p (.val undef)), (.p (.val undef)), (.p (.val undef)), (.p (.val undef)), (.p (.val undef)), (.p (.val undef)), (.p (.val undef)), (.p (.val undef)), (.p (.val undef)), (.p (.val undef)), (.p (.val undef)), (.p (.val undef)), (.p (.val undef)), (.p (.val undef)), (.p (.val undef)), (.p (.val undef)), (.p (.val undef))] ir25_a0 ir25_b0] = some (F51_8_v a1 r, F51_8_h a1 r) := by
 unfold F51_8 at h
 apply bn h; intro x1 h1 h
 have q0 := (((F23_ok a1 h1).cp rfl _) : CP pg 23 [(.agg ((cT a1).map .p))] [.cells 4 [vb false], .cells 3 [i6 0], .loop 0 none [13, 14] [(.fn 51 [(.ro (cT a1))]), n0, i6 0, (.p (.val undef)), (.ro [.val (.slice .none 0 0)]), (.ro [.val (.int .i64 0)]), .ptr 0 0, .ptr 1 0, (.p (.val undef)), (.p (.val undef)), (.fn 51 [(.ro (cT a1))]), vb false, (.fn 51 [(.ro (cT a1))]), (.p (.val undef)), (.p (.val undef)), (.p (.val undef)), (.p (.val undef)), (.p (.val undef)), (.p (.val undef)), (.p (.val undef)), (.p (.val undef)), (.p (.val undef)), (.p (.val undef)), (.p (.val undef)), (.p (.val undef)), (.p (.val undef)), (.p (.val undef)), (.p (.val undef)), (.p (.val undef)), (.p (.val undef)), (.p (.val undef)), (.p (.val undef)), (.p (.val undef)), (.p (.val undef)), (.p (.val undef)), (.p (.val undef)), (.p (.val undef)), (.p (.val undef)), (.p (.val undef)), (.p (.val undef)), (.p (.val undef)), (.p (.val undef))] ir25_a0 ir25_b0, .cells 91 [.yl 2]] = some (i6 x1))
 apply bi h <;> intro h2 h
 ·
  rw [← sj h]
  exact fc [(6, .v (i6 x1)), (7, .d true)] (apc q0 (av h2 apn))
 ·
  apply bn h; intro r3 h3 h
  cases r3 with
  | k0 =>
   rw [← sj h]
   exact fc [(6, .v (i6 x1)), (7, .d false), (11, .r (vb false) (F51_8_d0 a1))] (apc q0 (av h2 (apc ((F52_4_ok a1 h3 []) : CS pg 52 [(.agg ((cT a1).map .p)), .ptr 4 0, .ptr 3 0, .ptr 5 0] [.cells 4 [vb false], .cells 3 [i6 0], .loop 0 none [13, 14] [(.fn 51 [(.ro (cT a1))]), n0, i6 0, (.p (.val undef)), (.ro [.val (.slice .none 0 0)]), (.ro [.val (.int .i64 0)]), .ptr 0 0, .ptr 1 0, (.p (.val undef)), (.p (.val undef)), (.fn 51 [(.ro (cT a1))]), vb false, (.fn 51 [(.ro (cT a1))]), (.p (.val undef)), (.p (.val undef)), (.p (.val undef)), (.p (.val undef)), (.p (.val undef)), (.p (.val undef)), (.p (.val undef)), (.p (.val undef)), (.p (.val undef)), (.p (.val undef)), (.p (.val undef)), (.p (.val undef)), (.p (.val undef)), (.p (.val undef)), (.p (.val undef)), (.p (.val undef)), (.p (.val undef)), (.p (.val undef)), (.p (.val undef)), (.p (.val undef)), (.p (.val undef)), (.p (.val undef)), (.p (.val undef)), (.p (.val undef)), (.p (.val undef)), (.p (.val undef)), (.p (.val undef)), (.p (.val undef)), (.p (.val undef))] ir25_a0 ir25_b0, .cells 91 [.yl 2], .cells 3 [i6 0], .cells 57 [(.fn 52 [.ptr 4 0, .ptr 3 0, .ptr 5 0])]] = some ((vb false), F51_8_d0 a1)) apn)))
def F25_5_v (a1 : TreeD) (x0 : Bool) : AV := (vb x0)
def F25_5 (a1 : TreeD) : Option Bool :=
  ((F51_8 a1).bind fun r1 => match r1 with | .k0 => (some true) | .k1 => (some false))
abbrev F25_5_d0 : List AB := [.cells 4 [vb false], .cells 3 [i6 0], .dead, .cells 91 [.yl 2]]
abbrev F25_5_d1 : List AB := [.cells 4 [vb false], .cells 3 [i6 0], .dead, .cells 91 [.yl 2], .cells 3 [i6 1], .cells 57 [(.fn 52 [.ptr 4 0, .ptr 3 0, .ptr 5 0])]]
theorem F25_5_ok (a1 : TreeD) {r : Bool} (h : F25_5 a1 = some r) : PR1 pg 25 [(.fn 51 [(.ro (cT a1))]), n0, i6 0] (F25_5_v a1 r) := by
 unfold F25_5 at h
 apply bn h; intro r1 h1 h
 cases r1 with
 | k0 =>
  rw [← sj h]
  exact fq [(2000, .l .norm ⟨[(.fn 51 [(.ro (cT a1))]), n0, i6 0, (.p (.val undef)), (.ro [.val (.slice .none 0 0)]), (.ro [.val (.int .i64 0)]), .ptr 0 0, .ptr 1 0, (.p (.val undef)), (.p (.val undef)), (.fn 51 [(.ro (cT a1))]), vb false, (.fn 51 [(.ro (cT a1))]), (.p (.val undef)), (.p (.val undef)), (.p (.val undef)), (.p (.val undef)), (.p (.val undef)), (.p (.val undef)), (.p (.val undef)), (.p (.val undef)), (.p (.val undef)), (.p (.val undef)), (.p (.val undef)), (.p (.val undef)), (.p (.val undef)), (.p (.val undef)), (.p (.val undef)), (.p (.val undef)), (.p (.val undef)), (.p (.val undef)), (.p (.val undef)), (.p (.val undef)), (.p (.val undef)), (.p (.val undef)), (.p (.val undef)), (.p (.val undef)), (.p (.val undef)), (.p (.val undef)), (.p (.val undef)), (.p (.val undef)), (.p (.val undef))], F25_5_d0⟩)] (apc ((ev_range rfl (F51_8_ok a1 h1) rfl) : ev pg (.rangeF (.t 12) [13, 14] ir25_a0 ir25_b0) ⟨[(.fn 51 [(.ro (cT a1))]), n0, i6 0, (.p (.val undef)), (.ro [.val (.slice .none 0 0)]), (.ro [.val (.int .i64 0)]), .ptr 0 0, .ptr 1 0, (.p (.val undef)), (.p (.val undef)), (.fn 51 [(.ro (cT a1))]), vb false, (.fn 51 [(.ro (cT a1))]), (.p (.val undef)), (.p (.val undef)), (.p (.val undef)), (.p (.val undef)), (.p (.val undef)), (.p (.val undef)), (.p (.val undef)), (.p (.val undef)), (.p (.val undef)), (.p (.val undef)), (.p (.val undef)), (.p (.val undef)), (.p (.val undef)), (.p (.val undef)), (.p (.val undef)), (.p (.val undef)), (.p (.val undef)), (.p (.val undef)), (.p (.val undef)), (.p (.val undef)), (.p (.val undef)), (.p (.val undef)), (.p (.val undef)), (.p (.val undef)), (.p (.val undef)), (.p (.val undef)), (.p (.val undef)), (.p (.val undef)), (.p (.val undef))], [.cells 4 [vb false], .cells 3 [i6 0]]⟩ = some (.norm, ⟨[(.fn 51 [(.ro (cT a1))]), n0, i6 0, (.p (.val undef)), (.ro [.val (.slice .none 0 0)]), (.ro [.val (.int .i64 0)]), .ptr 0 0, .ptr 1 0, (.p (.val undef)), (.p (.val undef)), (.fn 51 [(.ro (cT a1))]), vb false, (.fn 51 [(.ro (cT a1))]), (.p (.val undef)), (.p (.val undef)), (.p (.val undef)), (.p (.val undef)), (.p (.val undef)), (.p (.val undef)), (.p (.val undef)), (.p (.val undef)), (.p (.val undef)), (.p (.val undef)), (.p (.val undef)), (.p (.val undef)), (.p (.val undef)), (.p (.val undef)), (.p (.val undef)), (.p (.val undef)), (.p (.val undef)), (.p (.val undef)), (.p (.val undef)), (.p (.val undef)), (.p (.val undef)), (.p (.val undef)), (.p (.val undef)), (.p (.val undef)), (.p (.val undef)), (.p (.val undef)), (.p (.val undef)), (.p (.val undef)), (.p (.val undef))], F25_5_d0⟩)) apn)
 | k1 =>
  rw [← sj h]
  exact fq [(2000, .l .ret ⟨[(.fn 51 [(.ro (cT a1))]), n0, i6 0, (.p (.val undef)), (.ro [.val (.slice .none 0 0)]), (.ro [.val (.int .i64 0)]), .ptr 0 0, .ptr 1 0, (.p (.val undef)), (.p (.val undef)), (.fn 51 [(.ro (cT a1))]), vb false, (.fn 51 [(.ro (cT a1))]), (.p (.val undef)), (.p (.val undef)), (.p (.val undef)), (.p (.val undef)), (.p (.val undef)), (.p (.val undef)), (.p (.val undef)), (.p (.val undef)), (.p (.val undef)), (.p (.val undef)), (.p (.val undef)), (.p (.val undef)), (.p (.val undef)), (.p (.val undef)), (.p (.val undef)), (.p (.val undef)), (.p (.val undef)), (.p (.val undef)), (.p (.val undef)), (.p (.val undef)), (.p (.val undef)), (.p (.val undef)), (.p (.val undef)), (.p (.val undef)), (.p (.val undef)), (.p (.val undef)), (.p (.val undef)), (.p (.val undef)), (.p (.val undef))], F25_5_d1⟩)] (apc ((ev_range rfl (F51_8_ok a1 h1) rfl) : ev pg (.rangeF (.t 12) [13, 14] ir25_a0 ir25_b0) ⟨[(.fn 51 [(.ro (cT a1))]), n0, i6 0, (.p (.val undef)), (.ro [.val (.slice .none 0 0)]), (.ro [.val (.int .i64 0)]), .ptr 0 0, .ptr 1 0, (.p (.val undef)), (.p (.val undef)), (.fn 51 [(.ro (cT a1))]), vb false, (.fn 51 [(.ro (cT a1))]), (.p (.val undef)), (.p (.val undef)), (.p (.val undef)), (.p (.val undef)), (.p (.val undef)), (.p (.val undef)), (.p (.val undef)), (.p (.val undef)), (.p (.val undef)), (.p (.val undef)), (.p (.val undef)), (.p (.val undef)), (.p (.val undef)), (.p (.val undef)), (.p (.val undef)), (.p (.val undef)), (.p (.val undef)), (.p (.val undef)), (.p (.val undef)), (.p (.val undef)), (.p (.val undef)), (.p (.val undef)), (.p (.val undef)), (.p (.val undef)), (.p (.val undef)), (.p (.val undef)), (.p (.val undef)), (.p (.val undef)), (.p (.val undef))], [.cells 4 [vb false], .cells 3 [i6 0]]⟩ = some (.ret, ⟨[(.fn 51 [(.ro (cT a1))]), n0, i6 0, (.p (.val undef)), (.ro [.val (.slice .none 0 0)]), (.ro [.val (.int .i64 0)]), .ptr 0 0, .ptr 1 0, (.p (.val undef)), (.p (.val undef)), (.fn 51 [(.ro (cT a1))]), vb false, (.fn 51 [(.ro (cT a1))]), (.p (.val undef)), (.p (.val undef)), (.p (.val undef)), (.p (.val undef)), (.p (.val undef)), (.p (.val undef)), (.p (.val undef)), (.p (.val undef)), (.p (.val undef)), (.p (.val undef)), (.p (.val undef)), (.p (.val undef)), (.p (.val undef)), (.p (.val undef)), (.p (.val undef)), (.p (.val undef)), (.p (.val undef)), (.p (.val undef)), (.p (.val undef)), (.p (.val undef)), (.p (.val undef)), (.p (.val undef)), (.p (.val undef)), (.p (.val undef)), (.p (.val undef)), (.p (.val undef)), (.p (.val undef)), (.p (.val undef)), (.p (.val undef))], F25_5_d1⟩)) apn)
inductive R_F26 where
  | k0 (x0 x1 x2 : Int)
def F26_v (a1 : TreeD) (r : R_F26) : AV := match r with | .k0 x0 x1 x2 => (.tup [i6 x0, i6 x1, i6 x2])
abbrev T_F26 := TreeD → Option R_F26
abbrev H_F26 (f : T_F26) : Prop := ∀ (a1 : TreeD) {r : R_F26}, f a1 = some r → PR1 pg 26 [(.agg ((cT a1).map .p))] (F26_v a1 r)
inductive E_L26_0 where
  | k0 (x0 x1 x2 : Int)
def L26_0 (rF26 : T_F26) (a1 : TreeD) (v1 v2 v3 v4 : Int) : Option (E_L26_0 ⊕ (Int × Int × Int × Int)) :=
  (bif (decide (v4 < (a1.kids.length : Int))) then ((getI a1.kids v4).bind fun x2 => ((rF26 x2).bind fun r3 => match r3 with | .k0 x3_0 x3_1 x3_2 => (some (.inr ((IntKind.wrap .i64 (v1 + x3_0)), (IntKind.wrap .i64 (v2 + x3_1)), (if v3 < x3_2 then x3_2 else v3), (IntKind.wrap .i64 (v4 + 1))))))) else (some (.inl (.k0 v1 v2 v3))))
def L26_0_s (a1 : TreeD) (v1 v2 v3 v4 : Int) : St := ⟨fr 45 ug [(1, .ptr 0 0), (5, i6 v1), (6, i6 v2), (7, i6 v3), (8, i6 v4)], [.cells 25 ((cT a1).map .p)]⟩
theorem L26_0_k (a1 : TreeD) (v1 v2 v3 v4 : Int) : okT 1 (L26_0_s a1 v1 v2 v3 v4).h = true := (okT_of rfl (ac rfl))
abbrev L26_0_e (a1 : TreeD) (v1 v2 v3 v4 : Int) := evH pg 1 [1, 5, 6, 7, 8] ir26_l0 (L26_0_s a1 v1 v2 v3 v4)
def L26_0_x (a1 : TreeD) (e : E_L26_0) (r : Option (Out × St)) : Prop := match e with | .k0 x0 x1 x2 => ∃ g, r = some ((.brk 0), ⟨fr 45 g [(1, .ptr 0 0), (5, i6 x0), (6, i6 x1), (7, i6 x2)], [.cells 25 ((cT a1).map .p)]⟩)
theorem L26_0_ok (rF26 : T_F26) (hF26 : H_F26 rF26) (a1 : TreeD) (v1 v2 v3 v4 : Int) {r : E_L26_0 ⊕ (Int × Int × Int × Int)} (h : L26_0 rF26 a1 v1 v2 v3 v4 = some r) : OkR (fun e => L26_0_x a1 e (L26_0_e a1 v1 v2 v3 v4)) (fun s => L26_0_e a1 v1 v2 v3 v4 = L26_0_e a1 s.1 s.2.1 s.2.2.1 s.2.2.2) r := by
 unfold L26_0 at h
 have q0 := ((lgr tr_map) : lnA (.p (.lst 3 (eTrees a1.kids))) = some (i6 (a1.kids.length : Int)))
 apply bi h <;> intro h1 h
 ·
  apply bn h; intro x2 h2 h
  apply bn h; intro r3 h3 h
  cases r3 with
  | k0 x3_0 x3_1 x3_2 =>
   rw [← sj h]
   exact rn [(18, .v (i6 (a1.kids.length : Int))), (19, .d true), (26, .v (.ro (cT x2))), (28, .v (.tup [i6 x3_0, i6 x3_1, i6 x3_2])), (6000, .d true)] (apc q0 (av h1 (apc ((igr tr_map h2) : idxA 3 (.p (.lst 3 (eTrees a1.kids))) (i6 v4) = some (.ro (cT x2))) (apc (((hF26 x2 h3).cp rfl _) : CP pg 26 [(.agg ((cT x2).map .p))] [.cells 25 ((cT a1).map .p)] = some (.tup [i6 x3_0, i6 x3_1, i6 x3_2])) (apc (L26_0_k a1 (w6 (v1 + x3_0)) (w6 (v2 + x3_1)) (if v3 < x3_2 then x3_2 else v3) (w6 (v4 + 1))) apn)))))
 ·
  rw [← sj h]
  exact xb [(18, .v (i6 (a1.kids.length : Int))), (19, .d false), (6000, .d true)] (apc q0 (av h1 apn))
theorem L26_0_run (rF26 : T_F26) (hF26 : H_F26 rF26) (a1 : TreeD) (s0 : Int × Int × Int × Int) (e : E_L26_0) (h : runL (fun s => L26_0 rF26 a1 s.1 s.2.1 s.2.2.1 s.2.2.2) s0 = some e) : L26_0_x a1 e (L26_0_e a1 s0.1 s0.2.1 s0.2.2.1 s0.2.2.2) := by
  have q := @loop_sound' (Int × Int × Int × Int) E_L26_0 (fun s => L26_0 rF26 a1 s.1 s.2.1 s.2.2.1 s.2.2.2) (fun s => L26_0_e a1 s.1 s.2.1 s.2.2.1 s.2.2.2) (L26_0_x a1) (fun s r h => L26_0_ok rF26 hF26 a1 s.1 s.2.1 s.2.2.1 s.2.2.2 h) s0 e h
  exact q
inductive E_L26_0_2 where
  | k0 (x0 x1 x2 : Int)
def L26_0_2 (rF26 : T_F26) (a1 : TreeD) (v1 v2 v3 v4 : Int) : Option (E_L26_0_2 ⊕ (Int × Int × Int × Int)) :=
  (bif (decide (v4 < (a1.kids.length : Int))) then ((getI a1.kids v4).bind fun x2 => ((rF26 x2).bind fun r3 => match r3 with | .k0 x3_0 x3_1 x3_2 => (some (.inr ((IntKind.wrap .i64 (v1 + x3_0)), (IntKind.wrap .i64 (v2 + x3_1)), (if v3 < x3_2 then x3_2 else v3), (IntKind.wrap .i64 (v4 + 1))))))) else (some (.inl (.k0 v1 v2 v3))))
def L26_0_2_s (a1 : TreeD) (v1 v2 v3 v4 : Int) : St := ⟨fr 45 ug [(1, .ptr 0 0), (5, i6 v1), (6, i6 v2), (7, i6 v3), (8, i6 v4)], [.cells 25 ((cT a1).map .p)]⟩
theorem L26_0_2_k (a1 : TreeD) (v1 v2 v3 v4 : Int) : okT 1 (L26_0_2_s a1 v1 v2 v3 v4).h = true := (okT_of rfl (ac rfl))
abbrev L26_0_2_e (a1 : TreeD) (v1 v2 v3 v4 : Int) := evH pg 1 [1, 5, 6, 7, 8] ir26_l0 (L26_0_2_s a1 v1 v2 v3 v4)
def L26_0_2_x (a1 : TreeD) (e : E_L26_0_2) (r : Option (Out × St)) : Prop := match e with | .k0 x0 x1 x2 => ∃ g, r = some ((.brk 0), ⟨fr 45 g [(1, .ptr 0 0), (5, i6 x0), (6, i6 x1), (7, i6 x2)], [.cells 25 ((cT a1).map .p)]⟩)
theorem L26_0_2_ok (rF26 : T_F26) (hF26 : H_F26 rF26) (a1 : TreeD) (v1 v2 v3 v4 : Int) {r : E_L26_0_2 ⊕ (Int × Int × Int × Int)} (h : L26_0_2 rF26 a1 v1 v2 v3 v4 = some r) : OkR (fun e => L26_0_2_x a1 e (L26_0_2_e a1 v1 v2 v3 v4)) (fun s => L26_0_2_e a1 v1 v2 v3 v4 = L26_0_2_e a1 s.1 s.2.1 s.2.2.1 s.2.2.2) r := by
 unfold L26_0_2 at h
 have q0 := ((lgr tr_map) : lnA (.p (.lst 3 (eTrees a1.kids))) = some (i6 (a1.kids.length : Int)))
 apply bi h <;> intro h1 h
 ·
  apply bn h; intro x2 h2 h
  apply bn h; intro r3 h3 h
  cases r3 with
  | k0 x3_0 x3_1 x3_2 =>
   rw [← sj h]
   exact rn [(18, .v (i6 (a1.kids.length : Int))), (19, .d true), (26, .v (.ro (cT x2))), (28, .v (.tup [i6 x3_0, i6 x3_1, i6 x3_2])), (6000, .d true)] (apc q0 (av h1 (apc ((igr tr_map h2) : idxA 3 (.p (.lst 3 (eTrees a1.kids))) (i6 v4) = some (.ro (cT x2))) (apc (((hF26 x2 h3).cp rfl _) : CP pg 26 [(.agg ((cT x2).map .p))] [.cells 25 ((cT a1).map .p)] = some (.tup [i6 x3_0, i6 x3_1, i6 x3_2])) (apc (L26_0_2_k a1 (w6 (v1 + x3_0)) (w6 (v2 + x3_1)) (if v3 < x3_2 then x3_2 else v3) (w6 (v4 + 1))) apn)))))
 ·
  rw [← sj h]
  exact xb [(18, .v (i6 (a1.kids.length : Int))), (19, .d false), (6000, .d true)] (apc q0 (av h1 apn))
theorem L26_0_2_run (rF26 : T_F26) (hF26 : H_F26 rF26) (a1 : TreeD) (s0 : Int × Int × Int × Int) (e : E_L26_0_2) (h : runL (fun s => L26_0_2 rF26 a1 s.1 s.2.1 s.2.2.1 s.2.2.2) s0 = some e) : L26_0_2_x a1 e (L26_0_2_e a1 s0.1 s0.2.1 s0.2.2.1 s0.2.2.2) := by
  have q := @loop_sound' (Int × Int × Int × Int) E_L26_0_2 (fun s => L26_0_2 rF26 a1 s.1 s.2.1 s.2.2.1 s.2.2.2) (fun s => L26_0_2_e a1 s.1 s.2.1 s.2.2.1 s.2.2.2) (L26_0_2_x a1) (fun s r h => L26_0_2_ok rF26 hF26 a1 s.1 s.2.1 s.2.2.1 s.2.2.2 h) s0 e h
  exact q
def F26_b (rF26 : T_F26) (a1 : TreeD) : Option R_F26 :=
  (bif (decide (a1.prod < 0)) then ((runL (fun s => L26_0 rF26 a1 s.1 s.2.1 s.2.2.1 s.2.2.2) (1, 1, 0, 0)).bind fun r2 => match r2 with | .k0 x2_0 x2_1 x2_2 => (some (.k0 x2_0 x2_1 (IntKind.wrap .i64 (x2_2 + 1))))) else ((runL (fun s => L26_0_2 rF26 a1 s.1 s.2.1 s.2.2.1 s.2.2.2) (1, 0, 0, 0)).bind fun r2 => match r2 with | .k0 x2_0 x2_1 x2_2 => (some (.k0 x2_0 x2_1 (IntKind.wrap .i64 (x2_2 + 1))))))
abbrev F26_d0 (g2 : Nat → AV) (x2_0 x2_1 x2_2 : Int) (a1 : TreeD) : St := ⟨fr 45 g2 [(1, .ptr 0 0), (5, i6 x2_0), (6, i6 x2_1), (7, i6 x2_2)], [.cells 25 ((cT a1).map .p)]⟩
theorem F26_bok (rF26 : T_F26) (hF26 : H_F26 rF26) (a1 : TreeD) {r : R_F26} (h : F26_b rF26 a1 = some r) : PR1 pg 26 [(.agg ((cT a1).map .p))] (F26_v a1 r) := by
 unfold F26_b at h
 apply bi h <;> intro h1 h
 ·
  apply bn h; intro r2 h2 h
  cases r2 with
  | k0 x2_0 x2_1 x2_2 =>
   obtain ⟨g2, e2⟩ := L26_0_run rF26 hF26 a1 (1, 1, 0, 0) _ h2
   rw [← sj h]
   exact fq [(14, .d true), (2000, .l (.brk 0) (F26_d0 g2 x2_0 x2_1 x2_2 a1)), (6000, .d true)] (av h1 (apc (L26_0_k a1 1 1 0 0) (apc (e2 : L26_0_e a1 1 1 0 0 = some ((.brk 0), F26_d0 g2 x2_0 x2_1 x2_2 a1)) apn)))
 ·
  apply bn h; intro r2 h2 h
  cases r2 with
  | k0 x2_0 x2_1 x2_2 =>
   obtain ⟨g2, e2⟩ := L26_0_2_run rF26 hF26 a1 (1, 0, 0, 0) _ h2
   rw [← sj h]
   exact fq [(14, .d false), (2000, .l (.brk 0) (F26_d0 g2 x2_0 x2_1 x2_2 a1)), (6000, .d true)] (av h1 (apc (L26_0_2_k a1 1 0 0 0) (apc (e2 : L26_0_2_e a1 1 0 0 0 = some ((.brk 0), F26_d0 g2 x2_0 x2_1 x2_2 a1)) apn)))
def F26 : Nat → T_F26
  | 0 => fun _ => none
  | Nf + 1 => F26_b (F26 Nf)
theorem F26_ok (Nf : Nat) : H_F26 (F26 Nf) := by
  induction Nf with
  | zero => intro a1 r h; have h : (none : Option R_F26) = some r := h; cases h
  | succ Nf ih => intro a1 r h; exact F26_bok (F26 Nf) ih a1 h
def F27_v (a1 : TreeD) (x0 : ByteArray) : AV := (vs x0)
abbrev T_F27 := TreeD → Option ByteArray
abbrev H_F27 (f : T_F27) : Prop := ∀ (a1 : TreeD) {r : ByteArray}, f a1 = some r → PR1 pg 27 [(.agg ((cT a1).map .p))] (F27_v a1 r)
inductive E_L27_0 where
  | k0 (x0 : ByteArray)
def L27_0 (rF27 : T_F27) (a2 : TreeD) (v1 : ByteArray) (v2 : Int) : Option (E_L27_0 ⊕ (ByteArray × Int)) :=
  (bif (decide (v2 < (a2.kids.length : Int))) then (bif (decide (v2 > 0)) then (bif (decide (v1.size + (⟨([32] : List UInt8).toArray⟩ : ByteArray).size ≤ 9223372036854775807)) then ((getI a2.kids v2).bind fun x4 => ((rF27 x4).bind fun x5 => (bif (decide ((v1 ++ (⟨([32] : List UInt8).toArray⟩ : ByteArray)).size + x5.size ≤ 9223372036854775807)) then (some (.inr (((v1 ++ (⟨([32] : List UInt8).toArray⟩ : ByteArray)) ++ x5), (IntKind.wrap .i64 (v2 + 1))))) else none))) else none) else ((getI a2.kids v2).bind fun x3 => ((rF27 x3).bind fun x4 => (bif (decide (v1.size + x4.size ≤ 9223372036854775807)) then (some (.inr ((v1 ++ x4), (IntKind.wrap .i64 (v2 + 1))))) else none)))) else (some (.inl (.k0 v1))))
def L27_0_s (a2 : TreeD) (v1 : ByteArray) (v2 : Int) : St := ⟨fr 47 ug [(1, .ptr 0 0), (4, vs v1), (5, i6 v2)], [.cells 25 ((cT a2).map .p)]⟩
theorem L27_0_k (a2 : TreeD) (v1 : ByteArray) (v2 : Int) : okT 1 (L27_0_s a2 v1 v2).h = true := (okT_of rfl (ac rfl))
abbrev L27_0_e (a2 : TreeD) (v1 : ByteArray) (v2 : Int) := evH pg 1 [1, 4, 5] ir27_l0 (L27_0_s a2 v1 v2)
def L27_0_x (a2 : TreeD) (e : E_L27_0) (r : Option (Out × St)) : Prop := match e with | .k0 x0 => ∃ g, r = some ((.brk 0), ⟨fr 47 g [(1, .ptr 0 0), (4, vs x0)], [.cells 25 ((cT a2).map .p)]⟩)
theorem L27_0_ok (rF27 : T_F27) (hF27 : H_F27 rF27) (a2 : TreeD) (v1 : ByteArray) (v2 : Int) {r : E_L27_0 ⊕ (ByteArray × Int)} (h : L27_0 rF27 a2 v1 v2 = some r) : OkR (fun e => L27_0_x a2 e (L27_0_e a2 v1 v2)) (fun s => L27_0_e a2 v1 v2 = L27_0_e a2 s.1 s.2) r := by
 unfold L27_0 at h
 have q0 := ((lgr tr_map) : lnA (.p (.lst 3 (eTrees a2.kids))) = some (i6 (a2.kids.length : Int)))
 apply bi h <;> intro h1 h
 ·
  have k1 := ka [(29, .v (i6 (a2.kids.length : Int))), (30, .d true)] (apc q0 (av h1 apn))
  apply bi h <;> intro h2 h
  ·
   apply bi h <;> intro h3 h
   ·
    have q2 := ((st_add h3) : binA .add (vs v1) (vs (⟨([32] : List UInt8).toArray⟩ : ByteArray)) = some (vs (v1 ++ (⟨([32] : List UInt8).toArray⟩ : ByteArray))))
    have k3 := k1.a [(34, .d true), (36, .v (vs (v1 ++ (⟨([32] : List UInt8).toArray⟩ : ByteArray))))] (av h2 (apc q2 apn))
    apply bn h; intro x4 h4 h
    have q4 := ((igr tr_map h4) : idxA 3 (.p (.lst 3 (eTrees a2.kids))) (i6 v2) = some (.ro (cT x4)))
    apply bn h; intro x5 h5 h
    have q5 := (((hF27 x4 h5).cp rfl _) : CP pg 27 [(.agg ((cT x4).map .p))] [.cells 25 ((cT a2).map .p)] = some (vs x5))
    have k6 := k3.a [(41, .v (.ro (cT x4))), (43, .v (vs x5))] (apc q4 (apc q5 apn))
    apply bi h <;> intro h6 h
    ·
     rw [← sj h]
     exact rn ([(44, .v (vs ((v1 ++ (⟨([32] : List UInt8).toArray⟩ : ByteArray)) ++ x5))), (6000, .d true)] ++ kH k6) (k6.b (apc ((st_add h6) : binA .add (vs (v1 ++ (⟨([32] : List UInt8).toArray⟩ : ByteArray))) (vs x5) = some (vs ((v1 ++ (⟨([32] : List UInt8).toArray⟩ : ByteArray)) ++ x5))) (apc (L27_0_k a2 ((v1 ++ (⟨([32] : List UInt8).toArray⟩ : ByteArray)) ++ x5) (w6 (v2 + 1))) apn)))
    ·
     cases h
   ·
    cases h
  ·
   apply bn h; intro x3 h3 h
   have q7 := ((igr tr_map h3) : idxA 3 (.p (.lst 3 (eTrees a2.kids))) (i6 v2) = some (.ro (cT x3)))
   have k8 := k1.a [(34, .d false), (41, .v (.ro (cT x3)))] (av h2 (apc q7 apn))
   apply bn h; intro x4 h4 h
   have q9 := (((hF27 x3 h4).cp rfl _) : CP pg 27 [(.agg ((cT x3).map .p))] [.cells 25 ((cT a2).map .p)] = some (vs x4))
   apply bi h <;> intro h5 h
   ·
    rw [← sj h]
    exact rn ([(43, .v (vs x4)), (44, .v (vs (v1 ++ x4))), (6000, .d true)] ++ kH k8) (k8.b (apc q9 (apc ((st_add h5) : binA .add (vs v1) (vs x4) = some (vs (v1 ++ x4))) (apc (L27_0_k a2 (v1 ++ x4) (w6 (v2 + 1))) apn))))
   ·
    cases h
 ·
  rw [← sj h]
  exact xb [(29, .v (i6 (a2.kids.length : Int))), (30, .d false), (6000, .d true)] (apc q0 (av h1 apn))
theorem L27_0_run (rF27 : T_F27) (hF27 : H_F27 rF27) (a2 : TreeD) (s0 : ByteArray × Int) (e : E_L27_0) (h : runL (fun s => L27_0 rF27 a2 s.1 s.2) s0 = some e) : L27_0_x a2 e (L27_0_e a2 s0.1 s0.2) := by
  have q := @loop_sound' (ByteArray × Int) E_L27_0 (fun s => L27_0 rF27 a2 s.1 s.2) (fun s => L27_0_e a2 s.1 s.2) (L27_0_x a2) (fun s r h => L27_0_ok rF27 hF27 a2 s.1 s.2 h) s0 e h
  exact q
def F27_b (rF27 : T_F27) (a1 : TreeD) : Option ByteArray :=
  (bif (decide (a1.prod < 0)) then ((getI (⟨([48, 49, 50, 51, 52, 53, 54, 55, 56, 57, 97, 98, 99, 100, 101, 102] : List UInt8).toArray⟩ : ByteArray).data.toList (IntKind.wrap .u8 (Int.tdiv a1.byte 16))).bind fun x2 => ((getI (⟨([48, 49, 50, 51, 52, 53, 54, 55, 56, 57, 97, 98, 99, 100, 101, 102] : List UInt8).toArray⟩ : ByteArray).data.toList (Int.tmod a1.byte 16)).bind fun x3 => (bif (decide ((⟨([120] : List UInt8).toArray⟩ : ByteArray).size + (⟨([UInt8.ofNat (Int.toNat (x2.toNat : Int)), UInt8.ofNat (Int.toNat (x3.toNat : Int))] : List UInt8).toArray⟩ : ByteArray).size ≤ 9223372036854775807)) then (some ((⟨([120] : List UInt8).toArray⟩ : ByteArray) ++ (⟨([UInt8.ofNat (Int.toNat (x2.toNat : Int)), UInt8.ofNat (Int.toNat (x3.toNat : Int))] : List UInt8).toArray⟩ : ByteArray))) else none))) else ((I42 a1.prod).bind fun x2 => (bif (decide (x2.size + (⟨([40] : List UInt8).toArray⟩ : ByteArray).size ≤ 9223372036854775807)) then ((runL (fun s => L27_0 rF27 a1 s.1 s.2) ((x2 ++ (⟨([40] : List UInt8).toArray⟩ : ByteArray)), 0)).bind fun r4 => match r4 with | .k0 x4_0 => (bif (decide (x4_0.size + (⟨([41] : List UInt8).toArray⟩ : ByteArray).size ≤ 9223372036854775807)) then (some (x4_0 ++ (⟨([41] : List UInt8).toArray⟩ : ByteArray))) else none)) else none)))
abbrev F27_d0 (g4 : Nat → AV) (x4_0 : ByteArray) (a1 : TreeD) : St := ⟨fr 47 g4 [(1, .ptr 0 0), (4, vs x4_0)], [.cells 25 ((cT a1).map .p)]⟩
theorem F27_bok (rF27 : T_F27) (hF27 : H_F27 rF27) (a1 : TreeD) {r : ByteArray} (h : F27_b rF27 a1 = some r) : PR1 pg 27 [(.agg ((cT a1).map .p))] (F27_v a1 r) := by
 unfold F27_b at h
 apply bi h <;> intro h1 h
 ·
  apply bn h; intro x2 h2 h
  have q0 := ((ix_str h2) : ixS (vs (⟨([48, 49, 50, 51, 52, 53, 54, 55, 56, 57, 97, 98, 99, 100, 101, 102] : List UInt8).toArray⟩ : ByteArray)) (vi .u8 (IntKind.wrap .u8 (Int.tdiv a1.byte 16))) = some (vi .u8 (x2.toNat : Int)))
  have k1 := ka [(8, .d true), (13, .v (vi .u8 (x2.toNat : Int)))] (av h1 (apc q0 apn))
  apply bn h; intro x3 h3 h
  have q2 := ((ix_str h3) : ixS (vs (⟨([48, 49, 50, 51, 52, 53, 54, 55, 56, 57, 97, 98, 99, 100, 101, 102] : List UInt8).toArray⟩ : ByteArray)) (vi .u8 (Int.tmod a1.byte 16)) = some (vi .u8 (x3.toNat : Int)))
  apply bi h <;> intro h4 h
  ·
   rw [← sj h]
   exact fq ([(18, .v (vi .u8 (x3.toNat : Int))), (21, .v (vs ((⟨([120] : List UInt8).toArray⟩ : ByteArray) ++ (⟨([UInt8.ofNat (Int.toNat (x2.toNat : Int)), UInt8.ofNat (Int.toNat (x3.toNat : Int))] : List UInt8).toArray⟩ : ByteArray))))] ++ kH k1) (k1.b (apc q2 (apc ((st_add h4) : binA .add (vs (⟨([120] : List UInt8).toArray⟩ : ByteArray)) (vs (⟨([UInt8.ofNat (Int.toNat (x2.toNat : Int)), UInt8.ofNat (Int.toNat (x3.toNat : Int))] : List UInt8).toArray⟩ : ByteArray)) = some (vs ((⟨([120] : List UInt8).toArray⟩ : ByteArray) ++ (⟨([UInt8.ofNat (Int.toNat (x2.toNat : Int)), UInt8.ofNat (Int.toNat (x3.toNat : Int))] : List UInt8).toArray⟩ : ByteArray)))) apn)))
  ·
   cases h
 ·
  apply bn h; intro x2 h2 h
  have q3 := (((I42_ok a1.prod h2).cp rfl _) : CP pg 42 [i6 a1.prod] [.cells 25 ((cT a1).map .p)] = some (vs x2))
  have q4 := (L27_0_k a1 (x2 ++ (⟨([40] : List UInt8).toArray⟩ : ByteArray)) 0)
  apply bi h <;> intro h3 h
  ·
   have q5 := ((st_add h3) : binA .add (vs x2) (vs (⟨([40] : List UInt8).toArray⟩ : ByteArray)) = some (vs (x2 ++ (⟨([40] : List UInt8).toArray⟩ : ByteArray))))
   have k6 := ka [(8, .d false), (24, .v (vs x2)), (25, .v (vs (x2 ++ (⟨([40] : List UInt8).toArray⟩ : ByteArray))))] (av h1 (apc q3 (apc q5 apn)))
   apply bn h; intro r4 h4 h
   cases r4 with
   | k0 x4_0 =>
    obtain ⟨g4, e4⟩ := L27_0_run rF27 hF27 a1 ((x2 ++ (⟨([40] : List UInt8).toArray⟩ : ByteArray)), 0) _ h4
    have q7 := (e4 : L27_0_e a1 (x2 ++ (⟨([40] : List UInt8).toArray⟩ : ByteArray)) 0 = some ((.brk 0), F27_d0 g4 x4_0 a1))
    have k8 := k6.a [(2000, .l (.brk 0) (F27_d0 g4 x4_0 a1))] (apc q4 (apc q7 apn))
    apply bi h <;> intro h5 h
    ·
     rw [← sj h]
     exact fq ([(46, .v (vs (x4_0 ++ (⟨([41] : List UInt8).toArray⟩ : ByteArray)))), (6000, .d true)] ++ kH k8) (k8.b (apc ((st_add h5) : binA .add (vs x4_0) (vs (⟨([41] : List UInt8).toArray⟩ : ByteArray)) = some (vs (x4_0 ++ (⟨([41] : List UInt8).toArray⟩ : ByteArray)))) apn))
    ·
     cases h
  ·
   cases h
def F27 : Nat → T_F27
  | 0 => fun _ => none
  | Nf + 1 => F27_b (F27 Nf)
theorem F27_ok (Nf : Nat) : H_F27 (F27 Nf) := by
  induction Nf with
  | zero => intro a1 r h; have h : (none : Option ByteArray) = some r := h; cases h
  | succ Nf ih => intro a1 r h; exact F27_bok (F27 Nf) ih a1 h
inductive R_F29_3 where
  | k0 (x0 x1 : Nat) (x2 : List TreeD)
def F29_3_v (a1 : TreeD) (a2 a3 : Nat) (a4 : List TreeD) (r : R_F29_3) : AV := match r with | .k0 x0 x1 x2 => (.sl 0 x0 3 0 x1)
def F29_3_h (a1 : TreeD) (a2 a3 : Nat) (a4 : List TreeD) (r : R_F29_3) : List AB := match r with | .k0 x0 x1 x2 => [yT x0 x2]
abbrev T_F29_3 := TreeD → Nat → Nat → (List TreeD) → Option R_F29_3
abbrev H_F29_3 (f : T_F29_3) : Prop := ∀ (a1 : TreeD) (a2 a3 : Nat) (a4 : List TreeD) {r : R_F29_3}, f a1 a2 a3 a4 = some r → CS pg 29 [(.agg ((cT a1).map .p)), .sl 0 a2 3 0 a3] [yT a2 a4] = some (F29_3_v a1 a2 a3 a4 r, F29_3_h a1 a2 a3 a4 r)
inductive E_L29_0_7 where
  | k0 (x0 x1 : Nat) (x2 : List TreeD)
def L29_0_7 (rF29_3 : T_F29_3) (a3 : TreeD) (v1 v2 : Nat) (v3 : Int) (v4 : List TreeD) : Option (E_L29_0_7 ⊕ (Nat × Nat × Int × (List TreeD))) :=
  (bif (decide (v3 < (a3.kids.length : Int))) then ((getI a3.kids v3).bind fun x2 => ((rF29_3 x2 v1 v2 v4).bind fun r3 => match r3 with | .k0 x3_0 x3_1 x3_2 => (some (.inr (x3_0, x3_1, (IntKind.wrap .i64 (v3 + 1)), x3_2))))) else (some (.inl (.k0 v1 v2 v4))))
def L29_0_7_s (a3 : TreeD) (v1 v2 : Nat) (v3 : Int) (v4 : List TreeD) : St := ⟨fr 25 ug [(1, .sl 0 v1 3 0 v2), (2, (.ro (cT a3))), (5, i6 v3)], [yT v1 v4]⟩
theorem L29_0_7_k (a3 : TreeD) (v1 v2 : Nat) (v3 : Int) (v4 : List TreeD) : okT 1 (L29_0_7_s a3 v1 v2 v3 v4).h = true := (okT_of rfl (ar rfl))
abbrev L29_0_7_e (a3 : TreeD) (v1 v2 : Nat) (v3 : Int) (v4 : List TreeD) := evH pg 1 [1, 2, 5] ir29_l0 (L29_0_7_s a3 v1 v2 v3 v4)
def L29_0_7_x (a3 : TreeD) (e : E_L29_0_7) (r : Option (Out × St)) : Prop := match e with | .k0 x0 x1 x2 => ∃ g, r = some ((.brk 0), ⟨fr 25 g [(1, .sl 0 x0 3 0 x1), (2, (.ro (cT a3)))], [yT x0 x2]⟩)
theorem L29_0_7_ok (rF29_3 : T_F29_3) (hF29_3 : H_F29_3 rF29_3) (a3 : TreeD) (v1 v2 : Nat) (v3 : Int) (v4 : List TreeD) {r : E_L29_0_7 ⊕ (Nat × Nat × Int × (List TreeD))} (h : L29_0_7 rF29_3 a3 v1 v2 v3 v4 = some r) : OkR (fun e => L29_0_7_x a3 e (L29_0_7_e a3 v1 v2 v3 v4)) (fun s => L29_0_7_e a3 v1 v2 v3 v4 = L29_0_7_e a3 s.1 s.2.1 s.2.2.1 s.2.2.2) r := by
 unfold L29_0_7 at h
 have q0 := ((lgr tr_map) : lnA (.p (.lst 3 (eTrees a3.kids))) = some (i6 (a3.kids.length : Int)))
 apply bi h <;> intro h1 h
 ·
  apply bn h; intro x2 h2 h
  apply bn h; intro r3 h3 h
  cases r3 with
  | k0 x3_0 x3_1 x3_2 =>
   rw [← sj h]
   exact rn [(13, .v (i6 (a3.kids.length : Int))), (14, .d true), (20, .v (.ro (cT x2))), (23, .r (.sl 0 x3_0 3 0 x3_1) [yT x3_0 x3_2]), (6000, .d true)] (apc q0 (av h1 (apc ((igr tr_map h2) : idxA 3 (.p (.lst 3 (eTrees a3.kids))) (i6 v3) = some (.ro (cT x2))) (apc ((hF29_3 x2 v1 v2 v4 h3) : CS pg 29 [(.agg ((cT x2).map .p)), .sl 0 v1 3 0 v2] [yT v1 v4] = some ((.sl 0 x3_0 3 0 x3_1), [yT x3_0 x3_2])) (apc (L29_0_7_k a3 x3_0 x3_1 (w6 (v3 + 1)) x3_2) apn)))))
 ·
  rw [← sj h]
  exact xb [(13, .v (i6 (a3.kids.length : Int))), (14, .d false), (6000, .d true)] (apc q0 (av h1 apn))
theorem L29_0_7_run (rF29_3 : T_F29_3) (hF29_3 : H_F29_3 rF29_3) (a3 : TreeD) (s0 : Nat × Nat × Int × (List TreeD)) (e : E_L29_0_7) (h : runL (fun s => L29_0_7 rF29_3 a3 s.1 s.2.1 s.2.2.1 s.2.2.2) s0 = some e) : L29_0_7_x a3 e (L29_0_7_e a3 s0.1 s0.2.1 s0.2.2.1 s0.2.2.2) := by
  have q := @loop_sound' (Nat × Nat × Int × (List TreeD)) E_L29_0_7 (fun s => L29_0_7 rF29_3 a3 s.1 s.2.1 s.2.2.1 s.2.2.2) (fun s => L29_0_7_e a3 s.1 s.2.1 s.2.2.1 s.2.2.2) (L29_0_7_x a3) (fun s r h => L29_0_7_ok rF29_3 hF29_3 a3 s.1 s.2.1 s.2.2.1 s.2.2.2 h) s0 e h
  exact q
def F29_3_b (rF29_3 : T_F29_3) (a1 : TreeD) (a2 a3 : Nat) (a4 : List TreeD) : Option R_F29_3 :=
  (bif (apOk a3 1 a4.length 40) then (bif (decide (a3 + 1 ≤ a4.length)) then ((runL (fun s => L29_0_7 rF29_3 a1 s.1 s.2.1 s.2.2.1 s.2.2.2) (a2, a3 + 1, 0, (splice a4 a3 [TreeD.mk a1.prod a1.byte a1.kids]))).bind fun r3 => match r3 with | .k0 x3_0 x3_1 x3_2 => (some (.k0 x3_0 x3_1 x3_2))) else ((runL (fun s => L29_0_7 rF29_3 a1 s.1 s.2.1 s.2.2.1 s.2.2.2) ((a2 + 1), a3 + 1, 0, (a4.take a3 ++ [TreeD.mk a1.prod a1.byte a1.kids]))).bind fun r3 => match r3 with | .k0 x3_0 x3_1 x3_2 => (some (.k0 x3_0 x3_1 x3_2)))) else none)
abbrev F29_3_d0 (a2 : Nat) (a4 : List TreeD) (a3 : Nat) (a1 : TreeD) : List AB := [yT a2 (splice a4 a3 [TreeD.mk a1.prod a1.byte a1.kids])]
abbrev F29_3_d1 (g3 : Nat → AV) (x3_0 x3_1 : Nat) (a1 : TreeD) (x3_2 : List TreeD) : St := ⟨fr 25 g3 [(1, .sl 0 x3_0 3 0 x3_1), (2, (.ro (cT a1)))], [yT x3_0 x3_2]⟩
abbrev F29_3_d2 (a2 : Nat) (a4 : List TreeD) (a3 : Nat) (a1 : TreeD) : List AB := [yT (a2 + 1) (a4.take a3 ++ [TreeD.mk a1.prod a1.byte a1.kids])]
theorem F29_3_bok (rF29_3 : T_F29_3) (hF29_3 : H_F29_3 rF29_3) (a1 : TreeD) (a2 a3 : Nat) (a4 : List TreeD) {r : R_F29_3} (h : F29_3_b rF29_3 a1 a2 a3 a4 = some r) : CS pg 29 [(.agg ((cT a1).map .p)), .sl 0 a2 3 0 a3] [yT a2 a4] = some (F29_3_v a1 a2 a3 a4 r, F29_3_h a1 a2 a3 a4 r) := by
 unfold F29_3_b at h
 apply bi h <;> intro h1 h
 ·
  apply bi h <;> intro h2 h
  ·
   apply bn h; intro r3 h3 h
   cases r3 with
   | k0 x3_0 x3_1 x3_2 =>
    obtain ⟨g3, e3⟩ := L29_0_7_run rF29_3 hF29_3 a1 (a2, a3 + 1, 0, (splice a4 a3 [TreeD.mk a1.prod a1.byte a1.kids])) _ h3
    rw [← sj h]
    exact fc [(9, .r (.sl 0 a2 3 0 (a3 + 1)) (F29_3_d0 a2 a4 a3 a1)), (2000, .l (.brk 0) (F29_3_d1 g3 x3_0 x3_1 a1 x3_2)), (6000, .d true)] (apc ((ap_in (e := cT) (xs := a4) (news := [TreeD.mk a1.prod a1.byte a1.kids]) rfl (rows_lr tr_map) rfl h1 h2) : appA [yT a2 a4] 25 3 40 (.sl 0 a2 3 0 a3) (.p (.lst 3 (eTrees ([TreeD.mk a1.prod a1.byte a1.kids])))) = some ((.sl 0 a2 3 0 (a3 + 1)), F29_3_d0 a2 a4 a3 a1)) (apc (L29_0_7_k a1 a2 (a3 + 1) 0 (splice a4 a3 [TreeD.mk a1.prod a1.byte a1.kids])) (apc (e3 : L29_0_7_e a1 a2 (a3 + 1) 0 (splice a4 a3 [TreeD.mk a1.prod a1.byte a1.kids]) = some ((.brk 0), F29_3_d1 g3 x3_0 x3_1 a1 x3_2)) apn)))
  ·
   apply bn h; intro r3 h3 h
   cases r3 with
   | k0 x3_0 x3_1 x3_2 =>
    obtain ⟨g3, e3⟩ := L29_0_7_run rF29_3 hF29_3 a1 ((a2 + 1), a3 + 1, 0, (a4.take a3 ++ [TreeD.mk a1.prod a1.byte a1.kids])) _ h3
    rw [← sj h]
    exact fc [(9, .r (.sl 0 (a2 + 1) 3 0 (a3 + 1)) (F29_3_d2 a2 a4 a3 a1)), (2000, .l (.brk 0) (F29_3_d1 g3 x3_0 x3_1 a1 x3_2)), (6000, .d true)] (apc ((ap_out (e := cT) (xs := a4) (news := [TreeD.mk a1.prod a1.byte a1.kids]) rfl (rows_lr tr_map) rfl h1 h2) : appA [yT a2 a4] 25 3 40 (.sl 0 a2 3 0 a3) (.p (.lst 3 (eTrees ([TreeD.mk a1.prod a1.byte a1.kids])))) = some ((.sl 0 (a2 + 1) 3 0 (a3 + 1)), F29_3_d2 a2 a4 a3 a1)) (apc (L29_0_7_k a1 (a2 + 1) (a3 + 1) 0 (a4.take a3 ++ [TreeD.mk a1.prod a1.byte a1.kids])) (apc (e3 : L29_0_7_e a1 (a2 + 1) (a3 + 1) 0 (a4.take a3 ++ [TreeD.mk a1.prod a1.byte a1.kids]) = some ((.brk 0), F29_3_d1 g3 x3_0 x3_1 a1 x3_2)) apn)))
 ·
  cases h
def F29_3 : Nat → T_F29_3
  | 0 => fun _ _ _ _ => none
  | Nf + 1 => F29_3_b (F29_3 Nf)
theorem F29_3_ok (Nf : Nat) : H_F29_3 (F29_3 Nf) := by
  induction Nf with
  | zero => intro a1 a2 a3 a4 r h; have h : (none : Option R_F29_3) = some r := h; cases h
  | succ Nf ih => intro a1 a2 a3 a4 r h; exact F29_3_bok (F29_3 Nf) ih a1 a2 a3 a4 h
inductive E_L29_0_8 where
  | k0 (x0 x1 : Nat) (x2 : List TreeD)
def L29_0_8 (Nf : Nat) (a2 : TreeD) (v1 v2 : Nat) (v3 : Int) (v4 : List TreeD) : Option (E_L29_0_8 ⊕ (Nat × Nat × Int × (List TreeD))) :=
  (bif (decide (v3 < (a2.kids.length : Int))) then ((getI a2.kids v3).bind fun x2 => ((F29_3 Nf x2 v1 v2 v4).bind fun r3 => match r3 with | .k0 x3_0 x3_1 x3_2 => (some (.inr (x3_0, x3_1, (IntKind.wrap .i64 (v3 + 1)), x3_2))))) else (some (.inl (.k0 v1 v2 v4))))
def L29_0_8_s (a2 : TreeD) (v1 v2 : Nat) (v3 : Int) (v4 : List TreeD) : St := ⟨fr 25 ug [(1, .sl 0 v1 3 0 v2), (2, (.ro (cT a2))), (5, i6 v3)], [yT v1 v4]⟩
theorem L29_0_8_k (a2 : TreeD) (v1 v2 : Nat) (v3 : Int) (v4 : List TreeD) : okT 1 (L29_0_8_s a2 v1 v2 v3 v4).h = true := (okT_of rfl (ar rfl))
abbrev L29_0_8_e (a2 : TreeD) (v1 v2 : Nat) (v3 : Int) (v4 : List TreeD) := evH pg 1 [1, 2, 5] ir29_l0 (L29_0_8_s a2 v1 v2 v3 v4)
def L29_0_8_x (a2 : TreeD) (e : E_L29_0_8) (r : Option (Out × St)) : Prop := match e with | .k0 x0 x1 x2 => ∃ g, r = some ((.brk 0), ⟨fr 25 g [(1, .sl 0 x0 3 0 x1), (2, (.ro (cT a2)))], [yT x0 x2]⟩)
theorem L29_0_8_ok (Nf : Nat) (a2 : TreeD) (v1 v2 : Nat) (v3 : Int) (v4 : List TreeD) {r : E_L29_0_8 ⊕ (Nat × Nat × Int × (List TreeD))} (h : L29_0_8 Nf a2 v1 v2 v3 v4 = some r) : OkR (fun e => L29_0_8_x a2 e (L29_0_8_e a2 v1 v2 v3 v4)) (fun s => L29_0_8_e a2 v1 v2 v3 v4 = L29_0_8_e a2 s.1 s.2.1 s.2.2.1 s.2.2.2) r := by
 unfold L29_0_8 at h
 have q0 := ((lgr tr_map) : lnA (.p (.lst 3 (eTrees a2.kids))) = some (i6 (a2.kids.length : Int)))
 apply bi h <;> intro h1 h
 ·
  apply bn h; intro x2 h2 h
  apply bn h; intro r3 h3 h
  cases r3 with
  | k0 x3_0 x3_1 x3_2 =>
   rw [← sj h]
   exact rn [(13, .v (i6 (a2.kids.length : Int))), (14, .d true), (20, .v (.ro (cT x2))), (23, .r (.sl 0 x3_0 3 0 x3_1) [yT x3_0 x3_2]), (6000, .d true)] (apc q0 (av h1 (apc ((igr tr_map h2) : idxA 3 (.p (.lst 3 (eTrees a2.kids))) (i6 v3) = some (.ro (cT x2))) (apc ((F29_3_ok Nf x2 v1 v2 v4 h3) : CS pg 29 [(.agg ((cT x2).map .p)), .sl 0 v1 3 0 v2] [yT v1 v4] = some ((.sl 0 x3_0 3 0 x3_1), [yT x3_0 x3_2])) (apc (L29_0_8_k a2 x3_0 x3_1 (w6 (v3 + 1)) x3_2) apn)))))
 ·
  rw [← sj h]
  exact xb [(13, .v (i6 (a2.kids.length : Int))), (14, .d false), (6000, .d true)] (apc q0 (av h1 apn))
theorem L29_0_8_run (Nf : Nat) (a2 : TreeD) (s0 : Nat × Nat × Int × (List TreeD)) (e : E_L29_0_8) (h : runL (fun s => L29_0_8 Nf a2 s.1 s.2.1 s.2.2.1 s.2.2.2) s0 = some e) : L29_0_8_x a2 e (L29_0_8_e a2 s0.1 s0.2.1 s0.2.2.1 s0.2.2.2) := by
  have q := @loop_sound' (Nat × Nat × Int × (List TreeD)) E_L29_0_8 (fun s => L29_0_8 Nf a2 s.1 s.2.1 s.2.2.1 s.2.2.2) (fun s => L29_0_8_e a2 s.1 s.2.1 s.2.2.1 s.2.2.2) (L29_0_8_x a2) (fun s r h => L29_0_8_ok Nf a2 s.1 s.2.1 s.2.2.1 s.2.2.2 h) s0 e h
  exact q
def F29_v (a1 : TreeD) (x0 : (List TreeD)) : AV := (.p (.lst 3 (eTrees x0)))
def F29 (Nf : Nat) (a1 : TreeD) : Option (List TreeD) :=
  (bif (apOk 0 1 ([] : List TreeD).length 40) then ((runL (fun s => L29_0_8 Nf a1 s.1 s.2.1 s.2.2.1 s.2.2.2) (1, 0 + 1, 0, (([]).take 0 ++ [TreeD.mk a1.prod a1.byte a1.kids]))).bind fun r2 => match r2 with | .k0 x2_0 x2_1 x2_2 => (bif (decide (x2_1 ≤ x2_2.length)) then (some (x2_2.take x2_1)) else none)) else none)
abbrev F29_d0 (a1 : TreeD) : List AB := [yT 1 (([]).take 0 ++ [TreeD.mk a1.prod a1.byte a1.kids])]
abbrev F29_d1 (g2 : Nat → AV) (x2_0 x2_1 : Nat) (a1 : TreeD) (x2_2 : List TreeD) : St := ⟨fr 25 g2 [(1, .sl 0 x2_0 3 0 x2_1), (2, (.ro (cT a1)))], [yT x2_0 x2_2]⟩
theorem F29_ok (Nf : Nat) (a1 : TreeD) {r : (List TreeD)} (h : F29 Nf a1 = some r) : PR1 pg 29 [(.agg ((cT a1).map .p)), n0] (F29_v a1 r) := by
 unfold F29 at h
 have q0 := (L29_0_8_k a1 1 (0 + 1) 0 (([]).take 0 ++ [TreeD.mk a1.prod a1.byte a1.kids]))
 apply bi h <;> intro h1 h
 ·
  have q1 := ((ap_out (e := cT) (xs := []) (news := [TreeD.mk a1.prod a1.byte a1.kids]) rfl (rows_lr tr_map) rfl h1 rfl) : appA [yT0] 25 3 40 (.sl 0 0 3 0 0) (.p (.lst 3 (eTrees ([TreeD.mk a1.prod a1.byte a1.kids])))) = some ((.sl 0 1 3 0 (0 + 1)), F29_d0 a1))
  have k2 := ka [(9, .r (.sl 0 1 3 0 (0 + 1)) (F29_d0 a1))] (apc q1 apn)
  apply bn h; intro r2 h2 h
  cases r2 with
  | k0 x2_0 x2_1 x2_2 =>
   obtain ⟨g2, e2⟩ := L29_0_8_run Nf a1 (1, 0 + 1, 0, (([]).take 0 ++ [TreeD.mk a1.prod a1.byte a1.kids])) _ h2
   have q3 := (e2 : L29_0_8_e a1 1 (0 + 1) 0 (([]).take 0 ++ [TreeD.mk a1.prod a1.byte a1.kids]) = some ((.brk 0), F29_d1 g2 x2_0 x2_1 a1 x2_2))
   have k4 := k2.a [(2000, .l (.brk 0) (F29_d1 g2 x2_0 x2_1 a1 x2_2))] (apc q0 (apc q3 apn))
   apply bi h <;> intro h3 h
   ·
    rw [← sj h]
    exact fpo (v := (.sl 0 x2_0 3 0 x2_1)) (h' := [yT x2_0 x2_2]) ([(6000, .d true)] ++ kH k4) (k4.b apn) (purA_slr (e := cT) tr_map rfl h3) (by kernel_rfl)
   ·
    cases h
 ·
  cases h
inductive R_F52_11 where
  | k0 (x0 : Bool) (x1 x2 : Int)
  | k1 (x0 x1 : Int)
def F52_11_v (a1 : TreeD) (a2 : Int) (a3 : TreeD) (a4 : List TreeD) (a5 : Int) (a6 : List TreeD) (a7 : Int) (a8 a9 : TreeD) (a10 : Int) (r : R_F52_11) : AV := match r with | .k0 x0 x1 x2 => (vb false) | .k1 x0 x1 => (vb true)
def F52_11_h (a1 : TreeD) (a2 : Int) (a3 : TreeD) (a4 : List TreeD) (a5 : Int) (a6 : List TreeD) (a7 : Int) (a8 a9 : TreeD) (a10 : Int) (r : R_F52_11) : List AB := match r with | .k0 x0 x1 x2 => [.cells 4 [vb x0], .cells 3 [i6 x1], .loop 2 (some none) [13, 14] [(.fn 51 [(.ro (cT a3))]), (.p (.lst 3 (eTrees a4))), i6 a5, (.p (.val undef)), (.ro [.lst 3 (eTrees a6)]), (.ro [.val (.int .i64 a7)]), .ptr 0 0, .ptr 1 0, (.p (.val undef)), (.p (.val undef)), (.fn 51 [(.ro (cT a8))]), vb false, (.fn 51 [(.ro (cT a9))]), (.p (.val undef)), (.p (.val undef)), (.p (.val undef)), (.p (.val undef)), (.p (.val undef)), (.p (.val undef)), (.p (.val undef)), (.p (.val undef)), (.p (.val undef)), (.p (.val undef)), (.p (.val undef)), (.p (.val undef)), (.p (.val undef)), (.p (.val undef)), (.p (.val undef)), (.p (.val undef)), (.p (.val undef)), (.p (.val undef)), (.p (.val undef)), (.p (.val undef)), (.p (.val undef)), (.p (.val undef)), (.p (.val undef)), (.p (.val undef)), (.p (.val undef)), (.p (.val undef)), (.p (.val undef)), (.p (.val undef)), (.p (.val undef))] ir25_a0 ir25_b0, .cells 91 [.yl 2], .cells 3 [i6 x2], .cells 57 [(.fn 52 [.ptr 4 0, .ptr 3 0, .ptr 5 0])]] | .k1 x0 x1 => [.cells 4 [vb false], .cells 3 [i6 x0], .loop 0 none [13, 14] [(.fn 51 [(.ro (cT a3))]), (.p (.lst 3 (eTrees a4))), i6 a5, (.p (.val undef)), (.ro [.lst 3 (eTrees a6)]), (.ro [.val (.int .i64 a7)]), .ptr 0 0, .ptr 1 0, (.p (.val undef)), (.p (.val undef)), (.fn 51 [(.ro (cT a8))]), vb false, (.fn 51 [(.ro (cT a9))]), (.p (.val undef)), (.p (.val undef)), (.p (.val undef)), (.p (.val undef)), (.p (.val undef)), (.p (.val undef)), (.p (.val undef)), (.p (.val undef)), (.p (.val undef)), (.p (.val undef)), (.p (.val undef)), (.p (.val undef)), (.p (.val undef)), (.p (.val undef)), (.p (.val undef)), (.p (.val undef)), (.p (.val undef)), (.p (.val undef)), (.p (.val undef)), (.p (.val undef)), (.p (.val undef)), (.p (.val undef)), (.p (.val undef)), (.p (.val undef)), (.p (.val undef)), (.p (.val undef)), (.p (.val undef)), (.p (.val undef)), (.p (.val undef))] ir25_a0 ir25_b0, .cells 91 [.yl 2], .cells 3 [i6 x1], .cells 57 [(.fn 52 [.ptr 4 0, .ptr 3 0, .ptr 5 0])]]
abbrev T_F52_11 := TreeD → Int → TreeD → (List TreeD) → Int → (List TreeD) → Int → TreeD → TreeD → Int → Option R_F52_11
abbrev H_F52_11 (f : T_F52_11) : Prop := ∀ (a1 : TreeD) (a2 : Int) (a3 : TreeD) (a4 : List TreeD) (a5 : Int) (a6 : List TreeD) (a7 : Int) (a8 a9 : TreeD) (a10 : Int) {r : R_F52_11}, f a1 a2 a3 a4 a5 a6 a7 a8 a9 a10 = some r → ∀ hx : List AB, CS pg 52 [(.agg ((cT a1).map .p)), .ptr 4 0, .ptr 3 0, .ptr 5 0] ([.cells 4 [vb false], .cells 3 [i6 a2], .loop 0 none [13, 14] [(.fn 51 [(.ro (cT a3))]), (.p (.lst 3 (eTrees a4))), i6 a5, (.p (.val undef)), (.ro [.lst 3 (eTrees a6)]), (.ro [.val (.int .i64 a7)]), .ptr 0 0, .ptr 1 0, (.p (.val undef)), (.p (.val undef)), (.fn 51 [(.ro (cT a8))]), vb false, (.fn 51 [(.ro (cT a9))]), (.p (.val undef)), (.p (.val undef)), (.p (.val undef)), (.p (.val undef)), (.p (.val undef)), (.p (.val undef)), (.p (.val undef)), (.p (.val undef)), (.p (.val undef)), (.p (.val undef)), (.p (.val undef)), (.p (.val undef)), (.p (.val undef)), (.p (.val undef)), (.p (.val undef)), (.p (.val undef)), (.p (.val undef)), (.p (.val undef)), (.p (.val undef)), (.p (.val undef)), (.p (.val undef)), (.p (.val undef)), (.p (.val undef)), (.p (.val undef)), (.p (.val undef)), (.p (.val undef)), (.p (.val undef)), (.p (.val undef)), (.p (.val undef))] ir25_a0 ir25_b0, .cells 91 [.yl 2], .cells 3 [i6 a10], .cells 57 [(.fn 52 [.ptr 4 0, .ptr 3 0, .ptr 5 0])]] ++ hx) = some (F52_11_v a1 a2 a3 a4 a5 a6 a7 a8 a9 a10 r, F52_11_h a1 a2 a3 a4 a5 a6 a7 a8 a9 a10 r ++ hx)
inductive R_Y25_0_7 where
  | k0 (x0 : Bool) (x1 : Int)
  | k1
def Y25_0_7_v (a1 : Int) (a2 : TreeD) (a3 : Int) (a4 : TreeD) (a5 : List TreeD) (a6 : Int) (a7 : List TreeD) (a8 : Int) (a9 a10 : TreeD) (a11 : Int) (r : R_Y25_0_7) : AV := match r with | .k0 x0 x1 => (vb false) | .k1 => (vb true)
def Y25_0_7_h (a1 : Int) (a2 : TreeD) (a3 : Int) (a4 : TreeD) (a5 : List TreeD) (a6 : Int) (a7 : List TreeD) (a8 : Int) (a9 a10 : TreeD) (a11 : Int) (r : R_Y25_0_7) : List AB := match r with | .k0 x0 x1 => [.cells 4 [vb x0], .cells 3 [i6 x1], .loop 2 (some none) [13, 14] [(.fn 51 [(.ro (cT a4))]), (.p (.lst 3 (eTrees a5))), i6 a6, (.p (.val undef)), (.ro [.lst 3 (eTrees a7)]), (.ro [.val (.int .i64 a8)]), .ptr 0 0, .ptr 1 0, (.p (.val undef)), (.p (.val undef)), (.fn 51 [(.ro (cT a9))]), vb false, (.fn 51 [(.ro (cT a10))]), (.p (.val undef)), (.p (.val undef)), (.p (.val undef)), (.p (.val undef)), (.p (.val undef)), (.p (.val undef)), (.p (.val undef)), (.p (.val undef)), (.p (.val undef)), (.p (.val undef)), (.p (.val undef)), (.p (.val undef)), (.p (.val undef)), (.p (.val undef)), (.p (.val undef)), (.p (.val undef)), (.p (.val undef)), (.p (.val undef)), (.p (.val undef)), (.p (.val undef)), (.p (.val undef)), (.p (.val undef)), (.p (.val undef)), (.p (.val undef)), (.p (.val undef)), (.p (.val undef)), (.p (.val undef)), (.p (.val undef)), (.p (.val undef))] ir25_a0 ir25_b0, .cells 91 [.yl 2], .cells 3 [i6 a11], .cells 57 [(.fn 52 [.ptr 4 0, .ptr 3 0, .ptr 5 0])], .cells 25 ((cT a2).map .p)] | .k1 => [.cells 4 [vb false], .cells 3 [(i6 (w6 (a3 + 1)))], .loop 0 none [13, 14] [(.fn 51 [(.ro (cT a4))]), (.p (.lst 3 (eTrees a5))), i6 a6, (.p (.val undef)), (.ro [.lst 3 (eTrees a7)]), (.ro [.val (.int .i64 a8)]), .ptr 0 0, .ptr 1 0, (.p (.val undef)), (.p (.val undef)), (.fn 51 [(.ro (cT a9))]), vb false, (.fn 51 [(.ro (cT a10))]), (.p (.val undef)), (.p (.val undef)), (.p (.val undef)), (.p (.val undef)), (.p (.val undef)), (.p (.val undef)), (.p (.val undef)), (.p (.val undef)), (.p (.val undef)), (.p (.val undef)), (.p (.val undef)), (.p (.val undef)), (.p (.val undef)), (.p (.val undef)), (.p (.val undef)), (.p (.val undef)), (.p (.val undef)), (.p (.val undef)), (.p (.val undef)), (.p (.val undef)), (.p (.val undef)), (.p (.val undef)), (.p (.val undef)), (.p (.val undef)), (.p (.val undef)), (.p (.val undef)), (.p (.val undef)), (.p (.val undef)), (.p (.val undef))] ir25_a0 ir25_b0, .cells 91 [.yl 2], .cells 3 [i6 a11], .cells 57 [(.fn 52 [.ptr 4 0, .ptr 3 0, .ptr 5 0])], .cells 25 ((cT a2).map .p)]
def Y25_0_7 (Nf : Nat) (a1 : Int) (a2 : TreeD) (a3 : Int) (a7 : List TreeD) (a8 : Int) : Option R_Y25_0_7 :=
  (bif (decide (a3 ≥ (a7.length : Int))) then (some (.k0 false a3)) else (bif (a1 != a3) then (some (.k0 false a3)) else ((getI a7 a3).bind fun x3 => ((F14 Nf a2 x3).bind fun x4 => (bif x4 then (bif ((IntKind.wrap .i64 (a3 + 1)) == a8) then (some (.k0 true (IntKind.wrap .i64 (a3 + 1)))) else (some (.k1))) else (some (.k0 false a3)))))))
abbrev Y25_0_7_d0 (a3 : Int) (a4 : TreeD) (a5 : List TreeD) (a6 : Int) (a7 : List TreeD) (a8 : Int) (a9 a10 : TreeD) (a11 : Int) (a2 : TreeD) : List AB := [.cells 4 [vb false], .cells 3 [i6 a3], .loop 1 none [13, 14] [(.fn 51 [(.ro (cT a4))]), (.p (.lst 3 (eTrees a5))), i6 a6, (.p (.val undef)), (.ro [.lst 3 (eTrees a7)]), (.ro [.val (.int .i64 a8)]), .ptr 0 0, .ptr 1 0, (.p (.val undef)), (.p (.val undef)), (.fn 51 [(.ro (cT a9))]), vb false, (.fn 51 [(.ro (cT a10))]), (.p (.val undef)), (.p (.val undef)), (.p (.val undef)), (.p (.val undef)), (.p (.val undef)), (.p (.val undef)), (.p (.val undef)), (.p (.val undef)), (.p (.val undef)), (.p (.val undef)), (.p (.val undef)), (.p (.val undef)), (.p (.val undef)), (.p (.val undef)), (.p (.val undef)), (.p (.val undef)), (.p (.val undef)), (.p (.val undef)), (.p (.val undef)), (.p (.val undef)), (.p (.val undef)), (.p (.val undef)), (.p (.val undef)), (.p (.val undef)), (.p (.val undef)), (.p (.val undef)), (.p (.val undef)), (.p (.val undef)), (.p (.val undef))] ir25_a0 ir25_b0, .cells 91 [.yl 2], .cells 3 [i6 a11], .cells 57 [(.fn 52 [.ptr 4 0, .ptr 3 0, .ptr 5 0])], .cells 25 ((cT a2).map .p)]
theorem Y25_0_7_ok (Nf : Nat) (a1 : Int) (a2 : TreeD) (a3 : Int) (a4 : TreeD) (a5 : List TreeD) (a6 : Int) (a7 : List TreeD) (a8 : Int) (a9 a10 : TreeD) (a11 : Int) {r : R_Y25_0_7} (h : Y25_0_7 Nf a1 a2 a3 a7 a8 = some r) : callY (ev pg) 2 [i6 a1, (.agg ((cT a2).map .p))] [.cells 4 [vb false], .cells 3 [i6 a3], .loop 0 none [13, 14] [(.fn 51 [(.ro (cT a4))]), (.p (.lst 3 (eTrees a5))), i6 a6, (.p (.val undef)), (.ro [.lst 3 (eTrees a7)]), (.ro [.val (.int .i64 a8)]), .ptr 0 0, .ptr 1 0, (.p (.val undef)), (.p (.val undef)), (.fn 51 [(.ro (cT a9))]), vb false, (.fn 51 [(.ro (cT a10))]), (.p (.val undef)), (.p (.val undef)), (.p (.val undef)), (.p (.val undef)), (.p (.val undef)), (.p (.val undef)), (.p (.val undef)), (.p (.val undef)), (.p (.val undef)), (.p (.val undef)), (.p (.val undef)), (.p (.val undef)), (.p (.val undef)), (.p (.val undef)), (.p (.val undef)), (.p (.val undef)), (.p (.val undef)), (.p (.val undef)), (.p (.val undef)), (.p (.val undef)), (.p (.val undef)), (.p (.val undef)), (.p (.val undef)), (.p (.val undef)), (.p (.val undef)), (.p (.val undef)), (.p (.val undef)), (.p (.val undef)), (.p (.val undef))] ir25_a0 ir25_b0, .cells 91 [.yl 2], .cells 3 [i6 a11], .cells 57 [(.fn 52 [.ptr 4 0, .ptr 3 0, .ptr 5 0])]] = some (Y25_0_7_v a1 a2 a3 a4 a5 a6 a7 a8 a9 a10 a11 r, Y25_0_7_h a1 a2 a3 a4 a5 a6 a7 a8 a9 a10 a11 r) := by
 unfold Y25_0_7 at h
 have q0 := ((lgr tr_map) : lnA (.p (.lst 3 (eTrees a7))) = some (i6 (a7.length : Int)))
 apply bi h <;> intro h1 h
 ·
  rw [← sj h]
  exact fyc [(17, .v (i6 (a7.length : Int))), (18, .d true)] (apc q0 (av h1 apn)) (by kernel_rfl)
 ·
  have k1 := ka [(17, .v (i6 (a7.length : Int))), (18, .d false)] (apc q0 (av h1 apn))
  apply bi h <;> intro h2 h
  ·
   rw [← sj h]
   exact fyc ([(22, .d true)] ++ kH k1) (k1.b (av h2 apn)) (by kernel_rfl)
  ·
   apply bn h; intro x3 h3 h
   have q2 := ((igr tr_map h3) : idxA 3 (.p (.lst 3 (eTrees a7))) (i6 a3) = some (.ro (cT x3)))
   have k3 := k1.a [(22, .d false), (28, .v (.ro (cT x3)))] (av h2 (apc q2 apn))
   apply bn h; intro x4 h4 h
   apply bi h <;> intro h5 h
   ·
    have q4 := ((((F14_ok Nf a2 x3 h4).cp rfl _).trans (congrArg (fun z => some (vb z)) h5)) : CP pg 14 [(.agg ((cT a2).map .p)), (.agg ((cT x3).map .p))] (Y25_0_7_d0 a3 a4 a5 a6 a7 a8 a9 a10 a11 a2) = some (vb true))
    apply bi h <;> intro h6 h
    ·
     rw [← sj h]
     exact fyc ([(30, .v (vb true)), (37, .d true)] ++ kH k3) (k3.b (apc q4 (av h6 apn))) (by kernel_rfl)
    ·
     rw [← sj h]
     exact fyc ([(30, .v (vb true)), (37, .d false)] ++ kH k3) (k3.b (apc q4 (av h6 apn))) (by kernel_rfl)
   ·
    rw [← sj h]
    exact fyc ([(30, .v (vb false))] ++ kH k3) (k3.b (apc ((((F14_ok Nf a2 x3 h4).cp rfl _).trans (congrArg (fun z => some (vb z)) h5)) : CP pg 14 [(.agg ((cT a2).map .p)), (.agg ((cT x3).map .p))] (Y25_0_7_d0 a3 a4 a5 a6 a7 a8 a9 a10 a11 a2) = some (vb false)) apn)) (by kernel_rfl)
inductive E_L52_0_8 where
  | k0 (x0 : Bool) (x1 x2 x3 x4 : Int) (x5 : List TreeD)
  | k1 (x0 x1 : Int)
def L52_0_8 (rF52_11 : T_F52_11) (a1 : TreeD) (a2 : Int) (a4 : TreeD) (a5 : List TreeD) (a6 : Int) (a7 : List TreeD) (a8 : Int) (a9 a10 : TreeD) (v1 v2 v3 : Int) : Option (E_L52_0_8 ⊕ (Int × Int × Int)) :=
  (bif (decide (v1 < a2)) then ((getI a1.kids v1).bind fun x2 => ((rF52_11 x2 v2 a4 a5 a6 a7 a8 a9 a10 v3).bind fun r3 => match r3 with | .k0 x3_0 x3_1 x3_2 => (some (.inl (.k0 x3_0 x3_1 x3_2 x2.prod x2.byte x2.kids))) | .k1 x3_0 x3_1 => (some (.inr ((IntKind.wrap .i64 (v1 + 1)), x3_0, x3_1))))) else (some (.inl (.k1 v2 v3))))
def L52_0_8_s (a1 : TreeD) (a2 : Int) (a4 : TreeD) (a5 : List TreeD) (a6 : Int) (a7 : List TreeD) (a8 : Int) (a9 a10 : TreeD) (v1 v2 v3 : Int) : St := ⟨fr 28 ug [(3, .ptr 5 0), (17, (.p (.lst 3 (eTrees a1.kids)))), (18, i6 a2), (19, i6 v1)], [.cells 4 [vb false], .cells 3 [i6 v2], .loop 0 none [13, 14] [(.fn 51 [(.ro (cT a4))]), (.p (.lst 3 (eTrees a5))), i6 a6, (.p (.val undef)), (.ro [.lst 3 (eTrees a7)]), (.ro [.val (.int .i64 a8)]), .ptr 0 0, .ptr 1 0, (.p (.val undef)), (.p (.val undef)), (.fn 51 [(.ro (cT a9))]), vb false, (.fn 51 [(.ro (cT a10))]), (.p (.val undef)), (.p (.val undef)), (.p (.val undef)), (.p (.val undef)), (.p (.val undef)), (.p (.val undef)), (.p (.val undef)), (.p (.val undef)), (.p (.val undef)), (.p (.val undef)), (.p (.val undef)), (.p (.val undef)), (.p (.val undef)), (.p (.val undef)), (.p (.val undef)), (.p (.val undef)), (.p (.val undef)), (.p (.val undef)), (.p (.val undef)), (.p (.val undef)), (.p (.val undef)), (.p (.val undef)), (.p (.val undef)), (.p (.val undef)), (.p (.val undef)), (.p (.val undef)), (.p (.val undef)), (.p (.val undef)), (.p (.val undef))] ir25_a0 ir25_b0, .cells 91 [.yl 2], .cells 3 [i6 v3], .cells 57 [(.fn 52 [.ptr 4 0, .ptr 3 0, .ptr 5 0])], .cells 25 ((cT a1).map .p)]⟩
theorem L52_0_8_k (a1 : TreeD) (a2 : Int) (a4 : TreeD) (a5 : List TreeD) (a6 : Int) (a7 : List TreeD) (a8 : Int) (a9 a10 : TreeD) (v1 v2 v3 : Int) : okT 7 (L52_0_8_s a1 a2 a4 a5 a6 a7 a8 a9 a10 v1 v2 v3).h = true := (okT_of rfl (ac (ac (ac (ac (ac (ac (ac rfl))))))))
abbrev L52_0_8_e (a1 : TreeD) (a2 : Int) (a4 : TreeD) (a5 : List TreeD) (a6 : Int) (a7 : List TreeD) (a8 : Int) (a9 a10 : TreeD) (v1 v2 v3 : Int) := evH pg 7 [3, 17, 18, 19] ir52_l0 (L52_0_8_s a1 a2 a4 a5 a6 a7 a8 a9 a10 v1 v2 v3)
def L52_0_8_x (a1 : TreeD) (a2 : Int) (a4 : TreeD) (a5 : List TreeD) (a6 : Int) (a7 : List TreeD) (a8 : Int) (a9 a10 : TreeD) (e : E_L52_0_8) (r : Option (Out × St)) : Prop := match e with | .k0 x0 x1 x2 x3 x4 x5 => ∃ g, r = some (.ret, ⟨fr 28 g [(5, vb false)], [.cells 4 [vb x0], .cells 3 [i6 x1], .loop 2 (some none) [13, 14] [(.fn 51 [(.ro (cT a4))]), (.p (.lst 3 (eTrees a5))), i6 a6, (.p (.val undef)), (.ro [.lst 3 (eTrees a7)]), (.ro [.val (.int .i64 a8)]), .ptr 0 0, .ptr 1 0, (.p (.val undef)), (.p (.val undef)), (.fn 51 [(.ro (cT a9))]), vb false, (.fn 51 [(.ro (cT a10))]), (.p (.val undef)), (.p (.val undef)), (.p (.val undef)), (.p (.val undef)), (.p (.val undef)), (.p (.val undef)), (.p (.val undef)), (.p (.val undef)), (.p (.val undef)), (.p (.val undef)), (.p (.val undef)), (.p (.val undef)), (.p (.val undef)), (.p (.val undef)), (.p (.val undef)), (.p (.val undef)), (.p (.val undef)), (.p (.val undef)), (.p (.val undef)), (.p (.val undef)), (.p (.val undef)), (.p (.val undef)), (.p (.val undef)), (.p (.val undef)), (.p (.val undef)), (.p (.val undef)), (.p (.val undef)), (.p (.val undef)), (.p (.val undef))] ir25_a0 ir25_b0, .cells 91 [.yl 2], .cells 3 [i6 x2], .cells 57 [(.fn 52 [.ptr 4 0, .ptr 3 0, .ptr 5 0])], .cells 25 ((cT a1).map .p), .cells 25 [i6 x3, vi .u8 x4, (.p (.lst 3 (eTrees x5)))]]⟩) | .k1 x0 x1 => ∃ g, r = some ((.brk 0), ⟨fr 28 g [(17, (.p (.lst 3 (eTrees a1.kids))))], [.cells 4 [vb false], .cells 3 [i6 x0], .loop 0 none [13, 14] [(.fn 51 [(.ro (cT a4))]), (.p (.lst 3 (eTrees a5))), i6 a6, (.p (.val undef)), (.ro [.lst 3 (eTrees a7)]), (.ro [.val (.int .i64 a8)]), .ptr 0 0, .ptr 1 0, (.p (.val undef)), (.p (.val undef)), (.fn 51 [(.ro (cT a9))]), vb false, (.fn 51 [(.ro (cT a10))]), (.p (.val undef)), (.p (.val undef)), (.p (.val undef)), (.p (.val undef)), (.p (.val undef)), (.p (.val undef)), (.p (.val undef)), (.p (.val undef)), (.p (.val undef)), (.p (.val undef)), (.p (.val undef)), (.p (.val undef)), (.p (.val undef)), (.p (.val undef)), (.p (.val undef)), (.p (.val undef)), (.p (.val undef)), (.p (.val undef)), (.p (.val undef)), (.p (.val undef)), (.p (.val undef)), (.p (.val undef)), (.p (.val undef)), (.p (.val undef)), (.p (.val undef)), (.p (.val undef)), (.p (.val undef)), (.p (.val undef)), (.p (.val undef))] ir25_a0 ir25_b0, .cells 91 [.yl 2], .cells 3 [i6 x1], .cells 57 [(.fn 52 [.ptr 4 0, .ptr 3 0, .ptr 5 0])], .cells 25 ((cT a1).map .p)]⟩)
abbrev L52_0_8_d1 (v2 : Int) (a4 : TreeD) (a5 : List TreeD) (a6 : Int) (a7 : List TreeD) (a8 : Int) (a9 a10 : TreeD) (v3 : Int) (a1 x2 : TreeD) : List AB := [.cells 4 [vb false], .cells 3 [i6 v2], .loop 0 none [13, 14] [(.fn 51 [(.ro (cT a4))]), (.p (.lst 3 (eTrees a5))), i6 a6, (.p (.val undef)), (.ro [.lst 3 (eTrees a7)]), (.ro [.val (.int .i64 a8)]), .ptr 0 0, .ptr 1 0, (.p (.val undef)), (.p (.val undef)), (.fn 51 [(.ro (cT a9))]), vb false, (.fn 51 [(.ro (cT a10))]), (.p (.val undef)), (.p (.val undef)), (.p (.val undef)), (.p (.val undef)), (.p (.val undef)), (.p (.val undef)), (.p (.val undef)), (.p (.val undef)), (.p (.val undef)), (.p (.val undef)), (.p (.val undef)), (.p (.val undef)), (.p (.val undef)), (.p (.val undef)), (.p (.val undef)), (.p (.val undef)), (.p (.val undef)), (.p (.val undef)), (.p (.val undef)), (.p (.val undef)), (.p (.val undef)), (.p (.val undef)), (.p (.val undef)), (.p (.val undef)), (.p (.val undef)), (.p (.val undef)), (.p (.val undef)), (.p (.val undef)), (.p (.val undef))] ir25_a0 ir25_b0, .cells 91 [.yl 2], .cells 3 [i6 v3], .cells 57 [(.fn 52 [.ptr 4 0, .ptr 3 0, .ptr 5 0])], .cells 25 ((cT a1).map .p), .cells 25 ((cT x2).map .p)]
theorem L52_0_8_ok (rF52_11 : T_F52_11) (hF52_11 : H_F52_11 rF52_11) (a1 : TreeD) (a2 : Int) (a4 : TreeD) (a5 : List TreeD) (a6 : Int) (a7 : List TreeD) (a8 : Int) (a9 a10 : TreeD) (v1 v2 v3 : Int) {r : E_L52_0_8 ⊕ (Int × Int × Int)} (h : L52_0_8 rF52_11 a1 a2 a4 a5 a6 a7 a8 a9 a10 v1 v2 v3 = some r) : OkR (fun e => L52_0_8_x a1 a2 a4 a5 a6 a7 a8 a9 a10 e (L52_0_8_e a1 a2 a4 a5 a6 a7 a8 a9 a10 v1 v2 v3)) (fun s => L52_0_8_e a1 a2 a4 a5 a6 a7 a8 a9 a10 v1 v2 v3 = L52_0_8_e a1 a2 a4 a5 a6 a7 a8 a9 a10 s.1 s.2.1 s.2.2) r := by
 unfold L52_0_8 at h
 apply bi h <;> intro h1 h
 ·
  apply bn h; intro x2 h2 h
  have q0 := ((igr tr_map h2) : idxA 3 (.p (.lst 3 (eTrees a1.kids))) (i6 v1) = some (.ro (cT x2)))
  have k1 := ka [(20, .d true), (21, .v (.ro (cT x2)))] (av h1 (apc q0 apn))
  apply bn h; intro r3 h3 h
  cases r3 with
  | k0 x3_0 x3_1 x3_2 =>
   rw [← sj h]
   exact xr ([(25, .r (vb false) [.cells 4 [vb x3_0], .cells 3 [i6 x3_1], .loop 2 (some none) [13, 14] [(.fn 51 [(.ro (cT a4))]), (.p (.lst 3 (eTrees a5))), i6 a6, (.p (.val undef)), (.ro [.lst 3 (eTrees a7)]), (.ro [.val (.int .i64 a8)]), .ptr 0 0, .ptr 1 0, (.p (.val undef)), (.p (.val undef)), (.fn 51 [(.ro (cT a9))]), vb false, (.fn 51 [(.ro (cT a10))]), (.p (.val undef)), (.p (.val undef)), (.p (.val undef)), (.p (.val undef)), (.p (.val undef)), (.p (.val undef)), (.p (.val undef)), (.p (.val undef)), (.p (.val undef)), (.p (.val undef)), (.p (.val undef)), (.p (.val undef)), (.p (.val undef)), (.p (.val undef)), (.p (.val undef)), (.p (.val undef)), (.p (.val undef)), (.p (.val undef)), (.p (.val undef)), (.p (.val undef)), (.p (.val undef)), (.p (.val undef)), (.p (.val undef)), (.p (.val undef)), (.p (.val undef)), (.p (.val undef)), (.p (.val undef)), (.p (.val undef)), (.p (.val undef))] ir25_a0 ir25_b0, .cells 91 [.yl 2], .cells 3 [i6 x3_2], .cells 57 [(.fn 52 [.ptr 4 0, .ptr 3 0, .ptr 5 0])], .cells 25 ((cT a1).map .p), .cells 25 ((cT x2).map .p)]), (6000, .d true)] ++ kH k1) (k1.b (apc ((hF52_11 x2 v2 a4 a5 a6 a7 a8 a9 a10 v3 h3 [.cells 25 ((cT a1).map .p), .cells 25 ((cT x2).map .p)]) : CS pg 52 [(.agg ((cT x2).map .p)), .ptr 4 0, .ptr 3 0, .ptr 5 0] (L52_0_8_d1 v2 a4 a5 a6 a7 a8 a9 a10 v3 a1 x2) = some ((vb false), [.cells 4 [vb x3_0], .cells 3 [i6 x3_1], .loop 2 (some none) [13, 14] [(.fn 51 [(.ro (cT a4))]), (.p (.lst 3 (eTrees a5))), i6 a6, (.p (.val undef)), (.ro [.lst 3 (eTrees a7)]), (.ro [.val (.int .i64 a8)]), .ptr 0 0, .ptr 1 0, (.p (.val undef)), (.p (.val undef)), (.fn 51 [(.ro (cT a9))]), vb false, (.fn 51 [(.ro (cT a10))]), (.p (.val undef)), (.p (.val undef)), (.p (.val undef)), (.p (.val undef)), (.p (.val undef)), (.p (.val undef)), (.p (.val undef)), (.p (.val undef)), (.p (.val undef)), (.p (.val undef)), (.p (.val undef)), (.p (.val undef)), (.p (.val undef)), (.p (.val undef)), (.p (.val undef)), (.p (.val undef)), (.p (.val undef)), (.p (.val undef)), (.p (.val undef)), (.p (.val undef)), (.p (.val undef)), (.p (.val undef)), (.p (.val undef)), (.p (.val undef)), (.p (.val undef)), (.p (.val undef)), (.p (.val undef)), (.p (.val undef)), (.p (.val undef))] ir25_a0 ir25_b0, .cells 91 [.yl 2], .cells 3 [i6 x3_2], .cells 57 [(.fn 52 [.ptr 4 0, .ptr 3 0, .ptr 5 0])], .cells 25 ((cT a1).map .p), .cells 25 ((cT x2).map .p)])) apn))
  | k1 x3_0 x3_1 =>
   rw [← sj h]
   exact rn ([(25, .r (vb true) [.cells 4 [vb false], .cells 3 [i6 x3_0], .loop 0 none [13, 14] [(.fn 51 [(.ro (cT a4))]), (.p (.lst 3 (eTrees a5))), i6 a6, (.p (.val undef)), (.ro [.lst 3 (eTrees a7)]), (.ro [.val (.int .i64 a8)]), .ptr 0 0, .ptr 1 0, (.p (.val undef)), (.p (.val undef)), (.fn 51 [(.ro (cT a9))]), vb false, (.fn 51 [(.ro (cT a10))]), (.p (.val undef)), (.p (.val undef)), (.p (.val undef)), (.p (.val undef)), (.p (.val undef)), (.p (.val undef)), (.p (.val undef)), (.p (.val undef)), (.p (.val undef)), (.p (.val undef)), (.p (.val undef)), (.p (.val undef)), (.p (.val undef)), (.p (.val undef)), (.p (.val undef)), (.p (.val undef)), (.p (.val undef)), (.p (.val undef)), (.p (.val undef)), (.p (.val undef)), (.p (.val undef)), (.p (.val undef)), (.p (.val undef)), (.p (.val undef)), (.p (.val undef)), (.p (.val undef)), (.p (.val undef)), (.p (.val undef)), (.p (.val undef))] ir25_a0 ir25_b0, .cells 91 [.yl 2], .cells 3 [i6 x3_1], .cells 57 [(.fn 52 [.ptr 4 0, .ptr 3 0, .ptr 5 0])], .cells 25 ((cT a1).map .p), .cells 25 ((cT x2).map .p)]), (6000, .d true)] ++ kH k1) (k1.b (apc ((hF52_11 x2 v2 a4 a5 a6 a7 a8 a9 a10 v3 h3 [.cells 25 ((cT a1).map .p), .cells 25 ((cT x2).map .p)]) : CS pg 52 [(.agg ((cT x2).map .p)), .ptr 4 0, .ptr 3 0, .ptr 5 0] (L52_0_8_d1 v2 a4 a5 a6 a7 a8 a9 a10 v3 a1 x2) = some ((vb true), [.cells 4 [vb false], .cells 3 [i6 x3_0], .loop 0 none [13, 14] [(.fn 51 [(.ro (cT a4))]), (.p (.lst 3 (eTrees a5))), i6 a6, (.p (.val undef)), (.ro [.lst 3 (eTrees a7)]), (.ro [.val (.int .i64 a8)]), .ptr 0 0, .ptr 1 0, (.p (.val undef)), (.p (.val undef)), (.fn 51 [(.ro (cT a9))]), vb false, (.fn 51 [(.ro (cT a10))]), (.p (.val undef)), (.p (.val undef)), (.p (.val undef)), (.p (.val undef)), (.p (.val undef)), (.p (.val undef)), (.p (.val undef)), (.p (.val undef)), (.p (.val undef)), (.p (.val undef)), (.p (.val undef)), (.p (.val undef)), (.p (.val undef)), (.p (.val undef)), (.p (.val undef)), (.p (.val undef)), (.p (.val undef)), (.p (.val undef)), (.p (.val undef)), (.p (.val undef)), (.p (.val undef)), (.p (.val undef)), (.p (.val undef)), (.p (.val undef)), (.p (.val undef)), (.p (.val undef)), (.p (.val undef)), (.p (.val undef)), (.p (.val undef))] ir25_a0 ir25_b0, .cells 91 [.yl 2], .cells 3 [i6 x3_1], .cells 57 [(.fn 52 [.ptr 4 0, .ptr 3 0, .ptr 5 0])], .cells 25 ((cT a1).map .p), .cells 25 ((cT x2).map .p)])) (apc (L52_0_8_k a1 a2 a4 a5 a6 a7 a8 a9 a10 (w6 (v1 + 1)) x3_0 x3_1) apn)))
 ·
  rw [← sj h]
  exact xb [(20, .d false), (6000, .d true)] (av h1 apn)
theorem L52_0_8_run (rF52_11 : T_F52_11) (hF52_11 : H_F52_11 rF52_11) (a1 : TreeD) (a2 : Int) (a4 : TreeD) (a5 : List TreeD) (a6 : Int) (a7 : List TreeD) (a8 : Int) (a9 a10 : TreeD) (s0 : Int × Int × Int) (e : E_L52_0_8) (h : runL (fun s => L52_0_8 rF52_11 a1 a2 a4 a5 a6 a7 a8 a9 a10 s.1 s.2.1 s.2.2) s0 = some e) : L52_0_8_x a1 a2 a4 a5 a6 a7 a8 a9 a10 e (L52_0_8_e a1 a2 a4 a5 a6 a7 a8 a9 a10 s0.1 s0.2.1 s0.2.2) := by
  have q := @loop_sound' (Int × Int × Int) E_L52_0_8 (fun s => L52_0_8 rF52_11 a1 a2 a4 a5 a6 a7 a8 a9 a10 s.1 s.2.1 s.2.2) (fun s => L52_0_8_e a1 a2 a4 a5 a6 a7 a8 a9 a10 s.1 s.2.1 s.2.2) (L52_0_8_x a1 a2 a4 a5 a6 a7 a8 a9 a10) (fun s r h => L52_0_8_ok rF52_11 hF52_11 a1 a2 a4 a5 a6 a7 a8 a9 a10 s.1 s.2.1 s.2.2 h) s0 e h
  exact q
def F52_11_b (Nf : Nat) (rF52_11 : T_F52_11) (a1 : TreeD) (a2 : Int) (a3 : TreeD) (a4 : List TreeD) (a5 : Int) (a6 : List TreeD) (a7 : Int) (a8 a9 : TreeD) (a10 : Int) : Option R_F52_11 :=
  ((Y25_0_7 Nf (IntKind.wrap .i64 ((IntKind.wrap .i64 (a10 + 1)) - 1)) a1 a2 a6 a7).bind fun r1 => match r1 with | .k0 x1_0 x1_1 => (some (.k0 x1_0 x1_1 (IntKind.wrap .i64 (a10 + 1)))) | .k1 => ((runL (fun s => L52_0_8 rF52_11 a1 (a1.kids.length : Int) a3 a4 a5 a6 a7 a8 a9 s.1 s.2.1 s.2.2) (0, (IntKind.wrap .i64 (a2 + 1)), (IntKind.wrap .i64 (a10 + 1)))).bind fun r2 => match r2 with | .k0 x2_0 x2_1 x2_2 x2_3 x2_4 x2_5 => (some (.k0 x2_0 x2_1 x2_2)) | .k1 x2_0 x2_1 => (some (.k1 x2_0 x2_1))))
abbrev F52_11_d0 (x1_0 : Bool) (x1_1 : Int) (a3 : TreeD) (a4 : List TreeD) (a5 : Int) (a6 : List TreeD) (a7 : Int) (a8 a9 : TreeD) (a10 : Int) (a1 : TreeD) : List AB := [.cells 4 [vb x1_0], .cells 3 [i6 x1_1], .loop 2 (some none) [13, 14] [(.fn 51 [(.ro (cT a3))]), (.p (.lst 3 (eTrees a4))), i6 a5, (.p (.val undef)), (.ro [.lst 3 (eTrees a6)]), (.ro [.val (.int .i64 a7)]), .ptr 0 0, .ptr 1 0, (.p (.val undef)), (.p (.val undef)), (.fn 51 [(.ro (cT a8))]), vb false, (.fn 51 [(.ro (cT a9))]), (.p (.val undef)), (.p (.val undef)), (.p (.val undef)), (.p (.val undef)), (.p (.val undef)), (.p (.val undef)), (.p (.val undef)), (.p (.val undef)), (.p (.val undef)), (.p (.val undef)), (.p (.val undef)), (.p (.val undef)), (.p (.val undef)), (.p (.val undef)), (.p (.val undef)), (.p (.val undef)), (.p (.val undef)), (.p (.val undef)), (.p (.val undef)), (.p (.val undef)), (.p (.val undef)), (.p (.val undef)), (.p (.val undef)), (.p (.val undef)), (.p (.val undef)), (.p (.val undef)), (.p (.val undef)), (.p (.val undef)), (.p (.val undef))] ir25_a0 ir25_b0, .cells 91 [.yl 2], .cells 3 [(i6 (w6 (a10 + 1)))], .cells 57 [(.fn 52 [.ptr 4 0, .ptr 3 0, .ptr 5 0])], .cells 25 ((cT a1).map .p)]
abbrev F52_11_d1 (a2 : Int) (a3 : TreeD) (a4 : List TreeD) (a5 : Int) (a6 : List TreeD) (a7 : Int) (a8 a9 : TreeD) (a10 : Int) : List AB := [.cells 4 [vb false], .cells 3 [i6 a2], .loop 0 none [13, 14] [(.fn 51 [(.ro (cT a3))]), (.p (.lst 3 (eTrees a4))), i6 a5, (.p (.val undef)), (.ro [.lst 3 (eTrees a6)]), (.ro [.val (.int .i64 a7)]), .ptr 0 0, .ptr 1 0, (.p (.val undef)), (.p (.val undef)), (.fn 51 [(.ro (cT a8))]), vb false, (.fn 51 [(.ro (cT a9))]), (.p (.val undef)), (.p (.val undef)), (.p (.val undef)), (.p (.val undef)), (.p (.val undef)), (.p (.val undef)), (.p (.val undef)), (.p (.val undef)), (.p (.val undef)), (.p (.val undef)), (.p (.val undef)), (.p (.val undef)), (.p (.val undef)), (.p (.val undef)), (.p (.val undef)), (.p (.val undef)), (.p (.val undef)), (.p (.val undef)), (.p (.val undef)), (.p (.val undef)), (.p (.val undef)), (.p (.val undef)), (.p (.val undef)), (.p (.val undef)), (.p (.val undef)), (.p (.val undef)), (.p (.val undef)), (.p (.val undef)), (.p (.val undef))] ir25_a0 ir25_b0, .cells 91 [.yl 2], .cells 3 [(i6 (w6 (a10 + 1)))], .cells 57 [(.fn 52 [.ptr 4 0, .ptr 3 0, .ptr 5 0])]]
abbrev F52_11_d2 (a2 : Int) (a3 : TreeD) (a4 : List TreeD) (a5 : Int) (a6 : List TreeD) (a7 : Int) (a8 a9 : TreeD) (a10 : Int) (a1 : TreeD) : List AB := [.cells 4 [vb false], .cells 3 [(i6 (w6 (a2 + 1)))], .loop 0 none [13, 14] [(.fn 51 [(.ro (cT a3))]), (.p (.lst 3 (eTrees a4))), i6 a5, (.p (.val undef)), (.ro [.lst 3 (eTrees a6)]), (.ro [.val (.int .i64 a7)]), .ptr 0 0, .ptr 1 0, (.p (.val undef)), (.p (.val undef)), (.fn 51 [(.ro (cT a8))]), vb false, (.fn 51 [(.ro (cT a9))]), (.p (.val undef)), (.p (.val undef)), (.p (.val undef)), (.p (.val undef)), (.p (.val undef)), (.p (.val undef)), (.p (.val undef)), (.p (.val undef)), (.p (.val undef)), (.p (.val undef)), (.p (.val undef)), (.p (.val undef)), (.p (.val undef)), (.p (.val undef)), (.p (.val undef)), (.p (.val undef)), (.p (.val undef)), (.p (.val undef)), (.p (.val undef)), (.p (.val undef)), (.p (.val undef)), (.p (.val undef)), (.p (.val undef)), (.p (.val undef)), (.p (.val undef)), (.p (.val undef)), (.p (.val undef)), (.p (.val undef)), (.p (.val undef))] ir25_a0 ir25_b0, .cells 91 [.yl 2], .cells 3 [(i6 (w6 (a10 + 1)))], .cells 57 [(.fn 52 [.ptr 4 0, .ptr 3 0, .ptr 5 0])], .cells 25 ((cT a1).map .p)]
theorem F52_11_bok (Nf : Nat) (rF52_11 : T_F52_11) (hF52_11 : H_F52_11 rF52_11) (a1 : TreeD) (a2 : Int) (a3 : TreeD) (a4 : List TreeD) (a5 : Int) (a6 : List TreeD) (a7 : Int) (a8 a9 : TreeD) (a10 : Int) {r : R_F52_11} (h : F52_11_b Nf rF52_11 a1 a2 a3 a4 a5 a6 a7 a8 a9 a10 = some r) : ∀ hx : List AB, CS pg 52 [(.agg ((cT a1).map .p)), .ptr 4 0, .ptr 3 0, .ptr 5 0] ([.cells 4 [vb false], .cells 3 [i6 a2], .loop 0 none [13, 14] [(.fn 51 [(.ro (cT a3))]), (.p (.lst 3 (eTrees a4))), i6 a5, (.p (.val undef)), (.ro [.lst 3 (eTrees a6)]), (.ro [.val (.int .i64 a7)]), .ptr 0 0, .ptr 1 0, (.p (.val undef)), (.p (.val undef)), (.fn 51 [(.ro (cT a8))]), vb false, (.fn 51 [(.ro (cT a9))]), (.p (.val undef)), (.p (.val undef)), (.p (.val undef)), (.p (.val undef)), (.p (.val undef)), (.p (.val undef)), (.p (.val undef)), (.p (.val undef)), (.p (.val undef)), (.p (.val undef)), (.p (.val undef)), (.p (.val undef)), (.p (.val undef)), (.p (.val undef)), (.p (.val undef)), (.p (.val undef)), (.p (.val undef)), (.p (.val undef)), (.p (.val undef)), (.p (.val undef)), (.p (.val undef)), (.p (.val undef)), (.p (.val undef)), (.p (.val undef)), (.p (.val undef)), (.p (.val undef)), (.p (.val undef)), (.p (.val undef)), (.p (.val undef))] ir25_a0 ir25_b0, .cells 91 [.yl 2], .cells 3 [i6 a10], .cells 57 [(.fn 52 [.ptr 4 0, .ptr 3 0, .ptr 5 0])]] ++ hx) = some (F52_11_v a1 a2 a3 a4 a5 a6 a7 a8 a9 a10 r, F52_11_h a1 a2 a3 a4 a5 a6 a7 a8 a9 a10 r ++ hx) := by
 unfold F52_11_b at h
 have q0 := ((lgr tr_map) : lnA (.p (.lst 3 (eTrees a1.kids))) = some (i6 (a1.kids.length : Int)))
 have q1 := (L52_0_8_k a1 (a1.kids.length : Int) a3 a4 a5 a6 a7 a8 a9 0 (w6 (a2 + 1)) (w6 (a10 + 1)))
 apply bn h; intro r1 h1 h
 cases r1 with
 | k0 x1_0 x1_1 =>
  rw [← sj h]
  exact fcF (m := 6) (v := (vb false)) (h' := (F52_11_d0 x1_0 x1_1 a3 a4 a5 a6 a7 a8 a9 a10 a1)) [(14, .r (vb false) (F52_11_d0 x1_0 x1_1 a3 a4 a5 a6 a7 a8 a9 a10 a1))] (apc ((Y25_0_7_ok Nf (w6 ((w6 (a10 + 1)) - 1)) a1 a2 a3 a4 a5 a6 a7 a8 a9 (w6 (a10 + 1)) h1) : callY (ev pg) 2 [(i6 (w6 ((w6 (a10 + 1)) - 1))), (.agg ((cT a1).map .p))] (F52_11_d1 a2 a3 a4 a5 a6 a7 a8 a9 a10) = some ((vb false), F52_11_d0 x1_0 x1_1 a3 a4 a5 a6 a7 a8 a9 a10 a1)) apn) rfl (ac (ac (ac (ac (ac (ac rfl)))))) rfl (ac (ac (ac (ac (ac (ac rfl)))))) rfl (by kernel_rfl)
 | k1 =>
  have q2 := ((Y25_0_7_ok Nf (w6 ((w6 (a10 + 1)) - 1)) a1 a2 a3 a4 a5 a6 a7 a8 a9 (w6 (a10 + 1)) h1) : callY (ev pg) 2 [(i6 (w6 ((w6 (a10 + 1)) - 1))), (.agg ((cT a1).map .p))] (F52_11_d1 a2 a3 a4 a5 a6 a7 a8 a9 a10) = some ((vb true), F52_11_d2 a2 a3 a4 a5 a6 a7 a8 a9 a10 a1))
  have k3 := ka [(14, .r (vb true) (F52_11_d2 a2 a3 a4 a5 a6 a7 a8 a9 a10 a1)), (18, .v (i6 (a1.kids.length : Int)))] (apc q2 (apc q0 apn))
  apply bn h; intro r2 h2 h
  cases r2 with
  | k0 x2_0 x2_1 x2_2 x2_3 x2_4 x2_5 =>
   obtain ⟨g2, e2⟩ := L52_0_8_run rF52_11 hF52_11 a1 (a1.kids.length : Int) a3 a4 a5 a6 a7 a8 a9 (0, (w6 (a2 + 1)), (w6 (a10 + 1))) _ h2
   rw [← sj h]
   exact fcF (m := 6) (v := (vb false)) (h' := [.cells 4 [vb x2_0], .cells 3 [i6 x2_1], .loop 2 (some none) [13, 14] [(.fn 51 [(.ro (cT a3))]), (.p (.lst 3 (eTrees a4))), i6 a5, (.p (.val undef)), (.ro [.lst 3 (eTrees a6)]), (.ro [.val (.int .i64 a7)]), .ptr 0 0, .ptr 1 0, (.p (.val undef)), (.p (.val undef)), (.fn 51 [(.ro (cT a8))]), vb false, (.fn 51 [(.ro (cT a9))]), (.p (.val undef)), (.p (.val undef)), (.p (.val undef)), (.p (.val undef)), (.p (.val undef)), (.p (.val undef)), (.p (.val undef)), (.p (.val undef)), (.p (.val undef)), (.p (.val undef)), (.p (.val undef)), (.p (.val undef)), (.p (.val undef)), (.p (.val undef)), (.p (.val undef)), (.p (.val undef)), (.p (.val undef)), (.p (.val undef)), (.p (.val undef)), (.p (.val undef)), (.p (.val undef)), (.p (.val undef)), (.p (.val undef)), (.p (.val undef)), (.p (.val undef)), (.p (.val undef)), (.p (.val undef)), (.p (.val undef)), (.p (.val undef))] ir25_a0 ir25_b0, .cells 91 [.yl 2], .cells 3 [i6 x2_2], .cells 57 [(.fn 52 [.ptr 4 0, .ptr 3 0, .ptr 5 0])], .cells 25 ((cT a1).map .p), .cells 25 [i6 x2_3, vi .u8 x2_4, (.p (.lst 3 (eTrees x2_5)))]]) ([(2000, .l .ret ⟨fr 28 g2 [(5, vb false)], [.cells 4 [vb x2_0], .cells 3 [i6 x2_1], .loop 2 (some none) [13, 14] [(.fn 51 [(.ro (cT a3))]), (.p (.lst 3 (eTrees a4))), i6 a5, (.p (.val undef)), (.ro [.lst 3 (eTrees a6)]), (.ro [.val (.int .i64 a7)]), .ptr 0 0, .ptr 1 0, (.p (.val undef)), (.p (.val undef)), (.fn 51 [(.ro (cT a8))]), vb false, (.fn 51 [(.ro (cT a9))]), (.p (.val undef)), (.p (.val undef)), (.p (.val undef)), (.p (.val undef)), (.p (.val undef)), (.p (.val undef)), (.p (.val undef)), (.p (.val undef)), (.p (.val undef)), (.p (.val undef)), (.p (.val undef)), (.p (.val undef)), (.p (.val undef)), (.p (.val undef)), (.p (.val undef)), (.p (.val undef)), (.p (.val undef)), (.p (.val undef)), (.p (.val undef)), (.p (.val undef)), (.p (.val undef)), (.p (.val undef)), (.p (.val undef)), (.p (.val undef)), (.p (.val undef)), (.p (.val undef)), (.p (.val undef)), (.p (.val undef)), (.p (.val undef))] ir25_a0 ir25_b0, .cells 91 [.yl 2], .cells 3 [i6 x2_2], .cells 57 [(.fn 52 [.ptr 4 0, .ptr 3 0, .ptr 5 0])], .cells 25 ((cT a1).map .p), .cells 25 [i6 x2_3, vi .u8 x2_4, (.p (.lst 3 (eTrees x2_5)))]]⟩), (6000, .d true)] ++ kH k3) (k3.b (apc q1 (apc (e2 : L52_0_8_e a1 (a1.kids.length : Int) a3 a4 a5 a6 a7 a8 a9 0 (w6 (a2 + 1)) (w6 (a10 + 1)) = some (.ret, ⟨fr 28 g2 [(5, vb false)], [.cells 4 [vb x2_0], .cells 3 [i6 x2_1], .loop 2 (some none) [13, 14] [(.fn 51 [(.ro (cT a3))]), (.p (.lst 3 (eTrees a4))), i6 a5, (.p (.val undef)), (.ro [.lst 3 (eTrees a6)]), (.ro [.val (.int .i64 a7)]), .ptr 0 0, .ptr 1 0, (.p (.val undef)), (.p (.val undef)), (.fn 51 [(.ro (cT a8))]), vb false, (.fn 51 [(.ro (cT a9))]), (.p (.val undef)), (.p (.val undef)), (.p (.val undef)), (.p (.val undef)), (.p (.val undef)), (.p (.val undef)), (.p (.val undef)), (.p (.val undef)), (.p (.val undef)), (.p (.val undef)), (.p (.val undef)), (.p (.val undef)), (.p (.val undef)), (.p (.val undef)), (.p (.val undef)), (.p (.val undef)), (.p (.val undef)), (.p (.val undef)), (.p (.val undef)), (.p (.val undef)), (.p (.val undef)), (.p (.val undef)), (.p (.val undef)), (.p (.val undef)), (.p (.val undef)), (.p (.val undef)), (.p (.val undef)), (.p (.val undef)), (.p (.val undef))] ir25_a0 ir25_b0, .cells 91 [.yl 2], .cells 3 [i6 x2_2], .cells 57 [(.fn 52 [.ptr 4 0, .ptr 3 0, .ptr 5 0])], .cells 25 ((cT a1).map .p), .cells 25 [i6 x2_3, vi .u8 x2_4, (.p (.lst 3 (eTrees x2_5)))]]⟩)) apn))) rfl (ac (ac (ac (ac (ac (ac rfl)))))) rfl (ac (ac (ac (ac (ac (ac rfl)))))) rfl (by kernel_rfl)
  | k1 x2_0 x2_1 =>
   obtain ⟨g2, e2⟩ := L52_0_8_run rF52_11 hF52_11 a1 (a1.kids.length : Int) a3 a4 a5 a6 a7 a8 a9 (0, (w6 (a2 + 1)), (w6 (a10 + 1))) _ h2
   rw [← sj h]
   exact fcF (m := 6) (v := (vb true)) (h' := [.cells 4 [vb false], .cells 3 [i6 x2_0], .loop 0 none [13, 14] [(.fn 51 [(.ro (cT a3))]), (.p (.lst 3 (eTrees a4))), i6 a5, (.p (.val undef)), (.ro [.lst 3 (eTrees a6)]), (.ro [.val (.int .i64 a7)]), .ptr 0 0, .ptr 1 0, (.p (.val undef)), (.p (.val undef)), (.fn 51 [(.ro (cT a8))]), vb false, (.fn 51 [(.ro (cT a9))]), (.p (.val undef)), (.p (.val undef)), (.p (.val undef)), (.p (.val undef)), (.p (.val undef)), (.p (.val undef)), (.p (.val undef)), (.p (.val undef)), (.p (.val undef)), (.p (.val undef)), (.p (.val undef)), (.p (.val undef)), (.p (.val undef)), (.p (.val undef)), (.p (.val undef)), (.p (.val undef)), (.p (.val undef)), (.p (.val undef)), (.p (.val undef)), (.p (.val undef)), (.p (.val undef)), (.p (.val undef)), (.p (.val undef)), (.p (.val undef)), (.p (.val undef)), (.p (.val undef)), (.p (.val undef)), (.p (.val undef)), (.p (.val undef))] ir25_a0 ir25_b0, .cells 91 [.yl 2], .cells 3 [i6 x2_1], .cells 57 [(.fn 52 [.ptr 4 0, .ptr 3 0, .ptr 5 0])], .cells 25 ((cT a1).map .p)]) ([(2000, .l (.brk 0) ⟨fr 28 g2 [(17, (.p (.lst 3 (eTrees a1.kids))))], [.cells 4 [vb false], .cells 3 [i6 x2_0], .loop 0 none [13, 14] [(.fn 51 [(.ro (cT a3))]), (.p (.lst 3 (eTrees a4))), i6 a5, (.p (.val undef)), (.ro [.lst 3 (eTrees a6)]), (.ro [.val (.int .i64 a7)]), .ptr 0 0, .ptr 1 0, (.p (.val undef)), (.p (.val undef)), (.fn 51 [(.ro (cT a8))]), vb false, (.fn 51 [(.ro (cT a9))]), (.p (.val undef)), (.p (.val undef)), (.p (.val undef)), (.p (.val undef)), (.p (.val undef)), (.p (.val undef)), (.p (.val undef)), (.p (.val undef)), (.p (.val undef)), (.p (.val undef)), (.p (.val undef)), (.p (.val undef)), (.p (.val undef)), (.p (.val undef)), (.p (.val undef)), (.p (.val undef)), (.p (.val undef)), (.p (.val undef)), (.p (.val undef)), (.p (.val undef)), (.p (.val undef)), (.p (.val undef)), (.p (.val undef)), (.p (.val undef)), (.p (.val undef)), (.p (.val undef)), (.p (.val undef)), (.p (.val undef)), (.p (.val undef))] ir25_a0 ir25_b0, .cells 91 [.yl 2], .cells 3 [i6 x2_1], .cells 57 [(.fn 52 [.ptr 4 0, .ptr 3 0, .ptr 5 0])], .cells 25 ((cT a1).map .p)]⟩), (6000, .d true)] ++ kH k3) (k3.b (apc q1 (apc (e2 : L52_0_8_e a1 (a1.kids.length : Int) a3 a4 a5 a6 a7 a8 a9 0 (w6 (a2 + 1)) (w6 (a10 + 1)) = some ((.brk 0), ⟨fr 28 g2 [(17, (.p (.lst 3 (eTrees a1.kids))))], [.cells 4 [vb false], .cells 3 [i6 x2_0], .loop 0 none [13, 14] [(.fn 51 [(.ro (cT a3))]), (.p (.lst 3 (eTrees a4))), i6 a5, (.p (.val undef)), (.ro [.lst 3 (eTrees a6)]), (.ro [.val (.int .i64 a7)]), .ptr 0 0, .ptr 1 0, (.p (.val undef)), (.p (.val undef)), (.fn 51 [(.ro (cT a8))]), vb false, (.fn 51 [(.ro (cT a9))]), (.p (.val undef)), (.p (.val undef)), (.p (.val undef)), (.p (.val undef)), (.p (.val undef)), (.p (.val undef)), (.p (.val undef)), (.p (.val undef)), (.p (.val undef)), (.p (.val undef)), (.p (.val undef)), (.p (.val undef)), (.p (.val undef)), (.p (.val undef)), (.p (.val undef)), (.p (.val undef)), (.p (.val undef)), (.p (.val undef)), (.p (.val undef)), (.p (.val undef)), (.p (.val undef)), (.p (.val undef)), (.p (.val undef)), (.p (.val undef)), (.p (.val undef)), (.p (.val undef)), (.p (.val undef)), (.p (.val undef)), (.p (.val undef))] ir25_a0 ir25_b0, .cells 91 [.yl 2], .cells 3 [i6 x2_1], .cells 57 [(.fn 52 [.ptr 4 0, .ptr 3 0, .ptr 5 0])], .cells 25 ((cT a1).map .p)]⟩)) apn))) rfl (ac (ac (ac (ac (ac (ac rfl)))))) rfl (ac (ac (ac (ac (ac (ac rfl)))))) rfl (by kernel_rfl)
def F52_11 : Nat → T_F52_11
  | 0 => fun _ _ _ _ _ _ _ _ _ _ => none
  | Nf + 1 => F52_11_b Nf (F52_11 Nf)
theorem F52_11_ok (Nf : Nat) : H_F52_11 (F52_11 Nf) := by
  induction Nf with
  | zero => intro a1 a2 a3 a4 a5 a6 a7 a8 a9 a10 r h; have h : (none : Option R_F52_11) = some r := h; cases h
  | succ Nf ih => intro a1 a2 a3 a4 a5 a6 a7 a8 a9 a10 r h; exact F52_11_bok Nf (F52_11 Nf) ih a1 a2 a3 a4 a5 a6 a7 a8 a9 a10 h
inductive R_F51_9 where
  | k0
  | k1 (x0 : Bool) (x1 x2 : Int)
  | k2 (x0 x1 : Int)
def F51_9_v (a1 : TreeD) (a2 : List TreeD) (a3 : Int) (r : R_F51_9) : AV := match r with | .k0 => (.tup []) | .k1 x0 x1 x2 => (.tup []) | .k2 x0 x1 => (.tup [])
def F51_9_h (a1 : TreeD) (a2 : List TreeD) (a3 : Int) (r : R_F51_9) : List AB := match r with | .k0 => [.cells 4 [vb false], .cells 3 [i6 0], .loop 0 none [13, 14] [(.fn 51 [(.ro (cT a1))]), (.p (.lst 3 (eTrees a2))), i6 a3, (.p (.val undef)), (.ro [.lst 3 (eTrees a2)]), (.ro [.val (.int .i64 a3)]), .ptr 0 0, .ptr 1 0, (.p (.val undef)), (.p (.val undef)), (.fn 51 [(.ro (cT a1))]), vb false, (.fn 51 [(.ro (cT a1))]), (.p (.val undef)), (.p (.val undef)), (.p (.val undef)), (.p (.val undef)), (.p (.val undef)), (.p (.val undef)), (.p (.val undef)), (.p (.val undef)), (.p (.val undef)), (.p (.val undef)), (.p (.val undef)), (.p (.val undef)), (.p (.val undef)), (.p (.val undef)), (.p (.val undef)), (.p (.val undef)), (.p (.val undef)), (.p (.val undef)), (.p (.val undef)), (.p (.val undef)), (.p (.val undef)), (.p (.val undef)), (.p (.val undef)), (.p (.val undef)), (.p (.val undef)), (.p (.val undef)), (.p (.val undef)), (.p (.val undef)), (.p (.val undef))] ir25_a0 ir25_b0, .cells 91 [.yl 2]] | .k1 x0 x1 x2 => [.cells 4 [vb x0], .cells 3 [i6 x1], .loop 2 (some none) [13, 14] [(.fn 51 [(.ro (cT a1))]), (.p (.lst 3 (eTrees a2))), i6 a3, (.p (.val undef)), (.ro [.lst 3 (eTrees a2)]), (.ro [.val (.int .i64 a3)]), .ptr 0 0, .ptr 1 0, (.p (.val undef)), (.p (.val undef)), (.fn 51 [(.ro (cT a1))]), vb false, (.fn 51 [(.ro (cT a1))]), (.p (.val undef)), (.p (.val undef)), (.p (.val undef)), (.p (.val undef)), (.p (.val undef)), (.p (.val undef)), (.p (.val undef)), (.p (.val undef)), (.p (.val undef)), (.p (.val undef)), (.p (.val undef)), (.p (.val undef)), (.p (.val undef)), (.p (.val undef)), (.p (.val undef)), (.p (.val undef)), (.p (.val undef)), (.p (.val undef)), (.p (.val undef)), (.p (.val undef)), (.p (.val undef)), (.p (.val undef)), (.p (.val undef)), (.p (.val undef)), (.p (.val undef)), (.p (.val undef)), (.p (.val undef)), (.p (.val undef)), (.p (.val undef))] ir25_a0 ir25_b0, .cells 91 [.yl 2], .cells 3 [i6 x2], .cells 57 [(.fn 52 [.ptr 4 0, .ptr 3 0, .ptr 5 0])]] | .k2 x0 x1 => [.cells 4 [vb false], .cells 3 [i6 x0], .loop 0 none [13, 14] [(.fn 51 [(.ro (cT a1))]), (.p (.lst 3 (eTrees a2))), i6 a3, (.p (.val undef)), (.ro [.lst 3 (eTrees a2)]), (.ro [.val (.int .i64 a3)]), .ptr 0 0, .ptr 1 0, (.p (.val undef)), (.p (.val undef)), (.fn 51 [(.ro (cT a1))]), vb false, (.fn 51 [(.ro (cT a1))]), (.p (.val undef)), (.p (.val undef)), (.p (.val undef)), (.p (.val undef)), (.p (.val undef)), (.p (.val undef)), (.p (.val undef)), (.p (.val undef)), (.p (.val undef)), (.p (.val undef)), (.p (.val undef)), (.p (.val undef)), (.p (.val undef)), (.p (.val undef)), (.p (.val undef)), (.p (.val undef)), (.p (.val undef)), (.p (.val undef)), (.p (.val undef)), (.p (.val undef)), (.p (.val undef)), (.p (.val undef)), (.p (.val undef)), (.p (.val undef)), (.p (.val undef)), (.p (.val undef)), (.p (.val undef)), (.p (.val undef)), (.p (.val undef))] ir25_a0 ir25_b0, .cells 91 [.yl 2], .cells 3 [i6 x1], .cells 57 [(.fn 52 [.ptr 4 0, .ptr 3 0, .ptr 5 0])]]
def F51_9 (Nf : Nat) (a1 : TreeD) (a2 : List TreeD) (a3 : Int) : Option R_F51_9 :=
  ((F23 a1).bind fun x1 => (bif (x1 != 0) then (some (.k0)) else ((F52_11 Nf a1 0 a1 a2 a3 a2 a3 a1 a1 0).bind fun r3 => match r3 with | .k0 x3_0 x3_1 x3_2 => (some (.k1 x3_0 x3_1 x3_2)) | .k1 x3_0 x3_1 => (some (.k2 x3_0 x3_1)))))
abbrev F51_9_d1 (a1 : TreeD) (a2 : List TreeD) (a3 : Int) : List AB := [.cells 4 [vb false], .cells 3 [i6 0], .loop 0 none [13, 14] [(.fn 51 [(.ro (cT a1))]), (.p (.lst 3 (eTrees a2))), i6 a3, (.p (.val undef)), (.ro [.lst 3 (eTrees a2)]), (.ro [.val (.int .i64 a3)]), .ptr 0 0, .ptr 1 0, (.p (.val undef)), (.p (.val undef)), (.fn 51 [(.ro (cT a1))]), vb false, (.fn 51 [(.ro (cT a1))]), (.p (.val undef)), (.p (.val undef)), (.p (.val undef)), (.p (.val undef)), (.p (.val undef)), (.p (.val undef)), (.p (.val undef)), (.p (.val undef)), (.p (.val undef)), (.p (.val undef)), (.p (.val undef)), (.p (.val undef)), (.p (.val undef)), (.p (.val undef)), (.p (.val undef)), (.p (.val undef)), (.p (.val undef)), (.p (.val undef)), (.p (.val undef)), (.p (.val undef)), (.p (.val undef)), (.p (.val undef)), (.p (.val undef)), (.p (.val undef)), (.p (.val undef)), (.p (.val undef)), (.p (.val undef)), (.p (.val undef)), (.p (.val undef))] ir25_a0 ir25_b0, .cells 91 [.yl 2], .cells 3 [i6 0], .cells 57 [(.fn 52 [.ptr 4 0, .ptr 3 0, .ptr 5 0])]]
theorem F51_9_ok (Nf : Nat) (a1 : TreeD) (a2 : List TreeD) (a3 : Int) {r : R_F51_9} (h : F51_9 Nf a1 a2 a3 = some r) : CS pg 51 [.yl 2, (.ro (cT a1))] [.cells 4 [vb false], .cells 3 [i6 0], .loop 0 none [13, 14] [(.fn 51 [(.ro (cT a1))]), (.p (.lst 3 (eTrees a2))), i6 a3, (.p (.val undef)), (.ro [.lst 3 (eTrees a2)]), (.ro [.val (.int .i64 a3)]), .ptr 0 0, .ptr 1 0, (.p (.val undef)), (.p (.val undef)), (.fn 51 [(.ro (cT a1))]), vb false, (.fn 51 [(.ro (cT a1))]), (.p (.val undef)), (.p (.val undef)), (.p (.val undef)), (.p (.val undef)), (.p (.val undef)), (.p (.val undef)), (.p (.val undef)), (.p (.val undef)), (.p (.val undef)), (.p (.val undef)), (.p (.val undef)), (.p (.val undef)), (.p (.val undef)), (.p (.val undef)), (.p (.val undef)), (.p (.val undef)), (.p (.val undef)), (.p (.val undef)), (.p (.val undef)), (.p (.val undef)), (.p (.val undef)), (.p (.val undef)), (.p (.val undef)), (.p (.val undef)), (.p (.val undef)), (.p (.val undef)), (.p (.val undef)), (.p (.val undef)), (.p (.val undef))] ir25_a0 ir25_b0] = some (F51_9_v a1 a2 a3 r, F51_9_h a1 a2 a3 r) := by
 unfold F51_9 at h
 apply bn h; intro x1 h1 h
 have q0 := (((F23_ok a1 h1).cp rfl _) : CP pg 23 [(.agg ((cT a1).map .p))] [.cells 4 [vb false], .cells 3 [i6 0], .loop 0 none [13, 14] [(.fn 51 [(.ro (cT a1))]), (.p (.lst 3 (eTrees a2))), i6 a3, (.p (.val undef)), (.ro [.lst 3 (eTrees a2)]), (.ro [.val (.int .i64 a3)]), .ptr 0 0, .ptr 1 0, (.p (.val undef)), (.p (.val undef)), (.fn 51 [(.ro (cT a1))]), vb false, (.fn 51 [(.ro (cT a1))]), (.p (.val undef)), (.p (.val undef)), (.p (.val undef)), (.p (.val undef)), (.p (.val undef)), (.p (.val undef)), (.p (.val undef)), (.p (.val undef)), (.p (.val undef)), (.p (.val undef)), (.p (.val undef)), (.p (.val undef)), (.p (.val undef)), (.p (.val undef)), (.p (.val undef)), (.p (.val undef)), (.p (.val undef)), (.p (.val undef)), (.p (.val undef)), (.p (.val undef)), (.p (.val undef)), (.p (.val undef)), (.p (.val undef)), (.p (.val undef)), (.p (.val undef)), (.p (.val undef)), (.p (.val undef)), (.p (.val undef)), (.p (.val undef))] ir25_a0 ir25_b0, .cells 91 [.yl 2]] = some (i6 x1))
 apply bi h <;> intro h2 h
 ·
  rw [← sj h]
  exact fc [(6, .v (i6 x1)), (7, .d true)] (apc q0 (av h2 apn))
 ·
  have k1 := ka [(6, .v (i6 x1)), (7, .d false)] (apc q0 (av h2 apn))
  apply bn h; intro r3 h3 h
  cases r3 with
  | k0 x3_0 x3_1 x3_2 =>
   rw [← sj h]
   exact fc ([(11, .r (vb false) [.cells 4 [vb x3_0], .cells 3 [i6 x3_1], .loop 2 (some none) [13, 14] [(.fn 51 [(.ro (cT a1))]), (.p (.lst 3 (eTrees a2))), i6 a3, (.p (.val undef)), (.ro [.lst 3 (eTrees a2)]), (.ro [.val (.int .i64 a3)]), .ptr 0 0, .ptr 1 0, (.p (.val undef)), (.p (.val undef)), (.fn 51 [(.ro (cT a1))]), vb false, (.fn 51 [(.ro (cT a1))]), (.p (.val undef)), (.p (.val undef)), (.p (.val undef)), (.p (.val undef)), (.p (.val undef)), (.p (.val undef)), (.p (.val undef)), (.p (.val undef)), (.p (.val undef)), (.p (.val undef)), (.p (.val undef)), (.p (.val undef)), (.p (.val undef)), (.p (.val undef)), (.p (.val undef)), (.p (.val undef)), (.p (.val undef)), (.p (.val undef)), (.p (.val undef)), (.p (.val undef)), (.p (.val undef)), (.p (.val undef)), (.p (.val undef)), (.p (.val undef)), (.p (.val undef)), (.p (.val undef)), (.p (.val undef)), (.p (.val undef)), (.p (.val undef))] ir25_a0 ir25_b0, .cells 91 [.yl 2], .cells 3 [i6 x3_2], .cells 57 [(.fn 52 [.ptr 4 0, .ptr 3 0, .ptr 5 0])]])] ++ kH k1) (k1.b (apc ((F52_11_ok Nf a1 0 a1 a2 a3 a2 a3 a1 a1 0 h3 []) : CS pg 52 [(.agg ((cT a1).map .p)), .ptr 4 0, .ptr 3 0, .ptr 5 0] (F51_9_d1 a1 a2 a3) = some ((vb false), [.cells 4 [vb x3_0], .cells 3 [i6 x3_1], .loop 2 (some none) [13, 14] [(.fn 51 [(.ro (cT a1))]), (.p (.lst 3 (eTrees a2))), i6 a3, (.p (.val undef)), (.ro [.lst 3 (eTrees a2)]), (.ro [.val (.int .i64 a3)]), .ptr 0 0, .ptr 1 0, (.p (.val undef)), (.p (.val undef)), (.fn 51 [(.ro (cT a1))]), vb false, (.fn 51 [(.ro (cT a1))]), (.p (.val undef)), (.p (.val undef)), (.p (.val undef)), (.p (.val undef)), (.p (.val undef)), (.p (.val undef)), (.p (.val undef)), (.p (.val undef)), (.p (.val undef)), (.p (.val undef)), (.p (.val undef)), (.p (.val undef)), (.p (.val undef)), (.p (.val undef)), (.p (.val undef)), (.p (.val undef)), (.p (.val undef)), (.p (.val undef)), (.p (.val undef)), (.p (.val undef)), (.p (.val undef)), (.p (.val undef)), (.p (.val undef)), (.p (.val undef)), (.p (.val undef)), (.p (.val undef)), (.p (.val undef)), (.p (.val undef)), (.p (.val undef))] ir25_a0 ir25_b0, .cells 91 [.yl 2], .cells 3 [i6 x3_2], .cells 57 [(.fn 52 [.ptr 4 0, .ptr 3 0, .ptr 5 0])]])) apn))
  | k1 x3_0 x3_1 =>
   rw [← sj h]
   exact fc ([(11, .r (vb true) [.cells 4 [vb false], .cells 3 [i6 x3_0], .loop 0 none [13, 14] [(.fn 51 [(.ro (cT a1))]), (.p (.lst 3 (eTrees a2))), i6 a3, (.p (.val undef)), (.ro [.lst 3 (eTrees a2)]), (.ro [.val (.int .i64 a3)]), .ptr 0 0, .ptr 1 0, (.p (.val undef)), (.p (.val undef)), (.fn 51 [(.ro (cT a1))]), vb false, (.fn 51 [(.ro (cT a1))]), (.p (.val undef)), (.p (.val undef)), (.p (.val undef)), (.p (.val undef)), (.p (.val undef)), (.p (.val undef)), (.p (.val undef)), (.p (.val undef)), (.p (.val undef)), (.p (.val undef)), (.p (.val undef)), (.p (.val undef)), (.p (.val undef)), (.p (.val undef)), (.p (.val undef)), (.p (.val undef)), (.p (.val undef)), (.p (.val undef)), (.p (.val undef)), (.p (.val undef)), (.p (.val undef)), (.p (.val undef)), (.p (.val undef)), (.p (.val undef)), (.p (.val undef)), (.p (.val undef)), (.p (.val undef)), (.p (.val undef)), (.p (.val undef))] ir25_a0 ir25_b0, .cells 91 [.yl 2], .cells 3 [i6 x3_1], .cells 57 [(.fn 52 [.ptr 4 0, .ptr 3 0, .ptr 5 0])]])] ++ kH k1) (k1.b (apc ((F52_11_ok Nf a1 0 a1 a2 a3 a2 a3 a1 a1 0 h3 []) : CS pg 52 [(.agg ((cT a1).map .p)), .ptr 4 0, .ptr 3 0, .ptr 5 0] (F51_9_d1 a1 a2 a3) = some ((vb true), [.cells 4 [vb false], .cells 3 [i6 x3_0], .loop 0 none [13, 14] [(.fn 51 [(.ro (cT a1))]), (.p (.lst 3 (eTrees a2))), i6 a3, (.p (.val undef)), (.ro [.lst 3 (eTrees a2)]), (.ro [.val (.int .i64 a3)]), .ptr 0 0, .ptr 1 0, (.p (.val undef)), (.p (.val undef)), (.fn 51 [(.ro (cT a1))]), vb false, (.fn 51 [(.ro (cT a1))]), (.p (.val undef)), (.p (.val undef)), (.p (.val undef)), (.p (.val undef)), (.p (.val undef)), (.p (.val undef)), (.p (.val undef)), (.p (.val undef)), (.p (.val undef)), (.p (.val undef)), (.p (.val undef)), (.p (.val undef)), (.p (.val undef)), (.p (.val undef)), (.p (.val undef)), (.p (.val undef)), (.p (.val undef)), (.p (.val undef)), (.p (.val undef)), (.p (.val undef)), (.p (.val undef)), (.p (.val undef)), (.p (.val undef)), (.p (.val undef)), (.p (.val undef)), (.p (.val undef)), (.p (.val undef)), (.p (.val undef)), (.p (.val undef))] ir25_a0 ir25_b0, .cells 91 [.yl 2], .cells 3 [i6 x3_1], .cells 57 [(.fn 52 [.ptr 4 0, .ptr 3 0, .ptr 5 0])]])) apn))
def F25_6_v (a1 : TreeD) (a2 : List TreeD) (a3 : Int) (x0 : Bool) : AV := (vb x0)
def F25_6 (Nf : Nat) (a1 : TreeD) (a2 : List TreeD) (a3 : Int) : Option Bool :=
  ((F51_9 Nf a1 a2 a3).bind fun r1 => match r1 with | .k0 => (some (0 == (a2.length : Int))) | .k1 x1_0 x1_1 x1_2 => (some x1_0) | .k2 x1_0 x1_1 => (some (x1_0 == (a2.length : Int))))
abbrev F25_6_d0 : List AB := [.cells 4 [vb false], .cells 3 [i6 0], .dead, .cells 91 [.yl 2]]
theorem F25_6_ok (Nf : Nat) (a1 : TreeD) (a2 : List TreeD) (a3 : Int) {r : Bool} (h : F25_6 Nf a1 a2 a3 = some r) : PR1 pg 25 [(.fn 51 [(.ro (cT a1))]), (.p (.lst 3 (eTrees a2))), i6 a3] (F25_6_v a1 a2 a3 r) := by
 unfold F25_6 at h
 have q0 := ((lgr tr_map) : lnA (.p (.lst 3 (eTrees a2))) = some (i6 (a2.length : Int)))
 apply bn h; intro r1 h1 h
 cases r1 with
 | k0 =>
  rw [← sj h]
  exact fq [(2000, .l .norm ⟨[(.fn 51 [(.ro (cT a1))]), (.p (.lst 3 (eTrees a2))), i6 a3, (.p (.val undef)), (.ro [.lst 3 (eTrees a2)]), (.ro [.val (.int .i64 a3)]), .ptr 0 0, .ptr 1 0, (.p (.val undef)), (.p (.val undef)), (.fn 51 [(.ro (cT a1))]), vb false, (.fn 51 [(.ro (cT a1))]), (.p (.val undef)), (.p (.val undef)), (.p (.val undef)), (.p (.val undef)), (.p (.val undef)), (.p (.val undef)), (.p (.val undef)), (.p (.val undef)), (.p (.val undef)), (.p (.val undef)), (.p (.val undef)), (.p (.val undef)), (.p (.val undef)), (.p (.val undef)), (.p (.val undef)), (.p (.val undef)), (.p (.val undef)), (.p (.val undef)), (.p (.val undef)), (.p (.val undef)), (.p (.val undef)), (.p (.val undef)), (.p (.val undef)), (.p (.val undef)), (.p (.val undef)), (.p (.val undef)), (.p (.val undef)), (.p (.val undef)), (.p (.val undef))], F25_6_d0⟩), (40, .v (i6 (a2.length : Int)))] (apc ((ev_range rfl (F51_9_ok Nf a1 a2 a3 h1) rfl) : ev pg (.rangeF (.t 12) [13, 14] ir25_a0 ir25_b0) ⟨[(.fn 51 [(.ro (cT a1))]), (.p (.lst 3 (eTrees a2))), i6 a3, (.p (.val undef)), (.ro [.lst 3 (eTrees a2)]), (.ro [.val (.int .i64 a3)]), .ptr 0 0, .ptr 1 0, (.p (.val undef)), (.p (.val undef)), (.fn 51 [(.ro (cT a1))]), vb false, (.fn 51 [(.ro (cT a1))]), (.p (.val undef)), (.p (.val undef)), (.p (.val undef)), (.p (.val undef)), (.p (.val undef)), (.p (.val undef)), (.p (.val undef)), (.p (.val undef)), (.p (.val undef)), (.p (.val undef)), (.p (.val undef)), (.p (.val undef)), (.p (.val undef)), (.p (.val undef)), (.p (.val undef)), (.p (.val undef)), (.p (.val undef)), (.p (.val undef)), (.p (.val undef)), (.p (.val undef)), (.p (.val undef)), (.p (.val undef)), (.p (.val undef)), (.p (.val undef)), (.p (.val undef)), (.p (.val undef)), (.p (.val undef)), (.p (.val undef)), (.p (.val undef))], [.cells 4 [vb false], .cells 3 [i6 0]]⟩ = some (.norm, ⟨[(.fn 51 [(.ro (cT a1))]), (.p (.lst 3 (eTrees a2))), i6 a3, (.p (.val undef)), (.ro [.lst 3 (eTrees a2)]), (.ro [.val (.int .i64 a3)]), .ptr 0 0, .ptr 1 0, (.p (.val undef)), (.p (.val undef)), (.fn 51 [(.ro (cT a1))]), vb false, (.fn 51 [(.ro (cT a1))]), (.p (.val undef)), (.p (.val undef)), (.p (.val undef)), (.p (.val undef)), (.p (.val undef)), (.p (.val undef)), (.p (.val undef)), (.p (.val undef)), (.p (.val undef)), (.p (.val undef)), (.p (.val undef)), (.p (.val undef)), (.p (.val undef)), (.p (.val undef)), (.p (.val undef)), (.p (.val undef)), (.p (.val undef)), (.p (.val undef)), (.p (.val undef)), (.p (.val undef)), (.p (.val undef)), (.p (.val undef)), (.p (.val undef)), (.p (.val undef)), (.p (.val undef)), (.p (.val undef)), (.p (.val undef)), (.p (.val undef)), (.p (.val undef))], F25_6_d0⟩)) (apc q0 apn))
 | k1 x1_0 x1_1 x1_2 =>
  rw [← sj h]
  exact fq [(2000, .l .ret ⟨[(.fn 51 [(.ro (cT a1))]), (.p (.lst 3 (eTrees a2))), i6 a3, (.p (.val undef)), (.ro [.lst 3 (eTrees a2)]), (.ro [.val (.int .i64 a3)]), .ptr 0 0, .ptr 1 0, (.p (.val undef)), (.p (.val undef)), (.fn 51 [(.ro (cT a1))]), vb false, (.fn 51 [(.ro (cT a1))]), (.p (.val undef)), (.p (.val undef)), (.p (.val undef)), (.p (.val undef)), (.p (.val undef)), (.p (.val undef)), (.p (.val undef)), (.p (.val undef)), (.p (.val undef)), (.p (.val undef)), (.p (.val undef)), (.p (.val undef)), (.p (.val undef)), (.p (.val undef)), (.p (.val undef)), (.p (.val undef)), (.p (.val undef)), (.p (.val undef)), (.p (.val undef)), (.p (.val undef)), (.p (.val undef)), (.p (.val undef)), (.p (.val undef)), (.p (.val undef)), (.p (.val undef)), (.p (.val undef)), (.p (.val undef)), (.p (.val undef)), (.p (.val undef))], [.cells 4 [vb x1_0], .cells 3 [i6 x1_1], .dead, .cells 91 [.yl 2], .cells 3 [i6 x1_2], .cells 57 [(.fn 52 [.ptr 4 0, .ptr 3 0, .ptr 5 0])]]⟩)] (apc ((ev_range rfl (F51_9_ok Nf a1 a2 a3 h1) rfl) : ev pg (.rangeF (.t 12) [13, 14] ir25_a0 ir25_b0) ⟨[(.fn 51 [(.ro (cT a1))]), (.p (.lst 3 (eTrees a2))), i6 a3, (.p (.val undef)), (.ro [.lst 3 (eTrees a2)]), (.ro [.val (.int .i64 a3)]), .ptr 0 0, .ptr 1 0, (.p (.val undef)), (.p (.val undef)), (.fn 51 [(.ro (cT a1))]), vb false, (.fn 51 [(.ro (cT a1))]), (.p (.val undef)), (.p (.val undef)), (.p (.val undef)), (.p (.val undef)), (.p (.val undef)), (.p (.val undef)), (.p (.val undef)), (.p (.val undef)), (.p (.val undef)), (.p (.val undef)), (.p (.val undef)), (.p (.val undef)), (.p (.val undef)), (.p (.val undef)), (.p (.val undef)), (.p (.val undef)), (.p (.val undef)), (.p (.val undef)), (.p (.val undef)), (.p (.val undef)), (.p (.val undef)), (.p (.val undef)), (.p (.val undef)), (.p (.val undef)), (.p (.val undef)), (.p (.val undef)), (.p (.val undef)), (.p (.val undef)), (.p (.val undef))], [.cells 4 [vb false], .cells 3 [i6 0]]⟩ = some (.ret, ⟨[(.fn 51 [(.ro (cT a1))]), (.p (.lst 3 (eTrees a2))), i6 a3, (.p (.val undef)), (.ro [.lst 3 (eTrees a2)]), (.ro [.val (.int .i64 a3)]), .ptr 0 0, .ptr 1 0, (.p (.val undef)), (.p (.val undef)), (.fn 51 [(.ro (cT a1))]), vb false, (.fn 51 [(.ro (cT a1))]), (.p (.val undef)), (.p (.val undef)), (.p (.val undef)), (.p (.val undef)), (.p (.val undef)), (.p (.val undef)), (.p (.val undef)), (.p (.val undef)), (.p (.val undef)), (.p (.val undef)), (.p (.val undef)), (.p (.val undef)), (.p (.val undef)), (.p (.val undef)), (.p (.val undef)), (.p (.val undef)), (.p (.val undef)), (.p (.val undef)), (.p (.val undef)), (.p (.val undef)), (.p (.val undef)), (.p (.val undef)), (.p (.val undef)), (.p (.val undef)), (.p (.val undef)), (.p (.val undef)), (.p (.val undef)), (.p (.val undef)), (.p (.val undef))], [.cells 4 [vb x1_0], .cells 3 [i6 x1_1], .dead, .cells 91 [.yl 2], .cells 3 [i6 x1_2], .cells 57 [(.fn 52 [.ptr 4 0, .ptr 3 0, .ptr 5 0])]]⟩)) apn)
 | k2 x1_0 x1_1 =>
  rw [← sj h]
  exact fq [(2000, .l .norm ⟨[(.fn 51 [(.ro (cT a1))]), (.p (.lst 3 (eTrees a2))), i6 a3, (.p (.val undef)), (.ro [.lst 3 (eTrees a2)]), (.ro [.val (.int .i64 a3)]), .ptr 0 0, .ptr 1 0, (.p (.val undef)), (.p (.val undef)), (.fn 51 [(.ro (cT a1))]), vb false, (.fn 51 [(.ro (cT a1))]), (.p (.val undef)), (.p (.val undef)), (.p (.val undef)), (.p (.val undef)), (.p (.val undef)), (.p (.val undef)), (.p (.val undef)), (.p (.val undef)), (.p (.val undef)), (.p (.val undef)), (.p (.val undef)), (.p (.val undef)), (.p (.val undef)), (.p (.val undef)), (.p (.val undef)), (.p (.val undef)), (.p (.val undef)), (.p (.val undef)), (.p (.val undef)), (.p (.val undef)), (.p (.val undef)), (.p (.val undef)), (.p (.val undef)), (.p (.val undef)), (.p (.val undef)), (.p (.val undef)), (.p (.val undef)), (.p (.val undef)), (.p (.val undef))], [.cells 4 [vb false], .cells 3 [i6 x1_0], .dead, .cells 91 [.yl 2], .cells 3 [i6 x1_1], .cells 57 [(.fn 52 [.ptr 4 0, .ptr 3 0, .ptr 5 0])]]⟩), (40, .v (i6 (a2.length : Int)))] (apc ((ev_range rfl (F51_9_ok Nf a1 a2 a3 h1) rfl) : ev pg (.rangeF (.t 12) [13, 14] ir25_a0 ir25_b0) ⟨[(.fn 51 [(.ro (cT a1))]), (.p (.lst 3 (eTrees a2))), i6 a3, (.p (.val undef)), (.ro [.lst 3 (eTrees a2)]), (.ro [.val (.int .i64 a3)]), .ptr 0 0, .ptr 1 0, (.p (.val undef)), (.p (.val undef)), (.fn 51 [(.ro (cT a1))]), vb false, (.fn 51 [(.ro (cT a1))]), (.p (.val undef)), (.p (.val undef)), (.p (.val undef)), (.p (.val undef)), (.p (.val undef)), (.p (.val undef)), (.p (.val undef)), (.p (.val undef)), (.p (.val undef)), (.p (.val undef)), (.p (.val undef)), (.p (.val undef)), (.p (.val undef)), (.p (.val undef)), (.p (.val undef)), (.p (.val undef)), (.p (.val undef)), (.p (.val undef)), (.p (.val undef)), (.p (.val undef)), (.p (.val undef)), (.p (.val undef)), (.p (.val undef)), (.p (.val undef)), (.p (.val undef)), (.p (.val undef)), (.p (.val undef)), (.p (.val undef)), (.p (.val undef))], [.cells 4 [vb false], .cells 3 [i6 0]]⟩ = some (.norm, ⟨[(.fn 51 [(.ro (cT a1))]), (.p (.lst 3 (eTrees a2))), i6 a3, (.p (.val undef)), (.ro [.lst 3 (eTrees a2)]), (.ro [.val (.int .i64 a3)]), .ptr 0 0, .ptr 1 0, (.p (.val undef)), (.p (.val undef)), (.fn 51 [(.ro (cT a1))]), vb false, (.fn 51 [(.ro (cT a1))]), (.p (.val undef)), (.p (.val undef)), (.p (.val undef)), (.p (.val undef)), (.p (.val undef)), (.p (.val undef)), (.p (.val undef)), (.p (.val undef)), (.p (.val undef)), (.p (.val undef)), (.p (.val undef)), (.p (.val undef)), (.p (.val undef)), (.p (.val undef)), (.p (.val undef)), (.p (.val undef)), (.p (.val undef)), (.p (.val undef)), (.p (.val undef)), (.p (.val undef)), (.p (.val undef)), (.p (.val undef)), (.p (.val undef)), (.p (.val undef)), (.p (.val undef)), (.p (.val undef)), (.p (.val undef)), (.p (.val undef)), (.p (.val undef))], [.cells 4 [vb false], .cells 3 [i6 x1_0], .dead, .cells 91 [.yl 2], .cells 3 [i6 x1_1], .cells 57 [(.fn 52 [.ptr 4 0, .ptr 3 0, .ptr 5 0])]]⟩)) (apc q0 apn))
inductive R_F51_10 where
  | k0
  | k1 (x0 : Bool) (x1 x2 : Int)
  | k2 (x0 x1 : Int)
def F51_10_v (a1 : TreeD) (a2 : List TreeD) (r : R_F51_10) : AV := match r with | .k0 => (.tup []) | .k1 x0 x1 x2 => (.tup []) | .k2 x0 x1 => (.tup [])
def F51_10_h (a1 : TreeD) (a2 : List TreeD) (r : R_F51_10) : List AB := match r with | .k0 => [.cells 4 [vb false], .cells 3 [i6 0], .loop 0 none [13, 14] [(.fn 51 [(.ro (cT a1))]), (.p (.lst 3 (eTrees a2))), i6 0, (.p (.val undef)), (.ro [.lst 3 (eTrees a2)]), (.ro [.val (.int .i64 0)]), .ptr 0 0, .ptr 1 0, (.p (.val undef)), (.p (.val undef)), (.fn 51 [(.ro (cT a1))]), vb false, (.fn 51 [(.ro (cT a1))]), (.p (.val undef)), (.p (.val undef)), (.p (.val undef)), (.p (.val undef)), (.p (.val undef)), (.p (.val undef)), (.p (.val undef)), (.p (.val undef)), (.p (.val undef)), (.p (.val undef)), (.p (.val undef)), (.p (.val undef)), (.p (.val undef)), (.p (.val undef)), (.p (.val undef)), (.p (.val undef)), (.p (.val undef)), (.p (.val undef)), (.p (.val undef)), (.p (.val undef)), (.p (.val undef)), (.p (.val undef)), (.p (.val undef)), (.p (.val undef)), (.p (.val undef)), (.p (.val undef)), (.p (.val undef)), (.p (.val undef)), (.p (.val undef))] ir25_a0 ir25_b0, .cells 91 [.yl 2]] | .k1 x0 x1 x2 => [.cells 4 [vb x0], .cells 3 [i6 x1], .loop 2 (some none) [13, 14] [(.fn 51 [(.ro (cT a1))]), (.p (.lst 3 (eTrees a2))), i6 0, (.p (.val undef)), (.ro [.lst 3 (eTrees a2)]), (.ro [.val (.int .i64 0)]), .ptr 0 0, .ptr 1 0, (.p (.val undef)), (.p (.val undef)), (.fn 51 [(.ro (cT a1))]), vb false, (.fn 51 [(.ro (cT a1))]), (.p (.val undef)), (.p (.val undef)), (.p (.val undef)), (.p (.val undef)), (.p (.val undef)), (.p (.val undef)), (.p (.val undef)), (.p (.val undef)), (.p (.val undef)), (.p (.val undef)), (.p (.val undef)), (.p (.val undef)), (.p (.val undef)), (.p (.val undef)), (.p (.val undef)), (.p (.val undef)), (.p (.val undef)), (.p (.val undef)), (.p (.val undef)), (.p (.val undef)), (.p (.val undef)), (.p (.val undef)), (.p (.val undef)), (.p (.val undef)), (.p (.val undef)), (.p (.val undef)), (.p (.val undef)), (.p (.val undef)), (.p (.val undef))] ir25_a0 ir25_b0, .cells 91 [.yl 2], .cells 3 [i6 x2], .cells 57 [(.fn 52 [.ptr 4 0, .ptr 3 0, .ptr 5 0])]] | .k2 x0 x1 => [.cells 4 [vb false], .cells 3 [i6 x0], .loop 0 none [13, 14] [(.fn 51 [(.ro (cT a1))]), (.p (.lst 3 (eTrees a2))), i6 0, (.p (.val undef)), (.ro [.lst 3 (eTrees a2)]), (.ro [.val (.int .i64 0)]), .ptr 0 0, .ptr 1 0, (.p (.val undef)), (.p (.val undef)), (.fn 51 [(.ro (cT a1))]), vb false, (.fn 51 [(.ro (cT a1))]), (.p (.val undef)), (.p (.val undef)), (.p (.val undef)), (.p (.val undef)), (.p (.val undef)), (.p (.val undef)), (.p (.val undef)), (.p (.val undef)), (.p (.val undef)), (.p (.val undef)), (.p (.val undef)), (.p (.val undef)), (.p (.val undef)), (.p (.val undef)), (.p (.val undef)), (.p (.val undef)), (.p (.val undef)), (.p (.val undef)), (.p (.val undef)), (.p (.val undef)), (.p (.val undef)), (.p (.val undef)), (.p (.val undef)), (.p (.val undef)), (.p (.val undef)), (.p (.val undef)), (.p (.val undef)), (.p (.val undef)), (.p (.val undef))] ir25_a0 ir25_b0, .cells 91 [.yl 2], .cells 3 [i6 x1], .cells 57 [(.fn 52 [.ptr 4 0, .ptr 3 0, .ptr 5 0])]]
def F51_10 (Nf : Nat) (a1 : TreeD) (a2 : List TreeD) : Option R_F51_10 :=
  ((F23 a1).bind fun x1 => (bif (x1 != 0) then (some (.k0)) else ((F52_11 Nf a1 0 a1 a2 0 a2 0 a1 a1 0).bind fun r3 => match r3 with | .k0 x3_0 x3_1 x3_2 => (some (.k1 x3_0 x3_1 x3_2)) | .k1 x3_0 x3_1 => (some (.k2 x3_0 x3_1)))))
abbrev F51_10_d1 (a1 : TreeD) (a2 : List TreeD) : List AB := [.cells 4 [vb false], .cells 3 [i6 0], .loop 0 none [13, 14] [(.fn 51 [(.ro (cT a1))]), (.p (.lst 3 (eTrees a2))), i6 0, (.p (.val undef)), (.ro [.lst 3 (eTrees a2)]), (.ro [.val (.int .i64 0)]), .ptr 0 0, .ptr 1 0, (.p (.val undef)), (.p (.val undef)), (.fn 51 [(.ro (cT a1))]), vb false, (.fn 51 [(.ro (cT a1))]), (.p (.val undef)), (.p (.val undef)), (.p (.val undef)), (.p (.val undef)), (.p (.val undef)), (.p (.val undef)), (.p (.val undef)), (.p (.val undef)), (.p (.val undef)), (.p (.val undef)), (.p (.val undef)), (.p (.val undef)), (.p (.val undef)), (.p (.val undef)), (.p (.val undef)), (.p (.val undef)), (.p (.val undef)), (.p (.val undef)), (.p (.val undef)), (.p (.val undef)), (.p (.val undef)), (.p (.val undef)), (.p (.val undef)), (.p (.val undef)), (.p (.val undef)), (.p (.val undef)), (.p (.val undef)), (.p (.val undef)), (.p (.val undef))] ir25_a0 ir25_b0, .cells 91 [.yl 2], .cells 3 [i6 0], .cells 57 [(.fn 52 [.ptr 4 0, .ptr 3 0, .ptr 5 0])]]
theorem F51_10_ok (Nf : Nat) (a1 : TreeD) (a2 : List TreeD) {r : R_F51_10} (h : F51_10 Nf a1 a2 = some r) : CS pg 51 [.yl 2, (.ro (cT a1))] [.cells 4 [vb false], .cells 3 [i6 0], .loop 0 none [13, 14] [(.fn 51 [(.ro (cT a1))]), (.p (.lst 3 (eTrees a2))), i6 0, (.p (.val undef)), (.ro [.lst 3 (eTrees a2)]), (.ro [.val (.int .i64 0)]), .ptr 0 0, .ptr 1 0, (.p (.val undef)), (.p (.val undef)), (.fn 51 [(.ro (cT a1))]), vb false, (.fn 51 [(.ro (cT a1))]), (.p (.val undef)), (.p (.val undef)), (.p (.val undef)), (.p (.val undef)), (.p (.val undef)), (.p (.val undef)), (.p (.val undef)), (.p (.val undef)), (.p (.val undef)), (.p (.val undef)), (.p (.val undef)), (.p (.val undef)), (.p (.val undef)), (.p (.val undef)), (.p (.val undef)), (.p (.val undef)), (.p (.val undef)), (.p (.val undef)), (.p (.val undef)), (.p (.val undef)), (.p (.val undef)), (.p (.val undef)), (.p (.val undef)), (.p (.val undef)), (.p (.val undef)), (.p (.val undef)), (.p (.val undef)), (.p (.val undef)), (.p (.val undef))] ir25_a0 ir25_b0] = some (F51_10_v a1 a2 r, F51_10_h a1 a2 r) := by
 unfold F51_10 at h
 apply bn h; intro x1 h1 h
 have q0 := (((F23_ok a1 h1).cp rfl _) : CP pg 23 [(.agg ((cT a1).map .p))] [.cells 4 [vb false], .cells 3 [i6 0], .loop 0 none [13, 14] [(.fn 51 [(.ro (cT a1))]), (.p (.lst 3 (eTrees a2))), i6 0, (.p (.val undef)), (.ro [.lst 3 (eTrees a2)]), (.ro [.val (.int .i64 0)]), .ptr 0 0, .ptr 1 0, (.p (.val undef)), (.p (.val undef)), (.fn 51 [(.ro (cT a1))]), vb false, (.fn 51 [(.ro (cT a1))]), (.p (.val undef)), (.p (.val undef)), (.p (.val undef)), (.p (.val undef)), (.p (.val undef)), (.p (.val undef)), (.p (.val undef)), (.p (.val undef)), (.p (.val undef)), (.p (.val undef)), (.p (.val undef)), (.p (.val undef)), (.p (.val undef)), (.p (.val undef)), (.p (.val undef)), (.p (.val undef)), (.p (.val undef)), (.p (.val undef)), (.p (.val undef)), (.p (.val undef)), (.p (.val undef)), (.p (.val undef)), (.p (.val undef)), (.p (.val undef)), (.p (.val undef)), (.p (.val undef)), (.p (.val undef)), (.p (.val undef)), (.p (.val undef))] ir25_a0 ir25_b0, .cells 91 [.yl 2]] = some (i6 x1))
 apply bi h <;> intro h2 h
 ·
  rw [← sj h]
  exact fc [(6, .v (i6 x1)), (7, .d true)] (apc q0 (av h2 apn))
 ·
  have k1 := ka [(6, .v (i6 x1)), (7, .d false)] (apc q0 (av h2 apn))
  apply bn h; intro r3 h3 h
  cases r3 with
  | k0 x3_0 x3_1 x3_2 =>
   rw [← sj h]
   exact fc ([(11, .r (vb false) [.cells 4 [vb x3_0], .cells 3 [i6 x3_1], .loop 2 (some none) [13, 14] [(.fn 51 [(.ro (cT a1))]), (.p (.lst 3 (eTrees a2))), i6 0, (.p (.val undef)), (.ro [.lst 3 (eTrees a2)]), (.ro [.val (.int .i64 0)]), .ptr 0 0, .ptr 1 0, (.p (.val undef)), (.p (.val undef)), (.fn 51 [(.ro (cT a1))]), vb false, (.fn 51 [(.ro (cT a1))]), (.p (.val undef)), (.p (.val undef)), (.p (.val undef)), (.p (.val undef)), (.p (.val undef)), (.p (.val undef)), (.p (.val undef)), (.p (.val undef)), (.p (.val undef)), (.p (.val undef)), (.p (.val undef)), (.p (.val undef)), (.p (.val undef)), (.p (.val undef)), (.p (.val undef)), (.p (.val undef)), (.p (.val undef)), (.p (.val undef)), (.p (.val undef)), (.p (.val undef)), (.p (.val undef)), (.p (.val undef)), (.p (.val undef)), (.p (.val undef)), (.p (.val undef)), (.p (.val undef)), (.p (.val undef)), (.p (.val undef)), (.p (.val undef))] ir25_a0 ir25_b0, .cells 91 [.yl 2], .cells 3 [i6 x3_2], .cells 57 [(.fn 52 [.ptr 4 0, .ptr 3 0, .ptr 5 0])]])] ++ kH k1) (k1.b (apc ((F52_11_ok Nf a1 0 a1 a2 0 a2 0 a1 a1 0 h3 []) : CS pg 52 [(.agg ((cT a1).map .p)), .ptr 4 0, .ptr 3 0, .ptr 5 0] (F51_10_d1 a1 a2) = some ((vb false), [.cells 4 [vb x3_0], .cells 3 [i6 x3_1], .loop 2 (some none) [13, 14] [(.fn 51 [(.ro (cT a1))]), (.p (.lst 3 (eTrees a2))), i6 0, (.p (.val undef)), (.ro [.lst 3 (eTrees a2)]), (.ro [.val (.int .i64 0)]), .ptr 0 0, .ptr 1 0, (.p (.val undef)), (.p (.val undef)), (.fn 51 [(.ro (cT a1))]), vb false, (.fn 51 [(.ro (cT a1))]), (.p (.val undef)), (.p (.val undef)), (.p (.val undef)), (.p (.val undef)), (.p (.val undef)), (.p (.val undef)), (.p (.val undef)), (.p (.val undef)), (.p (.val undef)), (.p (.val undef)), (.p (.val undef)), (.p (.val undef)), (.p (.val undef)), (.p (.val undef)), (.p (.val undef)), (.p (.val undef)), (.p (.val undef)), (.p (.val undef)), (.p (.val undef)), (.p (.val undef)), (.p (.val undef)), (.p (.val undef)), (.p (.val undef)), (.p (.val undef)), (.p (.val undef)), (.p (.val undef)), (.p (.val undef)), (.p (.val undef)), (.p (.val undef))] ir25_a0 ir25_b0, .cells 91 [.yl 2], .cells 3 [i6 x3_2], .cells 57 [(.fn 52 [.ptr 4 0, .ptr 3 0, .ptr 5 0])]])) apn))
  | k1 x3_0 x3_1 =>
   rw [← sj h]
   exact fc ([(11, .r (vb true) [.cells 4 [vb false], .cells 3 [i6 x3_0], .loop 0 none [13, 14] [(.fn 51 [(.ro (cT a1))]), (.p (.lst 3 (eTrees a2))), i6 0, (.p (.val undef)), (.ro [.lst 3 (eTrees a2)]), (.ro [.val (.int .i64 0)]), .ptr 0 0, .ptr 1 0, (.p (.val undef)), (.p (.val undef)), (.fn 51 [(.ro (cT a1))]), vb false, (.fn 51 [(.ro (cT a1))]), (.p (.val undef)), (.p (.val undef)), (.p (.val undef)), (.p (.val undef)), (.p (.val undef)), (.p (.val undef)), (.p (.val undef)), (.p (.val undef)), (.p (.val undef)), (.p (.val undef)), (.p (.val undef)), (.p (.val undef)), (.p (.val undef)), (.p (.val undef)), (.p (.val undef)), (.p (.val undef)), (.p (.val undef)), (.p (.val undef)), (.p (.val undef)), (.p (.val undef)), (.p (.val undef)), (.p (.val undef)), (.p (.val undef)), (.p (.val undef)), (.p (.val undef)), (.p (.val undef)), (.p (.val undef)), (.p (.val undef)), (.p (.val undef))] ir25_a0 ir25_b0, .cells 91 [.yl 2], .cells 3 [i6 x3_1], .cells 57 [(.fn 52 [.ptr 4 0, .ptr 3 0, .ptr 5 0])]])] ++ kH k1) (k1.b (apc ((F52_11_ok Nf a1 0 a1 a2 0 a2 0 a1 a1 0 h3 []) : CS pg 52 [(.agg ((cT a1).map .p)), .ptr 4 0, .ptr 3 0, .ptr 5 0] (F51_10_d1 a1 a2) = some ((vb true), [.cells 4 [vb false], .cells 3 [i6 x3_0], .loop 0 none [13, 14] [(.fn 51 [(.ro (cT a1))]), (.p (.lst 3 (eTrees a2))), i6 0, (.p (.val undef)), (.ro [.lst 3 (eTrees a2)]), (.ro [.val (.int .i64 0)]), .ptr 0 0, .ptr 1 0, (.p (.val undef)), (.p (.val undef)), (.fn 51 [(.ro (cT a1))]), vb false, (.fn 51 [(.ro (cT a1))]), (.p (.val undef)), (.p (.val undef)), (.p (.val undef)), (.p (.val undef)), (.p (.val undef)), (.p (.val undef)), (.p (.val undef)), (.p (.val undef)), (.p (.val undef)), (.p (.val undef)), (.p (.val undef)), (.p (.val undef)), (.p (.val undef)), (.p (.val undef)), (.p (.val undef)), (.p (.val undef)), (.p (.val undef)), (.p (.val undef)), (.p (.val undef)), (.p (.val undef)), (.p (.val undef)), (.p (.val undef)), (.p (.val undef)), (.p (.val undef)), (.p (.val undef)), (.p (.val undef)), (.p (.val undef)), (.p (.val undef)), (.p (.val undef))] ir25_a0 ir25_b0, .cells 91 [.yl 2], .cells 3 [i6 x3_1], .cells 57 [(.fn 52 [.ptr 4 0, .ptr 3 0, .ptr 5 0])]])) apn))
def F25_7_v (a1 : TreeD) (a2 : List TreeD) (x0 : Bool) : AV := (vb x0)
def F25_7 (Nf : Nat) (a1 : TreeD) (a2 : List TreeD) : Option Bool :=
  ((F51_10 Nf a1 a2).bind fun r1 => match r1 with | .k0 => (some (0 == (a2.length : Int))) | .k1 x1_0 x1_1 x1_2 => (some x1_0) | .k2 x1_0 x1_1 => (some (x1_0 == (a2.length : Int))))
abbrev F25_7_d0 : List AB := [.cells 4 [vb false], .cells 3 [i6 0], .dead, .cells 91 [.yl 2]]
theorem F25_7_ok (Nf : Nat) (a1 : TreeD) (a2 : List TreeD) {r : Bool} (h : F25_7 Nf a1 a2 = some r) : PR1 pg 25 [(.fn 51 [(.ro (cT a1))]), (.p (.lst 3 (eTrees a2))), i6 0] (F25_7_v a1 a2 r) := by
 unfold F25_7 at h
 have q0 := ((lgr tr_map) : lnA (.p (.lst 3 (eTrees a2))) = some (i6 (a2.length : Int)))
 apply bn h; intro r1 h1 h
 cases r1 with
 | k0 =>
  rw [← sj h]
  exact fq [(2000, .l .norm ⟨[(.fn 51 [(.ro (cT a1))]), (.p (.lst 3 (eTrees a2))), i6 0, (.p (.val undef)), (.ro [.lst 3 (eTrees a2)]), (.ro [.val (.int .i64 0)]), .ptr 0 0, .ptr 1 0, (.p (.val undef)), (.p (.val undef)), (.fn 51 [(.ro (cT a1))]), vb false, (.fn 51 [(.ro (cT a1))]), (.p (.val undef)), (.p (.val undef)), (.p (.val undef)), (.p (.val undef)), (.p (.val undef)), (.p (.val undef)), (.p (.val undef)), (.p (.val undef)), (.p (.val undef)), (.p (.val undef)), (.p (.val undef)), (.p (.val undef)), (.p (.val undef)), (.p (.val undef)), (.p (.val undef)), (.p (.val undef)), (.p (.val undef)), (.p (.val undef)), (.p (.val undef)), (.p (.val undef)), (.p (.val undef)), (.p (.val undef)), (.p (.val undef)), (.p (.val undef)), (.p (.val undef)), (.p (.val undef)), (.p (.val undef)), (.p (.val undef)), (.p (.val undef))], F25_7_d0⟩), (40, .v (i6 (a2.length : Int)))] (apc ((ev_range rfl (F51_10_ok Nf a1 a2 h1) rfl) : ev pg (.rangeF (.t 12) [13, 14] ir25_a0 ir25_b0) ⟨[(.fn 51 [(.ro (cT a1))]), (.p (.lst 3 (eTrees a2))), i6 0, (.p (.val undef)), (.ro [.lst 3 (eTrees a2)]), (.ro [.val (.int .i64 0)]), .ptr 0 0, .ptr 1 0, (.p (.val undef)), (.p (.val undef)), (.fn 51 [(.ro (cT a1))]), vb false, (.fn 51 [(.ro (cT a1))]), (.p (.val undef)), (.p (.val undef)), (.p (.val undef)), (.p (.val undef)), (.p (.val undef)), (.p (.val undef)), (.p (.val undef)), (.p (.val undef)), (.p (.val undef)), (.p (.val undef)), (.p (.val undef)), (.p (.val undef)), (.p (.val undef)), (.p (.val undef)), (.p (.val undef)), (.p (.val undef)), (.p (.val undef)), (.p (.val undef)), (.p (.val undef)), (.p (.val undef)), (.p (.val undef)), (.p (.val undef)), (.p (.val undef)), (.p (.val undef)), (.p (.val undef)), (.p (.val undef)), (.p (.val undef)), (.p (.val undef)), (.p (.val undef))], [.cells 4 [vb false], .cells 3 [i6 0]]⟩ = some (.norm, ⟨[(.fn 51 [(.ro (cT a1))]), (.p (.lst 3 (eTrees a2))), i6 0, (.p (.val undef)), (.ro [.lst 3 (eTrees a2)]), (.ro [.val (.int .i64 0)]), .ptr 0 0, .ptr 1 0, (.p (.val undef)), (.p (.val undef)), (.fn 51 [(.ro (cT a1))]), vb false, (.fn 51 [(.ro (cT a1))]), (.p (.val undef)), (.p (.val undef)), (.p (.val undef)), (.p (.val undef)), (.p (.val undef)), (.p (.val undef)), (.p (.val undef)), (.p (.val undef)), (.p (.val undef)), (.p (.val undef)), (.p (.val undef)), (.p (.val undef)), (.p (.val undef)), (.p (.val undef)), (.p (.val undef)), (.p (.val undef)), (.p (.val undef)), (.p (.val undef)), (.p (.val undef)), (.p (.val undef)), (.p (.val undef)), (.p (.val undef)), (.p (.val undef)), (.p (.val undef)), (.p (.val undef)), (.p (.val undef)), (.p (.val undef)), (.p (.val undef)), (.p (.val undef))], F25_7_d0⟩)) (apc q0 apn))
 | k1 x1_0 x1_1 x1_2 =>
  rw [← sj h]
  exact fq [(2000, .l .ret ⟨[(.fn 51 [(.ro (cT a1))]), (.p (.lst 3 (eTrees a2))), i6 0, (.p (.val undef)), (.ro [.lst 3 (eTrees a2)]), (.ro [.val (.int .i64 0)]), .ptr 0 0, .ptr 1 0, (.p (.val undef)), (.p (.val undef)), (.fn 51 [(.ro (cT a1))]), vb false, (.fn 51 [(.ro (cT a1))]), (.p (.val undef)), (.p (.val undef)), (.p (.val undef)), (.p (.val undef)), (.p (.val undef)), (.p (.val undef)), (.p (.val undef)), (.p (.val undef)), (.p (.val undef)), (.p (.val undef)), (.p (.val undef)), (.p (.val undef)), (.p (.val undef)), (.p (.val undef)), (.p (.val undef)), (.p (.val undef)), (.p (.val undef)), (.p (.val undef)), (.p (.val undef)), (.p (.val undef)), (.p (.val undef)), (.p (.val undef)), (.p (.val undef)), (.p (.val undef)), (.p (.val undef)), (.p (.val undef)), (.p (.val undef)), (.p (.val undef)), (.p (.val undef))], [.cells 4 [vb x1_0], .cells 3 [i6 x1_1], .dead, .cells 91 [.yl 2], .cells 3 [i6 x1_2], .cells 57 [(.fn 52 [.ptr 4 0, .ptr 3 0, .ptr 5 0])]]⟩)] (apc ((ev_range rfl (F51_10_ok Nf a1 a2 h1) rfl) : ev pg (.rangeF (.t 12) [13, 14] ir25_a0 ir25_b0) ⟨[(.fn 51 [(.ro (cT a1))]), (.p (.lst 3 (eTrees a2))), i6 0, (.p (.val undef)), (.ro [.lst 3 (eTrees a2)]), (.ro [.val (.int .i64 0)]), .ptr 0 0, .ptr 1 0, (.p (.val undef)), (.p (.val undef)), (.fn 51 [(.ro (cT a1))]), vb false, (.fn 51 [(.ro (cT a1))]), (.p (.val undef)), (.p (.val undef)), (.p (.val undef)), (.p (.val undef)), (.p (.val undef)), (.p (.val undef)), (.p (.val undef)), (.p (.val undef)), (.p (.val undef)), (.p (.val undef)), (.p (.val undef)), (.p (.val undef)), (.p (.val undef)), (.p (.val undef)), (.p (.val undef)), (.p (.val undef)), (.p (.val undef)), (.p (.val undef)), (.p (.val undef)), (.p (.val undef)), (.p (.val undef)), (.p (.val undef)), (.p (.val undef)), (.p (.val undef)), (.p (.val undef)), (.p (.val undef)), (.p (.val undef)), (.p (.val undef)), (.p (.val undef))], [.cells 4 [vb false], .cells 3 [i6 0]]⟩ = some (.ret, ⟨[(.fn 51 [(.ro (cT a1))]), (.p (.lst 3 (eTrees a2))), i6 0, (.p (.val undef)), (.ro [.lst 3 (eTrees a2)]), (.ro [.val (.int .i64 0)]), .ptr 0 0, .ptr 1 0, (.p (.val undef)), (.p (.val undef)), (.fn 51 [(.ro (cT a1))]), vb false, (.fn 51 [(.ro (cT a1))]), (.p (.val undef)), (.p (.val undef)), (.p (.val undef)), (.p (.val undef)), (.p (.val undef)), (.p (.val undef)), (.p (.val undef)), (.p (.val undef)), (.p (.val undef)), (.p (.val undef)), (.p (.val undef)), (.p (.val undef)), (.p (.val undef)), (.p (.val undef)), (.p (.val undef)), (.p (.val undef)), (.p (.val undef)), (.p (.val undef)), (.p (.val undef)), (.p (.val undef)), (.p (.val undef)), (.p (.val undef)), (.p (.val undef)), (.p (.val undef)), (.p (.val undef)), (.p (.val undef)), (.p (.val undef)), (.p (.val undef)), (.p (.val undef))], [.cells 4 [vb x1_0], .cells 3 [i6 x1_1], .dead, .cells 91 [.yl 2], .cells 3 [i6 x1_2], .cells 57 [(.fn 52 [.ptr 4 0, .ptr 3 0, .ptr 5 0])]]⟩)) apn)
 | k2 x1_0 x1_1 =>
  rw [← sj h]
  exact fq [(2000, .l .norm ⟨[(.fn 51 [(.ro (cT a1))]), (.p (.lst 3 (eTrees a2))), i6 0, (.p (.val undef)), (.ro [.lst 3 (eTrees a2)]), (.ro [.val (.int .i64 0)]), .ptr 0 0, .ptr 1 0, (.p (.val undef)), (.p (.val undef)), (.fn 51 [(.ro (cT a1))]), vb false, (.fn 51 [(.ro (cT a1))]), (.p (.val undef)), (.p (.val undef)), (.p (.val undef)), (.p (.val undef)), (.p (.val undef)), (.p (.val undef)), (.p (.val undef)), (.p (.val undef)), (.p (.val undef)), (.p (.val undef)), (.p (.val undef)), (.p (.val undef)), (.p (.val undef)), (.p (.val undef)), (.p (.val undef)), (.p (.val undef)), (.p (.val undef)), (.p (.val undef)), (.p (.val undef)), (.p (.val undef)), (.p (.val undef)), (.p (.val undef)), (.p (.val undef)), (.p (.val undef)), (.p (.val undef)), (.p (.val undef)), (.p (.val undef)), (.p (.val undef)), (.p (.val undef))], [.cells 4 [vb false], .cells 3 [i6 x1_0], .dead, .cells 91 [.yl 2], .cells 3 [i6 x1_1], .cells 57 [(.fn 52 [.ptr 4 0, .ptr 3 0, .ptr 5 0])]]⟩), (40, .v (i6 (a2.length : Int)))] (apc ((ev_range rfl (F51_10_ok Nf a1 a2 h1) rfl) : ev pg (.rangeF (.t 12) [13, 14] ir25_a0 ir25_b0) ⟨[(.fn 51 [(.ro (cT a1))]), (.p (.lst 3 (eTrees a2))), i6 0, (.p (.val undef)), (.ro [.lst 3 (eTrees a2)]), (.ro [.val (.int .i64 0)]), .ptr 0 0, .ptr 1 0, (.p (.val undef)), (.p (.val undef)), (.fn 51 [(.ro (cT a1))]), vb false, (.fn 51 [(.ro (cT a1))]), (.p (.val undef)), (.p (.val undef)), (.p (.val undef)), (.p (.val undef)), (.p (.val undef)), (.p (.val undef)), (.p (.val undef)), (.p (.val undef)), (.p (.val undef)), (.p (.val undef)), (.p (.val undef)), (.p (.val undef)), (.p (.val undef)), (.p (.val undef)), (.p (.val undef)), (.p (.val undef)), (.p (.val undef)), (.p (.val undef)), (.p (.val undef)), (.p (.val undef)), (.p (.val undef)), (.p (.val undef)), (.p (.val undef)), (.p (.val undef)), (.p (.val undef)), (.p (.val undef)), (.p (.val undef)), (.p (.val undef)), (.p (.val undef))], [.cells 4 [vb false], .cells 3 [i6 0]]⟩ = some (.norm, ⟨[(.fn 51 [(.ro (cT a1))]), (.p (.lst 3 (eTrees a2))), i6 0, (.p (.val undef)), (.ro [.lst 3 (eTrees a2)]), (.ro [.val (.int .i64 0)]), .ptr 0 0, .ptr 1 0, (.p (.val undef)), (.p (.val undef)), (.fn 51 [(.ro (cT a1))]), vb false, (.fn 51 [(.ro (cT a1))]), (.p (.val undef)), (.p (.val undef)), (.p (.val undef)), (.p (.val undef)), (.p (.val undef)), (.p (.val undef)), (.p (.val undef)), (.p (.val undef)), (.p (.val undef)), (.p (.val undef)), (.p (.val undef)), (.p (.val undef)), (.p (.val undef)), (.p (.val undef)), (.p (.val undef)), (.p (.val undef)), (.p (.val undef)), (.p (.val undef)), (.p (.val undef)), (.p (.val undef)), (.p (.val undef)), (.p (.val undef)), (.p (.val undef)), (.p (.val undef)), (.p (.val undef)), (.p (.val undef)), (.p (.val undef)), (.p (.val undef)), (.p (.val undef))], [.cells 4 [vb false], .cells 3 [i6 x1_0], .dead, .cells 91 [.yl 2], .cells 3 [i6 x1_1], .cells 57 [(.fn 52 [.ptr 4 0, .ptr 3 0, .ptr 5 0])]]⟩)) (apc q0 apn))
def F4_v (a1 a2 : TreeD) (a3 : Int) (x0 : Bool) : AV := (vb x0)
def F4 (Nf : Nat) (a1 a2 : TreeD) (a3 : Int) : Option Bool :=
  ((F16 Nf ([TreeD.mk a1.prod a1.byte a1.kids, TreeD.mk a2.prod a2.byte a2.kids])).bind fun x1 => (bif x1 then ((F17 Nf a1).bind fun r3 => match r3 with | .k0 x3_0 x3_1 x3_2 => ((F18 Nf a1).bind fun x4 => ((F19 Nf (TreeD.mk x3_0 x3_1 x3_2)).bind fun r5 => match r5 with | .k0 x5_0 x5_1 x5_2 => ((F20 Nf (TreeD.mk x3_0 x3_1 x3_2)).bind fun r6 => match r6 with | .k0 x6_0 x6_1 => ((F21 (TreeD.mk x3_0 x3_1 x3_2)).bind fun r7 => match r7 with | .k0 x7_0 x7_1 x7_2 => ((F22 Nf (TreeD.mk x3_0 x3_1 x3_2) a1).bind fun x8 => (bif x8 then ((F23 (TreeD.mk x3_0 x3_1 x3_2)).bind fun x10 => ((F15 x10).bind fun x11 => (bif (x11 != x4) then (some false) else ((F15 x6_1).bind fun x13 => (bif (x13 != x4) then (some false) else ((F24 Nf (TreeD.mk x3_0 x3_1 x3_2) a2).bind fun x15 => ((F14 Nf a1 a2).bind fun x16 => (bif (!((x15 == x16) && true)) then (some false) else ((F24 Nf a2 (TreeD.mk x3_0 x3_1 x3_2)).bind fun x18 => ((F14 Nf a1 a2).bind fun x19 => (bif (!((x18 == x19) && true)) then (some false) else ((F24_2 Nf (TreeD.mk x3_0 x3_1 x3_2)).bind fun x21 => (bif x21 then (bif (x4 != 0) then (bif (x5_0 == 0) then (bif (x5_1 == 0) then (bif (x5_2 == 0) then (bif (x6_0.toList == (⟨([] : List UInt8).toArray⟩ : ByteArray).toList) then ((F25_5 (TreeD.mk x7_0 x7_1 x7_2)).bind fun x28 => (bif x28 then ((F11).bind fun x30 => (some x30)) else (some false))) else (some false)) else (some false)) else (some false)) else (some false)) else ((F26 Nf a1).bind fun r24 => match r24 with | .k0 x24_0 x24_1 x24_2 => (bif (x5_0 == x24_0) then (bif (x5_1 == x24_1) then (bif (x5_2 == x24_2) then ((F27 Nf a1).bind fun x28 => (bif (x6_0.toList == x28.toList) then ((F28_2 Nf a1 300).bind fun x30 => (bif (decide (x30 > 300)) then ((F11).bind fun x32 => (some x32)) else ((F29 Nf a1).bind fun x32 => ((F25_6 Nf (TreeD.mk x7_0 x7_1 x7_2) x32 a3).bind fun x33 => (bif x33 then ((F29 Nf a1).bind fun x35 => ((F25_7 Nf (TreeD.mk x7_0 x7_1 x7_2) x35).bind fun x36 => (bif x36 then ((F11).bind fun x38 => (some x38)) else (some false)))) else (some false)))))) else (some false))) else (some false)) else (some false)) else (some false)))) else (some false)))))))))))))) else (some false)))))))) else ((F11).bind fun x3 => (some x3))))
abbrev F4_d0 (a1 a2 : TreeD) : List AB := [.cells 25 ((cT a1).map .p), .cells 25 ((cT a2).map .p), .row 25 3 0 [[i6 a1.prod, vi .u8 a1.byte, (.p (.lst 3 (eTrees a1.kids)))], [i6 a2.prod, vi .u8 a2.byte, (.p (.lst 3 (eTrees a2.kids)))]]]
abbrev F4_d1 (a1 a2 : TreeD) (x3_0 x3_1 : Int) (x3_2 : List TreeX) : List AB := [.cells 25 ((cT a1).map .p), .cells 25 ((cT a2).map .p), .row 25 3 0 [[i6 a1.prod, vi .u8 a1.byte, (.p (.lst 3 (eTrees a1.kids)))], [i6 a2.prod, vi .u8 a2.byte, (.p (.lst 3 (eTrees a2.kids)))]], .cells 25 [i6 x3_0, vi .u8 x3_1, (.p (.lsx 3 (eTreesX x3_2) [moreT]))]]
theorem F4_ok (Nf : Nat) (a1 a2 : TreeD) (a3 : Int) {r : Bool} (h : F4 Nf a1 a2 a3 = some r) : PR1 pg 4 [(.agg ((cT a1).map .p)), (.agg ((cT a2).map .p)), i6 a3] (F4_v a1 a2 a3 r) := by
 unfold F4 at h
 apply bn h; intro x1 h1 h
 apply bi h <;> intro h2 h
 ·
  have q0 := ((((F16_ok Nf ([TreeD.mk a1.prod a1.byte a1.kids, TreeD.mk a2.prod a2.byte a2.kids]) h1).own rfl (purAs_cons (purA_slr (e := cT) tr_map (xs := [TreeD.mk a1.prod a1.byte a1.kids, TreeD.mk a2.prod a2.byte a2.kids]) rfl rfl) purAs_nil) rfl).trans (congrArg (fun z => some (vb z)) h2)) : CP pg 16 [.sl 2 0 3 0 2] (F4_d0 a1 a2) = some (vb true))
  apply bn h; intro r3 h3 h
  cases r3 with
  | k0 x3_0 x3_1 x3_2 =>
   have q1 := (((F17_ok Nf a1 h3).cp rfl _) : CP pg 17 [(.agg ((cT a1).map .p))] (F4_d0 a1 a2) = some (.agg [i6 x3_0, vi .u8 x3_1, (.p (.lsx 3 (eTreesX x3_2) [moreT]))]))
   have q2 := ((congrArg (fun z => some (AV.agg [vi .i64 x3_0, vi .u8 x3_1, .p (.lst 3 z)])) (fgX x3_2)) : ldF (F4_d1 a1 a2 x3_0 x3_1 x3_2) .true .true 3 (.ptr 3 0) = some (.agg [i6 x3_0, vi .u8 x3_1, (.p (.lst 3 (eTrees x3_2)))]))
   have k3 := ka [(21, .v (vb true)), (25, .v (.agg [i6 x3_0, vi .u8 x3_1, (.p (.lsx 3 (eTreesX x3_2) [moreT]))]))] (apc q0 (apc q1 apn))
   apply bn h; intro x4 h4 h
   have q4 := (((F18_ok Nf a1 h4).cp rfl _) : CP pg 18 [(.agg ((cT a1).map .p))] (F4_d1 a1 a2 x3_0 x3_1 x3_2) = some (i6 x4))
   have k5 := k3.a [(27, .v (i6 x4)), (29, .v (.agg [i6 x3_0, vi .u8 x3_1, (.p (.lst 3 (eTrees x3_2)))]))] (apc q4 (apc q2 apn))
   apply bn h; intro r5 h5 h
   cases r5 with
   | k0 x5_0 x5_1 x5_2 =>
    have q6 := (((F19_ok Nf (TreeD.mk x3_0 x3_1 x3_2) h5).cp rfl _) : CP pg 19 [(.agg [i6 x3_0, vi .u8 x3_1, (.p (.lst 3 (eTrees x3_2)))])] (F4_d1 a1 a2 x3_0 x3_1 x3_2) = some (.tup [i6 x5_0, i6 x5_1, i6 x5_2]))
    have k7 := k5.a [(30, .v (.tup [i6 x5_0, i6 x5_1, i6 x5_2])), (35, .v (.agg [i6 x3_0, vi .u8 x3_1, (.p (.lst 3 (eTrees x3_2)))]))] (apc q6 (apc q2 apn))
    apply bn h; intro r6 h6 h
    cases r6 with
    | k0 x6_0 x6_1 =>
     have q8 := (((F20_ok Nf (TreeD.mk x3_0 x3_1 x3_2) h6).cp rfl _) : CP pg 20 [(.agg [i6 x3_0, vi .u8 x3_1, (.p (.lst 3 (eTrees x3_2)))])] (F4_d1 a1 a2 x3_0 x3_1 x3_2) = some (.tup [vs x6_0, i6 x6_1]))
     have k9 := k7.a [(36, .v (.tup [vs x6_0, i6 x6_1])), (39, .v (.agg [i6 x3_0, vi .u8 x3_1, (.p (.lst 3 (eTrees x3_2)))]))] (apc q8 (apc q2 apn))
     apply bn h; intro r7 h7 h
     cases r7 with
     | k0 x7_0 x7_1 x7_2 =>
      have q10 := (((F21_ok (TreeD.mk x3_0 x3_1 x3_2) h7).cp rfl _) : CP pg 21 [(.agg [i6 x3_0, vi .u8 x3_1, (.p (.lst 3 (eTrees x3_2)))])] (F4_d1 a1 a2 x3_0 x3_1 x3_2) = some (.fn 51 [(.ro [.val (.int .i64 x7_0), .val (.int .u8 x7_1), .lst 3 (eTrees x7_2)])]))
      have k11 := k9.a [(40, .v (.fn 51 [(.ro [.val (.int .i64 x7_0), .val (.int .u8 x7_1), .lst 3 (eTrees x7_2)])]))] (apc q10 apn)
      apply bn h; intro x8 h8 h
      apply bi h <;> intro h9 h
      ·
       have q12 := ((((F22_ok Nf (TreeD.mk x3_0 x3_1 x3_2) a1 h8).cp rfl _).trans (congrArg (fun z => some (vb z)) h9)) : CP pg 22 [(.agg [i6 x3_0, vi .u8 x3_1, (.p (.lsx 3 (eTreesX x3_2) [moreT]))]), (.agg ((cT a1).map .p))] (F4_d1 a1 a2 x3_0 x3_1 x3_2) = some (vb true))
       have k13 := k11.a [(43, .v (vb true)), (46, .v (.agg [i6 x3_0, vi .u8 x3_1, (.p (.lst 3 (eTrees x3_2)))]))] (apc q12 (apc q2 apn))
       apply bn h; intro x10 h10 h
       have q14 := (((F23_ok (TreeD.mk x3_0 x3_1 x3_2) h10).cp rfl _) : CP pg 23 [(.agg [i6 x3_0, vi .u8 x3_1, (.p (.lst 3 (eTrees x3_2)))])] (F4_d1 a1 a2 x3_0 x3_1 x3_2) = some (i6 x10))
       apply bn h; intro x11 h11 h
       have q15 := (((F15_ok x10 h11).cp rfl _) : CP pg 15 [i6 x10] (F4_d1 a1 a2 x3_0 x3_1 x3_2) = some (i6 x11))
       have k16 := k13.a [(47, .v (i6 x10)), (48, .v (i6 x11))] (apc q14 (apc q15 apn))
       apply bi h <;> intro h12 h
       ·
        rw [← sj h]
        exact fq ([(50, .d true)] ++ kH k16) (k16.b (av h12 apn))
       ·
        apply bn h; intro x13 h13 h
        have q17 := (((F15_ok x6_1 h13).cp rfl _) : CP pg 15 [i6 x6_1] (F4_d1 a1 a2 x3_0 x3_1 x3_2) = some (i6 x13))
        have k18 := k16.a [(50, .d false), (54, .v (i6 x13))] (av h12 (apc q17 apn))
        apply bi h <;> intro h14 h
        ·
         rw [← sj h]
         exact fq ([(56, .d true)] ++ kH k18) (k18.b (av h14 apn))
        ·
         have k19 := k18.a [(56, .d false), (59, .v (.agg [i6 x3_0, vi .u8 x3_1, (.p (.lst 3 (eTrees x3_2)))]))] (av h14 (apc q2 apn))
         apply bn h; intro x15 h15 h
         have q20 := (((F24_ok Nf (TreeD.mk x3_0 x3_1 x3_2) a2 h15).cp rfl _) : CP pg 24 [(.agg [i6 x3_0, vi .u8 x3_1, (.p (.lst 3 (eTrees x3_2)))]), (.agg ((cT a2).map .p))] (F4_d1 a1 a2 x3_0 x3_1 x3_2) = some (vb x15))
         apply bn h; intro x16 h16 h
         have q21 := (((F14_ok Nf a1 a2 h16).cp rfl _) : CP pg 14 [(.agg ((cT a1).map .p)), (.agg ((cT a2).map .p))] (F4_d1 a1 a2 x3_0 x3_1 x3_2) = some (vb x16))
         have k22 := k19.a [(61, .v (vb x15)), (64, .v (vb x16))] (apc q20 (apc q21 apn))
         apply bi h <;> intro h17 h
         ·
          rw [← sj h]
          exact fq ([(65, .d true)] ++ kH k22) (k22.b (av h17 apn))
         ·
          have k23 := k22.a [(65, .d false), (69, .v (.agg [i6 x3_0, vi .u8 x3_1, (.p (.lst 3 (eTrees x3_2)))]))] (av h17 (apc q2 apn))
          apply bn h; intro x18 h18 h
          have q24 := (((F24_ok Nf a2 (TreeD.mk x3_0 x3_1 x3_2) h18).cp rfl _) : CP pg 24 [(.agg ((cT a2).map .p)), (.agg [i6 x3_0, vi .u8 x3_1, (.p (.lst 3 (eTrees x3_2)))])] (F4_d1 a1 a2 x3_0 x3_1 x3_2) = some (vb x18))
          apply bn h; intro x19 h19 h
          have q25 := (((F14_ok Nf a1 a2 h19).cp rfl _) : CP pg 14 [(.agg ((cT a1).map .p)), (.agg ((cT a2).map .p))] (F4_d1 a1 a2 x3_0 x3_1 x3_2) = some (vb x19))
          have k26 := k23.a [(70, .v (vb x18)), (73, .v (vb x19))] (apc q24 (apc q25 apn))
          apply bi h <;> intro h20 h
          ·
           rw [← sj h]
           exact fq ([(74, .d true)] ++ kH k26) (k26.b (av h20 apn))
          ·
           have k27 := k26.a [(74, .d false), (77, .v (.agg [i6 x3_0, vi .u8 x3_1, (.p (.lst 3 (eTrees x3_2)))])), (78, .v (.agg [i6 x3_0, vi .u8 x3_1, (.p (.lst 3 (eTrees x3_2)))]))] (av h20 (apc q2 (apc q2 apn)))
           apply bn h; intro x21 h21 h
           apply bi h <;> intro h22 h
           ·
            have q28 := ((((F24_2_ok Nf (TreeD.mk x3_0 x3_1 x3_2) h21).cp rfl _).trans (congrArg (fun z => some (vb z)) h22)) : CP pg 24 [(.agg [i6 x3_0, vi .u8 x3_1, (.p (.lst 3 (eTrees x3_2)))]), (.agg [i6 x3_0, vi .u8 x3_1, (.p (.lst 3 (eTrees x3_2)))])] (F4_d1 a1 a2 x3_0 x3_1 x3_2) = some (vb true))
            apply bi h <;> intro h23 h
            ·
             have k29 := k27.a [(79, .v (vb true)), (83, .d true)] (apc q28 (av h23 apn))
             apply bi h <;> intro h24 h
             ·
              apply bi h <;> intro h25 h
              ·
               have k30 := k29.a [(85, .d true), (88, .d true)] (av h24 (av h25 apn))
               apply bi h <;> intro h26 h
               ·
                apply bi h <;> intro h27 h
                ·
                 have k31 := k30.a [(92, .d true), (96, .d true)] (av h26 (av h27 apn))
                 apply bn h; intro x28 h28 h
                 apply bi h <;> intro h29 h
                 ·
                  apply bn h; intro x30 h30 h
                  rw [← sj h]
                  exact fq ([(100, .v (vb true)), (103, .v (vb x30))] ++ kH k31) (k31.b (apc ((((F25_5_ok (TreeD.mk x7_0 x7_1 x7_2) h28).cp rfl _).trans (congrArg (fun z => some (vb z)) h29)) : CP pg 25 [(.fn 51 [(.ro [.val (.int .i64 x7_0), .val (.int .u8 x7_1), .lst 3 (eTrees x7_2)])]), n0, i6 0] (F4_d1 a1 a2 x3_0 x3_1 x3_2) = some (vb true)) (apc (((F11_ok  h30).cp rfl _) : CP pg 11 [] (F4_d1 a1 a2 x3_0 x3_1 x3_2) = some (vb x30)) apn)))
                 ·
                  rw [← sj h]
                  exact fq ([(100, .v (vb false))] ++ kH k31) (k31.b (apc ((((F25_5_ok (TreeD.mk x7_0 x7_1 x7_2) h28).cp rfl _).trans (congrArg (fun z => some (vb z)) h29)) : CP pg 25 [(.fn 51 [(.ro [.val (.int .i64 x7_0), .val (.int .u8 x7_1), .lst 3 (eTrees x7_2)])]), n0, i6 0] (F4_d1 a1 a2 x3_0 x3_1 x3_2) = some (vb false)) apn))
                ·
                 rw [← sj h]
                 exact fq ([(92, .d true), (96, .d false)] ++ kH k30) (k30.b (av h26 (av h27 apn)))
               ·
                rw [← sj h]
                exact fq ([(92, .d false)] ++ kH k30) (k30.b (av h26 apn))
              ·
               rw [← sj h]
               exact fq ([(85, .d true), (88, .d false)] ++ kH k29) (k29.b (av h24 (av h25 apn)))
             ·
              rw [← sj h]
              exact fq ([(85, .d false)] ++ kH k29) (k29.b (av h24 apn))
            ·
             have k32 := k27.a [(79, .v (vb true)), (83, .d false)] (apc q28 (av h23 apn))
             apply bn h; intro r24 h24 h
             cases r24 with
             | k0 x24_0 x24_1 x24_2 =>
              have q33 := (((F26_ok Nf a1 h24).cp rfl _) : CP pg 26 [(.agg ((cT a1).map .p))] (F4_d1 a1 a2 x3_0 x3_1 x3_2) = some (.tup [i6 x24_0, i6 x24_1, i6 x24_2]))
              have k34 := k32.a [(107, .v (.tup [i6 x24_0, i6 x24_1, i6 x24_2]))] (apc q33 apn)
              apply bi h <;> intro h25 h
              ·
               apply bi h <;> intro h26 h
               ·
                have k35 := k34.a [(113, .d true), (117, .d true)] (av h25 (av h26 apn))
                apply bi h <;> intro h27 h
                ·
                 apply bn h; intro x28 h28 h
                 have q36 := (((F27_ok Nf a1 h28).cp rfl _) : CP pg 27 [(.agg ((cT a1).map .p))] (F4_d1 a1 a2 x3_0 x3_1 x3_2) = some (vs x28))
                 have k37 := k35.a [(122, .d true), (127, .v (vs x28))] (av h27 (apc q36 apn))
                 apply bi h <;> intro h29 h
                 ·
                  apply bn h; intro x30 h30 h
                  have q38 := (((F28_2_ok Nf a1 300 h30).cp rfl _) : CP pg 28 [(.agg ((cT a1).map .p)), i6 300] (F4_d1 a1 a2 x3_0 x3_1 x3_2) = some (i6 x30))
                  have k39 := k37.a [(128, .d true), (132, .v (i6 x30))] (av h29 (apc q38 apn))
                  apply bi h <;> intro h31 h
                  ·
                   apply bn h; intro x32 h32 h
                   rw [← sj h]
                   exact fq ([(133, .d true), (149, .v (vb x32))] ++ kH k39) (k39.b (av h31 (apc (((F11_ok  h32).cp rfl _) : CP pg 11 [] (F4_d1 a1 a2 x3_0 x3_1 x3_2) = some (vb x32)) apn)))
                  ·
                   apply bn h; intro x32 h32 h
                   have q40 := (((F29_ok Nf a1 h32).cp rfl _) : CP pg 29 [(.agg ((cT a1).map .p)), n0] (F4_d1 a1 a2 x3_0 x3_1 x3_2) = some (.p (.lst 3 (eTrees x32))))
                   have k41 := k39.a [(133, .d false), (137, .v (.p (.lst 3 (eTrees x32))))] (av h31 (apc q40 apn))
                   apply bn h; intro x33 h33 h
                   apply bi h <;> intro h34 h
                   ·
                    have q42 := ((((F25_6_ok Nf (TreeD.mk x7_0 x7_1 x7_2) x32 a3 h33).cp rfl _).trans (congrArg (fun z => some (vb z)) h34)) : CP pg 25 [(.fn 51 [(.ro [.val (.int .i64 x7_0), .val (.int .u8 x7_1), .lst 3 (eTrees x7_2)])]), (.p (.lst 3 (eTrees x32))), i6 a3] (F4_d1 a1 a2 x3_0 x3_1 x3_2) = some (vb true))
                    apply bn h; intro x35 h35 h
                    have q43 := (((F29_ok Nf a1 h35).cp rfl _) : CP pg 29 [(.agg ((cT a1).map .p)), n0] (F4_d1 a1 a2 x3_0 x3_1 x3_2) = some (.p (.lst 3 (eTrees x35))))
                    have k44 := k41.a [(139, .v (vb true)), (143, .v (.p (.lst 3 (eTrees x35))))] (apc q42 (apc q43 apn))
                    apply bn h; intro x36 h36 h
                    apply bi h <;> intro h37 h
                    ·
                     apply bn h; intro x38 h38 h
                     rw [← sj h]
                     exact fq ([(144, .v (vb true)), (149, .v (vb x38))] ++ kH k44) (k44.b (apc ((((F25_7_ok Nf (TreeD.mk x7_0 x7_1 x7_2) x35 h36).cp rfl _).trans (congrArg (fun z => some (vb z)) h37)) : CP pg 25 [(.fn 51 [(.ro [.val (.int .i64 x7_0), .val (.int .u8 x7_1), .lst 3 (eTrees x7_2)])]), (.p (.lst 3 (eTrees x35))), i6 0] (F4_d1 a1 a2 x3_0 x3_1 x3_2) = some (vb true)) (apc (((F11_ok  h38).cp rfl _) : CP pg 11 [] (F4_d1 a1 a2 x3_0 x3_1 x3_2) = some (vb x38)) apn)))
                    ·
                     rw [← sj h]
                     exact fq ([(144, .v (vb false))] ++ kH k44) (k44.b (apc ((((F25_7_ok Nf (TreeD.mk x7_0 x7_1 x7_2) x35 h36).cp rfl _).trans (congrArg (fun z => some (vb z)) h37)) : CP pg 25 [(.fn 51 [(.ro [.val (.int .i64 x7_0), .val (.int .u8 x7_1), .lst 3 (eTrees x7_2)])]), (.p (.lst 3 (eTrees x35))), i6 0] (F4_d1 a1 a2 x3_0 x3_1 x3_2) = some (vb false)) apn))
                   ·
                    rw [← sj h]
                    exact fq ([(139, .v (vb false))] ++ kH k41) (k41.b (apc ((((F25_6_ok Nf (TreeD.mk x7_0 x7_1 x7_2) x32 a3 h33).cp rfl _).trans (congrArg (fun z => some (vb z)) h34)) : CP pg 25 [(.fn 51 [(.ro [.val (.int .i64 x7_0), .val (.int .u8 x7_1), .lst 3 (eTrees x7_2)])]), (.p (.lst 3 (eTrees x32))), i6 a3] (F4_d1 a1 a2 x3_0 x3_1 x3_2) = some (vb false)) apn))
                 ·
                  rw [← sj h]
                  exact fq ([(128, .d false)] ++ kH k37) (k37.b (av h29 apn))
                ·
                 rw [← sj h]
                 exact fq ([(122, .d false)] ++ kH k35) (k35.b (av h27 apn))
               ·
                rw [← sj h]
                exact fq ([(113, .d true), (117, .d false)] ++ kH k34) (k34.b (av h25 (av h26 apn)))
              ·
               rw [← sj h]
               exact fq ([(113, .d false)] ++ kH k34) (k34.b (av h25 apn))
           ·
            rw [← sj h]
            exact fq ([(79, .v (vb false))] ++ kH k27) (k27.b (apc ((((F24_2_ok Nf (TreeD.mk x3_0 x3_1 x3_2) h21).cp rfl _).trans (congrArg (fun z => some (vb z)) h22)) : CP pg 24 [(.agg [i6 x3_0, vi .u8 x3_1, (.p (.lst 3 (eTrees x3_2)))]), (.agg [i6 x3_0, vi .u8 x3_1, (.p (.lst 3 (eTrees x3_2)))])] (F4_d1 a1 a2 x3_0 x3_1 x3_2) = some (vb false)) apn))
      ·
       rw [← sj h]
       exact fq ([(43, .v (vb false))] ++ kH k11) (k11.b (apc ((((F22_ok Nf (TreeD.mk x3_0 x3_1 x3_2) a1 h8).cp rfl _).trans (congrArg (fun z => some (vb z)) h9)) : CP pg 22 [(.agg [i6 x3_0, vi .u8 x3_1, (.p (.lsx 3 (eTreesX x3_2) [moreT]))]), (.agg ((cT a1).map .p))] (F4_d1 a1 a2 x3_0 x3_1 x3_2) = some (vb false)) apn))
 ·
  apply bn h; intro x3 h3 h
  rw [← sj h]
  exact fq [(21, .v (vb false)), (23, .v (vb x3))] (apc ((((F16_ok Nf ([TreeD.mk a1.prod a1.byte a1.kids, TreeD.mk a2.prod a2.byte a2.kids]) h1).own rfl (purAs_cons (purA_slr (e := cT) tr_map (xs := [TreeD.mk a1.prod a1.byte a1.kids, TreeD.mk a2.prod a2.byte a2.kids]) rfl rfl) purAs_nil) rfl).trans (congrArg (fun z => some (vb z)) h2)) : CP pg 16 [.sl 2 0 3 0 2] (F4_d0 a1 a2) = some (vb false)) (apc (((F11_ok  h3).cp rfl _) : CP pg 11 [] (F4_d0 a1 a2) = some (vb x3)) apn))
end
end
end Go.Proofs.Tryd
