/- Decompiled by a program: functions as plain data see them, part 1. -/
import Derived.Test.YtcdebkkjbminoaaDoorH94
namespace Go.Proofs.Tryd
set_option linter.unusedSimpArgs false
set_option linter.unusedVariables false
set_option linter.unusedSectionVars false
set_option maxHeartbeats 4000000
open Go Go.Vs
noncomputable section
section
variable [ErC]
inductive R_F17 where
  | k0 (x0 x1 : Int) (x2 : List TreeX)
def F17_v (a1 : TreeD) (r : R_F17) : AV := match r with | .k0 x0 x1 x2 => (.agg [i6 x0, vi .u8 x1, (.p (.lsx 3 (eTreesX x2) [moreT]))])
abbrev T_F17 := TreeD → Option R_F17
abbrev H_F17 (f : T_F17) : Prop := ∀ (a1 : TreeD) {r : R_F17}, f a1 = some r → PR1 pg 17 [(.agg ((cT a1).map .p))] (F17_v a1 r)
inductive E_L17_0 where
  | k0 (x0 x1 : Nat) (x2 : List TreeX)
def L17_0 (rF17 : T_F17) (a1 : TreeD) (v1 v2 : Nat) (v3 : Int) (v4 : List TreeX) : Option (E_L17_0 ⊕ (Nat × Nat × Int × (List TreeX))) :=
  (bif (decide (v3 < (a1.kids.length : Int))) then ((getI a1.kids v3).bind fun x2 => ((rF17 x2).bind fun r3 => match r3 with | .k0 x3_0 x3_1 x3_2 => (bif (apOk v2 1 v4.length 40) then (bif (decide (v2 + 1 ≤ v4.length)) then (some (.inr (v1, v2 + 1, (IntKind.wrap .i64 (v3 + 1)), (splice v4 v2 [TreeD.mk x3_0 x3_1 x3_2])))) else (some (.inr ((v1 + 1), v2 + 1, (IntKind.wrap .i64 (v3 + 1)), (v4.take v2 ++ [TreeD.mk x3_0 x3_1 x3_2]))))) else none))) else (some (.inl (.k0 v1 v2 v4))))
def L17_0_s (a1 : TreeD) (v1 v2 : Nat) (v3 : Int) (v4 : List TreeX) : St := ⟨fr 31 ug [(1, .ptr 0 0), (2, .ptr 1 0), (3, .sl 2 v1 3 0 v2), (4, i6 v3)], [.cells 25 ((cT a1).map .p), .cells 25 [i6 0, vi .u8 0, n0], .row 25 3 v1 (ra cX v4)]⟩
theorem L17_0_k (a1 : TreeD) (v1 v2 : Nat) (v3 : Int) (v4 : List TreeX) : okT 3 (L17_0_s a1 v1 v2 v3 v4).h = true := (okT_of rfl (ac (ac (ar rfl))))
abbrev L17_0_e (a1 : TreeD) (v1 v2 : Nat) (v3 : Int) (v4 : List TreeX) := evH pg 3 [1, 2, 3, 4] ir17_l0 (L17_0_s a1 v1 v2 v3 v4)
def L17_0_x (a1 : TreeD) (e : E_L17_0) (r : Option (Out × St)) : Prop := match e with | .k0 x0 x1 x2 => ∃ g, r = some ((.brk 0), ⟨fr 31 g [(1, .ptr 0 0), (2, .ptr 1 0), (3, .sl 2 x0 3 0 x1)], [.cells 25 ((cT a1).map .p), .cells 25 [i6 0, vi .u8 0, n0], .row 25 3 x0 (ra cX x2)]⟩)
abbrev L17_0_d0 (a1 : TreeD) (v1 : Nat) (v4 : List TreeX) (v2 : Nat) (x3_0 x3_1 : Int) (x3_2 : List TreeX) : List AB := [.cells 25 ((cT a1).map .p), .cells 25 [i6 0, vi .u8 0, n0], .row 25 3 v1 (ra cX (splice v4 v2 [TreeD.mk x3_0 x3_1 x3_2])), .row 25 3 0 [[i6 x3_0, vi .u8 x3_1, (.p (.lsx 3 (eTreesX x3_2) [moreT]))]]]
abbrev L17_0_d1 (a1 : TreeD) (v1 : Nat) (v4 : List TreeX) (x3_0 x3_1 : Int) (x3_2 : List TreeX) : List AB := [.cells 25 ((cT a1).map .p), .cells 25 [i6 0, vi .u8 0, n0], .row 25 3 v1 (ra cX v4), .row 25 3 0 [[i6 x3_0, vi .u8 x3_1, (.p (.lsx 3 (eTreesX x3_2) [moreT]))]]]
abbrev L17_0_d2 (a1 : TreeD) (v1 : Nat) (v4 : List TreeX) (v2 : Nat) (x3_0 x3_1 : Int) (x3_2 : List TreeX) : List AB := [.cells 25 ((cT a1).map .p), .cells 25 [i6 0, vi .u8 0, n0], .row 25 3 (v1 + 1) (ra cX (v4.take v2 ++ [TreeD.mk x3_0 x3_1 x3_2])), .row 25 3 0 [[i6 x3_0, vi .u8 x3_1, (.p (.lsx 3 (eTreesX x3_2) [moreT]))]]]
theorem L17_0_ok (rF17 : T_F17) (hF17 : H_F17 rF17) (a1 : TreeD) (v1 v2 : Nat) (v3 : Int) (v4 : List TreeX) {r : E_L17_0 ⊕ (Nat × Nat × Int × (List TreeX))} (h : L17_0 rF17 a1 v1 v2 v3 v4 = some r) : OkR (fun e => L17_0_x a1 e (L17_0_e a1 v1 v2 v3 v4)) (fun s => L17_0_e a1 v1 v2 v3 v4 = L17_0_e a1 s.1 s.2.1 s.2.2.1 s.2.2.2) r := by
 unfold L17_0 at h
 have q0 := ((lgr tr_map) : lnA (.p (.lst 3 (eTrees a1.kids))) = some (i6 (a1.kids.length : Int)))
 apply bi h <;> intro h1 h
 ·
  have k1 := ka [(8, .v (i6 (a1.kids.length : Int))), (9, .d true)] (apc q0 (av h1 apn))
  apply bn h; intro x2 h2 h
  have q2 := ((igr tr_map h2) : idxA 3 (.p (.lst 3 (eTrees a1.kids))) (i6 v3) = some (.ro (cT x2)))
  apply bn h; intro r3 h3 h
  cases r3 with
  | k0 x3_0 x3_1 x3_2 =>
   have q3 := (((hF17 x2 h3).cp rfl _) : CP pg 17 [(.agg ((cT x2).map .p))] [.cells 25 ((cT a1).map .p), .cells 25 [i6 0, vi .u8 0, n0], .row 25 3 v1 (ra cX v4)] = some (.agg [i6 x3_0, vi .u8 x3_1, (.p (.lsx 3 (eTreesX x3_2) [moreT]))]))
   have k4 := k1.a [(16, .v (.ro (cT x2))), (18, .v (.agg [i6 x3_0, vi .u8 x3_1, (.p (.lsx 3 (eTreesX x3_2) [moreT]))]))] (apc q2 (apc q3 apn))
   apply bi h <;> intro h4 h
   ·
    apply bi h <;> intro h5 h
    ·
     rw [← sj h]
     exact rn ([(20, .r (.sl 2 v1 3 0 (v2 + 1)) (L17_0_d0 a1 v1 v4 v2 x3_0 x3_1 x3_2)), (6000, .d true)] ++ kH k4) (k4.b (apc ((ap_in (e := cX) (xs := v4) (news := [TreeD.mk x3_0 x3_1 x3_2]) rfl (rows_x (e := cX) (xs := [TreeD.mk x3_0 x3_1 x3_2]) rfl) rfl h4 h5) : appA (L17_0_d1 a1 v1 v4 x3_0 x3_1 x3_2) 25 3 40 (.sl 2 v1 3 0 v2) (.sl 3 0 3 0 1) = some ((.sl 2 v1 3 0 (v2 + 1)), L17_0_d0 a1 v1 v4 v2 x3_0 x3_1 x3_2)) (apc (L17_0_k a1 v1 (v2 + 1) (w6 (v3 + 1)) (splice v4 v2 [TreeD.mk x3_0 x3_1 x3_2])) apn)))
    ·
     rw [← sj h]
     exact rn ([(20, .r (.sl 2 (v1 + 1) 3 0 (v2 + 1)) (L17_0_d2 a1 v1 v4 v2 x3_0 x3_1 x3_2)), (6000, .d true)] ++ kH k4) (k4.b (apc ((ap_out (e := cX) (xs := v4) (news := [TreeD.mk x3_0 x3_1 x3_2]) rfl (rows_x (e := cX) (xs := [TreeD.mk x3_0 x3_1 x3_2]) rfl) rfl h4 h5) : appA (L17_0_d1 a1 v1 v4 x3_0 x3_1 x3_2) 25 3 40 (.sl 2 v1 3 0 v2) (.sl 3 0 3 0 1) = some ((.sl 2 (v1 + 1) 3 0 (v2 + 1)), L17_0_d2 a1 v1 v4 v2 x3_0 x3_1 x3_2)) (apc (L17_0_k a1 (v1 + 1) (v2 + 1) (w6 (v3 + 1)) (v4.take v2 ++ [TreeD.mk x3_0 x3_1 x3_2])) apn)))
   ·
    cases h
 ·
  rw [← sj h]
  exact xb [(8, .v (i6 (a1.kids.length : Int))), (9, .d false), (6000, .d true)] (apc q0 (av h1 apn))
theorem L17_0_run (rF17 : T_F17) (hF17 : H_F17 rF17) (a1 : TreeD) (s0 : Nat × Nat × Int × (List TreeX)) (e : E_L17_0) (h : runL (fun s => L17_0 rF17 a1 s.1 s.2.1 s.2.2.1 s.2.2.2) s0 = some e) : L17_0_x a1 e (L17_0_e a1 s0.1 s0.2.1 s0.2.2.1 s0.2.2.2) := by
  have q := @loop_sound' (Nat × Nat × Int × (List TreeX)) E_L17_0 (fun s => L17_0 rF17 a1 s.1 s.2.1 s.2.2.1 s.2.2.2) (fun s => L17_0_e a1 s.1 s.2.1 s.2.2.1 s.2.2.2) (L17_0_x a1) (fun s r h => L17_0_ok rF17 hF17 a1 s.1 s.2.1 s.2.2.1 s.2.2.2 h) s0 e h
  exact q
def F17_b (rF17 : T_F17) (a1 : TreeD) : Option R_F17 :=
  ((runL (fun s => L17_0 rF17 a1 s.1 s.2.1 s.2.2.1 s.2.2.2) (0, 0, 0, [])).bind fun r1 => match r1 with | .k0 x1_0 x1_1 x1_2 => (bif (apOk x1_1 1 x1_2.length 40) then (bif (decide (x1_2.length = x1_1)) then (bif (slOk (a1.kids.length : Int) (x1_1 + 1) (x1_2.length + 1)) then (bif (decide ((Int.toNat (a1.kids.length : Int)) = x1_2.length)) then (some (.k0 a1.prod a1.byte x1_2)) else none) else none) else none) else none))
abbrev F17_d0 (g1 : Nat → AV) (x1_0 x1_1 : Nat) (a1 : TreeD) (x1_2 : List TreeX) : St := ⟨fr 31 g1 [(1, .ptr 0 0), (2, .ptr 1 0), (3, .sl 2 x1_0 3 0 x1_1)], [.cells 25 ((cT a1).map .p), .cells 25 [i6 0, vi .u8 0, n0], .row 25 3 x1_0 (ra cX x1_2)]⟩
abbrev F17_d1 (a1 : TreeD) (x1_0 : Nat) (x1_2 : List TreeX) : List AB := [.cells 25 ((cT a1).map .p), .cells 25 [i6 0, vi .u8 0, n0], .row 25 3 (x1_0 + 1) (ra cX x1_2 ++ [[(i6 (-77)), vi .u8 0, n0]]), .row 25 3 0 [[(i6 (-77)), vi .u8 0, n0]]]
abbrev F17_d2 (a1 : TreeD) (x1_2 : List TreeX) : List AB := [.cells 25 [i6 a1.prod, vi .u8 a1.byte, (.p (.lsx 3 (eTreesX x1_2) [moreT]))], .cells 25 [i6 0, vi .u8 0, n0], .dead, .row 25 3 0 [[(i6 (-77)), vi .u8 0, n0]]]
theorem F17_bok (rF17 : T_F17) (hF17 : H_F17 rF17) (a1 : TreeD) {r : R_F17} (h : F17_b rF17 a1 = some r) : PR1 pg 17 [(.agg ((cT a1).map .p))] (F17_v a1 r) := by
 unfold F17_b at h
 have q0 := ((lgr tr_map) : lnA (.p (.lst 3 (eTrees a1.kids))) = some (i6 (a1.kids.length : Int)))
 apply bn h; intro r1 h1 h
 cases r1 with
 | k0 x1_0 x1_1 x1_2 =>
  obtain ⟨g1, e1⟩ := L17_0_run rF17 hF17 a1 (0, 0, 0, []) _ h1
  have q1 := (e1 : L17_0_e a1 0 0 0 ([]) = some ((.brk 0), F17_d0 g1 x1_0 x1_1 a1 x1_2))
  have k2 := ka [(2000, .l (.brk 0) (F17_d0 g1 x1_0 x1_1 a1 x1_2))] (apc (L17_0_k a1 0 0 0 ([])) (apc q1 apn))
  apply bi h <;> intro h2 h
  ·
   apply bi h <;> intro h3 h
   ·
    have q3 := ((ap_sent (e := cX) (xs := x1_2) rfl rfl h2 h3) : appA [.cells 25 ((cT a1).map .p), .cells 25 [i6 0, vi .u8 0, n0], .row 25 3 x1_0 (ra cX x1_2), .row 25 3 0 [[(i6 (-77)), vi .u8 0, n0]]] 25 3 40 (.sl 2 x1_0 3 0 x1_1) (.sl 3 0 3 0 1) = some ((.sl 2 (x1_0 + 1) 3 0 (x1_1 + 1)), F17_d1 a1 x1_0 x1_2))
    have k4 := k2.a [(24, .r (.sl 2 (x1_0 + 1) 3 0 (x1_1 + 1)) (F17_d1 a1 x1_0 x1_2)), (27, .v (i6 (a1.kids.length : Int)))] (apc q3 (apc q0 apn))
    apply bi h <;> intro h4 h
    ·
     have q5 := ((sl_sent (e := cX) (xs := x1_2) rfl h4) : slA (F17_d1 a1 x1_0 x1_2) 3 (.sl 2 (x1_0 + 1) 3 0 (x1_1 + 1)) (some 0) (some (a1.kids.length : Int)) = some (.sl 2 (x1_0 + 1) 3 0 (Int.toNat (a1.kids.length : Int))))
     have k6 := k4.a [(28, .v (.sl 2 (x1_0 + 1) 3 0 (Int.toNat (a1.kids.length : Int))))] (apc q5 apn)
     apply bi h <;> intro h5 h
     ·
      rw [← sj h]
      exact fq ([(9000, .l .norm ⟨[g1 0, .ptr 0 0, .ptr 1 0, .sl 2 x1_0 3 0 x1_1, g1 4, g1 5, g1 6, g1 7, g1 8, g1 9, g1 10, g1 11, g1 12, g1 13, g1 14, g1 15, g1 16, g1 17, g1 18, g1 19, g1 20, .sl 2 x1_0 3 0 x1_1, (.agg [(i6 (-77)), vi .u8 0, n0]), .sl 3 0 3 0 1, (.sl 2 (x1_0 + 1) 3 0 (x1_1 + 1)), .ptr 0 2, (.p (.lst 3 (eTrees a1.kids))), (i6 (a1.kids.length : Int)), (.sl 2 (x1_0 + 1) 3 0 (Int.toNat (a1.kids.length : Int))), .ptr 0 2, g1 30], F17_d2 a1 x1_2⟩), (6000, .d true)] ++ kH k6) (k6.b (apc ((frzS_sp (e := cX) (xs := x1_2) (ms := moreT) rfl rfl rfl rfl h5 (by rw [← trX_map]; kernel_rfl)) : frzS [] [] [(1, 95, 2, 0)] ⟨[g1 0, .ptr 0 0, .ptr 1 0, .sl 2 x1_0 3 0 x1_1, g1 4, g1 5, g1 6, g1 7, g1 8, g1 9, g1 10, g1 11, g1 12, g1 13, g1 14, g1 15, g1 16, g1 17, g1 18, g1 19, g1 20, .sl 2 x1_0 3 0 x1_1, (.agg [(i6 (-77)), vi .u8 0, n0]), .sl 3 0 3 0 1, (.sl 2 (x1_0 + 1) 3 0 (x1_1 + 1)), .ptr 0 2, (.p (.lst 3 (eTrees a1.kids))), (i6 (a1.kids.length : Int)), (.sl 2 (x1_0 + 1) 3 0 (Int.toNat (a1.kids.length : Int))), .ptr 0 2, g1 30], [.cells 25 [i6 a1.prod, vi .u8 a1.byte, (.sl 2 (x1_0 + 1) 3 0 (Int.toNat (a1.kids.length : Int)))], .cells 25 [i6 0, vi .u8 0, n0], .row 25 3 (x1_0 + 1) (ra cX x1_2 ++ [[(i6 (-77)), vi .u8 0, n0]]), .row 25 3 0 [[(i6 (-77)), vi .u8 0, n0]]]⟩ = ⟨[g1 0, .ptr 0 0, .ptr 1 0, .sl 2 x1_0 3 0 x1_1, g1 4, g1 5, g1 6, g1 7, g1 8, g1 9, g1 10, g1 11, g1 12, g1 13, g1 14, g1 15, g1 16, g1 17, g1 18, g1 19, g1 20, .sl 2 x1_0 3 0 x1_1, (.agg [(i6 (-77)), vi .u8 0, n0]), .sl 3 0 3 0 1, (.sl 2 (x1_0 + 1) 3 0 (x1_1 + 1)), .ptr 0 2, (.p (.lst 3 (eTrees a1.kids))), (i6 (a1.kids.length : Int)), (.sl 2 (x1_0 + 1) 3 0 (Int.toNat (a1.kids.length : Int))), .ptr 0 2, g1 30], F17_d2 a1 x1_2⟩) apn))
     ·
      cases h
    ·
     cases h
   ·
    cases h
  ·
   cases h
def F17 : Nat → T_F17
  | 0 => fun _ => none
  | Nf + 1 => F17_b (F17 Nf)
theorem F17_ok (Nf : Nat) : H_F17 (F17 Nf) := by
  induction Nf with
  | zero => intro a1 r h; have h : (none : Option R_F17) = some r := h; cases h
  | succ Nf ih => intro a1 r h; exact F17_bok (F17 Nf) ih a1 h
def F22_v (a1 : TreeX) (a2 : TreeD) (x0 : Bool) : AV := (vb x0)
abbrev T_F22 := TreeX → TreeD → Option Bool
abbrev H_F22 (f : T_F22) : Prop := ∀ (a1 : TreeX) (a2 : TreeD) {r : Bool}, f a1 a2 = some r → PR1 pg 22 [(.agg ((cX a1).map .p)), (.agg ((cT a2).map .p))] (F22_v a1 a2 r)
inductive E_L22_0 where
  | k0
  | k1
def L22_0 (rF22 : T_F22) (a1 : TreeX) (a2 : TreeD) (v1 : Int) : Option (E_L22_0 ⊕ (Int)) :=
  (bif (decide (v1 < (a2.kids.length : Int))) then ((getI a1.kids v1).bind fun x2 => ((getI a2.kids v1).bind fun x3 => ((rF22 x2 x3).bind fun x4 => (bif x4 then (some (.inr ((IntKind.wrap .i64 (v1 + 1))))) else (some (.inl (.k0))))))) else (some (.inl (.k1))))
def L22_0_s (a1 : TreeX) (a2 : TreeD) (v1 : Int) : St := ⟨fr 62 ug [(2, (.ro (cX a1))), (3, (.ro (cT a2))), (5, i6 v1)], []⟩
theorem L22_0_k (a1 : TreeX) (a2 : TreeD) (v1 : Int) : okT 0 (L22_0_s a1 a2 v1).h = true := (okT_of rfl rfl)
abbrev L22_0_e (a1 : TreeX) (a2 : TreeD) (v1 : Int) := evH pg 0 [2, 3, 5] ir22_l0 (L22_0_s a1 a2 v1)
def L22_0_x (a1 : TreeX) (a2 : TreeD) (e : E_L22_0) (r : Option (Out × St)) : Prop := match e with | .k0 => ∃ g y, r = some (.ret, ⟨fr 62 g [(4, vb false)], y⟩) | .k1 => ∃ g, r = some ((.brk 0), ⟨fr 62 g [(2, (.ro (cX a1))), (3, (.ro (cT a2)))], []⟩)
theorem L22_0_ok (rF22 : T_F22) (hF22 : H_F22 rF22) (a1 : TreeX) (a2 : TreeD) (v1 : Int) {r : E_L22_0 ⊕ (Int)} (h : L22_0 rF22 a1 a2 v1 = some r) : OkR (fun e => L22_0_x a1 a2 e (L22_0_e a1 a2 v1)) (fun s => L22_0_e a1 a2 v1 = L22_0_e a1 a2 s) r := by
 unfold L22_0 at h
 have q0 := ((lgr tr_map) : lnA (.p (.lst 3 (eTrees a2.kids))) = some (i6 (a2.kids.length : Int)))
 have q1 := (rfl : ldF [] .false .false 1 (.ro [.lsx 3 (eTreesX a1.kids) [moreT]]) = some (.p (.lst 3 (eTreesX a1.kids))))
 apply bi h <;> intro h1 h
 ·
  have k2 := ka [(46, .v (i6 (a2.kids.length : Int))), (47, .d true), (51, .v (.p (.lst 3 (eTreesX a1.kids))))] (apc q0 (av h1 (apc q1 apn)))
  apply bn h; intro x2 h2 h
  have q3 := ((igr trX_map h2) : idxA 3 (.p (.lst 3 (eTreesX a1.kids))) (i6 v1) = some (.ro (cX x2)))
  apply bn h; intro x3 h3 h
  have q4 := ((igr tr_map h3) : idxA 3 (.p (.lst 3 (eTrees a2.kids))) (i6 v1) = some (.ro (cT x3)))
  have k5 := k2.a [(53, .v (.ro (cX x2))), (58, .v (.ro (cT x3)))] (apc q3 (apc q4 apn))
  apply bn h; intro x4 h4 h
  apply bi h <;> intro h5 h
  ·
   rw [← sj h]
   exact rn ([(60, .v (vb true)), (6000, .d true)] ++ kH k5) (k5.b (apc ((((hF22 x2 x3 h4).cp rfl _).trans (congrArg (fun z => some (vb z)) h5)) : CP pg 22 [(.agg ((cX x2).map .p)), (.agg ((cT x3).map .p))] [] = some (vb true)) (apc (L22_0_k a1 a2 (w6 (v1 + 1))) apn)))
  ·
   rw [← sj h]
   exact xy ([(60, .v (vb false)), (6000, .d true)] ++ kH k5) (k5.b (apc ((((hF22 x2 x3 h4).cp rfl _).trans (congrArg (fun z => some (vb z)) h5)) : CP pg 22 [(.agg ((cX x2).map .p)), (.agg ((cT x3).map .p))] [] = some (vb false)) apn))
 ·
  rw [← sj h]
  exact xb [(46, .v (i6 (a2.kids.length : Int))), (47, .d false), (6000, .d true)] (apc q0 (av h1 apn))
theorem L22_0_run (rF22 : T_F22) (hF22 : H_F22 rF22) (a1 : TreeX) (a2 : TreeD) (s0 : Int) (e : E_L22_0) (h : runL (fun s => L22_0 rF22 a1 a2 s) s0 = some e) : L22_0_x a1 a2 e (L22_0_e a1 a2 s0) := by
  have q := @loop_sound' (Int) E_L22_0 (fun s => L22_0 rF22 a1 a2 s) (fun s => L22_0_e a1 a2 s) (L22_0_x a1 a2) (fun s r h => L22_0_ok rF22 hF22 a1 a2 s h) s0 e h
  exact q
def F22_b (rF22 : T_F22) (a1 : TreeX) (a2 : TreeD) : Option Bool :=
  (bif (a1.prod != a2.prod) then (some false) else (bif (a1.byte != a2.byte) then (some false) else (bif ((a1.kids.length : Int) != (a2.kids.length : Int)) then (some false) else (bif (decide (0 ≤ (IntKind.wrap .i64 ((a2.kids.length : Int) + 1)) ∧ (IntKind.wrap .i64 ((a2.kids.length : Int) + 1)) ≤ (a1.kids.length : Int) + 1)) then (bif (decide ((IntKind.wrap .i64 ((a2.kids.length : Int) + 1)) = (a1.kids.length : Int) + 1 ∧ (a2.kids.length : Int) = (a1.kids.length : Int))) then ((runL (fun s => L22_0 rF22 a1 a2 s) 0).bind fun r6 => match r6 with | .k0 => (some false) | .k1 => (some true)) else none) else none))))
theorem F22_bok (rF22 : T_F22) (hF22 : H_F22 rF22) (a1 : TreeX) (a2 : TreeD) {r : Bool} (h : F22_b rF22 a1 a2 = some r) : PR1 pg 22 [(.agg ((cX a1).map .p)), (.agg ((cT a2).map .p))] (F22_v a1 a2 r) := by
 unfold F22_b at h
 have q0 := (rfl : ldF [] .false .false 1 (.ro [.lsx 3 (eTreesX a1.kids) [moreT]]) = some (.p (.lst 3 (eTreesX a1.kids))))
 have q1 := ((lgr trX_map) : lnA (.p (.lst 3 (eTreesX a1.kids))) = some (i6 (a1.kids.length : Int)))
 have q2 := ((lgr tr_map) : lnA (.p (.lst 3 (eTrees a2.kids))) = some (i6 (a2.kids.length : Int)))
 apply bi h <;> intro h1 h
 ·
  rw [← sj h]
  exact fq [(10, .d true)] (av h1 apn)
 ·
  apply bi h <;> intro h2 h
  ·
   rw [← sj h]
   exact fq [(10, .d false), (16, .d true)] (av h1 (av h2 apn))
  ·
   have k3 := ka [(10, .d false), (16, .d false), (20, .v (.p (.lst 3 (eTreesX a1.kids)))), (21, .v (i6 (a1.kids.length : Int))), (24, .v (i6 (a2.kids.length : Int)))] (av h1 (av h2 (apc q0 (apc q1 (apc q2 apn)))))
   apply bi h <;> intro h3 h
   ·
    rw [← sj h]
    exact fq ([(25, .d true)] ++ kH k3) (k3.b (av h3 apn))
   ·
    have k4 := k3.a [(25, .d false), (32, .v (i6 (a2.kids.length : Int)))] (av h3 (apc q2 apn))
    apply bi h <;> intro h4 h
    ·
     have q5 := ((slX_one (n := a1.kids.length) (by rw [trX_map, List.length_map]) h4) : slXA 3 (.p (.lsx 3 (eTreesX a1.kids) [moreT])) (some 0) (some (w6 ((a2.kids.length : Int) + 1))) = some (.p (.lst 3 (((eTreesX a1.kids) ++ [moreT]).take (Int.toNat (w6 ((a2.kids.length : Int) + 1)))))))
     have k6 := k4.a [(34, .v (.p (.lst 3 (((eTreesX a1.kids) ++ [moreT]).take (Int.toNat (w6 ((a2.kids.length : Int) + 1))))))), (37, .v (i6 (a2.kids.length : Int)))] (apc q5 (apc q2 apn))
     apply bi h <;> intro h5 h
     ·
      have q7 := ((idX_one (n := a1.kids.length) (by rw [trX_map, List.length_map]) h5) : idxA 3 (.p (.lst 3 (((eTreesX a1.kids) ++ [moreT]).take (Int.toNat (w6 ((a2.kids.length : Int) + 1)))))) (i6 (a2.kids.length : Int)) = some (.ro [.val (.int .i64 (-77)), .val (.int .u8 0), .val (.slice .none 0 0)]))
      have k8 := k6.a [(38, .v (.ro [.val (.int .i64 (-77)), .val (.int .u8 0), .val (.slice .none 0 0)]))] (apc q7 apn)
      apply bn h; intro r6 h6 h
      cases r6 with
      | k0 =>
       obtain ⟨g6, y6, e6⟩ := L22_0_run rF22 hF22 a1 a2 0 _ h6
       rw [← sj h]
       exact fq ([(2000, .l .ret ⟨fr 62 g6 [(4, vb false)], y6⟩), (6000, .d true)] ++ kH k8) (k8.b (apc (L22_0_k a1 a2 0) (apc (e6 : L22_0_e a1 a2 0 = some (.ret, ⟨fr 62 g6 [(4, vb false)], y6⟩)) apn)))
      | k1 =>
       obtain ⟨g6, e6⟩ := L22_0_run rF22 hF22 a1 a2 0 _ h6
       rw [← sj h]
       exact fq ([(2000, .l (.brk 0) ⟨fr 62 g6 [(2, (.ro (cX a1))), (3, (.ro (cT a2)))], []⟩), (6000, .d true)] ++ kH k8) (k8.b (apc (L22_0_k a1 a2 0) (apc (e6 : L22_0_e a1 a2 0 = some ((.brk 0), ⟨fr 62 g6 [(2, (.ro (cX a1))), (3, (.ro (cT a2)))], []⟩)) apn)))
     ·
      cases h
    ·
     cases h
def F22 : Nat → T_F22
  | 0 => fun _ _ => none
  | Nf + 1 => F22_b (F22 Nf)
theorem F22_ok (Nf : Nat) : H_F22 (F22 Nf) := by
  induction Nf with
  | zero => intro a1 a2 r h; have h : (none : Option Bool) = some r := h; cases h
  | succ Nf ih => intro a1 a2 r h; exact F22_bok (F22 Nf) ih a1 a2 h
def F14_v (a1 a2 : TreeD) (x0 : Bool) : AV := (vb x0)
abbrev T_F14 := TreeD → TreeD → Option Bool
abbrev H_F14 (f : T_F14) : Prop := ∀ (a1 a2 : TreeD) {r : Bool}, f a1 a2 = some r → PR1 pg 14 [(.agg ((cT a1).map .p)), (.agg ((cT a2).map .p))] (F14_v a1 a2 r)
inductive E_L14_0 where
  | k0
  | k1
def L14_0 (rF14 : T_F14) (a1 a2 : TreeD) (v1 : Int) : Option (E_L14_0 ⊕ (Int)) :=
  (bif (decide (v1 < (a1.kids.length : Int))) then ((getI a1.kids v1).bind fun x2 => ((getI a2.kids v1).bind fun x3 => ((rF14 x2 x3).bind fun x4 => (bif x4 then (some (.inr ((IntKind.wrap .i64 (v1 + 1))))) else (some (.inl (.k0))))))) else (some (.inl (.k1))))
def L14_0_s (a1 a2 : TreeD) (v1 : Int) : St := ⟨fr 46 ug [(2, .ptr 0 0), (3, .ptr 1 0), (5, i6 v1)], [.cells 25 ((cT a1).map .p), .cells 25 ((cT a2).map .p)]⟩
theorem L14_0_k (a1 a2 : TreeD) (v1 : Int) : okT 2 (L14_0_s a1 a2 v1).h = true := (okT_of rfl (ac (ac rfl)))
abbrev L14_0_e (a1 a2 : TreeD) (v1 : Int) := evH pg 2 [2, 3, 5] ir14_l0 (L14_0_s a1 a2 v1)
def L14_0_x (a1 a2 : TreeD) (e : E_L14_0) (r : Option (Out × St)) : Prop := match e with | .k0 => ∃ g y, r = some (.ret, ⟨fr 46 g [(4, vb false)], y⟩) | .k1 => ∃ g, r = some ((.brk 0), ⟨fr 46 g [(2, .ptr 0 0), (3, .ptr 1 0)], [.cells 25 ((cT a1).map .p), .cells 25 ((cT a2).map .p)]⟩)
theorem L14_0_ok (rF14 : T_F14) (hF14 : H_F14 rF14) (a1 a2 : TreeD) (v1 : Int) {r : E_L14_0 ⊕ (Int)} (h : L14_0 rF14 a1 a2 v1 = some r) : OkR (fun e => L14_0_x a1 a2 e (L14_0_e a1 a2 v1)) (fun s => L14_0_e a1 a2 v1 = L14_0_e a1 a2 s) r := by
 unfold L14_0 at h
 have q0 := ((lgr tr_map) : lnA (.p (.lst 3 (eTrees a1.kids))) = some (i6 (a1.kids.length : Int)))
 apply bi h <;> intro h1 h
 ·
  have k1 := ka [(30, .v (i6 (a1.kids.length : Int))), (31, .d true)] (apc q0 (av h1 apn))
  apply bn h; intro x2 h2 h
  have q2 := ((igr tr_map h2) : idxA 3 (.p (.lst 3 (eTrees a1.kids))) (i6 v1) = some (.ro (cT x2)))
  apply bn h; intro x3 h3 h
  have q3 := ((igr tr_map h3) : idxA 3 (.p (.lst 3 (eTrees a2.kids))) (i6 v1) = some (.ro (cT x3)))
  have k4 := k1.a [(37, .v (.ro (cT x2))), (42, .v (.ro (cT x3)))] (apc q2 (apc q3 apn))
  apply bn h; intro x4 h4 h
  apply bi h <;> intro h5 h
  ·
   rw [← sj h]
   exact rn ([(44, .v (vb true)), (6000, .d true)] ++ kH k4) (k4.b (apc ((((hF14 x2 x3 h4).cp rfl _).trans (congrArg (fun z => some (vb z)) h5)) : CP pg 14 [(.agg ((cT x2).map .p)), (.agg ((cT x3).map .p))] [.cells 25 ((cT a1).map .p), .cells 25 ((cT a2).map .p)] = some (vb true)) (apc (L14_0_k a1 a2 (w6 (v1 + 1))) apn)))
  ·
   rw [← sj h]
   exact xy ([(44, .v (vb false)), (6000, .d true)] ++ kH k4) (k4.b (apc ((((hF14 x2 x3 h4).cp rfl _).trans (congrArg (fun z => some (vb z)) h5)) : CP pg 14 [(.agg ((cT x2).map .p)), (.agg ((cT x3).map .p))] [.cells 25 ((cT a1).map .p), .cells 25 ((cT a2).map .p)] = some (vb false)) apn))
 ·
  rw [← sj h]
  exact xb [(30, .v (i6 (a1.kids.length : Int))), (31, .d false), (6000, .d true)] (apc q0 (av h1 apn))
theorem L14_0_run (rF14 : T_F14) (hF14 : H_F14 rF14) (a1 a2 : TreeD) (s0 : Int) (e : E_L14_0) (h : runL (fun s => L14_0 rF14 a1 a2 s) s0 = some e) : L14_0_x a1 a2 e (L14_0_e a1 a2 s0) := by
  have q := @loop_sound' (Int) E_L14_0 (fun s => L14_0 rF14 a1 a2 s) (fun s => L14_0_e a1 a2 s) (L14_0_x a1 a2) (fun s r h => L14_0_ok rF14 hF14 a1 a2 s h) s0 e h
  exact q
def F14_b (rF14 : T_F14) (a1 a2 : TreeD) : Option Bool :=
  (bif (a1.prod != a2.prod) then (some false) else (bif (a1.byte != a2.byte) then (some false) else (bif ((a1.kids.length : Int) != (a2.kids.length : Int)) then (some false) else ((runL (fun s => L14_0 rF14 a1 a2 s) 0).bind fun r4 => match r4 with | .k0 => (some false) | .k1 => (some true)))))
abbrev F14_d0 (g4 : Nat → AV) (a1 a2 : TreeD) : St := ⟨fr 46 g4 [(2, .ptr 0 0), (3, .ptr 1 0)], [.cells 25 ((cT a1).map .p), .cells 25 ((cT a2).map .p)]⟩
theorem F14_bok (rF14 : T_F14) (hF14 : H_F14 rF14) (a1 a2 : TreeD) {r : Bool} (h : F14_b rF14 a1 a2 = some r) : PR1 pg 14 [(.agg ((cT a1).map .p)), (.agg ((cT a2).map .p))] (F14_v a1 a2 r) := by
 unfold F14_b at h
 have q0 := ((lgr tr_map) : lnA (.p (.lst 3 (eTrees a1.kids))) = some (i6 (a1.kids.length : Int)))
 have q1 := ((lgr tr_map) : lnA (.p (.lst 3 (eTrees a2.kids))) = some (i6 (a2.kids.length : Int)))
 apply bi h <;> intro h1 h
 ·
  rw [← sj h]
  exact fq [(10, .d true)] (av h1 apn)
 ·
  apply bi h <;> intro h2 h
  ·
   rw [← sj h]
   exact fq [(10, .d false), (16, .d true)] (av h1 (av h2 apn))
  ·
   have k2 := ka [(10, .d false), (16, .d false), (21, .v (i6 (a1.kids.length : Int))), (24, .v (i6 (a2.kids.length : Int)))] (av h1 (av h2 (apc q0 (apc q1 apn))))
   apply bi h <;> intro h3 h
   ·
    rw [← sj h]
    exact fq ([(25, .d true)] ++ kH k2) (k2.b (av h3 apn))
   ·
    apply bn h; intro r4 h4 h
    cases r4 with
    | k0 =>
     obtain ⟨g4, y4, e4⟩ := L14_0_run rF14 hF14 a1 a2 0 _ h4
     rw [← sj h]
     exact fq ([(25, .d false), (2000, .l .ret ⟨fr 46 g4 [(4, vb false)], y4⟩), (6000, .d true)] ++ kH k2) (k2.b (av h3 (apc (L14_0_k a1 a2 0) (apc (e4 : L14_0_e a1 a2 0 = some (.ret, ⟨fr 46 g4 [(4, vb false)], y4⟩)) apn))))
    | k1 =>
     obtain ⟨g4, e4⟩ := L14_0_run rF14 hF14 a1 a2 0 _ h4
     rw [← sj h]
     exact fq ([(25, .d false), (2000, .l (.brk 0) (F14_d0 g4 a1 a2)), (6000, .d true)] ++ kH k2) (k2.b (av h3 (apc (L14_0_k a1 a2 0) (apc (e4 : L14_0_e a1 a2 0 = some ((.brk 0), F14_d0 g4 a1 a2)) apn))))
def F14 : Nat → T_F14
  | 0 => fun _ _ => none
  | Nf + 1 => F14_b (F14 Nf)
theorem F14_ok (Nf : Nat) : H_F14 (F14 Nf) := by
  induction Nf with
  | zero => intro a1 a2 r h; have h : (none : Option Bool) = some r := h; cases h
  | succ Nf ih => intro a1 a2 r h; exact F14_bok (F14 Nf) ih a1 a2 h
def F45_2_v (a1 : TreeD) (a2 : Int) (x0 : Bool) : AV := (vb x0)
abbrev T_F45_2 := TreeD → Int → Option Bool
abbrev H_F45_2 (f : T_F45_2) : Prop := ∀ (a1 : TreeD) (a2 : Int) {r : Bool}, f a1 a2 = some r → PR1 pg 45 [(.agg ((cT a1).map .p)), i6 a2] (F45_2_v a1 a2 r)
inductive E_L45_0_2 where
  | k0
  | k1
def L45_0_2 (rF45_2 : T_F45_2) (a1 : Int) (a2 : TreeD) (v1 : Int) : Option (E_L45_0_2 ⊕ (Int)) :=
  (bif (decide (v1 < (a2.kids.length : Int))) then ((getI a2.kids v1).bind fun x2 => ((rF45_2 x2 (IntKind.wrap .i64 (a1 - 1))).bind fun x3 => (bif x3 then (some (.inl (.k0))) else (some (.inr ((IntKind.wrap .i64 (v1 + 1)))))))) else (some (.inl (.k1))))
def L45_0_2_s (a1 : Int) (a2 : TreeD) (v1 : Int) : St := ⟨fr 23 ug [(1, i6 a1), (2, .ptr 0 0), (5, i6 v1)], [.cells 25 ((cT a2).map .p)]⟩
theorem L45_0_2_k (a1 : Int) (a2 : TreeD) (v1 : Int) : okT 1 (L45_0_2_s a1 a2 v1).h = true := (okT_of rfl (ac rfl))
abbrev L45_0_2_e (a1 : Int) (a2 : TreeD) (v1 : Int) := evH pg 1 [1, 2, 5] ir45_l0 (L45_0_2_s a1 a2 v1)
def L45_0_2_x (a1 : Int) (a2 : TreeD) (e : E_L45_0_2) (r : Option (Out × St)) : Prop := match e with | .k0 => ∃ g y, r = some (.ret, ⟨fr 23 g [(4, vb true)], y⟩) | .k1 => ∃ g, r = some ((.brk 0), ⟨fr 23 g [(1, i6 a1)], [.cells 25 ((cT a2).map .p)]⟩)
theorem L45_0_2_ok (rF45_2 : T_F45_2) (hF45_2 : H_F45_2 rF45_2) (a1 : Int) (a2 : TreeD) (v1 : Int) {r : E_L45_0_2 ⊕ (Int)} (h : L45_0_2 rF45_2 a1 a2 v1 = some r) : OkR (fun e => L45_0_2_x a1 a2 e (L45_0_2_e a1 a2 v1)) (fun s => L45_0_2_e a1 a2 v1 = L45_0_2_e a1 a2 s) r := by
 unfold L45_0_2 at h
 have q0 := ((lgr tr_map) : lnA (.p (.lst 3 (eTrees a2.kids))) = some (i6 (a2.kids.length : Int)))
 apply bi h <;> intro h1 h
 ·
  have k1 := ka [(11, .v (i6 (a2.kids.length : Int))), (12, .d true)] (apc q0 (av h1 apn))
  apply bn h; intro x2 h2 h
  have q2 := ((igr tr_map h2) : idxA 3 (.p (.lst 3 (eTrees a2.kids))) (i6 v1) = some (.ro (cT x2)))
  apply bn h; intro x3 h3 h
  apply bi h <;> intro h4 h
  ·
   rw [← sj h]
   exact xy ([(18, .v (.ro (cT x2))), (22, .v (vb true)), (6000, .d true)] ++ kH k1) (k1.b (apc q2 (apc ((((hF45_2 x2 (w6 (a1 - 1)) h3).cp rfl _).trans (congrArg (fun z => some (vb z)) h4)) : CP pg 45 [(.agg ((cT x2).map .p)), (i6 (w6 (a1 - 1)))] [.cells 25 ((cT a2).map .p)] = some (vb true)) apn)))
  ·
   rw [← sj h]
   exact rn ([(18, .v (.ro (cT x2))), (22, .v (vb false)), (6000, .d true)] ++ kH k1) (k1.b (apc q2 (apc ((((hF45_2 x2 (w6 (a1 - 1)) h3).cp rfl _).trans (congrArg (fun z => some (vb z)) h4)) : CP pg 45 [(.agg ((cT x2).map .p)), (i6 (w6 (a1 - 1)))] [.cells 25 ((cT a2).map .p)] = some (vb false)) (apc (L45_0_2_k a1 a2 (w6 (v1 + 1))) apn))))
 ·
  rw [← sj h]
  exact xb [(11, .v (i6 (a2.kids.length : Int))), (12, .d false), (6000, .d true)] (apc q0 (av h1 apn))
theorem L45_0_2_run (rF45_2 : T_F45_2) (hF45_2 : H_F45_2 rF45_2) (a1 : Int) (a2 : TreeD) (s0 : Int) (e : E_L45_0_2) (h : runL (fun s => L45_0_2 rF45_2 a1 a2 s) s0 = some e) : L45_0_2_x a1 a2 e (L45_0_2_e a1 a2 s0) := by
  have q := @loop_sound' (Int) E_L45_0_2 (fun s => L45_0_2 rF45_2 a1 a2 s) (fun s => L45_0_2_e a1 a2 s) (L45_0_2_x a1 a2) (fun s r h => L45_0_2_ok rF45_2 hF45_2 a1 a2 s h) s0 e h
  exact q
def F45_2_b (rF45_2 : T_F45_2) (a1 : TreeD) (a2 : Int) : Option Bool :=
  (bif (decide (a2 < 1)) then (some true) else ((runL (fun s => L45_0_2 rF45_2 a2 a1 s) 0).bind fun r2 => match r2 with | .k0 => (some true) | .k1 => (some false)))
theorem F45_2_bok (rF45_2 : T_F45_2) (hF45_2 : H_F45_2 rF45_2) (a1 : TreeD) (a2 : Int) {r : Bool} (h : F45_2_b rF45_2 a1 a2 = some r) : PR1 pg 45 [(.agg ((cT a1).map .p)), i6 a2] (F45_2_v a1 a2 r) := by
 unfold F45_2_b at h
 apply bi h <;> intro h1 h
 ·
  rw [← sj h]
  exact fq [(7, .d true)] (av h1 apn)
 ·
  apply bn h; intro r2 h2 h
  cases r2 with
  | k0 =>
   obtain ⟨g2, y2, e2⟩ := L45_0_2_run rF45_2 hF45_2 a2 a1 0 _ h2
   rw [← sj h]
   exact fq [(7, .d false), (2000, .l .ret ⟨fr 23 g2 [(4, vb true)], y2⟩), (6000, .d true)] (av h1 (apc (L45_0_2_k a2 a1 0) (apc (e2 : L45_0_2_e a2 a1 0 = some (.ret, ⟨fr 23 g2 [(4, vb true)], y2⟩)) apn)))
  | k1 =>
   obtain ⟨g2, e2⟩ := L45_0_2_run rF45_2 hF45_2 a2 a1 0 _ h2
   rw [← sj h]
   exact fq [(7, .d false), (2000, .l (.brk 0) ⟨fr 23 g2 [(1, i6 a2)], [.cells 25 ((cT a1).map .p)]⟩), (6000, .d true)] (av h1 (apc (L45_0_2_k a2 a1 0) (apc (e2 : L45_0_2_e a2 a1 0 = some ((.brk 0), ⟨fr 23 g2 [(1, i6 a2)], [.cells 25 ((cT a1).map .p)]⟩)) apn)))
def F45_2 : Nat → T_F45_2
  | 0 => fun _ _ => none
  | Nf + 1 => F45_2_b (F45_2 Nf)
theorem F45_2_ok (Nf : Nat) : H_F45_2 (F45_2 Nf) := by
  induction Nf with
  | zero => intro a1 a2 r h; have h : (none : Option Bool) = some r := h; cases h
  | succ Nf ih => intro a1 a2 r h; exact F45_2_bok (F45_2 Nf) ih a1 a2 h
def F46_v (a1 : TreeD) (x0 : Bool) : AV := (vb x0)
abbrev T_F46 := TreeD → Option Bool
abbrev H_F46 (f : T_F46) : Prop := ∀ (a1 : TreeD) {r : Bool}, f a1 = some r → PR1 pg 46 [(.agg ((cT a1).map .p))] (F46_v a1 r)
inductive E_L46_0 where
  | k0
  | k1
def L46_0 (rF46 : T_F46) (a1 : TreeD) (v1 : Int) : Option (E_L46_0 ⊕ (Int)) :=
  (bif (decide (v1 < (a1.kids.length : Int))) then ((getI a1.kids v1).bind fun x2 => ((rF46 x2).bind fun x3 => (bif x3 then (some (.inr ((IntKind.wrap .i64 (v1 + 1))))) else (some (.inl (.k0)))))) else (some (.inl (.k1))))
def L46_0_s (a1 : TreeD) (v1 : Int) : St := ⟨fr 47 ug [(1, .ptr 0 0), (3, i6 v1)], [.cells 25 ((cT a1).map .p)]⟩
theorem L46_0_k (a1 : TreeD) (v1 : Int) : okT 1 (L46_0_s a1 v1).h = true := (okT_of rfl (ac rfl))
abbrev L46_0_e (a1 : TreeD) (v1 : Int) := evH pg 1 [1, 3] ir46_l0 (L46_0_s a1 v1)
def L46_0_x (a1 : TreeD) (e : E_L46_0) (r : Option (Out × St)) : Prop := match e with | .k0 => ∃ g y, r = some (.ret, ⟨fr 47 g [(2, vb false)], y⟩) | .k1 => ∃ g, r = some ((.brk 0), ⟨fr 47 g [(1, .ptr 0 0)], [.cells 25 ((cT a1).map .p)]⟩)
theorem L46_0_ok (rF46 : T_F46) (hF46 : H_F46 rF46) (a1 : TreeD) (v1 : Int) {r : E_L46_0 ⊕ (Int)} (h : L46_0 rF46 a1 v1 = some r) : OkR (fun e => L46_0_x a1 e (L46_0_e a1 v1)) (fun s => L46_0_e a1 v1 = L46_0_e a1 s) r := by
 unfold L46_0 at h
 have q0 := ((lgr tr_map) : lnA (.p (.lst 3 (eTrees a1.kids))) = some (i6 (a1.kids.length : Int)))
 apply bi h <;> intro h1 h
 ·
  have k1 := ka [(36, .v (i6 (a1.kids.length : Int))), (37, .d true)] (apc q0 (av h1 apn))
  apply bn h; intro x2 h2 h
  have q2 := ((igr tr_map h2) : idxA 3 (.p (.lst 3 (eTrees a1.kids))) (i6 v1) = some (.ro (cT x2)))
  apply bn h; intro x3 h3 h
  apply bi h <;> intro h4 h
  ·
   rw [← sj h]
   exact rn ([(43, .v (.ro (cT x2))), (45, .v (vb true)), (6000, .d true)] ++ kH k1) (k1.b (apc q2 (apc ((((hF46 x2 h3).cp rfl _).trans (congrArg (fun z => some (vb z)) h4)) : CP pg 46 [(.agg ((cT x2).map .p))] [.cells 25 ((cT a1).map .p)] = some (vb true)) (apc (L46_0_k a1 (w6 (v1 + 1))) apn))))
  ·
   rw [← sj h]
   exact xy ([(43, .v (.ro (cT x2))), (45, .v (vb false)), (6000, .d true)] ++ kH k1) (k1.b (apc q2 (apc ((((hF46 x2 h3).cp rfl _).trans (congrArg (fun z => some (vb z)) h4)) : CP pg 46 [(.agg ((cT x2).map .p))] [.cells 25 ((cT a1).map .p)] = some (vb false)) apn)))
 ·
  rw [← sj h]
  exact xb [(36, .v (i6 (a1.kids.length : Int))), (37, .d false), (6000, .d true)] (apc q0 (av h1 apn))
theorem L46_0_run (rF46 : T_F46) (hF46 : H_F46 rF46) (a1 : TreeD) (s0 : Int) (e : E_L46_0) (h : runL (fun s => L46_0 rF46 a1 s) s0 = some e) : L46_0_x a1 e (L46_0_e a1 s0) := by
  have q := @loop_sound' (Int) E_L46_0 (fun s => L46_0 rF46 a1 s) (fun s => L46_0_e a1 s) (L46_0_x a1) (fun s r h => L46_0_ok rF46 hF46 a1 s h) s0 e h
  exact q
def F46_b (rF46 : T_F46) (a1 : TreeD) : Option Bool :=
  (bif (decide (a1.prod < (-1))) then (some false) else (bif (decide (a1.prod > 2147483647)) then (some false) else (bif (a1.prod == (-1)) then (bif (decide ((a1.kids.length : Int) > 0)) then (some false) else (bif (decide (a1.prod ≥ 0)) then (bif (a1.byte != 0) then (some false) else ((runL (fun s => L46_0 rF46 a1 s) 0).bind fun r7 => match r7 with | .k0 => (some false) | .k1 => (some true))) else ((runL (fun s => L46_0 rF46 a1 s) 0).bind fun r6 => match r6 with | .k0 => (some false) | .k1 => (some true)))) else (bif (decide (a1.prod ≥ 0)) then (bif (a1.byte != 0) then (some false) else ((runL (fun s => L46_0 rF46 a1 s) 0).bind fun r6 => match r6 with | .k0 => (some false) | .k1 => (some true))) else ((runL (fun s => L46_0 rF46 a1 s) 0).bind fun r5 => match r5 with | .k0 => (some false) | .k1 => (some true))))))
theorem F46_bok (rF46 : T_F46) (hF46 : H_F46 rF46) (a1 : TreeD) {r : Bool} (h : F46_b rF46 a1 = some r) : PR1 pg 46 [(.agg ((cT a1).map .p))] (F46_v a1 r) := by
 unfold F46_b at h
 have q0 := ((lgr tr_map) : lnA (.p (.lst 3 (eTrees a1.kids))) = some (i6 (a1.kids.length : Int)))
 apply bi h <;> intro h1 h
 ·
  rw [← sj h]
  exact fq [(6, .d true)] (av h1 apn)
 ·
  apply bi h <;> intro h2 h
  ·
   rw [← sj h]
   exact fq [(6, .d false), (10, .d true)] (av h1 (av h2 apn))
  ·
   have k1 := ka [(6, .d false), (10, .d false)] (av h1 (av h2 apn))
   apply bi h <;> intro h3 h
   ·
    have k2 := k1.a [(15, .d true), (19, .v (i6 (a1.kids.length : Int)))] (av h3 (apc q0 apn))
    apply bi h <;> intro h4 h
    ·
     rw [← sj h]
     exact fq ([(20, .d true)] ++ kH k2) (k2.b (av h4 apn))
    ·
     apply bi h <;> intro h5 h
     ·
      have k3 := k2.a [(20, .d false), (26, .d true)] (av h4 (av h5 apn))
      apply bi h <;> intro h6 h
      ·
       rw [← sj h]
       exact fq ([(30, .d true)] ++ kH k3) (k3.b (av h6 apn))
      ·
       apply bn h; intro r7 h7 h
       cases r7 with
       | k0 =>
        obtain ⟨g7, y7, e7⟩ := L46_0_run rF46 hF46 a1 0 _ h7
        rw [← sj h]
        exact fq ([(30, .d false), (2000, .l .ret ⟨fr 47 g7 [(2, vb false)], y7⟩), (6000, .d true)] ++ kH k3) (k3.b (av h6 (apc (L46_0_k a1 0) (apc (e7 : L46_0_e a1 0 = some (.ret, ⟨fr 47 g7 [(2, vb false)], y7⟩)) apn))))
       | k1 =>
        obtain ⟨g7, e7⟩ := L46_0_run rF46 hF46 a1 0 _ h7
        rw [← sj h]
        exact fq ([(30, .d false), (2000, .l (.brk 0) ⟨fr 47 g7 [(1, .ptr 0 0)], [.cells 25 ((cT a1).map .p)]⟩), (6000, .d true)] ++ kH k3) (k3.b (av h6 (apc (L46_0_k a1 0) (apc (e7 : L46_0_e a1 0 = some ((.brk 0), ⟨fr 47 g7 [(1, .ptr 0 0)], [.cells 25 ((cT a1).map .p)]⟩)) apn))))
     ·
      have k4 := k2.a [(20, .d false), (26, .d false)] (av h4 (av h5 apn))
      apply bn h; intro r6 h6 h
      cases r6 with
      | k0 =>
       obtain ⟨g6, y6, e6⟩ := L46_0_run rF46 hF46 a1 0 _ h6
       rw [← sj h]
       exact fq ([(2000, .l .ret ⟨fr 47 g6 [(2, vb false)], y6⟩), (6000, .d true)] ++ kH k4) (k4.b (apc (L46_0_k a1 0) (apc (e6 : L46_0_e a1 0 = some (.ret, ⟨fr 47 g6 [(2, vb false)], y6⟩)) apn)))
      | k1 =>
       obtain ⟨g6, e6⟩ := L46_0_run rF46 hF46 a1 0 _ h6
       rw [← sj h]
       exact fq ([(2000, .l (.brk 0) ⟨fr 47 g6 [(1, .ptr 0 0)], [.cells 25 ((cT a1).map .p)]⟩), (6000, .d true)] ++ kH k4) (k4.b (apc (L46_0_k a1 0) (apc (e6 : L46_0_e a1 0 = some ((.brk 0), ⟨fr 47 g6 [(1, .ptr 0 0)], [.cells 25 ((cT a1).map .p)]⟩)) apn)))
   ·
    apply bi h <;> intro h4 h
    ·
     have k5 := k1.a [(15, .d false), (26, .d true)] (av h3 (av h4 apn))
     apply bi h <;> intro h5 h
     ·
      rw [← sj h]
      exact fq ([(30, .d true)] ++ kH k5) (k5.b (av h5 apn))
     ·
      apply bn h; intro r6 h6 h
      cases r6 with
      | k0 =>
       obtain ⟨g6, y6, e6⟩ := L46_0_run rF46 hF46 a1 0 _ h6
       rw [← sj h]
       exact fq ([(30, .d false), (2000, .l .ret ⟨fr 47 g6 [(2, vb false)], y6⟩), (6000, .d true)] ++ kH k5) (k5.b (av h5 (apc (L46_0_k a1 0) (apc (e6 : L46_0_e a1 0 = some (.ret, ⟨fr 47 g6 [(2, vb false)], y6⟩)) apn))))
      | k1 =>
       obtain ⟨g6, e6⟩ := L46_0_run rF46 hF46 a1 0 _ h6
       rw [← sj h]
       exact fq ([(30, .d false), (2000, .l (.brk 0) ⟨fr 47 g6 [(1, .ptr 0 0)], [.cells 25 ((cT a1).map .p)]⟩), (6000, .d true)] ++ kH k5) (k5.b (av h5 (apc (L46_0_k a1 0) (apc (e6 : L46_0_e a1 0 = some ((.brk 0), ⟨fr 47 g6 [(1, .ptr 0 0)], [.cells 25 ((cT a1).map .p)]⟩)) apn))))
    ·
     have k6 := k1.a [(15, .d false), (26, .d false)] (av h3 (av h4 apn))
     apply bn h; intro r5 h5 h
     cases r5 with
     | k0 =>
      obtain ⟨g5, y5, e5⟩ := L46_0_run rF46 hF46 a1 0 _ h5
      rw [← sj h]
      exact fq ([(2000, .l .ret ⟨fr 47 g5 [(2, vb false)], y5⟩), (6000, .d true)] ++ kH k6) (k6.b (apc (L46_0_k a1 0) (apc (e5 : L46_0_e a1 0 = some (.ret, ⟨fr 47 g5 [(2, vb false)], y5⟩)) apn)))
     | k1 =>
      obtain ⟨g5, e5⟩ := L46_0_run rF46 hF46 a1 0 _ h5
      rw [← sj h]
      exact fq ([(2000, .l (.brk 0) ⟨fr 47 g5 [(1, .ptr 0 0)], [.cells 25 ((cT a1).map .p)]⟩), (6000, .d true)] ++ kH k6) (k6.b (apc (L46_0_k a1 0) (apc (e5 : L46_0_e a1 0 = some ((.brk 0), ⟨fr 47 g5 [(1, .ptr 0 0)], [.cells 25 ((cT a1).map .p)]⟩)) apn)))
def F46 : Nat → T_F46
  | 0 => fun _ => none
  | Nf + 1 => F46_b (F46 Nf)
theorem F46_ok (Nf : Nat) : H_F46 (F46 Nf) := by
  induction Nf with
  | zero => intro a1 r h; have h : (none : Option Bool) = some r := h; cases h
  | succ Nf ih => intro a1 r h; exact F46_bok (F46 Nf) ih a1 h
def F18_v (a1 : TreeD) (x0 : Int) : AV := (i6 x0)
def F18 (Nf : Nat) (a1 : TreeD) : Option Int :=
  ((F45_2 Nf a1 16384).bind fun x1 => (bif x1 then (some 3) else ((F46 Nf a1).bind fun x3 => (bif x3 then (some 0) else (some 240)))))
theorem F18_ok (Nf : Nat) (a1 : TreeD) {r : Int} (h : F18 Nf a1 = some r) : PR1 pg 18 [(.agg ((cT a1).map .p))] (F18_v a1 r) := by
 unfold F18 at h
 apply bn h; intro x1 h1 h
 apply bi h <;> intro h2 h
 ·
  rw [← sj h]
  exact fq [(4, .v (vb true))] (apc ((((F45_2_ok Nf a1 16384 h1).cp rfl _).trans (congrArg (fun z => some (vb z)) h2)) : CP pg 45 [(.agg ((cT a1).map .p)), i6 16384] [.cells 25 ((cT a1).map .p)] = some (vb true)) apn)
 ·
  have q0 := ((((F45_2_ok Nf a1 16384 h1).cp rfl _).trans (congrArg (fun z => some (vb z)) h2)) : CP pg 45 [(.agg ((cT a1).map .p)), i6 16384] [.cells 25 ((cT a1).map .p)] = some (vb false))
  apply bn h; intro x3 h3 h
  apply bi h <;> intro h4 h
  ·
   rw [← sj h]
   exact fq [(4, .v (vb false)), (6, .v (vb true))] (apc q0 (apc ((((F46_ok Nf a1 h3).cp rfl _).trans (congrArg (fun z => some (vb z)) h4)) : CP pg 46 [(.agg ((cT a1).map .p))] [.cells 25 ((cT a1).map .p)] = some (vb true)) apn))
  ·
   rw [← sj h]
   exact fq [(4, .v (vb false)), (6, .v (vb false))] (apc q0 (apc ((((F46_ok Nf a1 h3).cp rfl _).trans (congrArg (fun z => some (vb z)) h4)) : CP pg 46 [(.agg ((cT a1).map .p))] [.cells 25 ((cT a1).map .p)] = some (vb false)) apn))
inductive R_F26 where
  | k0 (x0 x1 x2 : Int)
def F26_v (a1 : TreeD) (r : R_F26) : AV := match r with | .k0 x0 x1 x2 => (.tup [i6 x0, i6 x1, i6 x2])
abbrev T_F26 := TreeD → Option R_F26
abbrev H_F26 (f : T_F26) : Prop := ∀ (a1 : TreeD) {r : R_F26}, f a1 = some r → PR1 pg 26 [(.agg ((cT a1).map .p))] (F26_v a1 r)
inductive E_L26_0 where
  | k0 (x0 x1 x2 : Int)
def L26_0 (rF26 : T_F26) (a1 : TreeD) (v1 v2 v3 v4 : Int) : Option (E_L26_0 ⊕ (Int × Int × Int × Int)) :=
  (bif (decide (v4 < (a1.kids.length : Int))) then ((getI a1.kids v4).bind fun x2 => ((rF26 x2).bind fun r3 => match r3 with | .k0 x3_0 x3_1 x3_2 => (some (.inr ((IntKind.wrap .i64 (v1 + x3_0)), (IntKind.wrap .i64 (v2 + x3_1)), (if v3 < x3_2 then x3_2 else v3), (IntKind.wrap .i64 (v4 + 1))))))) else (some (.inl (.k0 v1 v2 v3))))
def L26_0_s (a1 : TreeD) (v1 v2 v3 v4 : Int) : St := ⟨fr 45 ug [(1, .ptr 0 0), (5, i6 v1), (6, i6 v2), (7, i6 v3), (8, i6 v4)], [.cells 25 ((cT a1).map .p)]⟩
theorem L26_0_k (a1 : TreeD) (v1 v2 v3 v4 : Int) : okT 1 (L26_0_s a1 v1 v2 v3 v4).h = true := (okT_of rfl (ac rfl))
abbrev L26_0_e (a1 : TreeD) (v1 v2 v3 v4 : Int) := evH pg 1 [1, 5, 6, 7, 8] ir26_l0 (L26_0_s a1 v1 v2 v3 v4)
def L26_0_x (a1 : TreeD) (e : E_L26_0) (r : Option (Out × St)) : Prop := match e with | .k0 x0 x1 x2 => ∃ g, r = some ((.brk 0), ⟨fr 45 g [(1, .ptr 0 0), (5, i6 x0), (6, i6 x1), (7, i6 x2)], [.cells 25 ((cT a1).map .p)]⟩)
theorem L26_0_ok (rF26 : T_F26) (hF26 : H_F26 rF26) (a1 : TreeD) (v1 v2 v3 v4 : Int) {r : E_L26_0 ⊕ (Int × Int × Int × Int)} (h : L26_0 rF26 a1 v1 v2 v3 v4 = some r) : OkR (fun e => L26_0_x a1 e (L26_0_e a1 v1 v2 v3 v4)) (fun s => L26_0_e a1 v1 v2 v3 v4 = L26_0_e a1 s.1 s.2.1 s.2.2.1 s.2.2.2) r := by
 unfold L26_0 at h
 have q0 := ((lgr tr_map) : lnA (.p (.lst 3 (eTrees a1.kids))) = some (i6 (a1.kids.length : Int)))
 apply bi h <;> intro h1 h
 ·
  apply bn h; intro x2 h2 h
  apply bn h; intro r3 h3 h
  cases r3 with
  | k0 x3_0 x3_1 x3_2 =>
   rw [← sj h]
   exact rn [(18, .v (i6 (a1.kids.length : Int))), (19, .d true), (26, .v (.ro (cT x2))), (28, .v (.tup [i6 x3_0, i6 x3_1, i6 x3_2])), (6000, .d true)] (apc q0 (av h1 (apc ((igr tr_map h2) : idxA 3 (.p (.lst 3 (eTrees a1.kids))) (i6 v4) = some (.ro (cT x2))) (apc (((hF26 x2 h3).cp rfl _) : CP pg 26 [(.agg ((cT x2).map .p))] [.cells 25 ((cT a1).map .p)] = some (.tup [i6 x3_0, i6 x3_1, i6 x3_2])) (apc (L26_0_k a1 (w6 (v1 + x3_0)) (w6 (v2 + x3_1)) (if v3 < x3_2 then x3_2 else v3) (w6 (v4 + 1))) apn)))))
 ·
  rw [← sj h]
  exact xb [(18, .v (i6 (a1.kids.length : Int))), (19, .d false), (6000, .d true)] (apc q0 (av h1 apn))
theorem L26_0_run (rF26 : T_F26) (hF26 : H_F26 rF26) (a1 : TreeD) (s0 : Int × Int × Int × Int) (e : E_L26_0) (h : runL (fun s => L26_0 rF26 a1 s.1 s.2.1 s.2.2.1 s.2.2.2) s0 = some e) : L26_0_x a1 e (L26_0_e a1 s0.1 s0.2.1 s0.2.2.1 s0.2.2.2) := by
  have q := @loop_sound' (Int × Int × Int × Int) E_L26_0 (fun s => L26_0 rF26 a1 s.1 s.2.1 s.2.2.1 s.2.2.2) (fun s => L26_0_e a1 s.1 s.2.1 s.2.2.1 s.2.2.2) (L26_0_x a1) (fun s r h => L26_0_ok rF26 hF26 a1 s.1 s.2.1 s.2.2.1 s.2.2.2 h) s0 e h
  exact q
inductive E_L26_0_2 where
  | k0 (x0 x1 x2 : Int)
def L26_0_2 (rF26 : T_F26) (a1 : TreeD) (v1 v2 v3 v4 : Int) : Option (E_L26_0_2 ⊕ (Int × Int × Int × Int)) :=
  (bif (decide (v4 < (a1.kids.length : Int))) then ((getI a1.kids v4).bind fun x2 => ((rF26 x2).bind fun r3 => match r3 with | .k0 x3_0 x3_1 x3_2 => (some (.inr ((IntKind.wrap .i64 (v1 + x3_0)), (IntKind.wrap .i64 (v2 + x3_1)), (if v3 < x3_2 then x3_2 else v3), (IntKind.wrap .i64 (v4 + 1))))))) else (some (.inl (.k0 v1 v2 v3))))
def L26_0_2_s (a1 : TreeD) (v1 v2 v3 v4 : Int) : St := ⟨fr 45 ug [(1, .ptr 0 0), (5, i6 v1), (6, i6 v2), (7, i6 v3), (8, i6 v4)], [.cells 25 ((cT a1).map .p)]⟩
theorem L26_0_2_k (a1 : TreeD) (v1 v2 v3 v4 : Int) : okT 1 (L26_0_2_s a1 v1 v2 v3 v4).h = true := (okT_of rfl (ac rfl))
abbrev L26_0_2_e (a1 : TreeD) (v1 v2 v3 v4 : Int) := evH pg 1 [1, 5, 6, 7, 8] ir26_l0 (L26_0_2_s a1 v1 v2 v3 v4)
def L26_0_2_x (a1 : TreeD) (e : E_L26_0_2) (r : Option (Out × St)) : Prop := match e with | .k0 x0 x1 x2 => ∃ g, r = some ((.brk 0), ⟨fr 45 g [(1, .ptr 0 0), (5, i6 x0), (6, i6 x1), (7, i6 x2)], [.cells 25 ((cT a1).map .p)]⟩)
theorem L26_0_2_ok (rF26 : T_F26) (hF26 : H_F26 rF26) (a1 : TreeD) (v1 v2 v3 v4 : Int) {r : E_L26_0_2 ⊕ (Int × Int × Int × Int)} (h : L26_0_2 rF26 a1 v1 v2 v3 v4 = some r) : OkR (fun e => L26_0_2_x a1 e (L26_0_2_e a1 v1 v2 v3 v4)) (fun s => L26_0_2_e a1 v1 v2 v3 v4 = L26_0_2_e a1 s.1 s.2.1 s.2.2.1 s.2.2.2) r := by
 unfold L26_0_2 at h
 have q0 := ((lgr tr_map) : lnA (.p (.lst 3 (eTrees a1.kids))) = some (i6 (a1.kids.length : Int)))
 apply bi h <;> intro h1 h
 ·
  apply bn h; intro x2 h2 h
  apply bn h; intro r3 h3 h
  cases r3 with
  | k0 x3_0 x3_1 x3_2 =>
   rw [← sj h]
   exact rn [(18, .v (i6 (a1.kids.length : Int))), (19, .d true), (26, .v (.ro (cT x2))), (28, .v (.tup [i6 x3_0, i6 x3_1, i6 x3_2])), (6000, .d true)] (apc q0 (av h1 (apc ((igr tr_map h2) : idxA 3 (.p (.lst 3 (eTrees a1.kids))) (i6 v4) = some (.ro (cT x2))) (apc (((hF26 x2 h3).cp rfl _) : CP pg 26 [(.agg ((cT x2).map .p))] [.cells 25 ((cT a1).map .p)] = some (.tup [i6 x3_0, i6 x3_1, i6 x3_2])) (apc (L26_0_2_k a1 (w6 (v1 + x3_0)) (w6 (v2 + x3_1)) (if v3 < x3_2 then x3_2 else v3) (w6 (v4 + 1))) apn)))))
 ·
  rw [← sj h]
  exact xb [(18, .v (i6 (a1.kids.length : Int))), (19, .d false), (6000, .d true)] (apc q0 (av h1 apn))
theorem L26_0_2_run (rF26 : T_F26) (hF26 : H_F26 rF26) (a1 : TreeD) (s0 : Int × Int × Int × Int) (e : E_L26_0_2) (h : runL (fun s => L26_0_2 rF26 a1 s.1 s.2.1 s.2.2.1 s.2.2.2) s0 = some e) : L26_0_2_x a1 e (L26_0_2_e a1 s0.1 s0.2.1 s0.2.2.1 s0.2.2.2) := by
  have q := @loop_sound' (Int × Int × Int × Int) E_L26_0_2 (fun s => L26_0_2 rF26 a1 s.1 s.2.1 s.2.2.1 s.2.2.2) (fun s => L26_0_2_e a1 s.1 s.2.1 s.2.2.1 s.2.2.2) (L26_0_2_x a1) (fun s r h => L26_0_2_ok rF26 hF26 a1 s.1 s.2.1 s.2.2.1 s.2.2.2 h) s0 e h
  exact q
def F26_b (rF26 : T_F26) (a1 : TreeD) : Option R_F26 :=
  (bif (decide (a1.prod < 0)) then ((runL (fun s => L26_0 rF26 a1 s.1 s.2.1 s.2.2.1 s.2.2.2) (1, 1, 0, 0)).bind fun r2 => match r2 with | .k0 x2_0 x2_1 x2_2 => (some (.k0 x2_0 x2_1 (IntKind.wrap .i64 (x2_2 + 1))))) else ((runL (fun s => L26_0_2 rF26 a1 s.1 s.2.1 s.2.2.1 s.2.2.2) (1, 0, 0, 0)).bind fun r2 => match r2 with | .k0 x2_0 x2_1 x2_2 => (some (.k0 x2_0 x2_1 (IntKind.wrap .i64 (x2_2 + 1))))))
abbrev F26_d0 (g2 : Nat → AV) (x2_0 x2_1 x2_2 : Int) (a1 : TreeD) : St := ⟨fr 45 g2 [(1, .ptr 0 0), (5, i6 x2_0), (6, i6 x2_1), (7, i6 x2_2)], [.cells 25 ((cT a1).map .p)]⟩
theorem F26_bok (rF26 : T_F26) (hF26 : H_F26 rF26) (a1 : TreeD) {r : R_F26} (h : F26_b rF26 a1 = some r) : PR1 pg 26 [(.agg ((cT a1).map .p))] (F26_v a1 r) := by
 unfold F26_b at h
 apply bi h <;> intro h1 h
 ·
  apply bn h; intro r2 h2 h
  cases r2 with
  | k0 x2_0 x2_1 x2_2 =>
   obtain ⟨g2, e2⟩ := L26_0_run rF26 hF26 a1 (1, 1, 0, 0) _ h2
   rw [← sj h]
   exact fq [(14, .d true), (2000, .l (.brk 0) (F26_d0 g2 x2_0 x2_1 x2_2 a1)), (6000, .d true)] (av h1 (apc (L26_0_k a1 1 1 0 0) (apc (e2 : L26_0_e a1 1 1 0 0 = some ((.brk 0), F26_d0 g2 x2_0 x2_1 x2_2 a1)) apn)))
 ·
  apply bn h; intro r2 h2 h
  cases r2 with
  | k0 x2_0 x2_1 x2_2 =>
   obtain ⟨g2, e2⟩ := L26_0_2_run rF26 hF26 a1 (1, 0, 0, 0) _ h2
   rw [← sj h]
   exact fq [(14, .d false), (2000, .l (.brk 0) (F26_d0 g2 x2_0 x2_1 x2_2 a1)), (6000, .d true)] (av h1 (apc (L26_0_2_k a1 1 0 0 0) (apc (e2 : L26_0_2_e a1 1 0 0 0 = some ((.brk 0), F26_d0 g2 x2_0 x2_1 x2_2 a1)) apn)))
def F26 : Nat → T_F26
  | 0 => fun _ => none
  | Nf + 1 => F26_b (F26 Nf)
theorem F26_ok (Nf : Nat) : H_F26 (F26 Nf) := by
  induction Nf with
  | zero => intro a1 r h; have h : (none : Option R_F26) = some r := h; cases h
  | succ Nf ih => intro a1 r h; exact F26_bok (F26 Nf) ih a1 h
inductive E_L35_0_3 where
  | k0 (x0 : Int)
def L35_0_3 (Nf : Nat) (a1 : List Int) (a3 : Int) (a6 : List TreeD) (v1 v2 : Int) : Option (E_L35_0_3 ⊕ (Int × Int)) :=
  ((getI a1 a3).bind fun x1 => (bif (decide (v2 < x1)) then ((getI a6 v2).bind fun x3 => ((F26 Nf x3).bind fun r4 => match r4 with | .k0 x4_0 x4_1 x4_2 => (some (.inr ((IntKind.wrap .i64 (v1 + x4_1)), (IntKind.wrap .i64 (v2 + 1))))))) else (some (.inl (.k0 v1)))))
def L35_0_3_s (a1 : List Int) (a3 a4 a5 : Int) (a6 : List TreeD) (v1 v2 : Int) : St := ⟨fr 86 ug [(1, ls 1 eI64 a1), (2, .ptr 0 0), (4, .ptr 2 0), (9, i6 v1), (10, i6 a3), (11, i6 v2)], [.cells 25 [i6 a4, vi .u8 a5, (.p (.lst 3 (eTrees a6)))], yT0, .cells 25 [i6 0, vi .u8 0, .sl 1 0 3 0 0]]⟩
theorem L35_0_3_k (a1 : List Int) (a3 a4 a5 : Int) (a6 : List TreeD) (v1 v2 : Int) : okT 3 (L35_0_3_s a1 a3 a4 a5 a6 v1 v2).h = true := (okT_of rfl (ac (ar (ac rfl))))
abbrev L35_0_3_e (a1 : List Int) (a3 a4 a5 : Int) (a6 : List TreeD) (v1 v2 : Int) := evH pg 3 [1, 2, 4, 9, 10, 11] ir35_l0 (L35_0_3_s a1 a3 a4 a5 a6 v1 v2)
def L35_0_3_x (a1 : List Int) (a3 a4 a5 : Int) (a6 : List TreeD) (e : E_L35_0_3) (r : Option (Out × St)) : Prop := match e with | .k0 x0 => ∃ g, r = some ((.brk 2), ⟨fr 86 g [(1, ls 1 eI64 a1), (2, .ptr 0 0), (4, .ptr 2 0), (9, i6 x0), (10, i6 a3)], [.cells 25 [i6 a4, vi .u8 a5, (.p (.lst 3 (eTrees a6)))], yT0, .cells 25 [i6 0, vi .u8 0, .sl 1 0 3 0 0]]⟩)
theorem L35_0_3_ok (Nf : Nat) (a1 : List Int) (a3 a4 a5 : Int) (a6 : List TreeD) (v1 v2 : Int) {r : E_L35_0_3 ⊕ (Int × Int)} (h : L35_0_3 Nf a1 a3 a6 v1 v2 = some r) : OkR (fun e => L35_0_3_x a1 a3 a4 a5 a6 e (L35_0_3_e a1 a3 a4 a5 a6 v1 v2)) (fun s => L35_0_3_e a1 a3 a4 a5 a6 v1 v2 = L35_0_3_e a1 a3 a4 a5 a6 s.1 s.2) r := by
 unfold L35_0_3 at h
 apply bn h; intro x1 h1 h
 have k0 := ka [(49, .v (.ro [.val (.int .i64 x1)]))] (apc (ig eI64 1 .i64 h1) apn)
 apply bi h <;> intro h2 h
 ·
  apply bn h; intro x3 h3 h
  apply bn h; intro r4 h4 h
  cases r4 with
  | k0 x4_0 x4_1 x4_2 =>
   rw [← sj h]
   exact rn ([(51, .d true), (58, .v (.ro (cT x3))), (60, .v (.tup [i6 x4_0, i6 x4_1, i6 x4_2])), (6000, .d true)] ++ kH k0) (k0.b (av h2 (apc ((igr tr_map h3) : idxA 3 (.p (.lst 3 (eTrees a6))) (i6 v2) = some (.ro (cT x3))) (apc (((F26_ok Nf x3 h4).cp rfl _) : CP pg 26 [(.agg ((cT x3).map .p))] [.cells 25 [i6 a4, vi .u8 a5, (.p (.lst 3 (eTrees a6)))], yT0, .cells 25 [i6 0, vi .u8 0, .sl 1 0 3 0 0]] = some (.tup [i6 x4_0, i6 x4_1, i6 x4_2])) (apc (L35_0_3_k a1 a3 a4 a5 a6 (w6 (v1 + x4_1)) (w6 (v2 + 1))) apn)))))
 ·
  rw [← sj h]
  exact xb ([(51, .d false), (6000, .d true)] ++ kH k0) (k0.b (av h2 apn))
theorem L35_0_3_run (Nf : Nat) (a1 : List Int) (a3 a4 a5 : Int) (a6 : List TreeD) (s0 : Int × Int) (e : E_L35_0_3) (h : runL (fun s => L35_0_3 Nf a1 a3 a6 s.1 s.2) s0 = some e) : L35_0_3_x a1 a3 a4 a5 a6 e (L35_0_3_e a1 a3 a4 a5 a6 s0.1 s0.2) := by
  have q := @loop_sound' (Int × Int) E_L35_0_3 (fun s => L35_0_3 Nf a1 a3 a6 s.1 s.2) (fun s => L35_0_3_e a1 a3 a4 a5 a6 s.1 s.2) (L35_0_3_x a1 a3 a4 a5 a6) (fun s r h => L35_0_3_ok Nf a1 a3 a4 a5 a6 s.1 s.2 h) s0 e h
  exact q
inductive E_L35_1 where
  | k0 (x0 x1 : Int) (x2 : List TreeD)
  | k1 (x0 x1 x2 : Int) (x3 : List TreeD)
def L35_1 (Nf : Nat) (a1 : List Int) (v1 v2 v3 v4 : Int) (v5 : List TreeD) : Option (E_L35_1 ⊕ (Int × Int × Int × Int × (List TreeD))) :=
  (bif (decide (v2 < (a1.length : Int))) then ((getI a1 v2).bind fun x2 => (bif (decide (x2 < 0)) then (some (.inl (.k0 v3 v4 v5))) else (bif (decide (x2 ≥ (v5.length : Int))) then (some (.inl (.k0 v3 v4 v5))) else ((runL (fun s => L35_0_3 Nf a1 v2 v5 s.1 s.2) (v1, 0)).bind fun r5 => match r5 with | .k0 x5_0 => ((getI v5 x2).bind fun x6 => (some (.inr (x5_0, (IntKind.wrap .i64 (v2 + 1)), x6.prod, x6.byte, x6.kids)))))))) else (some (.inl (.k1 v1 v3 v4 v5))))
def L35_1_s (a1 : List Int) (v1 v2 v3 v4 : Int) (v5 : List TreeD) : St := ⟨fr 86 ug [(1, ls 1 eI64 a1), (2, .ptr 0 0), (4, .ptr 2 0), (9, i6 v1), (10, i6 v2)], [.cells 25 [i6 v3, vi .u8 v4, (.p (.lst 3 (eTrees v5)))], yT0, .cells 25 [i6 0, vi .u8 0, .sl 1 0 3 0 0]]⟩
theorem L35_1_k (a1 : List Int) (v1 v2 v3 v4 : Int) (v5 : List TreeD) : okT 3 (L35_1_s a1 v1 v2 v3 v4 v5).h = true := (okT_of rfl (ac (ar (ac rfl))))
abbrev L35_1_e (a1 : List Int) (v1 v2 v3 v4 : Int) (v5 : List TreeD) := evH pg 3 [1, 2, 4, 9, 10] ir35_l1 (L35_1_s a1 v1 v2 v3 v4 v5)
def L35_1_x (a1 : List Int) (e : E_L35_1) (r : Option (Out × St)) : Prop := match e with | .k0 x0 x1 x2 => ∃ g, r = some (.ret, ⟨fr 86 g [(4, .ptr 2 0), (5, i6 0), (6, i6 0), (7, i6 5)], [.cells 25 [i6 x0, vi .u8 x1, (.p (.lst 3 (eTrees x2)))], yT0, .cells 25 [i6 0, vi .u8 0, (.p (.lst 3 (eTrees ([]))))]]⟩) | .k1 x0 x1 x2 x3 => ∃ g, r = some ((.brk 0), ⟨fr 86 g [(2, .ptr 0 0), (4, .ptr 2 0), (9, i6 x0)], [.cells 25 [i6 x1, vi .u8 x2, (.p (.lst 3 (eTrees x3)))], yT0, .cells 25 [i6 0, vi .u8 0, .sl 1 0 3 0 0]]⟩)
abbrev L35_1_d0 (g5 : Nat → AV) (a1 : List Int) (x5_0 v2 v3 v4 : Int) (v5 : List TreeD) : St := ⟨fr 86 g5 [(1, ls 1 eI64 a1), (2, .ptr 0 0), (4, .ptr 2 0), (9, i6 x5_0), (10, i6 v2)], [.cells 25 [i6 v3, vi .u8 v4, (.p (.lst 3 (eTrees v5)))], yT0, .cells 25 [i6 0, vi .u8 0, .sl 1 0 3 0 0]]⟩
theorem L35_1_ok (Nf : Nat) (a1 : List Int) (v1 v2 v3 v4 : Int) (v5 : List TreeD) {r : E_L35_1 ⊕ (Int × Int × Int × Int × (List TreeD))} (h : L35_1 Nf a1 v1 v2 v3 v4 v5 = some r) : OkR (fun e => L35_1_x a1 e (L35_1_e a1 v1 v2 v3 v4 v5)) (fun s => L35_1_e a1 v1 v2 v3 v4 v5 = L35_1_e a1 s.1 s.2.1 s.2.2.1 s.2.2.2.1 s.2.2.2.2) r := by
 unfold L35_1 at h
 have q0 := ((lgr tr_map) : lnA (.p (.lst 3 (eTrees v5))) = some (i6 (v5.length : Int)))
 have k1 := ka [(26, .v (i6 (a1.length : Int)))] (apc (lg a1 eI64 1) apn)
 apply bi h <;> intro h1 h
 ·
  apply bn h; intro x2 h2 h
  have k2 := k1.a [(27, .d true), (32, .v (.ro [.val (.int .i64 x2)]))] (av h1 (apc (ig eI64 1 .i64 h2) apn))
  apply bi h <;> intro h3 h
  ·
   rw [← sj h]
   exact xr ([(34, .d true), (6000, .d true)] ++ kH k2) (k2.b (av h3 apn))
  ·
   have k3 := k2.a [(34, .d false), (38, .v (.ro [.val (.int .i64 x2)])), (42, .v (i6 (v5.length : Int)))] (av h3 (apc (ig eI64 1 .i64 h2) (apc q0 apn)))
   apply bi h <;> intro h4 h
   ·
    rw [← sj h]
    exact xr ([(43, .d true), (6000, .d true)] ++ kH k3) (k3.b (av h4 apn))
   ·
    apply bn h; intro r5 h5 h
    cases r5 with
    | k0 x5_0 =>
     obtain ⟨g5, e5⟩ := L35_0_3_run Nf a1 v2 v3 v4 v5 (v1, 0) _ h5
     apply bn h; intro x6 h6 h
     rw [← sj h]
     exact rn ([(43, .d false), (2002, .l (.brk 2) (L35_1_d0 g5 a1 x5_0 v2 v3 v4 v5)), (71, .v (.ro [.val (.int .i64 x2)])), (73, .v (.ro (cT x6))), (6000, .d true)] ++ kH k3) (k3.b (av h4 (apc (L35_0_3_k a1 v2 v3 v4 v5 v1 0) (apc (e5 : L35_0_3_e a1 v2 v3 v4 v5 v1 0 = some ((.brk 2), L35_1_d0 g5 a1 x5_0 v2 v3 v4 v5)) (apc (ig eI64 1 .i64 h2) (apc ((igr tr_map h6) : idxA 3 (.p (.lst 3 (eTrees v5))) (i6 x2) = some (.ro (cT x6))) (apc (L35_1_k a1 x5_0 (w6 (v2 + 1)) x6.prod x6.byte x6.kids) apn)))))))
 ·
  rw [← sj h]
  exact xb ([(27, .d false), (6000, .d true)] ++ kH k1) (k1.b (av h1 apn))
theorem L35_1_run (Nf : Nat) (a1 : List Int) (s0 : Int × Int × Int × Int × (List TreeD)) (e : E_L35_1) (h : runL (fun s => L35_1 Nf a1 s.1 s.2.1 s.2.2.1 s.2.2.2.1 s.2.2.2.2) s0 = some e) : L35_1_x a1 e (L35_1_e a1 s0.1 s0.2.1 s0.2.2.1 s0.2.2.2.1 s0.2.2.2.2) := by
  have q := @loop_sound' (Int × Int × Int × Int × (List TreeD)) E_L35_1 (fun s => L35_1 Nf a1 s.1 s.2.1 s.2.2.1 s.2.2.2.1 s.2.2.2.2) (fun s => L35_1_e a1 s.1 s.2.1 s.2.2.1 s.2.2.2.1 s.2.2.2.2) (L35_1_x a1) (fun s r h => L35_1_ok Nf a1 s.1 s.2.1 s.2.2.1 s.2.2.2.1 s.2.2.2.2 h) s0 e h
  exact q
inductive R_F35 where
  | k0 (x0 x1 : Int) (x2 : List TreeD) (x3 x4 x5 : Int)
def F35_v (a1 : TreeD) (a2 : List Int) (r : R_F35) : AV := match r with | .k0 x0 x1 x2 x3 x4 x5 => (.tup [(.agg [i6 x0, vi .u8 x1, (.p (.lst 3 (eTrees x2)))]), i6 x3, i6 x4, i6 x5])
def F35 (Nf : Nat) (a1 : TreeD) (a2 : List Int) : Option R_F35 :=
  ((F18 Nf a1).bind fun x1 => (bif (x1 != 0) then (some (.k0 0 0 ([]) 0 0 x1)) else ((runL (fun s => L35_1 Nf a2 s.1 s.2.1 s.2.2.1 s.2.2.2.1 s.2.2.2.2) (0, 0, a1.prod, a1.byte, a1.kids)).bind fun r3 => match r3 with | .k0 x3_0 x3_1 x3_2 => (some (.k0 0 0 ([]) 0 0 5)) | .k1 x3_0 x3_1 x3_2 x3_3 => ((F26 Nf (TreeD.mk x3_1 x3_2 x3_3)).bind fun r4 => match r4 with | .k0 x4_0 x4_1 x4_2 => (some (.k0 x3_1 x3_2 x3_3 x3_0 (IntKind.wrap .i64 (x3_0 + x4_1)) 0))))))
theorem F35_ok (Nf : Nat) (a1 : TreeD) (a2 : List Int) {r : R_F35} (h : F35 Nf a1 a2 = some r) : PR1 pg 35 [(.agg ((cT a1).map .p)), ls 1 eI64 a2] (F35_v a1 a2 r) := by
 unfold F35 at h
 apply bn h; intro x1 h1 h
 have q0 := (((F18_ok Nf a1 h1).cp rfl _) : CP pg 18 [(.agg ((cT a1).map .p))] [.cells 25 ((cT a1).map .p), yT0, .cells 25 [i6 0, vi .u8 0, .sl 1 0 3 0 0]] = some (i6 x1))
 apply bi h <;> intro h2 h
 ·
  rw [← sj h]
  exact fq [(19, .v (i6 x1)), (21, .d true)] (apc q0 (av h2 apn))
 ·
  have k1 := ka [(19, .v (i6 x1)), (21, .d false)] (apc q0 (av h2 apn))
  apply bn h; intro r3 h3 h
  cases r3 with
  | k0 x3_0 x3_1 x3_2 =>
   obtain ⟨g3, e3⟩ := L35_1_run Nf a2 (0, 0, a1.prod, a1.byte, a1.kids) _ h3
   rw [← sj h]
   exact fq ([(2000, .l .ret ⟨fr 86 g3 [(4, .ptr 2 0), (5, i6 0), (6, i6 0), (7, i6 5)], [.cells 25 [i6 x3_0, vi .u8 x3_1, (.p (.lst 3 (eTrees x3_2)))], yT0, .cells 25 [i6 0, vi .u8 0, (.p (.lst 3 (eTrees ([]))))]]⟩), (6000, .d true)] ++ kH k1) (k1.b (apc (L35_1_k a2 0 0 a1.prod a1.byte a1.kids) (apc (e3 : L35_1_e a2 0 0 a1.prod a1.byte a1.kids = some (.ret, ⟨fr 86 g3 [(4, .ptr 2 0), (5, i6 0), (6, i6 0), (7, i6 5)], [.cells 25 [i6 x3_0, vi .u8 x3_1, (.p (.lst 3 (eTrees x3_2)))], yT0, .cells 25 [i6 0, vi .u8 0, (.p (.lst 3 (eTrees ([]))))]]⟩)) apn)))
  | k1 x3_0 x3_1 x3_2 x3_3 =>
   obtain ⟨g3, e3⟩ := L35_1_run Nf a2 (0, 0, a1.prod, a1.byte, a1.kids) _ h3
   apply bn h; intro r4 h4 h
   cases r4 with
   | k0 x4_0 x4_1 x4_2 =>
    rw [← sj h]
    exact fq ([(2000, .l (.brk 0) ⟨fr 86 g3 [(2, .ptr 0 0), (4, .ptr 2 0), (9, i6 x3_0)], [.cells 25 [i6 x3_1, vi .u8 x3_2, (.p (.lst 3 (eTrees x3_3)))], yT0, .cells 25 [i6 0, vi .u8 0, .sl 1 0 3 0 0]]⟩), (77, .v (.tup [i6 x4_0, i6 x4_1, i6 x4_2])), (6000, .d true)] ++ kH k1) (k1.b (apc (L35_1_k a2 0 0 a1.prod a1.byte a1.kids) (apc (e3 : L35_1_e a2 0 0 a1.prod a1.byte a1.kids = some ((.brk 0), ⟨fr 86 g3 [(2, .ptr 0 0), (4, .ptr 2 0), (9, i6 x3_0)], [.cells 25 [i6 x3_1, vi .u8 x3_2, (.p (.lst 3 (eTrees x3_3)))], yT0, .cells 25 [i6 0, vi .u8 0, .sl 1 0 3 0 0]]⟩)) (apc (((F26_ok Nf (TreeD.mk x3_1 x3_2 x3_3) h4).cp rfl _) : CP pg 26 [(.agg [i6 x3_1, vi .u8 x3_2, (.p (.lst 3 (eTrees x3_3)))])] [.cells 25 [i6 x3_1, vi .u8 x3_2, (.p (.lst 3 (eTrees x3_3)))], yT0, .cells 25 [i6 0, vi .u8 0, .sl 1 0 3 0 0]] = some (.tup [i6 x4_0, i6 x4_1, i6 x4_2])) apn))))
inductive R_F59 where
  | k0 (x0 x1 : Int) (x2 : List TreeD)
def F59_v (a1 a2 : TreeD) (a3 : List Int) (r : R_F59) : AV := match r with | .k0 x0 x1 x2 => (.agg [i6 x0, vi .u8 x1, (.p (.lst 3 (eTrees x2)))])
abbrev T_F59 := TreeD → TreeD → (List Int) → Option R_F59
abbrev H_F59 (f : T_F59) : Prop := ∀ (a1 a2 : TreeD) (a3 : List Int) {r : R_F59}, f a1 a2 a3 = some r → PR1 pg 59 [(.agg ((cT a1).map .p)), (.agg ((cT a2).map .p)), ls 1 eI64 a3] (F59_v a1 a2 a3 r)
def F59_b (rF59 : T_F59) (a1 a2 : TreeD) (a3 : List Int) : Option R_F59 :=
  (bif ((a3.length : Int) == 0) then (some (.k0 a2.prod a2.byte a2.kids)) else (bif (nilOk a1.kids.length 40) then ((getI a3 0).bind fun x3 => ((ixN a1.kids.length x3).bind fun x4 => ((a1.kids[x4]?).bind fun x5 => (bif (sl_ok 1 (a3.length : Int) a3.length) then ((rF59 x5 a2 (a3.drop (Int.toNat 1))).bind fun r7 => match r7 with | .k0 x7_0 x7_1 x7_2 => (bif (decide (a1.kids.length ≤ (a1.kids.set x4 (TreeD.mk x7_0 x7_1 x7_2)).length)) then (some (.k0 a1.prod a1.byte ((a1.kids.set x4 (TreeD.mk x7_0 x7_1 x7_2)).take a1.kids.length))) else none)) else none)))) else none))
abbrev F59_d0 (a1 a2 : TreeD) : List AB := [.cells 25 ((cT a1).map .p), .cells 25 ((cT a2).map .p), yT0, .cells 25 [i6 0, vi .u8 0, .sl 2 0 3 0 0]]
abbrev F59_d1 (a1 a2 : TreeD) : List AB := [.cells 25 ((cT a1).map .p), .cells 25 ((cT a2).map .p), yT0, .cells 25 [i6 0, vi .u8 0, .sl 2 0 3 0 0], yT 0 a1.kids]
abbrev F59_d2 (a1 a2 : TreeD) : List AB := [.cells 25 [i6 a1.prod, vi .u8 a1.byte, .sl 4 0 3 0 a1.kids.length], .cells 25 ((cT a2).map .p), yT0, .cells 25 [i6 0, vi .u8 0, .sl 2 0 3 0 0], yT 0 a1.kids]
abbrev F59_d3 (a1 a2 : TreeD) (x4 : Nat) (x7_0 x7_1 : Int) (x7_2 : List TreeD) : List AB := [.cells 25 [i6 a1.prod, vi .u8 a1.byte, .sl 4 0 3 0 a1.kids.length], .cells 25 ((cT a2).map .p), yT0, .cells 25 [i6 0, vi .u8 0, .sl 2 0 3 0 0], yT 0 (a1.kids.set x4 (TreeD.mk x7_0 x7_1 x7_2))]
theorem F59_bok (rF59 : T_F59) (hF59 : H_F59 rF59) (a1 a2 : TreeD) (a3 : List Int) {r : R_F59} (h : F59_b rF59 a1 a2 a3 = some r) : PR1 pg 59 [(.agg ((cT a1).map .p)), (.agg ((cT a2).map .p)), ls 1 eI64 a3] (F59_v a1 a2 a3 r) := by
 unfold F59_b at h
 have k0 := ka [(8, .v (i6 (a3.length : Int)))] (apc (lg a3 eI64 1) apn)
 apply bi h <;> intro h1 h
 ·
  rw [← sj h]
  exact fq ([(9, .d true)] ++ kH k0) (k0.b (av h1 apn))
 ·
  apply bi h <;> intro h2 h
  ·
   have q1 := ((ap_nil (h := (F59_d0 a1 a2)) (e := cT) (news := a1.kids) (rows_lr tr_map) rfl h2) : appA (F59_d0 a1 a2) 25 3 40 n0 (.p (.lst 3 (eTrees a1.kids))) = some ((.sl 4 0 3 0 a1.kids.length), F59_d1 a1 a2))
   have k2 := k0.a [(9, .d false), (13, .r (.sl 4 0 3 0 a1.kids.length) (F59_d1 a1 a2))] (av h1 (apc q1 apn))
   apply bn h; intro x3 h3 h
   have k3 := k2.a [(18, .v (.ro [.val (.int .i64 x3)])), (23, .v (.ro [.val (.int .i64 x3)]))] (apc (ig eI64 1 .i64 h3) (apc (ig eI64 1 .i64 h3) apn))
   apply bn h; intro x4 h4 h
   have q4 := ((idx_sl h4) : idxA 3 (.sl 4 0 3 0 a1.kids.length) (i6 x3) = some (.rp 4 0 3 x4 0))
   apply bn h; intro x5 h5 h
   have q5 := ((ld_row rfl h5 rfl) : ldA (F59_d2 a1 a2) .true 3 (.rp 4 0 3 x4 0) = some (.agg ((cT x5).map .p)))
   have k6 := k3.a [(25, .v (.rp 4 0 3 x4 0)), (26, .v (.agg ((cT x5).map .p)))] (apc q4 (apc q5 apn))
   apply bi h <;> intro h6 h
   ·
    have q7 := ((sl_hi h6) : slL 1 (ls 1 eI64 a3) (some 1) (some (((a3.map eI64).length : Nat) : Int)) = some (.p (.lst 1 ((a3.drop (Int.toNat 1)).map eI64))))
    have k8 := k6.a [(29, .v (.p (.lst 1 ((a3.drop (Int.toNat 1)).map eI64))))] (apc q7 apn)
    apply bn h; intro r7 h7 h
    cases r7 with
    | k0 x7_0 x7_1 x7_2 =>
     have q9 := (((hF59 x5 a2 (a3.drop (Int.toNat 1)) h7).cp rfl _) : CP pg 59 [(.agg ((cT x5).map .p)), (.agg ((cT a2).map .p)), (.p (.lst 1 ((a3.drop (Int.toNat 1)).map eI64)))] (F59_d2 a1 a2) = some (.agg [i6 x7_0, vi .u8 x7_1, (.p (.lst 3 (eTrees x7_2)))]))
     have q10 := (⟨st_row (v' := (TreeD.mk x7_0 x7_1 x7_2)) rfl h5 rfl rfl (Nat.le_of_ble_eq_true rfl) rfl, rfl⟩ : stA (F59_d2 a1 a2) 3 (.rp 4 0 3 x4 0) (.agg [i6 x7_0, vi .u8 x7_1, (.p (.lst 3 (eTrees x7_2)))]) = some (F59_d3 a1 a2 x4 x7_0 x7_1 x7_2) ∧ ud = ud)
     have k11 := k8.a [(30, .v (.agg [i6 x7_0, vi .u8 x7_1, (.p (.lst 3 (eTrees x7_2)))])), (31, .v (.rp 4 0 3 x4 0)), (1031, .r ud (F59_d3 a1 a2 x4 x7_0 x7_1 x7_2))] (apc q9 (apc q4 (apc q10 apn)))
     apply bi h <;> intro h8 h
     ·
      rw [← sj h]
      exact fpo (v := (.agg [i6 a1.prod, vi .u8 a1.byte, .sl 4 0 3 0 a1.kids.length])) (h' := [.cells 25 [i6 a1.prod, vi .u8 a1.byte, .sl 4 0 3 0 a1.kids.length], .cells 25 ((cT a2).map .p), yT0, .cells 25 [i6 a1.prod, vi .u8 a1.byte, .sl 4 0 3 0 a1.kids.length], yT 0 (a1.kids.set x4 (TreeD.mk x7_0 x7_1 x7_2))]) (kH k11) (k11.b apn) (purA_agg (purAs_cons rfl (purAs_cons rfl (purAs_cons (purA_slr (e := cT) tr_map rfl h8) purAs_nil)))) (by kernel_rfl)
     ·
      cases h
   ·
    cases h
  ·
   cases h
def F59 : Nat → T_F59
  | 0 => fun _ _ _ => none
  | Nf + 1 => F59_b (F59 Nf)
theorem F59_ok (Nf : Nat) : H_F59 (F59 Nf) := by
  induction Nf with
  | zero => intro a1 a2 a3 r h; have h : (none : Option R_F59) = some r := h; cases h
  | succ Nf ih => intro a1 a2 a3 r h; exact F59_bok (F59 Nf) ih a1 a2 a3 h
inductive R_F36 where
  | k0 (x0 x1 : Int) (x2 : List TreeD) (x3 : Int)
def F36_v (a1 a2 : TreeD) (a3 : List Int) (r : R_F36) : AV := match r with | .k0 x0 x1 x2 x3 => (.tup [(.agg [i6 x0, vi .u8 x1, (.p (.lst 3 (eTrees x2)))]), i6 x3])
def F36 (Nf : Nat) (a1 a2 : TreeD) (a3 : List Int) : Option R_F36 :=
  ((F18 Nf a1).bind fun x1 => (bif (x1 == 0) then ((F18 Nf a2).bind fun x3 => (bif (x3 != 0) then (some (.k0 0 0 ([]) x3)) else ((F35 Nf a1 a3).bind fun r5 => match r5 with | .k0 x5_0 x5_1 x5_2 x5_3 x5_4 x5_5 => (bif (x5_5 != 0) then (some (.k0 0 0 ([]) x5_5)) else ((F59 Nf a1 a2 a3).bind fun r7 => match r7 with | .k0 x7_0 x7_1 x7_2 => ((F45_2 Nf (TreeD.mk x7_0 x7_1 x7_2) 16384).bind fun x8 => (bif x8 then (some (.k0 0 0 ([]) 3)) else (some (.k0 x7_0 x7_1 x7_2 0))))))))) else (bif (x1 != 0) then (some (.k0 0 0 ([]) x1)) else ((F35 Nf a1 a3).bind fun r4 => match r4 with | .k0 x4_0 x4_1 x4_2 x4_3 x4_4 x4_5 => (bif (x4_5 != 0) then (some (.k0 0 0 ([]) x4_5)) else ((F59 Nf a1 a2 a3).bind fun r6 => match r6 with | .k0 x6_0 x6_1 x6_2 => ((F45_2 Nf (TreeD.mk x6_0 x6_1 x6_2) 16384).bind fun x7 => (bif x7 then (some (.k0 0 0 ([]) 3)) else (some (.k0 x6_0 x6_1 x6_2 0))))))))))
abbrev F36_d0 (a1 a2 : TreeD) : List AB := [.cells 25 ((cT a1).map .p), .cells 25 ((cT a2).map .p), yT0, .cells 25 [i6 0, vi .u8 0, .sl 2 0 3 0 0]]
abbrev F36_d1 (a1 a2 : TreeD) (x7_0 x7_1 : Int) (x7_2 : List TreeD) : List AB := [.cells 25 ((cT a1).map .p), .cells 25 ((cT a2).map .p), yT0, .cells 25 [i6 0, vi .u8 0, .sl 2 0 3 0 0], yT0, .cells 25 [i6 x7_0, vi .u8 x7_1, (.p (.lst 3 (eTrees x7_2)))]]
abbrev F36_d2 (a1 a2 : TreeD) (x6_0 x6_1 : Int) (x6_2 : List TreeD) : List AB := [.cells 25 ((cT a1).map .p), .cells 25 ((cT a2).map .p), yT0, .cells 25 [i6 0, vi .u8 0, .sl 2 0 3 0 0], yT0, .cells 25 [i6 x6_0, vi .u8 x6_1, (.p (.lst 3 (eTrees x6_2)))]]
theorem F36_ok (Nf : Nat) (a1 a2 : TreeD) (a3 : List Int) {r : R_F36} (h : F36 Nf a1 a2 a3 = some r) : PR1 pg 36 [(.agg ((cT a1).map .p)), (.agg ((cT a2).map .p)), ls 1 eI64 a3] (F36_v a1 a2 a3 r) := by
 unfold F36 at h
 apply bn h; intro x1 h1 h
 have q0 := (((F18_ok Nf a1 h1).cp rfl _) : CP pg 18 [(.agg ((cT a1).map .p))] (F36_d0 a1 a2) = some (i6 x1))
 apply bi h <;> intro h2 h
 ·
  have k1 := ka [(11, .v (i6 x1)), (13, .d true)] (apc q0 (av h2 apn))
  apply bn h; intro x3 h3 h
  have q2 := (((F18_ok Nf a2 h3).cp rfl _) : CP pg 18 [(.agg ((cT a2).map .p))] (F36_d0 a1 a2) = some (i6 x3))
  apply bi h <;> intro h4 h
  ·
   rw [← sj h]
   exact fq ([(15, .v (i6 x3)), (17, .d true)] ++ kH k1) (k1.b (apc q2 (av h4 apn)))
  ·
   have k3 := k1.a [(15, .v (i6 x3)), (17, .d false)] (apc q2 (av h4 apn))
   apply bn h; intro r5 h5 h
   cases r5 with
   | k0 x5_0 x5_1 x5_2 x5_3 x5_4 x5_5 =>
    have q4 := (((F35_ok Nf a1 a3 h5).cp rfl _) : CP pg 35 [(.agg ((cT a1).map .p)), ls 1 eI64 a3] (F36_d0 a1 a2) = some (.tup [(.agg [i6 x5_0, vi .u8 x5_1, (.p (.lst 3 (eTrees x5_2)))]), i6 x5_3, i6 x5_4, i6 x5_5]))
    have k5 := k3.a [(23, .v (.tup [(.agg [i6 x5_0, vi .u8 x5_1, (.p (.lst 3 (eTrees x5_2)))]), i6 x5_3, i6 x5_4, i6 x5_5]))] (apc q4 apn)
    apply bi h <;> intro h6 h
    ·
     rw [← sj h]
     exact fq ([(29, .d true)] ++ kH k5) (k5.b (av h6 apn))
    ·
     apply bn h; intro r7 h7 h
     cases r7 with
     | k0 x7_0 x7_1 x7_2 =>
      have q6 := (((F59_ok Nf a1 a2 a3 h7).cp rfl _) : CP pg 59 [(.agg ((cT a1).map .p)), (.agg ((cT a2).map .p)), ls 1 eI64 a3] (F36_d0 a1 a2) = some (.agg [i6 x7_0, vi .u8 x7_1, (.p (.lst 3 (eTrees x7_2)))]))
      have k7 := k5.a [(29, .d false), (35, .v (.agg [i6 x7_0, vi .u8 x7_1, (.p (.lst 3 (eTrees x7_2)))]))] (av h6 (apc q6 apn))
      apply bn h; intro x8 h8 h
      apply bi h <;> intro h9 h
      ·
       rw [← sj h]
       exact fq ([(37, .v (vb true))] ++ kH k7) (k7.b (apc ((((F45_2_ok Nf (TreeD.mk x7_0 x7_1 x7_2) 16384 h8).cp rfl _).trans (congrArg (fun z => some (vb z)) h9)) : CP pg 45 [(.agg [i6 x7_0, vi .u8 x7_1, (.p (.lst 3 (eTrees x7_2)))]), i6 16384] (F36_d1 a1 a2 x7_0 x7_1 x7_2) = some (vb true)) apn))
      ·
       rw [← sj h]
       exact fq ([(37, .v (vb false))] ++ kH k7) (k7.b (apc ((((F45_2_ok Nf (TreeD.mk x7_0 x7_1 x7_2) 16384 h8).cp rfl _).trans (congrArg (fun z => some (vb z)) h9)) : CP pg 45 [(.agg [i6 x7_0, vi .u8 x7_1, (.p (.lst 3 (eTrees x7_2)))]), i6 16384] (F36_d1 a1 a2 x7_0 x7_1 x7_2) = some (vb false)) apn))
 ·
  have k8 := ka [(11, .v (i6 x1)), (13, .d false)] (apc q0 (av h2 apn))
  apply bi h <;> intro h3 h
  ·
   rw [← sj h]
   exact fq ([(17, .d true)] ++ kH k8) (k8.b (av h3 apn))
  ·
   apply bn h; intro r4 h4 h
   cases r4 with
   | k0 x4_0 x4_1 x4_2 x4_3 x4_4 x4_5 =>
    have q9 := (((F35_ok Nf a1 a3 h4).cp rfl _) : CP pg 35 [(.agg ((cT a1).map .p)), ls 1 eI64 a3] (F36_d0 a1 a2) = some (.tup [(.agg [i6 x4_0, vi .u8 x4_1, (.p (.lst 3 (eTrees x4_2)))]), i6 x4_3, i6 x4_4, i6 x4_5]))
    have k10 := k8.a [(17, .d false), (23, .v (.tup [(.agg [i6 x4_0, vi .u8 x4_1, (.p (.lst 3 (eTrees x4_2)))]), i6 x4_3, i6 x4_4, i6 x4_5]))] (av h3 (apc q9 apn))
    apply bi h <;> intro h5 h
    ·
     rw [← sj h]
     exact fq ([(29, .d true)] ++ kH k10) (k10.b (av h5 apn))
    ·
     apply bn h; intro r6 h6 h
     cases r6 with
     | k0 x6_0 x6_1 x6_2 =>
      have q11 := (((F59_ok Nf a1 a2 a3 h6).cp rfl _) : CP pg 59 [(.agg ((cT a1).map .p)), (.agg ((cT a2).map .p)), ls 1 eI64 a3] (F36_d0 a1 a2) = some (.agg [i6 x6_0, vi .u8 x6_1, (.p (.lst 3 (eTrees x6_2)))]))
      have k12 := k10.a [(29, .d false), (35, .v (.agg [i6 x6_0, vi .u8 x6_1, (.p (.lst 3 (eTrees x6_2)))]))] (av h5 (apc q11 apn))
      apply bn h; intro x7 h7 h
      apply bi h <;> intro h8 h
      ·
       rw [← sj h]
       exact fq ([(37, .v (vb true))] ++ kH k12) (k12.b (apc ((((F45_2_ok Nf (TreeD.mk x6_0 x6_1 x6_2) 16384 h7).cp rfl _).trans (congrArg (fun z => some (vb z)) h8)) : CP pg 45 [(.agg [i6 x6_0, vi .u8 x6_1, (.p (.lst 3 (eTrees x6_2)))]), i6 16384] (F36_d2 a1 a2 x6_0 x6_1 x6_2) = some (vb true)) apn))
      ·
       rw [← sj h]
       exact fq ([(37, .v (vb false))] ++ kH k12) (k12.b (apc ((((F45_2_ok Nf (TreeD.mk x6_0 x6_1 x6_2) 16384 h7).cp rfl _).trans (congrArg (fun z => some (vb z)) h8)) : CP pg 45 [(.agg [i6 x6_0, vi .u8 x6_1, (.p (.lst 3 (eTrees x6_2)))]), i6 16384] (F36_d2 a1 a2 x6_0 x6_1 x6_2) = some (vb false)) apn))
inductive E_L37_0_3 where
  | k0 (x0 x1 : Int)
def L37_0_3 (Nf : Nat) (a6 : List TreeD) (v1 v2 : Int) : Option (E_L37_0_3 ⊕ (Int × Int)) :=
  (bif (decide (v2 < (a6.length : Int))) then ((getI a6 v2).bind fun x2 => ((F26 Nf x2).bind fun r3 => match r3 with | .k0 x3_0 x3_1 x3_2 => (bif (decide (v1 < x3_1)) then (some (.inl (.k0 v1 v2))) else (some (.inr ((IntKind.wrap .i64 (v1 - x3_1)), (IntKind.wrap .i64 (v2 + 1)))))))) else (some (.inl (.k0 v1 (-1)))))
def L37_0_3_s (a2 a3 : Nat) (a4 a5 : Int) (a6 : List TreeD) (a7 : List Int) (v1 v2 : Int) : St := ⟨fr 80 ug [(1, i6 v1), (2, .ptr 0 0), (10, .sl 2 a2 1 0 a3), (11, (i6 (-1))), (12, i6 v2)], [.cells 25 [i6 a4, vi .u8 a5, (.p (.lst 3 (eTrees a6)))], yI0, yI a2 a7]⟩
theorem L37_0_3_k (a2 a3 : Nat) (a4 a5 : Int) (a6 : List TreeD) (a7 : List Int) (v1 v2 : Int) : okT 3 (L37_0_3_s a2 a3 a4 a5 a6 a7 v1 v2).h = true := (okT_of rfl (ac (ar (ar rfl))))
abbrev L37_0_3_e (a2 a3 : Nat) (a4 a5 : Int) (a6 : List TreeD) (a7 : List Int) (v1 v2 : Int) := evH pg 3 [1, 2, 10, 11, 12] ir37_l0 (L37_0_3_s a2 a3 a4 a5 a6 a7 v1 v2)
def L37_0_3_x (a2 a3 : Nat) (a4 a5 : Int) (a6 : List TreeD) (a7 : List Int) (e : E_L37_0_3) (r : Option (Out × St)) : Prop := match e with | .k0 x0 x1 => ∃ g, r = some ((.brk 2), ⟨fr 80 g [(1, i6 x0), (2, .ptr 0 0), (10, .sl 2 a2 1 0 a3), (11, i6 x1)], [.cells 25 [i6 a4, vi .u8 a5, (.p (.lst 3 (eTrees a6)))], yI0, yI a2 a7]⟩)
theorem L37_0_3_ok (Nf : Nat) (a2 a3 : Nat) (a4 a5 : Int) (a6 : List TreeD) (a7 : List Int) (v1 v2 : Int) {r : E_L37_0_3 ⊕ (Int × Int)} (h : L37_0_3 Nf a6 v1 v2 = some r) : OkR (fun e => L37_0_3_x a2 a3 a4 a5 a6 a7 e (L37_0_3_e a2 a3 a4 a5 a6 a7 v1 v2)) (fun s => L37_0_3_e a2 a3 a4 a5 a6 a7 v1 v2 = L37_0_3_e a2 a3 a4 a5 a6 a7 s.1 s.2) r := by
 unfold L37_0_3 at h
 have q0 := ((lgr tr_map) : lnA (.p (.lst 3 (eTrees a6))) = some (i6 (a6.length : Int)))
 apply bi h <;> intro h1 h
 ·
  have k1 := ka [(42, .v (i6 (a6.length : Int))), (43, .d true)] (apc q0 (av h1 apn))
  apply bn h; intro x2 h2 h
  have q2 := ((igr tr_map h2) : idxA 3 (.p (.lst 3 (eTrees a6))) (i6 v2) = some (.ro (cT x2)))
  apply bn h; intro r3 h3 h
  cases r3 with
  | k0 x3_0 x3_1 x3_2 =>
   have q3 := (((F26_ok Nf x2 h3).cp rfl _) : CP pg 26 [(.agg ((cT x2).map .p))] [.cells 25 [i6 a4, vi .u8 a5, (.p (.lst 3 (eTrees a6)))], yI0, yI a2 a7] = some (.tup [i6 x3_0, i6 x3_1, i6 x3_2]))
   have k4 := k1.a [(50, .v (.ro (cT x2))), (52, .v (.tup [i6 x3_0, i6 x3_1, i6 x3_2]))] (apc q2 (apc q3 apn))
   apply bi h <;> intro h4 h
   ·
    rw [← sj h]
    exact xb ([(58, .d true), (6000, .d true)] ++ kH k4) (k4.b (av h4 apn))
   ·
    rw [← sj h]
    exact rn ([(58, .d false), (6000, .d true)] ++ kH k4) (k4.b (av h4 (apc (L37_0_3_k a2 a3 a4 a5 a6 a7 (w6 (v1 - x3_1)) (w6 (v2 + 1))) apn)))
 ·
  rw [← sj h]
  exact xb [(42, .v (i6 (a6.length : Int))), (43, .d false), (6000, .d true)] (apc q0 (av h1 apn))
theorem L37_0_3_run (Nf : Nat) (a2 a3 : Nat) (a4 a5 : Int) (a6 : List TreeD) (a7 : List Int) (s0 : Int × Int) (e : E_L37_0_3) (h : runL (fun s => L37_0_3 Nf a6 s.1 s.2) s0 = some e) : L37_0_3_x a2 a3 a4 a5 a6 a7 e (L37_0_3_e a2 a3 a4 a5 a6 a7 s0.1 s0.2) := by
  have q := @loop_sound' (Int × Int) E_L37_0_3 (fun s => L37_0_3 Nf a6 s.1 s.2) (fun s => L37_0_3_e a2 a3 a4 a5 a6 a7 s.1 s.2) (L37_0_3_x a2 a3 a4 a5 a6 a7) (fun s r h => L37_0_3_ok Nf a2 a3 a4 a5 a6 a7 s.1 s.2 h) s0 e h
  exact q
inductive E_L37_1 where
  | k0 (x0 x1 : Nat) (x2 x3 : Int) (x4 : List TreeD) (x5 : List Int)
def L37_1 (Nf : Nat) (v1 : Int) (v2 v3 : Nat) (v4 v5 : Int) (v6 : List TreeD) (v7 : List Int) : Option (E_L37_1 ⊕ (Int × Nat × Nat × Int × Int × (List TreeD) × (List Int))) :=
  ((runL (fun s => L37_0_3 Nf v6 s.1 s.2) (v1, 0)).bind fun r1 => match r1 with | .k0 x1_0 x1_1 => ((getI v6 x1_1).bind fun x2 => (bif (decide (x2.prod < 0)) then (some (.inl (.k0 v2 v3 v4 v5 v6 v7))) else (bif (apOk v3 1 v7.length 8) then (bif (decide (v3 + 1 ≤ v7.length)) then (some (.inr (x1_0, v2, v3 + 1, x2.prod, x2.byte, x2.kids, (splice v7 v3 [x1_1])))) else (some (.inr (x1_0, v2 + 1, v3 + 1, x2.prod, x2.byte, x2.kids, (v7.take v3 ++ [x1_1]))))) else none))))
def L37_1_s (v1 : Int) (v2 v3 : Nat) (v4 v5 : Int) (v6 : List TreeD) (v7 : List Int) : St := ⟨fr 80 ug [(1, i6 v1), (2, .ptr 0 0), (10, .sl 2 v2 1 0 v3)], [.cells 25 [i6 v4, vi .u8 v5, (.p (.lst 3 (eTrees v6)))], yI0, yI v2 v7]⟩
theorem L37_1_k (v1 : Int) (v2 v3 : Nat) (v4 v5 : Int) (v6 : List TreeD) (v7 : List Int) : okT 3 (L37_1_s v1 v2 v3 v4 v5 v6 v7).h = true := (okT_of rfl (ac (ar (ar rfl))))
abbrev L37_1_e (v1 : Int) (v2 v3 : Nat) (v4 v5 : Int) (v6 : List TreeD) (v7 : List Int) := evH pg 3 [1, 2, 10] ir37_l1 (L37_1_s v1 v2 v3 v4 v5 v6 v7)
def L37_1_x (e : E_L37_1) (r : Option (Out × St)) : Prop := match e with | .k0 x0 x1 x2 x3 x4 x5 => ∃ g, r = some (.ret, ⟨fr 80 g [(4, .sl 2 x0 1 0 x1), (5, i6 0)], [.cells 25 [i6 x2, vi .u8 x3, (.p (.lst 3 (eTrees x4)))], yI0, yI x0 x5]⟩)
abbrev L37_1_d0 (g1 : Nat → AV) (x1_0 : Int) (v2 v3 : Nat) (x1_1 v4 v5 : Int) (v6 : List TreeD) (v7 : List Int) : St := ⟨fr 80 g1 [(1, i6 x1_0), (2, .ptr 0 0), (10, .sl 2 v2 1 0 v3), (11, i6 x1_1)], [.cells 25 [i6 v4, vi .u8 v5, (.p (.lst 3 (eTrees v6)))], yI0, yI v2 v7]⟩
abbrev L37_1_d1 (v4 v5 : Int) (v6 : List TreeD) (v2 : Nat) (v7 : List Int) (v3 : Nat) (x1_1 : Int) : List AB := [.cells 25 [i6 v4, vi .u8 v5, (.p (.lst 3 (eTrees v6)))], yI0, yI v2 (splice v7 v3 [x1_1]), .row 3 1 0 [[i6 x1_1]]]
abbrev L37_1_d2 (v4 v5 : Int) (v6 : List TreeD) (v2 : Nat) (v7 : List Int) (x1_1 : Int) : List AB := [.cells 25 [i6 v4, vi .u8 v5, (.p (.lst 3 (eTrees v6)))], yI0, yI v2 v7, .row 3 1 0 [[i6 x1_1]]]
abbrev L37_1_d3 (v4 v5 : Int) (v6 : List TreeD) (v2 : Nat) (v7 : List Int) (v3 : Nat) (x1_1 : Int) : List AB := [.cells 25 [i6 v4, vi .u8 v5, (.p (.lst 3 (eTrees v6)))], yI0, yI (v2 + 1) (v7.take v3 ++ [x1_1]), .row 3 1 0 [[i6 x1_1]]]
theorem L37_1_ok (Nf : Nat) (v1 : Int) (v2 v3 : Nat) (v4 v5 : Int) (v6 : List TreeD) (v7 : List Int) {r : E_L37_1 ⊕ (Int × Nat × Nat × Int × Int × (List TreeD) × (List Int))} (h : L37_1 Nf v1 v2 v3 v4 v5 v6 v7 = some r) : OkR (fun e => L37_1_x e (L37_1_e v1 v2 v3 v4 v5 v6 v7)) (fun s => L37_1_e v1 v2 v3 v4 v5 v6 v7 = L37_1_e s.1 s.2.1 s.2.2.1 s.2.2.2.1 s.2.2.2.2.1 s.2.2.2.2.2.1 s.2.2.2.2.2.2) r := by
 unfold L37_1 at h
 apply bn h; intro r1 h1 h
 cases r1 with
 | k0 x1_0 x1_1 =>
  obtain ⟨g1, e1⟩ := L37_0_3_run Nf v2 v3 v4 v5 v6 v7 (v1, 0) _ h1
  have q0 := (e1 : L37_0_3_e v2 v3 v4 v5 v6 v7 v1 0 = some ((.brk 2), L37_1_d0 g1 x1_0 v2 v3 x1_1 v4 v5 v6 v7))
  have k1 := ka [(2002, .l (.brk 2) (L37_1_d0 g1 x1_0 v2 v3 x1_1 v4 v5 v6 v7))] (apc (L37_0_3_k v2 v3 v4 v5 v6 v7 v1 0) (apc q0 apn))
  apply bn h; intro x2 h2 h
  have q2 := ((igr tr_map h2) : idxA 3 (.p (.lst 3 (eTrees v6))) (i6 x1_1) = some (.ro (cT x2)))
  apply bi h <;> intro h3 h
  ·
   rw [← sj h]
   exact xr ([(66, .v (.ro (cT x2))), (69, .d true), (6000, .d true)] ++ kH k1) (k1.b (apc q2 (av h3 apn)))
  ·
   have k3 := k1.a [(66, .v (.ro (cT x2))), (69, .d false)] (apc q2 (av h3 apn))
   apply bi h <;> intro h4 h
   ·
    apply bi h <;> intro h5 h
    ·
     rw [← sj h]
     exact rn ([(74, .r (.sl 2 v2 1 0 (v3 + 1)) (L37_1_d1 v4 v5 v6 v2 v7 v3 x1_1)), (78, .v (.ro (cT x2))), (6000, .d true)] ++ kH k3) (k3.b (apc ((ap_in (e := eI64) (xs := v7) (news := [x1_1]) rfl (rows_x (e := eI64) (xs := [x1_1]) rfl) rfl h4 h5) : appA (L37_1_d2 v4 v5 v6 v2 v7 x1_1) 3 1 8 (.sl 2 v2 1 0 v3) (.sl 3 0 1 0 1) = some ((.sl 2 v2 1 0 (v3 + 1)), L37_1_d1 v4 v5 v6 v2 v7 v3 x1_1)) (apc q2 (apc (L37_1_k x1_0 v2 (v3 + 1) x2.prod x2.byte x2.kids (splice v7 v3 [x1_1])) apn))))
    ·
     rw [← sj h]
     exact rn ([(74, .r (.sl 2 (v2 + 1) 1 0 (v3 + 1)) (L37_1_d3 v4 v5 v6 v2 v7 v3 x1_1)), (78, .v (.ro (cT x2))), (6000, .d true)] ++ kH k3) (k3.b (apc ((ap_out (e := eI64) (xs := v7) (news := [x1_1]) rfl (rows_x (e := eI64) (xs := [x1_1]) rfl) rfl h4 h5) : appA (L37_1_d2 v4 v5 v6 v2 v7 x1_1) 3 1 8 (.sl 2 v2 1 0 v3) (.sl 3 0 1 0 1) = some ((.sl 2 (v2 + 1) 1 0 (v3 + 1)), L37_1_d3 v4 v5 v6 v2 v7 v3 x1_1)) (apc q2 (apc (L37_1_k x1_0 (v2 + 1) (v3 + 1) x2.prod x2.byte x2.kids (v7.take v3 ++ [x1_1])) apn))))
   ·
    cases h
theorem L37_1_run (Nf : Nat) (s0 : Int × Nat × Nat × Int × Int × (List TreeD) × (List Int)) (e : E_L37_1) (h : runL (fun s => L37_1 Nf s.1 s.2.1 s.2.2.1 s.2.2.2.1 s.2.2.2.2.1 s.2.2.2.2.2.1 s.2.2.2.2.2.2) s0 = some e) : L37_1_x e (L37_1_e s0.1 s0.2.1 s0.2.2.1 s0.2.2.2.1 s0.2.2.2.2.1 s0.2.2.2.2.2.1 s0.2.2.2.2.2.2) := by
  have q := @loop_sound' (Int × Nat × Nat × Int × Int × (List TreeD) × (List Int)) E_L37_1 (fun s => L37_1 Nf s.1 s.2.1 s.2.2.1 s.2.2.2.1 s.2.2.2.2.1 s.2.2.2.2.2.1 s.2.2.2.2.2.2) (fun s => L37_1_e s.1 s.2.1 s.2.2.1 s.2.2.2.1 s.2.2.2.2.1 s.2.2.2.2.2.1 s.2.2.2.2.2.2) (L37_1_x) (fun s r h => L37_1_ok Nf s.1 s.2.1 s.2.2.1 s.2.2.2.1 s.2.2.2.2.1 s.2.2.2.2.2.1 s.2.2.2.2.2.2 h) s0 e h
  exact q
inductive R_F37 where
  | k0 (x0 : List Int) (x1 : Int)
def F37_v (a1 : TreeD) (a2 : Int) (r : R_F37) : AV := match r with | .k0 x0 x1 => (.tup [ls 1 eI64 x0, i6 x1])
def F37 (Nf : Nat) (a1 : TreeD) (a2 : Int) : Option R_F37 :=
  ((F18 Nf a1).bind fun x1 => (bif (x1 != 0) then (some (.k0 ([]) x1)) else ((F26 Nf a1).bind fun r3 => match r3 with | .k0 x3_0 x3_1 x3_2 => (bif (decide (a2 < 0)) then (some (.k0 ([]) 5)) else (bif (decide (a2 ≥ x3_1)) then (some (.k0 ([]) 5)) else (bif (decide (a1.prod < 0)) then (some (.k0 ([]) 5)) else ((runL (fun s => L37_1 Nf s.1 s.2.1 s.2.2.1 s.2.2.2.1 s.2.2.2.2.1 s.2.2.2.2.2.1 s.2.2.2.2.2.2) (a2, 0, 0, a1.prod, a1.byte, a1.kids, [])).bind fun r7 => match r7 with | .k0 x7_0 x7_1 x7_2 x7_3 x7_4 x7_5 => (bif (decide (x7_1 ≤ x7_5.length)) then (some (.k0 (x7_5.take x7_1) 0)) else none))))))))
abbrev F37_d0 (a1 : TreeD) : List AB := [.cells 25 ((cT a1).map .p), yI0, yI0]
abbrev F37_d1 (g7 : Nat → AV) (x7_0 x7_1 : Nat) (x7_2 x7_3 : Int) (x7_4 : List TreeD) (x7_5 : List Int) : St := ⟨fr 80 g7 [(4, .sl 2 x7_0 1 0 x7_1), (5, i6 0)], [.cells 25 [i6 x7_2, vi .u8 x7_3, (.p (.lst 3 (eTrees x7_4)))], yI0, yI x7_0 x7_5]⟩
theorem F37_ok (Nf : Nat) (a1 : TreeD) (a2 : Int) {r : R_F37} (h : F37 Nf a1 a2 = some r) : PR2 pg 37 [(.agg ((cT a1).map .p)), i6 a2] (F37_v a1 a2 r) := by
 unfold F37 at h
 apply bn h; intro x1 h1 h
 have q0 := (((F18_ok Nf a1 h1).cp rfl _) : CP pg 18 [(.agg ((cT a1).map .p))] [.cells 25 ((cT a1).map .p), yI0] = some (i6 x1))
 apply bi h <;> intro h2 h
 ·
  rw [← sj h]
  exact fpn (v := (.tup [.sl 2 0 1 0 0, i6 x1])) (h' := (F37_d0 a1)) [(17, .v (i6 x1)), (19, .d true)] (apc q0 (av h2 apn)) (purA_tup (purAs_cons (purA_sl (e := eI64) (xs := []) rfl rfl) (purAs_cons rfl purAs_nil))) rfl (purA_tup (purAs_cons (purA_sl (e := eI64) (xs := []) (getq rfl (nols_ra (fun _ => rfl))) rfl) (purAs_cons rfl purAs_nil))) (by kernel_rfl)
 ·
  have k1 := ka [(17, .v (i6 x1)), (19, .d false)] (apc q0 (av h2 apn))
  apply bn h; intro r3 h3 h
  cases r3 with
  | k0 x3_0 x3_1 x3_2 =>
   have q2 := (((F26_ok Nf a1 h3).cp rfl _) : CP pg 26 [(.agg ((cT a1).map .p))] [.cells 25 ((cT a1).map .p), yI0] = some (.tup [i6 x3_0, i6 x3_1, i6 x3_2]))
   have k3 := k1.a [(23, .v (.tup [i6 x3_0, i6 x3_1, i6 x3_2]))] (apc q2 apn)
   apply bi h <;> intro h4 h
   ·
    rw [← sj h]
    exact fpn (v := (.tup [.sl 2 0 1 0 0, i6 5])) (h' := (F37_d0 a1)) ([(28, .d true)] ++ kH k3) (k3.b (av h4 apn)) (purA_tup (purAs_cons (purA_sl (e := eI64) (xs := []) rfl rfl) (purAs_cons rfl purAs_nil))) rfl (purA_tup (purAs_cons (purA_sl (e := eI64) (xs := []) (getq rfl (nols_ra (fun _ => rfl))) rfl) (purAs_cons rfl purAs_nil))) (by kernel_rfl)
   ·
    apply bi h <;> intro h5 h
    ·
     rw [← sj h]
     exact fpn (v := (.tup [.sl 2 0 1 0 0, i6 5])) (h' := (F37_d0 a1)) ([(28, .d false), (32, .d true)] ++ kH k3) (k3.b (av h4 (av h5 apn))) (purA_tup (purAs_cons (purA_sl (e := eI64) (xs := []) rfl rfl) (purAs_cons rfl purAs_nil))) rfl (purA_tup (purAs_cons (purA_sl (e := eI64) (xs := []) (getq rfl (nols_ra (fun _ => rfl))) rfl) (purAs_cons rfl purAs_nil))) (by kernel_rfl)
    ·
     have k4 := k3.a [(28, .d false), (32, .d false)] (av h4 (av h5 apn))
     apply bi h <;> intro h6 h
     ·
      rw [← sj h]
      exact fpn (v := (.tup [.sl 2 0 1 0 0, i6 5])) (h' := (F37_d0 a1)) ([(37, .d true)] ++ kH k4) (k4.b (av h6 apn)) (purA_tup (purAs_cons (purA_sl (e := eI64) (xs := []) rfl rfl) (purAs_cons rfl purAs_nil))) rfl (purA_tup (purAs_cons (purA_sl (e := eI64) (xs := []) (getq rfl (nols_ra (fun _ => rfl))) rfl) (purAs_cons rfl purAs_nil))) (by kernel_rfl)
     ·
      apply bn h; intro r7 h7 h
      cases r7 with
      | k0 x7_0 x7_1 x7_2 x7_3 x7_4 x7_5 =>
       obtain ⟨g7, e7⟩ := L37_1_run Nf (a2, 0, 0, a1.prod, a1.byte, a1.kids, []) _ h7
       have q5 := (e7 : L37_1_e a2 0 0 a1.prod a1.byte a1.kids ([]) = some (.ret, F37_d1 g7 x7_0 x7_1 x7_2 x7_3 x7_4 x7_5))
       have k6 := k4.a [(37, .d false), (2000, .l .ret (F37_d1 g7 x7_0 x7_1 x7_2 x7_3 x7_4 x7_5))] (av h6 (apc (L37_1_k a2 0 0 a1.prod a1.byte a1.kids ([])) (apc q5 apn)))
       apply bi h <;> intro h8 h
       ·
        rw [← sj h]
        exact fpn (v := (.tup [.sl 2 x7_0 1 0 x7_1, i6 0])) (h' := [.cells 25 [i6 x7_2, vi .u8 x7_3, (.p (.lst 3 (eTrees x7_4)))], yI0, yI x7_0 x7_5]) ([(6000, .d true)] ++ kH k6) (k6.b apn) (purA_tup (purAs_cons (purA_sl (e := eI64) rfl h8) (purAs_cons rfl purAs_nil))) rfl (purA_tup (purAs_cons (purA_sl (e := eI64) (getq rfl (nols_ra (fun _ => rfl))) h8) (purAs_cons rfl purAs_nil))) (by kernel_rfl)
       ·
        cases h
end
end
end Go.Proofs.Tryd
