/- Decompiled by a program: functions as plain data see them, part 1. -/
import Derived.Test.YtcdebkkjbminoaaDoorW62
namespace Go.Proofs.Tryd
set_option linter.unusedSimpArgs false
set_option linter.unusedVariables false
set_option maxHeartbeats 4000000
open Go Go.Vs
noncomputable section
section
variable [ErC]
def F28_2_v (a1 : TreeD) (a2 : Int) (x0 : Int) : AV := (i6 x0)
abbrev T_F28_2 := TreeD → Int → Option Int
abbrev H_F28_2 (f : T_F28_2) : Prop := ∀ (a1 : TreeD) (a2 : Int) {r : Int}, f a1 a2 = some r → PR1 pg 28 [(.agg ((cT a1).map .p)), (i6 a2)] (F28_2_v a1 a2 r)
inductive E_L28_0_2 where
  | k0 (x0 : Int)
def L28_0_2 (rF28_2 : T_F28_2) (a1 : Int) (a2 : TreeD) (v1 : Int) (v2 : Int) : Option (E_L28_0_2 ⊕ (Int × Int)) :=
  (bif (decide (v2 < (a2.kids.length : Int))) then (bif (decide (v1 ≤ a1)) then ((getI a2.kids v2).bind fun x3 => ((rF28_2 x3 (IntKind.wrap .i64 (a1 - v1))).bind fun x4 => (some (.inr ((IntKind.wrap .i64 (v1 + x4)), (IntKind.wrap .i64 (v2 + 1))))))) else (some (.inl (.k0 v1)))) else (some (.inl (.k0 v1))))
def L28_0_2_s (a1 : Int) (a2 : TreeD) (v1 : Int) (v2 : Int) : St := ⟨fr 31 ug [(1, (i6 a1)), (2, (.ptr 0 0)), (5, (i6 v1)), (6, (i6 v2))], [.cells 25 ((cT a2).map .p)]⟩
def L28_0_2_x (a1 : Int) (a2 : TreeD) (e : E_L28_0_2) (r : Option (Out × St)) : Prop := match e with | .k0 x0 => ∃ g, r = some ((.brk 0), ⟨fr 31 g [(5, (i6 x0))], [.cells 25 ((cT a2).map .p)]⟩)
theorem L28_0_2_ok (rF28_2 : T_F28_2) (hF28_2 : H_F28_2 rF28_2) (a1 : Int) (a2 : TreeD) (v1 : Int) (v2 : Int) {r : E_L28_0_2 ⊕ (Int × Int)} (h : L28_0_2 rF28_2 a1 a2 v1 v2 = some r) : OkR (fun e => L28_0_2_x a1 a2 e (evH pg 1 [1, 2, 5, 6] ir28_l0 (L28_0_2_s a1 a2 v1 v2))) (fun s => evH pg 1 [1, 2, 5, 6] ir28_l0 (L28_0_2_s a1 a2 v1 v2) = evH pg 1 [1, 2, 5, 6] ir28_l0 (L28_0_2_s a1 a2 s.1 s.2)) r := by
 unfold L28_0_2 at h
 have q0 := ((lgr tr_map) : lnA (.p (.lst 3 (eTrees a2.kids))) = some (i6 (a2.kids.length : Int)))
 refine bi h (fun h1 h => ?_) fun h1 h => ?_
 ·
  refine bi h (fun h2 h => ?_) fun h2 h => ?_
  ·
   refine bn h fun x3 h3 h => ?_
   refine bn h fun x4 h4 h => ?_
   rw [← sj h]
   exact rnd [(10, .v (i6 (a2.kids.length : Int))), (11, .d true), (15, .d true), (23, .v (.ro (cT x3))), (28, .v (i6 x4)), (6000, .d true)] (apc q0 (apc (cv h1) (apc (cv h2) (apc ((igr tr_map h3) : idxA 3 (.p (.lst 3 (eTrees a2.kids))) (i6 v2) = some (.ro (cT x3))) (apc (((hF28_2 x3 (w6 (a1 - v1)) h4).cp rfl _) : CP pg 28 [(.agg ((cT x3).map .p)), (i6 (w6 (a1 - v1)))] [.cells 25 ((cT a2).map .p)] = some (i6 x4)) (apc ((okT_of rfl (abl_cons rfl rfl)) : okT 1 [.cells 25 ((cT a2).map .p)] = true) apn)))))) (by kernel_rfl)
  ·
   rw [← sj h]
   exact xbrk [(10, .v (i6 (a2.kids.length : Int))), (11, .d true), (15, .d false), (6000, .d true)] (apc q0 (apc (cv h1) (apc (cv h2) apn))) (by kernel_rfl)
 ·
  rw [← sj h]
  exact xbrk [(10, .v (i6 (a2.kids.length : Int))), (11, .d false), (6000, .d true)] (apc q0 (apc (cv h1) apn)) (by kernel_rfl)
theorem L28_0_2_run (rF28_2 : T_F28_2) (hF28_2 : H_F28_2 rF28_2) (a1 : Int) (a2 : TreeD) (s0 : Int × Int) (e : E_L28_0_2) (h : runL (fun s => L28_0_2 rF28_2 a1 a2 s.1 s.2) s0 = some e) : L28_0_2_x a1 a2 e (evH pg 1 [1, 2, 5, 6] ir28_l0 (L28_0_2_s a1 a2 s0.1 s0.2)) := by
  have q := @loop_sound' (Int × Int) E_L28_0_2 (fun s => L28_0_2 rF28_2 a1 a2 s.1 s.2) (fun s => evH pg 1 [1, 2, 5, 6] ir28_l0 (L28_0_2_s a1 a2 s.1 s.2)) (L28_0_2_x a1 a2) (fun s r h => L28_0_2_ok rF28_2 hF28_2 a1 a2 s.1 s.2 h) s0 e h
  exact q
def F28_2_b (rF28_2 : T_F28_2) (a1 : TreeD) (a2 : Int) : Option Int :=
  ((runL (fun s => L28_0_2 rF28_2 a2 a1 s.1 s.2) (1, 0)).bind fun r1 => match r1 with | .k0 x1_0 => (some x1_0))
theorem F28_2_bok (rF28_2 : T_F28_2) (hF28_2 : H_F28_2 rF28_2) (a1 : TreeD) (a2 : Int) {r : Int} (h : F28_2_b rF28_2 a1 a2 = some r) : PR1 pg 28 [(.agg ((cT a1).map .p)), (i6 a2)] (F28_2_v a1 a2 r) := by
 unfold F28_2_b at h
 refine bn h fun r1 h1 h => ?_
 cases r1 with
 | k0 x1_0 =>
  obtain ⟨g1, e1⟩ := L28_0_2_run rF28_2 hF28_2 a2 a1 (1, 0) _ h1
  rw [← sj h]
  exact fpr [(2000, .l (.brk 0) ⟨fr 31 g1 [(5, (i6 x1_0))], [.cells 25 ((cT a1).map .p)]⟩), (6000, .d true)] (apc ((okT_of rfl (abl_cons rfl rfl)) : okT 1 [.cells 25 ((cT a1).map .p)] = true) (apc (e1 : evH pg 1 [1, 2, 5, 6] ir28_l0 (L28_0_2_s a2 a1 1 0) = some ((.brk 0), ⟨fr 31 g1 [(5, (i6 x1_0))], [.cells 25 ((cT a1).map .p)]⟩)) apn)) rfl (by kernel_rfl)
def F28_2 : Nat → T_F28_2
  | 0 => fun _ _ => none
  | Nf + 1 => F28_2_b (F28_2 Nf)
theorem F28_2_ok (Nf : Nat) : H_F28_2 (F28_2 Nf) := by
  induction Nf with
  | zero => intro a1 a2 r h; have h : (none : Option Int) = some r := h; cases h
  | succ Nf ih => intro a1 a2 r h; exact F28_2_bok (F28_2 Nf) ih a1 a2 h
inductive E_L16_0 where
  | k0
  | k1
def L16_0 (Nf : Nat) (a1 : List TreeD) (v1 : Int) : Option (E_L16_0 ⊕ (Int)) :=
  (bif (decide (v1 < (a1.length : Int))) then ((getI a1 v1).bind fun x2 => ((F28_2 Nf x2 2000).bind fun x3 => (bif (decide (x3 > 2000)) then (some (.inl (.k0))) else (some (.inr ((IntKind.wrap .i64 (v1 + 1)))))))) else (some (.inl (.k1))))
def L16_0_s (a1 : List TreeD) (v1 : Int) : St := ⟨fr 16 ug [(0, (.p (.lst 3 (eTrees a1)))), (3, (i6 v1))], []⟩
def L16_0_x (a1 : List TreeD) (e : E_L16_0) (r : Option (Out × St)) : Prop := match e with | .k0 => ∃ g y, r = some (.ret, ⟨fr 16 g [(2, (vb false))], y⟩) | .k1 => ∃ g, r = some ((.brk 0), ⟨fr 16 g [], []⟩)
theorem L16_0_ok (Nf : Nat) (a1 : List TreeD) (v1 : Int) {r : E_L16_0 ⊕ (Int)} (h : L16_0 Nf a1 v1 = some r) : OkR (fun e => L16_0_x a1 e (evH pg 0 [0, 3] ir16_l0 (L16_0_s a1 v1))) (fun s => evH pg 0 [0, 3] ir16_l0 (L16_0_s a1 v1) = evH pg 0 [0, 3] ir16_l0 (L16_0_s a1 s)) r := by
 unfold L16_0 at h
 have q0 := ((lgr tr_map) : lnA (.p (.lst 3 (eTrees a1))) = some (i6 (a1.length : Int)))
 refine bi h (fun h1 h => ?_) fun h1 h => ?_
 ·
  refine bn h fun x2 h2 h => ?_
  have q2 := ((igr tr_map h2) : idxA 3 (.p (.lst 3 (eTrees a1))) (i6 v1) = some (.ro (cT x2)))
  refine bn h fun x3 h3 h => ?_
  have q3 := (((F28_2_ok Nf x2 2000 h3).cp rfl _) : CP pg 28 [(.agg ((cT x2).map .p)), (i6 2000)] [] = some (i6 x3))
  refine bi h (fun h4 h => ?_) fun h4 h => ?_
  ·
   rw [← sj h]
   exact xretY [(6, .v (i6 (a1.length : Int))), (7, .d true), (12, .v (.ro (cT x2))), (14, .v (i6 x3)), (15, .d true), (6000, .d true)] (apc q0 (apc (cv h1) (apc q2 (apc q3 (apc (cv h4) apn))))) (by kernel_rfl)
  ·
   rw [← sj h]
   exact rnd [(6, .v (i6 (a1.length : Int))), (7, .d true), (12, .v (.ro (cT x2))), (14, .v (i6 x3)), (15, .d false), (6000, .d true)] (apc q0 (apc (cv h1) (apc q2 (apc q3 (apc (cv h4) (apc ((okT_of rfl rfl) : okT 0 [] = true) apn)))))) (by kernel_rfl)
 ·
  rw [← sj h]
  exact xbrk [(6, .v (i6 (a1.length : Int))), (7, .d false), (6000, .d true)] (apc q0 (apc (cv h1) apn)) (by kernel_rfl)
theorem L16_0_run (Nf : Nat) (a1 : List TreeD) (s0 : Int) (e : E_L16_0) (h : runL (fun s => L16_0 Nf a1 s) s0 = some e) : L16_0_x a1 e (evH pg 0 [0, 3] ir16_l0 (L16_0_s a1 s0)) := by
  have q := @loop_sound' (Int) E_L16_0 (fun s => L16_0 Nf a1 s) (fun s => evH pg 0 [0, 3] ir16_l0 (L16_0_s a1 s)) (L16_0_x a1) (fun s r h => L16_0_ok Nf a1 s h) s0 e h
  exact q
def F16_v (a1 : List TreeD) (x0 : Bool) : AV := (vb x0)
def F16 (Nf : Nat) (a1 : List TreeD) : Option Bool :=
  ((runL (fun s => L16_0 Nf a1 s) 0).bind fun r1 => match r1 with | .k0 => (some false) | .k1 => (some true))
theorem F16_ok (Nf : Nat) (a1 : List TreeD) {r : Bool} (h : F16 Nf a1 = some r) : PR1 pg 16 [(.p (.lst 3 (eTrees a1)))] (F16_v a1 r) := by
 unfold F16 at h
 refine bn h fun r1 h1 h => ?_
 cases r1 with
 | k0 =>
  obtain ⟨g1, y1, e1⟩ := L16_0_run Nf a1 0 _ h1
  rw [← sj h]
  exact fpr [(2000, .l .ret ⟨fr 16 g1 [(2, (vb false))], y1⟩), (6000, .d true)] (apc ((okT_of rfl rfl) : okT 0 [] = true) (apc (e1 : evH pg 0 [0, 3] ir16_l0 (L16_0_s a1 0) = some (.ret, ⟨fr 16 g1 [(2, (vb false))], y1⟩)) apn)) rfl (by kernel_rfl)
 | k1 =>
  obtain ⟨g1, e1⟩ := L16_0_run Nf a1 0 _ h1
  rw [← sj h]
  exact fpr [(2000, .l (.brk 0) ⟨fr 16 g1 [], []⟩), (6000, .d true)] (apc ((okT_of rfl rfl) : okT 0 [] = true) (apc (e1 : evH pg 0 [0, 3] ir16_l0 (L16_0_s a1 0) = some ((.brk 0), ⟨fr 16 g1 [], []⟩)) apn)) rfl (by kernel_rfl)
inductive R_F48_3 where
  | k0 (x0 : Nat) (x1 : List Int) (x2 : Bool) (x3 : Nat)
def F48_3_v (a1 : TreeD) (a2 : TreeD) (a3 : Nat) (a4 : List Int) (a5 : Bool) (a6 : Nat) (r : R_F48_3) : AV := match r with | .k0 x0 x1 x2 x3 => (.tup [])
def F48_3_h (a1 : TreeD) (a2 : TreeD) (a3 : Nat) (a4 : List Int) (a5 : Bool) (a6 : Nat) (r : R_F48_3) : List AB := match r with | .k0 x0 x1 x2 x3 => [.cells 25 ((cT a2).map .p), .row 5 1 x0 (ra eU8 x1), .cells 87 [(sp x2 2 0), (.sl 1 x0 1 0 x3)]]
abbrev T_F48_3 := TreeD → TreeD → Nat → (List Int) → Bool → Nat → Option R_F48_3
abbrev H_F48_3 (f : T_F48_3) : Prop := ∀ (a1 : TreeD) (a2 : TreeD) (a3 : Nat) (a4 : List Int) (a5 : Bool) (a6 : Nat) {r : R_F48_3}, f a1 a2 a3 a4 a5 a6 = some r → ∀ hx : List AB, CS pg 48 [(.ptr 2 0), (.agg ((cT a1).map .p))] ([.cells 25 ((cT a2).map .p), .row 5 1 a3 (ra eU8 a4), .cells 87 [(sp a5 2 0), (.sl 1 a3 1 0 a6)]] ++ hx) = some (F48_3_v a1 a2 a3 a4 a5 a6 r, F48_3_h a1 a2 a3 a4 a5 a6 r ++ hx)
def F82_5_v (a1 : TreeD) (a2 : Nat) (a3 : List Int) (a4 : Bool) (a5 : Nat) (a6 : TreeD) (a7 : Int) (a8 : Int) (x0 : Bool) : AV := (.tup [])
def F82_5_h (a1 : TreeD) (a2 : Nat) (a3 : List Int) (a4 : Bool) (a5 : Nat) (a6 : TreeD) (a7 : Int) (a8 : Int) (x0 : Bool) : List AB := [.cells 25 ((cT a1).map .p), .row 5 1 a2 (ra eU8 a3), .cells 87 [(sp x0 2 0), (.sl 1 a2 1 0 a5)], .cells 25 ((cT a6).map .p), .row 5 1 0 [[(vi .u8 120)], [(vi .u8 a7)], [(vi .u8 a8)]]]
def F82_5 (a4 : Bool) : Option Bool :=
  (bif a4 then (some a4) else (some true))
abbrev F82_5_d0 (a1 : TreeD) (a2 : Nat) (a3 : List Int) (a4 : Bool) (a5 : Nat) (a6 : TreeD) (a7 : Int) (a8 : Int) : List AB := [.cells 25 ((cT a1).map .p), .row 5 1 a2 (ra eU8 a3), .cells 87 [(sp a4 2 0), (.sl 1 a2 1 0 a5)], .cells 25 ((cT a6).map .p), .row 5 1 0 [[(vi .u8 120)], [(vi .u8 a7)], [(vi .u8 a8)]]]
theorem F82_5_ok (a1 : TreeD) (a2 : Nat) (a3 : List Int) (a4 : Bool) (a5 : Nat) (a6 : TreeD) (a7 : Int) (a8 : Int) {r : Bool} (h : F82_5 a4 = some r) : CS pg 82 [(.ptr 2 0)] [.cells 25 ((cT a1).map .p), .row 5 1 a2 (ra eU8 a3), .cells 87 [(sp a4 2 0), (.sl 1 a2 1 0 a5)], .cells 25 ((cT a6).map .p), .row 5 1 0 [[(vi .u8 120)], [(vi .u8 a7)], [(vi .u8 a8)]]] = some (F82_5_v a1 a2 a3 a4 a5 a6 a7 a8 r, F82_5_h a1 a2 a3 a4 a5 a6 a7 a8 r) := by
 unfold F82_5 at h
 refine bi h (fun h1 h => ?_) fun h1 h => ?_
 ·
  rw [← sj h]
  exact fcs [(5, .v (.ptr 2 0)), (17, .v (.ptr 2 0))] (apc (((rfl : ldA (F82_5_d0 a1 a2 a3 a4 a5 a6 a7 a8) .false 1 (.ptr 2 0) = some (sp a4 2 0)).trans (congrArg some (sp_t h1))) : ldA (F82_5_d0 a1 a2 a3 a4 a5 a6 a7 a8) .false 1 (.ptr 2 0) = some (.ptr 2 0)) (apc (((rfl : ldA (F82_5_d0 a1 a2 a3 a4 a5 a6 a7 a8) .false 1 (.ptr 2 0) = some (sp a4 2 0)).trans (congrArg some (sp_t h1))) : ldA (F82_5_d0 a1 a2 a3 a4 a5 a6 a7 a8) .false 1 (.ptr 2 0) = some (.ptr 2 0)) apn)) (by kernel_rfl)
 ·
  rw [← sj h]
  exact fcs [(5, .v (.p (.val (.pointer .none))))] (apc (((rfl : ldA (F82_5_d0 a1 a2 a3 a4 a5 a6 a7 a8) .false 1 (.ptr 2 0) = some (sp a4 2 0)).trans (congrArg some (sp_f h1))) : ldA (F82_5_d0 a1 a2 a3 a4 a5 a6 a7 a8) .false 1 (.ptr 2 0) = some (.p (.val (.pointer .none)))) apn) (by kernel_rfl)
inductive R_F68_3 where
  | k0 (x0 : Nat) (x1 : List Int) (x2 : Bool)
def F68_3_v (a1 : TreeD) (a2 : Nat) (a3 : List Int) (a4 : Bool) (a5 : Nat) (a6 : TreeD) (a7 : Int) (a8 : Int) (r : R_F68_3) : AV := match r with | .k0 x0 x1 x2 => (.tup [(i6 3), (.p (.val .nilIface))])
def F68_3_h (a1 : TreeD) (a2 : Nat) (a3 : List Int) (a4 : Bool) (a5 : Nat) (a6 : TreeD) (a7 : Int) (a8 : Int) (r : R_F68_3) : List AB := match r with | .k0 x0 x1 x2 => [.cells 25 ((cT a1).map .p), .row 5 1 x0 (ra eU8 x1), .cells 87 [(sp x2 2 0), (.sl 1 x0 1 0 (a5 + 3))], .cells 25 ((cT a6).map .p), .row 5 1 0 [[(vi .u8 120)], [(vi .u8 a7)], [(vi .u8 a8)]]]
def F68_3 (a2 : Nat) (a3 : List Int) (a4 : Bool) (a5 : Nat) (a7 : Int) (a8 : Int) : Option R_F68_3 :=
  ((F82_5 a4).bind fun x1 => (bif (apOk a5 3 a3.length 1) then (bif (decide (a5 + 3 ≤ a3.length)) then (some (.k0 a2 (splice a3 a5 [120, a7, a8]) x1)) else (some (.k0 (a2 + 1) (a3.take a5 ++ [120, a7, a8]) x1))) else none))
abbrev F68_3_d0 (a1 : TreeD) (a2 : Nat) (a3 : List Int) (x1 : Bool) (a5 : Nat) (a6 : TreeD) (a7 : Int) (a8 : Int) : List AB := [.cells 25 ((cT a1).map .p), .row 5 1 a2 (ra eU8 a3), .cells 87 [(sp x1 2 0), (.sl 1 a2 1 0 a5)], .cells 25 ((cT a6).map .p), .row 5 1 0 [[(vi .u8 120)], [(vi .u8 a7)], [(vi .u8 a8)]]]
abbrev F68_3_d1 (a1 : TreeD) (a2 : Nat) (a3 : List Int) (a5 : Nat) (a7 : Int) (a8 : Int) (x1 : Bool) (a6 : TreeD) : List AB := [.cells 25 ((cT a1).map .p), .row 5 1 a2 (ra eU8 (splice a3 a5 [120, a7, a8])), .cells 87 [(sp x1 2 0), (.sl 1 a2 1 0 a5)], .cells 25 ((cT a6).map .p), .row 5 1 0 [[(vi .u8 120)], [(vi .u8 a7)], [(vi .u8 a8)]]]
abbrev F68_3_d2 (a1 : TreeD) (a2 : Nat) (a3 : List Int) (a5 : Nat) (a7 : Int) (a8 : Int) (x1 : Bool) (a6 : TreeD) : List AB := [.cells 25 ((cT a1).map .p), .row 5 1 (a2 + 1) (ra eU8 (a3.take a5 ++ [120, a7, a8])), .cells 87 [(sp x1 2 0), (.sl 1 a2 1 0 a5)], .cells 25 ((cT a6).map .p), .row 5 1 0 [[(vi .u8 120)], [(vi .u8 a7)], [(vi .u8 a8)]]]
abbrev F68_3_c0 (a1 : TreeD) (a2 : Nat) (a3 : List Int) (x1 : Bool) (a5 : Nat) (a6 : TreeD) (a7 : Int) (a8 : Int) : List (Nat × Hint) := [(7, .r (.tup []) (F68_3_d0 a1 a2 a3 x1 a5 a6 a7 a8))]
theorem F68_3_ok (a1 : TreeD) (a2 : Nat) (a3 : List Int) (a4 : Bool) (a5 : Nat) (a6 : TreeD) (a7 : Int) (a8 : Int) {r : R_F68_3} (h : F68_3 a2 a3 a4 a5 a7 a8 = some r) : CS pg 68 [(.ptr 2 0), (.sl 4 0 1 0 3)] [.cells 25 ((cT a1).map .p), .row 5 1 a2 (ra eU8 a3), .cells 87 [(sp a4 2 0), (.sl 1 a2 1 0 a5)], .cells 25 ((cT a6).map .p), .row 5 1 0 [[(vi .u8 120)], [(vi .u8 a7)], [(vi .u8 a8)]]] = some (F68_3_v a1 a2 a3 a4 a5 a6 a7 a8 r, F68_3_h a1 a2 a3 a4 a5 a6 a7 a8 r) := by
 unfold F68_3 at h
 refine bn h fun x1 h1 h => ?_
 have q0 := ((F82_5_ok a1 a2 a3 a4 a5 a6 a7 a8 h1) : CS pg 82 [(.ptr 2 0)] [.cells 25 ((cT a1).map .p), .row 5 1 a2 (ra eU8 a3), .cells 87 [(sp a4 2 0), (.sl 1 a2 1 0 a5)], .cells 25 ((cT a6).map .p), .row 5 1 0 [[(vi .u8 120)], [(vi .u8 a7)], [(vi .u8 a8)]]] = some ((.tup []), (F68_3_d0 a1 a2 a3 x1 a5 a6 a7 a8)))
 refine bi h (fun h2 h => ?_) fun h2 h => ?_
 ·
  refine bi h (fun h3 h => ?_) fun h3 h => ?_
  ·
   rw [← sj h]
   exact fcs ((F68_3_c0 a1 a2 a3 x1 a5 a6 a7 a8) ++ [(14, .r (.sl 1 a2 1 0 (a5 + 3)) (F68_3_d1 a1 a2 a3 a5 a7 a8 x1 a6))]) (apc q0 (apc ((ap_in (e := eU8) (xs := a3) (news := [120, a7, a8]) rfl (rows_x (e := eU8) (xs := [120, a7, a8]) rfl) rfl h2 h3) : appA (F68_3_d0 a1 a2 a3 x1 a5 a6 a7 a8) 5 1 1 (.sl 1 a2 1 0 a5) (.sl 4 0 1 0 3) = some ((.sl 1 a2 1 0 (a5 + 3)), (F68_3_d1 a1 a2 a3 a5 a7 a8 x1 a6))) apn)) (by kernel_rfl)
  ·
   rw [← sj h]
   exact fcs ((F68_3_c0 a1 a2 a3 x1 a5 a6 a7 a8) ++ [(14, .r (.sl 1 (a2 + 1) 1 0 (a5 + 3)) (F68_3_d2 a1 a2 a3 a5 a7 a8 x1 a6))]) (apc q0 (apc ((ap_out (e := eU8) (xs := a3) (news := [120, a7, a8]) rfl (rows_x (e := eU8) (xs := [120, a7, a8]) rfl) rfl h2 h3) : appA (F68_3_d0 a1 a2 a3 x1 a5 a6 a7 a8) 5 1 1 (.sl 1 a2 1 0 a5) (.sl 4 0 1 0 3) = some ((.sl 1 (a2 + 1) 1 0 (a5 + 3)), (F68_3_d2 a1 a2 a3 a5 a7 a8 x1 a6))) apn)) (by kernel_rfl)
 ·
  cases h
def F82_6_v (a1 : TreeD) (a2 : Nat) (a3 : List Int) (a4 : Bool) (a5 : Nat) (a6 : TreeD) (x0 : Bool) : AV := (.tup [])
def F82_6_h (a1 : TreeD) (a2 : Nat) (a3 : List Int) (a4 : Bool) (a5 : Nat) (a6 : TreeD) (x0 : Bool) : List AB := [.cells 25 ((cT a1).map .p), .row 5 1 a2 (ra eU8 a3), .cells 87 [(sp x0 2 0), (.sl 1 a2 1 0 a5)], .cells 25 ((cT a6).map .p)]
def F82_6 (a4 : Bool) : Option Bool :=
  (bif a4 then (some a4) else (some true))
abbrev F82_6_d0 (a1 : TreeD) (a2 : Nat) (a3 : List Int) (a4 : Bool) (a5 : Nat) (a6 : TreeD) : List AB := [.cells 25 ((cT a1).map .p), .row 5 1 a2 (ra eU8 a3), .cells 87 [(sp a4 2 0), (.sl 1 a2 1 0 a5)], .cells 25 ((cT a6).map .p)]
theorem F82_6_ok (a1 : TreeD) (a2 : Nat) (a3 : List Int) (a4 : Bool) (a5 : Nat) (a6 : TreeD) {r : Bool} (h : F82_6 a4 = some r) : CS pg 82 [(.ptr 2 0)] [.cells 25 ((cT a1).map .p), .row 5 1 a2 (ra eU8 a3), .cells 87 [(sp a4 2 0), (.sl 1 a2 1 0 a5)], .cells 25 ((cT a6).map .p)] = some (F82_6_v a1 a2 a3 a4 a5 a6 r, F82_6_h a1 a2 a3 a4 a5 a6 r) := by
 unfold F82_6 at h
 refine bi h (fun h1 h => ?_) fun h1 h => ?_
 ·
  rw [← sj h]
  exact fcs [(5, .v (.ptr 2 0)), (17, .v (.ptr 2 0))] (apc (((rfl : ldA (F82_6_d0 a1 a2 a3 a4 a5 a6) .false 1 (.ptr 2 0) = some (sp a4 2 0)).trans (congrArg some (sp_t h1))) : ldA (F82_6_d0 a1 a2 a3 a4 a5 a6) .false 1 (.ptr 2 0) = some (.ptr 2 0)) (apc (((rfl : ldA (F82_6_d0 a1 a2 a3 a4 a5 a6) .false 1 (.ptr 2 0) = some (sp a4 2 0)).trans (congrArg some (sp_t h1))) : ldA (F82_6_d0 a1 a2 a3 a4 a5 a6) .false 1 (.ptr 2 0) = some (.ptr 2 0)) apn)) (by kernel_rfl)
 ·
  rw [← sj h]
  exact fcs [(5, .v (.p (.val (.pointer .none))))] (apc (((rfl : ldA (F82_6_d0 a1 a2 a3 a4 a5 a6) .false 1 (.ptr 2 0) = some (sp a4 2 0)).trans (congrArg some (sp_f h1))) : ldA (F82_6_d0 a1 a2 a3 a4 a5 a6) .false 1 (.ptr 2 0) = some (.p (.val (.pointer .none)))) apn) (by kernel_rfl)
inductive R_F69_3 where
  | k0 (x0 : Int) (x1 : Nat) (x2 : List Int) (x3 : Bool)
def F69_3_v (a1 : ByteArray) (a2 : TreeD) (a3 : Nat) (a4 : List Int) (a5 : Bool) (a6 : Nat) (a7 : TreeD) (r : R_F69_3) : AV := match r with | .k0 x0 x1 x2 x3 => (.tup [(i6 x0), (.p (.val .nilIface))])
def F69_3_h (a1 : ByteArray) (a2 : TreeD) (a3 : Nat) (a4 : List Int) (a5 : Bool) (a6 : Nat) (a7 : TreeD) (r : R_F69_3) : List AB := match r with | .k0 x0 x1 x2 x3 => [.cells 25 ((cT a2).map .p), .row 5 1 x1 (ra eU8 x2), .cells 87 [(sp x3 2 0), (.sl 1 x1 1 0 (a6 + (sbytes a1).length))], .cells 25 ((cT a7).map .p)]
def F69_3 (a1 : ByteArray) (a3 : Nat) (a4 : List Int) (a5 : Bool) (a6 : Nat) : Option R_F69_3 :=
  ((F82_6 a5).bind fun x1 => (bif (apOk a6 (sbytes a1).length a4.length 1) then (bif (decide (a6 + (sbytes a1).length ≤ a4.length)) then (some (.k0 (a1.size : Int) a3 (splice a4 a6 (sbytes a1)) x1)) else (some (.k0 (a1.size : Int) (a3 + 1) (a4.take a6 ++ (sbytes a1)) x1))) else none))
abbrev F69_3_d0 (a2 : TreeD) (a3 : Nat) (a4 : List Int) (x1 : Bool) (a6 : Nat) (a7 : TreeD) : List AB := [.cells 25 ((cT a2).map .p), .row 5 1 a3 (ra eU8 a4), .cells 87 [(sp x1 2 0), (.sl 1 a3 1 0 a6)], .cells 25 ((cT a7).map .p)]
abbrev F69_3_d1 (a2 : TreeD) (a3 : Nat) (a4 : List Int) (a6 : Nat) (a1 : ByteArray) (x1 : Bool) (a7 : TreeD) : List AB := [.cells 25 ((cT a2).map .p), .row 5 1 a3 (ra eU8 (splice a4 a6 (sbytes a1))), .cells 87 [(sp x1 2 0), (.sl 1 a3 1 0 a6)], .cells 25 ((cT a7).map .p)]
abbrev F69_3_d2 (a2 : TreeD) (a3 : Nat) (a4 : List Int) (a6 : Nat) (a1 : ByteArray) (x1 : Bool) (a7 : TreeD) : List AB := [.cells 25 ((cT a2).map .p), .row 5 1 (a3 + 1) (ra eU8 (a4.take a6 ++ (sbytes a1))), .cells 87 [(sp x1 2 0), (.sl 1 a3 1 0 a6)], .cells 25 ((cT a7).map .p)]
abbrev F69_3_c0 (a2 : TreeD) (a3 : Nat) (a4 : List Int) (x1 : Bool) (a6 : Nat) (a7 : TreeD) : List (Nat × Hint) := [(7, .r (.tup []) (F69_3_d0 a2 a3 a4 x1 a6 a7))]
theorem F69_3_ok (a1 : ByteArray) (a2 : TreeD) (a3 : Nat) (a4 : List Int) (a5 : Bool) (a6 : Nat) (a7 : TreeD) {r : R_F69_3} (h : F69_3 a1 a3 a4 a5 a6 = some r) : CS pg 69 [(.ptr 2 0), (vs a1)] [.cells 25 ((cT a2).map .p), .row 5 1 a3 (ra eU8 a4), .cells 87 [(sp a5 2 0), (.sl 1 a3 1 0 a6)], .cells 25 ((cT a7).map .p)] = some (F69_3_v a1 a2 a3 a4 a5 a6 a7 r, F69_3_h a1 a2 a3 a4 a5 a6 a7 r) := by
 unfold F69_3 at h
 refine bn h fun x1 h1 h => ?_
 have q0 := ((F82_6_ok a2 a3 a4 a5 a6 a7 h1) : CS pg 82 [(.ptr 2 0)] [.cells 25 ((cT a2).map .p), .row 5 1 a3 (ra eU8 a4), .cells 87 [(sp a5 2 0), (.sl 1 a3 1 0 a6)], .cells 25 ((cT a7).map .p)] = some ((.tup []), (F69_3_d0 a2 a3 a4 x1 a6 a7)))
 refine bi h (fun h2 h => ?_) fun h2 h => ?_
 ·
  refine bi h (fun h3 h => ?_) fun h3 h => ?_
  ·
   rw [← sj h]
   exact fcs ((F69_3_c0 a2 a3 a4 x1 a6 a7) ++ [(14, .r (.sl 1 a3 1 0 (a6 + (sbytes a1).length)) (F69_3_d1 a2 a3 a4 a6 a1 x1 a7))]) (apc q0 (apc ((ap_in (e := eU8) (xs := a4) (news := (sbytes a1)) rfl rows_s rfl h2 h3) : appA (F69_3_d0 a2 a3 a4 x1 a6 a7) 5 1 1 (.sl 1 a3 1 0 a6) (vs a1) = some ((.sl 1 a3 1 0 (a6 + (sbytes a1).length)), (F69_3_d1 a2 a3 a4 a6 a1 x1 a7))) apn)) (by kernel_rfl)
  ·
   rw [← sj h]
   exact fcs ((F69_3_c0 a2 a3 a4 x1 a6 a7) ++ [(14, .r (.sl 1 (a3 + 1) 1 0 (a6 + (sbytes a1).length)) (F69_3_d2 a2 a3 a4 a6 a1 x1 a7))]) (apc q0 (apc ((ap_out (e := eU8) (xs := a4) (news := (sbytes a1)) rfl rows_s rfl h2 h3) : appA (F69_3_d0 a2 a3 a4 x1 a6 a7) 5 1 1 (.sl 1 a3 1 0 a6) (vs a1) = some ((.sl 1 (a3 + 1) 1 0 (a6 + (sbytes a1).length)), (F69_3_d2 a2 a3 a4 a6 a1 x1 a7))) apn)) (by kernel_rfl)
 ·
  cases h
def F82_7_v (a1 : TreeD) (a2 : Nat) (a3 : List Int) (a4 : Bool) (a5 : Nat) (a6 : TreeD) (a7 : TreeD) (x0 : Bool) : AV := (.tup [])
def F82_7_h (a1 : TreeD) (a2 : Nat) (a3 : List Int) (a4 : Bool) (a5 : Nat) (a6 : TreeD) (a7 : TreeD) (x0 : Bool) : List AB := [.cells 25 ((cT a1).map .p), .row 5 1 a2 (ra eU8 a3), .cells 87 [(sp x0 2 0), (.sl 1 a2 1 0 a5)], .cells 25 ((cT a6).map .p), .row 25 3 0 (ra cT []), .cells 25 ((cT a7).map .p)]
def F82_7 (a4 : Bool) : Option Bool :=
  (bif a4 then (some a4) else (some true))
abbrev F82_7_d0 (a1 : TreeD) (a2 : Nat) (a3 : List Int) (a4 : Bool) (a5 : Nat) (a6 : TreeD) (a7 : TreeD) : List AB := [.cells 25 ((cT a1).map .p), .row 5 1 a2 (ra eU8 a3), .cells 87 [(sp a4 2 0), (.sl 1 a2 1 0 a5)], .cells 25 ((cT a6).map .p), .row 25 3 0 (ra cT []), .cells 25 ((cT a7).map .p)]
theorem F82_7_ok (a1 : TreeD) (a2 : Nat) (a3 : List Int) (a4 : Bool) (a5 : Nat) (a6 : TreeD) (a7 : TreeD) {r : Bool} (h : F82_7 a4 = some r) : CS pg 82 [(.ptr 2 0)] [.cells 25 ((cT a1).map .p), .row 5 1 a2 (ra eU8 a3), .cells 87 [(sp a4 2 0), (.sl 1 a2 1 0 a5)], .cells 25 ((cT a6).map .p), .row 25 3 0 (ra cT []), .cells 25 ((cT a7).map .p)] = some (F82_7_v a1 a2 a3 a4 a5 a6 a7 r, F82_7_h a1 a2 a3 a4 a5 a6 a7 r) := by
 unfold F82_7 at h
 refine bi h (fun h1 h => ?_) fun h1 h => ?_
 ·
  rw [← sj h]
  exact fcs [(5, .v (.ptr 2 0)), (17, .v (.ptr 2 0))] (apc (((rfl : ldA (F82_7_d0 a1 a2 a3 a4 a5 a6 a7) .false 1 (.ptr 2 0) = some (sp a4 2 0)).trans (congrArg some (sp_t h1))) : ldA (F82_7_d0 a1 a2 a3 a4 a5 a6 a7) .false 1 (.ptr 2 0) = some (.ptr 2 0)) (apc (((rfl : ldA (F82_7_d0 a1 a2 a3 a4 a5 a6 a7) .false 1 (.ptr 2 0) = some (sp a4 2 0)).trans (congrArg some (sp_t h1))) : ldA (F82_7_d0 a1 a2 a3 a4 a5 a6 a7) .false 1 (.ptr 2 0) = some (.ptr 2 0)) apn)) (by kernel_rfl)
 ·
  rw [← sj h]
  exact fcs [(5, .v (.p (.val (.pointer .none))))] (apc (((rfl : ldA (F82_7_d0 a1 a2 a3 a4 a5 a6 a7) .false 1 (.ptr 2 0) = some (sp a4 2 0)).trans (congrArg some (sp_f h1))) : ldA (F82_7_d0 a1 a2 a3 a4 a5 a6 a7) .false 1 (.ptr 2 0) = some (.p (.val (.pointer .none)))) apn) (by kernel_rfl)
inductive R_F70_2 where
  | k0 (x0 : Nat) (x1 : List Int) (x2 : Bool)
def F70_2_v (a1 : TreeD) (a2 : Nat) (a3 : List Int) (a4 : Bool) (a5 : Nat) (a6 : TreeD) (a7 : TreeD) (r : R_F70_2) : AV := match r with | .k0 x0 x1 x2 => (.p (.val .nilIface))
def F70_2_h (a1 : TreeD) (a2 : Nat) (a3 : List Int) (a4 : Bool) (a5 : Nat) (a6 : TreeD) (a7 : TreeD) (r : R_F70_2) : List AB := match r with | .k0 x0 x1 x2 => [.cells 25 ((cT a1).map .p), .row 5 1 x0 (ra eU8 x1), .cells 87 [(sp x2 2 0), (.sl 1 x0 1 0 (a5 + 1))], .cells 25 ((cT a6).map .p), .row 25 3 0 (ra cT []), .cells 25 ((cT a7).map .p), .row 5 1 0 [[(vi .u8 32)]]]
def F70_2 (a2 : Nat) (a3 : List Int) (a4 : Bool) (a5 : Nat) : Option R_F70_2 :=
  ((F82_7 a4).bind fun x1 => (bif (apOk a5 1 a3.length 1) then (bif (decide (a5 + 1 ≤ a3.length)) then (some (.k0 a2 (splice a3 a5 [32]) x1)) else (some (.k0 (a2 + 1) (a3.take a5 ++ [32]) x1))) else none))
abbrev F70_2_d0 (a1 : TreeD) (a2 : Nat) (a3 : List Int) (x1 : Bool) (a5 : Nat) (a6 : TreeD) (a7 : TreeD) : List AB := [.cells 25 ((cT a1).map .p), .row 5 1 a2 (ra eU8 a3), .cells 87 [(sp x1 2 0), (.sl 1 a2 1 0 a5)], .cells 25 ((cT a6).map .p), .row 25 3 0 (ra cT []), .cells 25 ((cT a7).map .p)]
abbrev F70_2_d1 (a1 : TreeD) (a2 : Nat) (a3 : List Int) (a5 : Nat) (x1 : Bool) (a6 : TreeD) (a7 : TreeD) : List AB := [.cells 25 ((cT a1).map .p), .row 5 1 a2 (ra eU8 (splice a3 a5 [32])), .cells 87 [(sp x1 2 0), (.sl 1 a2 1 0 a5)], .cells 25 ((cT a6).map .p), .row 25 3 0 (ra cT []), .cells 25 ((cT a7).map .p), .row 5 1 0 [[(vi .u8 32)]]]
abbrev F70_2_d2 (a1 : TreeD) (a2 : Nat) (a3 : List Int) (x1 : Bool) (a5 : Nat) (a6 : TreeD) (a7 : TreeD) : List AB := [.cells 25 ((cT a1).map .p), .row 5 1 a2 (ra eU8 a3), .cells 87 [(sp x1 2 0), (.sl 1 a2 1 0 a5)], .cells 25 ((cT a6).map .p), .row 25 3 0 (ra cT []), .cells 25 ((cT a7).map .p), .row 5 1 0 [[(vi .u8 32)]]]
abbrev F70_2_d3 (a1 : TreeD) (a2 : Nat) (a3 : List Int) (a5 : Nat) (x1 : Bool) (a6 : TreeD) (a7 : TreeD) : List AB := [.cells 25 ((cT a1).map .p), .row 5 1 (a2 + 1) (ra eU8 (a3.take a5 ++ [32])), .cells 87 [(sp x1 2 0), (.sl 1 a2 1 0 a5)], .cells 25 ((cT a6).map .p), .row 25 3 0 (ra cT []), .cells 25 ((cT a7).map .p), .row 5 1 0 [[(vi .u8 32)]]]
abbrev F70_2_c0 (a1 : TreeD) (a2 : Nat) (a3 : List Int) (x1 : Bool) (a5 : Nat) (a6 : TreeD) (a7 : TreeD) : List (Nat × Hint) := [(6, .r (.tup []) (F70_2_d0 a1 a2 a3 x1 a5 a6 a7))]
theorem F70_2_ok (a1 : TreeD) (a2 : Nat) (a3 : List Int) (a4 : Bool) (a5 : Nat) (a6 : TreeD) (a7 : TreeD) {r : R_F70_2} (h : F70_2 a2 a3 a4 a5 = some r) : CS pg 70 [(.ptr 2 0), (vi .u8 32)] [.cells 25 ((cT a1).map .p), .row 5 1 a2 (ra eU8 a3), .cells 87 [(sp a4 2 0), (.sl 1 a2 1 0 a5)], .cells 25 ((cT a6).map .p), .row 25 3 0 (ra cT []), .cells 25 ((cT a7).map .p)] = some (F70_2_v a1 a2 a3 a4 a5 a6 a7 r, F70_2_h a1 a2 a3 a4 a5 a6 a7 r) := by
 unfold F70_2 at h
 refine bn h fun x1 h1 h => ?_
 have q0 := ((F82_7_ok a1 a2 a3 a4 a5 a6 a7 h1) : CS pg 82 [(.ptr 2 0)] [.cells 25 ((cT a1).map .p), .row 5 1 a2 (ra eU8 a3), .cells 87 [(sp a4 2 0), (.sl 1 a2 1 0 a5)], .cells 25 ((cT a6).map .p), .row 25 3 0 (ra cT []), .cells 25 ((cT a7).map .p)] = some ((.tup []), (F70_2_d0 a1 a2 a3 x1 a5 a6 a7)))
 refine bi h (fun h2 h => ?_) fun h2 h => ?_
 ·
  refine bi h (fun h3 h => ?_) fun h3 h => ?_
  ·
   rw [← sj h]
   exact fcs ((F70_2_c0 a1 a2 a3 x1 a5 a6 a7) ++ [(14, .r (.sl 1 a2 1 0 (a5 + 1)) (F70_2_d1 a1 a2 a3 a5 x1 a6 a7))]) (apc q0 (apc ((ap_in (e := eU8) (xs := a3) (news := [32]) rfl (rows_x (e := eU8) (xs := [32]) rfl) rfl h2 h3) : appA (F70_2_d2 a1 a2 a3 x1 a5 a6 a7) 5 1 1 (.sl 1 a2 1 0 a5) (.sl 6 0 1 0 1) = some ((.sl 1 a2 1 0 (a5 + 1)), (F70_2_d1 a1 a2 a3 a5 x1 a6 a7))) apn)) (by kernel_rfl)
  ·
   rw [← sj h]
   exact fcs ((F70_2_c0 a1 a2 a3 x1 a5 a6 a7) ++ [(14, .r (.sl 1 (a2 + 1) 1 0 (a5 + 1)) (F70_2_d3 a1 a2 a3 a5 x1 a6 a7))]) (apc q0 (apc ((ap_out (e := eU8) (xs := a3) (news := [32]) rfl (rows_x (e := eU8) (xs := [32]) rfl) rfl h2 h3) : appA (F70_2_d2 a1 a2 a3 x1 a5 a6 a7) 5 1 1 (.sl 1 a2 1 0 a5) (.sl 6 0 1 0 1) = some ((.sl 1 (a2 + 1) 1 0 (a5 + 1)), (F70_2_d3 a1 a2 a3 a5 x1 a6 a7))) apn)) (by kernel_rfl)
 ·
  cases h
inductive E_L48_0_3 where
  | k0 (x0 : Nat) (x1 : List Int) (x2 : Bool) (x3 : Nat)
def L48_0_3 (rF48_3 : T_F48_3) (a1 : TreeD) (a2 : Int) (a3 : TreeD) (v1 : Int) (v2 : Nat) (v3 : List Int) (v4 : Bool) (v5 : Nat) : Option (E_L48_0_3 ⊕ (Int × Nat × (List Int) × Bool × Nat)) :=
  (bif (decide (v1 < a2)) then ((getI a1.kids v1).bind fun x2 => (bif (decide (v1 > 0)) then ((F70_2 v2 v3 v4 v5).bind fun r4 => match r4 with | .k0 x4_0 x4_1 x4_2 => ((rF48_3 x2 a3 x4_0 x4_1 x4_2 (v5 + 1)).bind fun r5 => match r5 with | .k0 x5_0 x5_1 x5_2 x5_3 => (some (.inr ((IntKind.wrap .i64 (v1 + 1)), x5_0, x5_1, x5_2, x5_3))))) else ((rF48_3 x2 a3 v2 v3 v4 v5).bind fun r4 => match r4 with | .k0 x4_0 x4_1 x4_2 x4_3 => (some (.inr ((IntKind.wrap .i64 (v1 + 1)), x4_0, x4_1, x4_2, x4_3)))))) else (some (.inl (.k0 v2 v3 v4 v5))))
def L48_0_3_s (a1 : TreeD) (a2 : Int) (a3 : TreeD) (v1 : Int) (v2 : Nat) (v3 : List Int) (v4 : Bool) (v5 : Nat) : St := ⟨fr 44 ug [(0, (.ptr 2 0)), (27, (.p (.lst 3 (eTrees a1.kids)))), (28, (i6 a2)), (29, (i6 v1))], [.cells 25 ((cT a3).map .p), .row 5 1 v2 (ra eU8 v3), .cells 87 [(sp v4 2 0), (.sl 1 v2 1 0 v5)], .cells 25 ((cT a1).map .p)]⟩
def L48_0_3_x (a1 : TreeD) (a2 : Int) (a3 : TreeD) (e : E_L48_0_3) (r : Option (Out × St)) : Prop := match e with | .k0 x0 x1 x2 x3 => ∃ g, r = some ((.brk 0), ⟨fr 44 g [(0, (.ptr 2 0)), (27, (.p (.lst 3 (eTrees a1.kids))))], [.cells 25 ((cT a3).map .p), .row 5 1 x0 (ra eU8 x1), .cells 87 [(sp x2 2 0), (.sl 1 x0 1 0 x3)], .cells 25 ((cT a1).map .p)]⟩)
abbrev L48_0_3_d0 (a3 : TreeD) (x4_0 : Nat) (x4_1 : List Int) (x4_2 : Bool) (v5 : Nat) (a1 : TreeD) (x2 : TreeD) : List AB := [.cells 25 ((cT a3).map .p), .row 5 1 x4_0 (ra eU8 x4_1), .cells 87 [(sp x4_2 2 0), (.sl 1 x4_0 1 0 (v5 + 1))], .cells 25 ((cT a1).map .p), .row 25 3 0 (ra cT []), .cells 25 ((cT x2).map .p), .row 5 1 0 [[(vi .u8 32)]]]
abbrev L48_0_3_d1 (a3 : TreeD) (x5_0 : Nat) (x5_1 : List Int) (x5_2 : Bool) (x5_3 : Nat) (a1 : TreeD) (x2 : TreeD) : List AB := [.cells 25 ((cT a3).map .p), .row 5 1 x5_0 (ra eU8 x5_1), .cells 87 [(sp x5_2 2 0), (.sl 1 x5_0 1 0 x5_3)], .cells 25 ((cT a1).map .p), .row 25 3 0 (ra cT []), .cells 25 ((cT x2).map .p), .row 5 1 0 [[(vi .u8 32)]]]
abbrev L48_0_3_d2 (a3 : TreeD) (v2 : Nat) (v3 : List Int) (v4 : Bool) (v5 : Nat) (a1 : TreeD) (x2 : TreeD) : List AB := [.cells 25 ((cT a3).map .p), .row 5 1 v2 (ra eU8 v3), .cells 87 [(sp v4 2 0), (.sl 1 v2 1 0 v5)], .cells 25 ((cT a1).map .p), .row 25 3 0 (ra cT []), .cells 25 ((cT x2).map .p)]
abbrev L48_0_3_d3 (a3 : TreeD) (x4_0 : Nat) (x4_1 : List Int) (x4_2 : Bool) (x4_3 : Nat) (a1 : TreeD) (x2 : TreeD) : List AB := [.cells 25 ((cT a3).map .p), .row 5 1 x4_0 (ra eU8 x4_1), .cells 87 [(sp x4_2 2 0), (.sl 1 x4_0 1 0 x4_3)], .cells 25 ((cT a1).map .p), .row 25 3 0 (ra cT []), .cells 25 ((cT x2).map .p)]
theorem L48_0_3_ok (rF48_3 : T_F48_3) (hF48_3 : H_F48_3 rF48_3) (a1 : TreeD) (a2 : Int) (a3 : TreeD) (v1 : Int) (v2 : Nat) (v3 : List Int) (v4 : Bool) (v5 : Nat) {r : E_L48_0_3 ⊕ (Int × Nat × (List Int) × Bool × Nat)} (h : L48_0_3 rF48_3 a1 a2 a3 v1 v2 v3 v4 v5 = some r) : OkR (fun e => L48_0_3_x a1 a2 a3 e (evH pg 4 [0, 27, 28, 29] ir48_l0 (L48_0_3_s a1 a2 a3 v1 v2 v3 v4 v5))) (fun s => evH pg 4 [0, 27, 28, 29] ir48_l0 (L48_0_3_s a1 a2 a3 v1 v2 v3 v4 v5) = evH pg 4 [0, 27, 28, 29] ir48_l0 (L48_0_3_s a1 a2 a3 s.1 s.2.1 s.2.2.1 s.2.2.2.1 s.2.2.2.2)) r := by
 unfold L48_0_3 at h
 refine bi h (fun h1 h => ?_) fun h1 h => ?_
 ·
  refine bn h fun x2 h2 h => ?_
  have q1 := ((igr tr_map h2) : idxA 3 (.p (.lst 3 (eTrees a1.kids))) (i6 v1) = some (.ro (cT x2)))
  refine bi h (fun h3 h => ?_) fun h3 h => ?_
  ·
   refine bn h fun r4 h4 h => ?_
   cases r4 with
   | k0 x4_0 x4_1 x4_2 =>
    refine bn h fun r5 h5 h => ?_
    cases r5 with
    | k0 x5_0 x5_1 x5_2 x5_3 =>
     rw [← sj h]
     exact rnd [(30, .d true), (32, .v (.ro (cT x2))), (35, .d true), (37, .r (.p (.val .nilIface)) (L48_0_3_d0 a3 x4_0 x4_1 x4_2 v5 a1 x2)), (40, .r (.tup []) (L48_0_3_d1 a3 x5_0 x5_1 x5_2 x5_3 a1 x2)), (6000, .d true)] (apc (cv h1) (apc q1 (apc (cv h3) (apc ((F70_2_ok a3 v2 v3 v4 v5 a1 x2 h4) : CS pg 70 [(.ptr 2 0), (vi .u8 32)] (L48_0_3_d2 a3 v2 v3 v4 v5 a1 x2) = some ((.p (.val .nilIface)), (L48_0_3_d0 a3 x4_0 x4_1 x4_2 v5 a1 x2))) (apc ((hF48_3 x2 a3 x4_0 x4_1 x4_2 (v5 + 1) h5 [.cells 25 ((cT a1).map .p), .row 25 3 0 (ra cT []), .cells 25 ((cT x2).map .p), .row 5 1 0 [[(vi .u8 32)]]]) : CS pg 48 [(.ptr 2 0), (.agg ((cT x2).map .p))] (L48_0_3_d0 a3 x4_0 x4_1 x4_2 v5 a1 x2) = some ((.tup []), (L48_0_3_d1 a3 x5_0 x5_1 x5_2 x5_3 a1 x2))) (apc ((okT_of rfl (abl_cons rfl (abl_cons abl_row (abl_cons (blw_sp rfl (blw_c rfl rfl)) (abl_cons rfl rfl))))) : okT 4 (L48_0_3_d1 a3 x5_0 x5_1 x5_2 x5_3 a1 x2) = true) apn)))))) (by kernel_rfl)
  ·
   refine bn h fun r4 h4 h => ?_
   cases r4 with
   | k0 x4_0 x4_1 x4_2 x4_3 =>
    rw [← sj h]
    exact rnd [(30, .d true), (32, .v (.ro (cT x2))), (35, .d false), (40, .r (.tup []) (L48_0_3_d3 a3 x4_0 x4_1 x4_2 x4_3 a1 x2)), (6000, .d true)] (apc (cv h1) (apc q1 (apc (cv h3) (apc ((hF48_3 x2 a3 v2 v3 v4 v5 h4 [.cells 25 ((cT a1).map .p), .row 25 3 0 (ra cT []), .cells 25 ((cT x2).map .p)]) : CS pg 48 [(.ptr 2 0), (.agg ((cT x2).map .p))] (L48_0_3_d2 a3 v2 v3 v4 v5 a1 x2) = some ((.tup []), (L48_0_3_d3 a3 x4_0 x4_1 x4_2 x4_3 a1 x2))) (apc ((okT_of rfl (abl_cons rfl (abl_cons abl_row (abl_cons (blw_sp rfl (blw_c rfl rfl)) (abl_cons rfl rfl))))) : okT 4 (L48_0_3_d3 a3 x4_0 x4_1 x4_2 x4_3 a1 x2) = true) apn))))) (by kernel_rfl)
 ·
  rw [← sj h]
  exact xbrk [(30, .d false), (6000, .d true)] (apc (cv h1) apn) (by kernel_rfl)
theorem L48_0_3_run (rF48_3 : T_F48_3) (hF48_3 : H_F48_3 rF48_3) (a1 : TreeD) (a2 : Int) (a3 : TreeD) (s0 : Int × Nat × (List Int) × Bool × Nat) (e : E_L48_0_3) (h : runL (fun s => L48_0_3 rF48_3 a1 a2 a3 s.1 s.2.1 s.2.2.1 s.2.2.2.1 s.2.2.2.2) s0 = some e) : L48_0_3_x a1 a2 a3 e (evH pg 4 [0, 27, 28, 29] ir48_l0 (L48_0_3_s a1 a2 a3 s0.1 s0.2.1 s0.2.2.1 s0.2.2.2.1 s0.2.2.2.2)) := by
  have q := @loop_sound' (Int × Nat × (List Int) × Bool × Nat) E_L48_0_3 (fun s => L48_0_3 rF48_3 a1 a2 a3 s.1 s.2.1 s.2.2.1 s.2.2.2.1 s.2.2.2.2) (fun s => evH pg 4 [0, 27, 28, 29] ir48_l0 (L48_0_3_s a1 a2 a3 s.1 s.2.1 s.2.2.1 s.2.2.2.1 s.2.2.2.2)) (L48_0_3_x a1 a2 a3) (fun s r h => L48_0_3_ok rF48_3 hF48_3 a1 a2 a3 s.1 s.2.1 s.2.2.1 s.2.2.2.1 s.2.2.2.2 h) s0 e h
  exact q
inductive R_F70 where
  | k0 (x0 : Nat) (x1 : List Int) (x2 : Bool)
def F70_v (a1 : TreeD) (a2 : Nat) (a3 : List Int) (a4 : Bool) (a5 : Nat) (a6 : TreeD) (r : R_F70) : AV := match r with | .k0 x0 x1 x2 => (.p (.val .nilIface))
def F70_h (a1 : TreeD) (a2 : Nat) (a3 : List Int) (a4 : Bool) (a5 : Nat) (a6 : TreeD) (r : R_F70) : List AB := match r with | .k0 x0 x1 x2 => [.cells 25 ((cT a1).map .p), .row 5 1 x0 (ra eU8 x1), .cells 87 [(sp x2 2 0), (.sl 1 x0 1 0 (a5 + 1))], .cells 25 ((cT a6).map .p), .row 5 1 0 [[(vi .u8 41)]]]
def F70 (a2 : Nat) (a3 : List Int) (a4 : Bool) (a5 : Nat) : Option R_F70 :=
  ((F82_6 a4).bind fun x1 => (bif (apOk a5 1 a3.length 1) then (bif (decide (a5 + 1 ≤ a3.length)) then (some (.k0 a2 (splice a3 a5 [41]) x1)) else (some (.k0 (a2 + 1) (a3.take a5 ++ [41]) x1))) else none))
abbrev F70_d0 (a1 : TreeD) (a2 : Nat) (a3 : List Int) (x1 : Bool) (a5 : Nat) (a6 : TreeD) : List AB := [.cells 25 ((cT a1).map .p), .row 5 1 a2 (ra eU8 a3), .cells 87 [(sp x1 2 0), (.sl 1 a2 1 0 a5)], .cells 25 ((cT a6).map .p)]
abbrev F70_d1 (a1 : TreeD) (a2 : Nat) (a3 : List Int) (a5 : Nat) (x1 : Bool) (a6 : TreeD) : List AB := [.cells 25 ((cT a1).map .p), .row 5 1 a2 (ra eU8 (splice a3 a5 [41])), .cells 87 [(sp x1 2 0), (.sl 1 a2 1 0 a5)], .cells 25 ((cT a6).map .p), .row 5 1 0 [[(vi .u8 41)]]]
abbrev F70_d2 (a1 : TreeD) (a2 : Nat) (a3 : List Int) (x1 : Bool) (a5 : Nat) (a6 : TreeD) : List AB := [.cells 25 ((cT a1).map .p), .row 5 1 a2 (ra eU8 a3), .cells 87 [(sp x1 2 0), (.sl 1 a2 1 0 a5)], .cells 25 ((cT a6).map .p), .row 5 1 0 [[(vi .u8 41)]]]
abbrev F70_d3 (a1 : TreeD) (a2 : Nat) (a3 : List Int) (a5 : Nat) (x1 : Bool) (a6 : TreeD) : List AB := [.cells 25 ((cT a1).map .p), .row 5 1 (a2 + 1) (ra eU8 (a3.take a5 ++ [41])), .cells 87 [(sp x1 2 0), (.sl 1 a2 1 0 a5)], .cells 25 ((cT a6).map .p), .row 5 1 0 [[(vi .u8 41)]]]
abbrev F70_c0 (a1 : TreeD) (a2 : Nat) (a3 : List Int) (x1 : Bool) (a5 : Nat) (a6 : TreeD) : List (Nat × Hint) := [(6, .r (.tup []) (F70_d0 a1 a2 a3 x1 a5 a6))]
theorem F70_ok (a1 : TreeD) (a2 : Nat) (a3 : List Int) (a4 : Bool) (a5 : Nat) (a6 : TreeD) {r : R_F70} (h : F70 a2 a3 a4 a5 = some r) : CS pg 70 [(.ptr 2 0), (vi .u8 41)] [.cells 25 ((cT a1).map .p), .row 5 1 a2 (ra eU8 a3), .cells 87 [(sp a4 2 0), (.sl 1 a2 1 0 a5)], .cells 25 ((cT a6).map .p)] = some (F70_v a1 a2 a3 a4 a5 a6 r, F70_h a1 a2 a3 a4 a5 a6 r) := by
 unfold F70 at h
 refine bn h fun x1 h1 h => ?_
 have q0 := ((F82_6_ok a1 a2 a3 a4 a5 a6 h1) : CS pg 82 [(.ptr 2 0)] [.cells 25 ((cT a1).map .p), .row 5 1 a2 (ra eU8 a3), .cells 87 [(sp a4 2 0), (.sl 1 a2 1 0 a5)], .cells 25 ((cT a6).map .p)] = some ((.tup []), (F70_d0 a1 a2 a3 x1 a5 a6)))
 refine bi h (fun h2 h => ?_) fun h2 h => ?_
 ·
  refine bi h (fun h3 h => ?_) fun h3 h => ?_
  ·
   rw [← sj h]
   exact fcs ((F70_c0 a1 a2 a3 x1 a5 a6) ++ [(14, .r (.sl 1 a2 1 0 (a5 + 1)) (F70_d1 a1 a2 a3 a5 x1 a6))]) (apc q0 (apc ((ap_in (e := eU8) (xs := a3) (news := [41]) rfl (rows_x (e := eU8) (xs := [41]) rfl) rfl h2 h3) : appA (F70_d2 a1 a2 a3 x1 a5 a6) 5 1 1 (.sl 1 a2 1 0 a5) (.sl 4 0 1 0 1) = some ((.sl 1 a2 1 0 (a5 + 1)), (F70_d1 a1 a2 a3 a5 x1 a6))) apn)) (by kernel_rfl)
  ·
   rw [← sj h]
   exact fcs ((F70_c0 a1 a2 a3 x1 a5 a6) ++ [(14, .r (.sl 1 (a2 + 1) 1 0 (a5 + 1)) (F70_d3 a1 a2 a3 a5 x1 a6))]) (apc q0 (apc ((ap_out (e := eU8) (xs := a3) (news := [41]) rfl (rows_x (e := eU8) (xs := [41]) rfl) rfl h2 h3) : appA (F70_d2 a1 a2 a3 x1 a5 a6) 5 1 1 (.sl 1 a2 1 0 a5) (.sl 4 0 1 0 1) = some ((.sl 1 (a2 + 1) 1 0 (a5 + 1)), (F70_d3 a1 a2 a3 a5 x1 a6))) apn)) (by kernel_rfl)
 ·
  cases h
def F48_3_b (rF48_3 : T_F48_3) (a1 : TreeD) (a2 : TreeD) (a3 : Nat) (a4 : List Int) (a5 : Bool) (a6 : Nat) : Option R_F48_3 :=
  (bif (decide (a1.prod < 0)) then ((getI (⟨([48, 49, 50, 51, 52, 53, 54, 55, 56, 57, 97, 98, 99, 100, 101, 102] : List UInt8).toArray⟩ : ByteArray).data.toList (Int.fdiv a1.byte (2 ^ (min (Int.toNat 4) (IntKind.bits .u8))))).bind fun x2 => ((getI (⟨([48, 49, 50, 51, 52, 53, 54, 55, 56, 57, 97, 98, 99, 100, 101, 102] : List UInt8).toArray⟩ : ByteArray).data.toList (IntKind.wrap .u8 ((BitVec.ofInt (IntKind.bits .u8) a1.byte &&& BitVec.ofInt (IntKind.bits .u8) 15).toNat : Int))).bind fun x3 => ((F68_3 a3 a4 a5 a6 (x2.toNat : Int) (x3.toNat : Int)).bind fun r4 => match r4 with | .k0 x4_0 x4_1 x4_2 => (some (.k0 x4_0 x4_1 x4_2 (a6 + 3)))))) else ((I42 a1.prod).bind fun x2 => (bif (decide (x2.size + (⟨([40] : List UInt8).toArray⟩ : ByteArray).size ≤ 9223372036854775807)) then ((F69_3 (x2 ++ (⟨([40] : List UInt8).toArray⟩ : ByteArray)) a3 a4 a5 a6).bind fun r4 => match r4 with | .k0 x4_0 x4_1 x4_2 x4_3 => ((runL (fun s => L48_0_3 rF48_3 a1 (a1.kids.length : Int) a2 s.1 s.2.1 s.2.2.1 s.2.2.2.1 s.2.2.2.2) (0, x4_1, x4_2, x4_3, (a6 + (sbytes (x2 ++ (⟨([40] : List UInt8).toArray⟩ : ByteArray))).length))).bind fun r5 => match r5 with | .k0 x5_0 x5_1 x5_2 x5_3 => ((F70 x5_0 x5_1 x5_2 x5_3).bind fun r6 => match r6 with | .k0 x6_0 x6_1 x6_2 => (some (.k0 x6_0 x6_1 x6_2 (x5_3 + 1)))))) else none)))
abbrev F48_3_d1 (a2 : TreeD) (a3 : Nat) (a4 : List Int) (a5 : Bool) (a6 : Nat) (a1 : TreeD) : List AB := [.cells 25 ((cT a2).map .p), .row 5 1 a3 (ra eU8 a4), .cells 87 [(sp a5 2 0), (.sl 1 a3 1 0 a6)], .cells 25 ((cT a1).map .p)]
abbrev F48_3_d2 (a2 : TreeD) (x6_0 : Nat) (x6_1 : List Int) (x6_2 : Bool) (x5_3 : Nat) (a1 : TreeD) : List AB := [.cells 25 ((cT a2).map .p), .row 5 1 x6_0 (ra eU8 x6_1), .cells 87 [(sp x6_2 2 0), (.sl 1 x6_0 1 0 (x5_3 + 1))], .cells 25 ((cT a1).map .p), .row 5 1 0 [[(vi .u8 41)]]]
abbrev F48_3_d4 (g5 : Nat → AV) (a1 : TreeD) (a2 : TreeD) (x5_0 : Nat) (x5_1 : List Int) (x5_2 : Bool) (x5_3 : Nat) : St := ⟨fr 44 g5 [(0, (.ptr 2 0)), (27, (.p (.lst 3 (eTrees a1.kids))))], [.cells 25 ((cT a2).map .p), .row 5 1 x5_0 (ra eU8 x5_1), .cells 87 [(sp x5_2 2 0), (.sl 1 x5_0 1 0 x5_3)], .cells 25 ((cT a1).map .p)]⟩
theorem F48_3_bok (rF48_3 : T_F48_3) (hF48_3 : H_F48_3 rF48_3) (a1 : TreeD) (a2 : TreeD) (a3 : Nat) (a4 : List Int) (a5 : Bool) (a6 : Nat) {r : R_F48_3} (h : F48_3_b rF48_3 a1 a2 a3 a4 a5 a6 = some r) : ∀ hx : List AB, CS pg 48 [(.ptr 2 0), (.agg ((cT a1).map .p))] ([.cells 25 ((cT a2).map .p), .row 5 1 a3 (ra eU8 a4), .cells 87 [(sp a5 2 0), (.sl 1 a3 1 0 a6)]] ++ hx) = some (F48_3_v a1 a2 a3 a4 a5 a6 r, F48_3_h a1 a2 a3 a4 a5 a6 r ++ hx) := by
 unfold F48_3_b at h
 refine bi h (fun h1 h => ?_) fun h1 h => ?_
 ·
  refine bn h fun x2 h2 h => ?_
  refine bn h fun x3 h3 h => ?_
  refine bn h fun r4 h4 h => ?_
  cases r4 with
  | k0 x4_0 x4_1 x4_2 =>
   rw [← sj h]
   exact fcF (m := 3) (v := (.tup [])) (h' := [.cells 25 ((cT a2).map .p), .row 5 1 x4_0 (ra eU8 x4_1), .cells 87 [(sp x4_2 2 0), (.sl 1 x4_0 1 0 (a6 + 3))], .cells 25 ((cT a1).map .p), .row 5 1 0 [[(vi .u8 120)], [(vi .u8 (x2.toNat : Int))], [(vi .u8 (x3.toNat : Int))]]]) [(8, .d true), (12, .v (vi .u8 (Int.fdiv a1.byte (2 ^ (min (Int.toNat 4) (IntKind.bits .u8)))))), (13, .v (vi .u8 (x2.toNat : Int))), (17, .v (vi .u8 (x3.toNat : Int))), (19, .r (.tup [(i6 3), (.p (.val .nilIface))]) [.cells 25 ((cT a2).map .p), .row 5 1 x4_0 (ra eU8 x4_1), .cells 87 [(sp x4_2 2 0), (.sl 1 x4_0 1 0 (a6 + 3))], .cells 25 ((cT a1).map .p), .row 5 1 0 [[(vi .u8 120)], [(vi .u8 (x2.toNat : Int))], [(vi .u8 (x3.toNat : Int))]]])] (apc (cv h1) (apc ((sh_shr (by decide)) : binA .shr (vi .u8 a1.byte) (vi .u64 4) = some (vi .u8 (Int.fdiv a1.byte (2 ^ (min (Int.toNat 4) (IntKind.bits .u8)))))) (apc ((ix_str h2) : ixS (vs (⟨([48, 49, 50, 51, 52, 53, 54, 55, 56, 57, 97, 98, 99, 100, 101, 102] : List UInt8).toArray⟩ : ByteArray)) (vi .u8 (Int.fdiv a1.byte (2 ^ (min (Int.toNat 4) (IntKind.bits .u8))))) = some (vi .u8 (x2.toNat : Int))) (apc ((ix_str h3) : ixS (vs (⟨([48, 49, 50, 51, 52, 53, 54, 55, 56, 57, 97, 98, 99, 100, 101, 102] : List UInt8).toArray⟩ : ByteArray)) (vi .u8 (IntKind.wrap .u8 ((BitVec.ofInt (IntKind.bits .u8) a1.byte &&& BitVec.ofInt (IntKind.bits .u8) 15).toNat : Int))) = some (vi .u8 (x3.toNat : Int))) (apc ((F68_3_ok a2 a3 a4 a5 a6 a1 (x2.toNat : Int) (x3.toNat : Int) h4) : CS pg 68 [(.ptr 2 0), (.sl 4 0 1 0 3)] [.cells 25 ((cT a2).map .p), .row 5 1 a3 (ra eU8 a4), .cells 87 [(sp a5 2 0), (.sl 1 a3 1 0 a6)], .cells 25 ((cT a1).map .p), .row 5 1 0 [[(vi .u8 120)], [(vi .u8 (x2.toNat : Int))], [(vi .u8 (x3.toNat : Int))]]] = some ((.tup [(i6 3), (.p (.val .nilIface))]), [.cells 25 ((cT a2).map .p), .row 5 1 x4_0 (ra eU8 x4_1), .cells 87 [(sp x4_2 2 0), (.sl 1 x4_0 1 0 (a6 + 3))], .cells 25 ((cT a1).map .p), .row 5 1 0 [[(vi .u8 120)], [(vi .u8 (x2.toNat : Int))], [(vi .u8 (x3.toNat : Int))]]])) apn))))) rfl (abl_cons rfl (abl_cons abl_row (abl_cons (blw_sp rfl (blw_c rfl rfl)) rfl))) rfl (abl_cons rfl (abl_cons abl_row (abl_cons (blw_sp rfl (blw_c rfl rfl)) rfl))) rfl (by kernel_rfl)
 ·
  refine bn h fun x2 h2 h => ?_
  have q1 := (((I42_ok a1.prod h2).cp rfl _) : CP pg 42 [(i6 a1.prod)] (F48_3_d1 a2 a3 a4 a5 a6 a1) = some (vs x2))
  refine bi h (fun h3 h => ?_) fun h3 h => ?_
  ·
   refine bn h fun r4 h4 h => ?_
   cases r4 with
   | k0 x4_0 x4_1 x4_2 x4_3 =>
    refine bn h fun r5 h5 h => ?_
    cases r5 with
    | k0 x5_0 x5_1 x5_2 x5_3 =>
     obtain ⟨g5, e5⟩ := L48_0_3_run rF48_3 hF48_3 a1 (a1.kids.length : Int) a2 (0, x4_1, x4_2, x4_3, (a6 + (sbytes (x2 ++ (⟨([40] : List UInt8).toArray⟩ : ByteArray))).length)) _ h5
     refine bn h fun r6 h6 h => ?_
     cases r6 with
     | k0 x6_0 x6_1 x6_2 =>
      rw [← sj h]
      exact fcF (m := 3) (v := (.tup [])) (h' := (F48_3_d2 a2 x6_0 x6_1 x6_2 x5_3 a1)) [(8, .d false), (23, .v (vs x2)), (24, .v (vs (x2 ++ (⟨([40] : List UInt8).toArray⟩ : ByteArray)))), (25, .r (.tup [(i6 x4_0), (.p (.val .nilIface))]) [.cells 25 ((cT a2).map .p), .row 5 1 x4_1 (ra eU8 x4_2), .cells 87 [(sp x4_3 2 0), (.sl 1 x4_1 1 0 (a6 + (sbytes (x2 ++ (⟨([40] : List UInt8).toArray⟩ : ByteArray))).length))], .cells 25 ((cT a1).map .p)]), (28, .v (i6 (a1.kids.length : Int))), (2000, .l (.brk 0) (F48_3_d4 g5 a1 a2 x5_0 x5_1 x5_2 x5_3)), (43, .r (.p (.val .nilIface)) (F48_3_d2 a2 x6_0 x6_1 x6_2 x5_3 a1)), (6000, .d true)] (apc (cv h1) (apc q1 (apc ((st_add h3) : binA .add (vs x2) (vs (⟨([40] : List UInt8).toArray⟩ : ByteArray)) = some (vs (x2 ++ (⟨([40] : List UInt8).toArray⟩ : ByteArray)))) (apc ((F69_3_ok (x2 ++ (⟨([40] : List UInt8).toArray⟩ : ByteArray)) a2 a3 a4 a5 a6 a1 h4) : CS pg 69 [(.ptr 2 0), (vs (x2 ++ (⟨([40] : List UInt8).toArray⟩ : ByteArray)))] (F48_3_d1 a2 a3 a4 a5 a6 a1) = some ((.tup [(i6 x4_0), (.p (.val .nilIface))]), [.cells 25 ((cT a2).map .p), .row 5 1 x4_1 (ra eU8 x4_2), .cells 87 [(sp x4_3 2 0), (.sl 1 x4_1 1 0 (a6 + (sbytes (x2 ++ (⟨([40] : List UInt8).toArray⟩ : ByteArray))).length))], .cells 25 ((cT a1).map .p)])) (apc ((lgr tr_map) : lnA (.p (.lst 3 (eTrees a1.kids))) = some (i6 (a1.kids.length : Int))) (apc ((okT_of rfl (abl_cons rfl (abl_cons abl_row (abl_cons (blw_sp rfl (blw_c rfl rfl)) (abl_cons rfl rfl))))) : okT 4 [.cells 25 ((cT a2).map .p), .row 5 1 x4_1 (ra eU8 x4_2), .cells 87 [(sp x4_3 2 0), (.sl 1 x4_1 1 0 (a6 + (sbytes (x2 ++ (⟨([40] : List UInt8).toArray⟩ : ByteArray))).length))], .cells 25 ((cT a1).map .p)] = true) (apc (e5 : evH pg 4 [0, 27, 28, 29] ir48_l0 (L48_0_3_s a1 (a1.kids.length : Int) a2 0 x4_1 x4_2 x4_3 (a6 + (sbytes (x2 ++ (⟨([40] : List UInt8).toArray⟩ : ByteArray))).length)) = some ((.brk 0), (F48_3_d4 g5 a1 a2 x5_0 x5_1 x5_2 x5_3))) (apc ((F70_ok a2 x5_0 x5_1 x5_2 x5_3 a1 h6) : CS pg 70 [(.ptr 2 0), (vi .u8 41)] [.cells 25 ((cT a2).map .p), .row 5 1 x5_0 (ra eU8 x5_1), .cells 87 [(sp x5_2 2 0), (.sl 1 x5_0 1 0 x5_3)], .cells 25 ((cT a1).map .p)] = some ((.p (.val .nilIface)), (F48_3_d2 a2 x6_0 x6_1 x6_2 x5_3 a1))) apn)))))))) rfl (abl_cons rfl (abl_cons abl_row (abl_cons (blw_sp rfl (blw_c rfl rfl)) rfl))) rfl (abl_cons rfl (abl_cons abl_row (abl_cons (blw_sp rfl (blw_c rfl rfl)) rfl))) rfl (by kernel_rfl)
  ·
   cases h
def F48_3 : Nat → T_F48_3
  | 0 => fun _ _ _ _ _ _ => none
  | Nf + 1 => F48_3_b (F48_3 Nf)
theorem F48_3_ok (Nf : Nat) : H_F48_3 (F48_3 Nf) := by
  induction Nf with
  | zero => intro a1 a2 a3 a4 a5 a6 r h; have h : (none : Option R_F48_3) = some r := h; cases h
  | succ Nf ih => intro a1 a2 a3 a4 a5 a6 r h; exact F48_3_bok (F48_3 Nf) ih a1 a2 a3 a4 a5 a6 h
def F49_v (a1 : TreeD) (a2 : Nat) (a3 : List Int) (a4 : Bool) (a5 : Nat) (x0 : Int) : AV := (i6 x0)
def F49_h (a1 : TreeD) (a2 : Nat) (a3 : List Int) (a4 : Bool) (a5 : Nat) (x0 : Int) : List AB := [.cells 25 ((cT a1).map .p), .row 5 1 a2 (ra eU8 a3), .cells 87 [(sp a4 2 0), (.sl 1 a2 1 0 a5)]]
def F49 (a5 : Nat) : Option Int :=
  (some ((a5 : Nat) : Int))
theorem F49_ok (a1 : TreeD) (a2 : Nat) (a3 : List Int) (a4 : Bool) (a5 : Nat) {r : Int} (h : F49 a5 = some r) : CS pg 49 [(.ptr 2 0)] [.cells 25 ((cT a1).map .p), .row 5 1 a2 (ra eU8 a3), .cells 87 [(sp a4 2 0), (.sl 1 a2 1 0 a5)]] = some (F49_v a1 a2 a3 a4 a5 r, F49_h a1 a2 a3 a4 a5 r) := by
 unfold F49 at h
 rw [← sj h]
 exact fcs [] apn (by kernel_rfl)
inductive R_F50 where
  | k0 (x0 : ByteArray)
  | k1 (x0 : ByteArray)
def F50_v (a1 : TreeD) (a2 : Nat) (a3 : List Int) (a4 : Bool) (a5 : Nat) (r : R_F50) : AV := match r with | .k0 x0 => (vs x0) | .k1 x0 => (vs x0)
def F50_h (a1 : TreeD) (a2 : Nat) (a3 : List Int) (a4 : Bool) (a5 : Nat) (r : R_F50) : List AB := match r with | .k0 x0 => [.cells 25 ((cT a1).map .p), .dead, .cells 87 [(sp a4 2 0), (.sl 1 a2 1 0 a5)]] | .k1 x0 => [.cells 25 ((cT a1).map .p), .row 5 1 a2 (ra eU8 a3), .cells 87 [(sp a4 2 0), (.sl 1 a2 1 0 a5)]]
def F50 (a3 : List Int) (a5 : Nat) : Option R_F50 :=
  (bif (decide (0 < a5)) then (bif (usOk a5 a3.length) then (some (.k0 (bstr (a3.take a5)))) else none) else (some (.k1 ByteArray.empty)))
abbrev F50_d0 (a1 : TreeD) (a2 : Nat) (a3 : List Int) (a4 : Bool) (a5 : Nat) : List AB := [.cells 25 ((cT a1).map .p), .row 5 1 a2 (ra eU8 a3), .cells 87 [(sp a4 2 0), (.sl 1 a2 1 0 a5)]]
abbrev F50_d1 (a1 : TreeD) (a4 : Bool) (a2 : Nat) (a5 : Nat) : List AB := [.cells 25 ((cT a1).map .p), .dead, .cells 87 [(sp a4 2 0), (.sl 1 a2 1 0 a5)]]
theorem F50_ok (a1 : TreeD) (a2 : Nat) (a3 : List Int) (a4 : Bool) (a5 : Nat) {r : R_F50} (h : F50 a3 a5 = some r) : CS pg 50 [(.ptr 2 0)] [.cells 25 ((cT a1).map .p), .row 5 1 a2 (ra eU8 a3), .cells 87 [(sp a4 2 0), (.sl 1 a2 1 0 a5)]] = some (F50_v a1 a2 a3 a4 a5 r, F50_h a1 a2 a3 a4 a5 r) := by
 unfold F50 at h
 refine bi h (fun h1 h => ?_) fun h1 h => ?_
 ·
  have q0 := ((sd_t (e := eU8) (xs := a3) rfl h1) : sdA (F50_d0 a1 a2 a3 a4 a5) (.sl 1 a2 1 0 a5) = some (.rp 1 a2 1 0 0))
  refine bi h (fun h2 h => ?_) fun h2 h => ?_
  ·
   rw [← sj h]
   exact fcs [(7, .v (.rp 1 a2 1 0 0)), (13, .r (vs (bstr (a3.take a5))) (F50_d1 a1 a4 a2 a5))] (apc q0 (apc ((us_t (e := eU8) (xs := a3) rfl h1 h2) : uSA (F50_d0 a1 a2 a3 a4 a5) 5 (.rp 1 a2 1 0 0) (i6 ((a5 : Nat) : Int)) = some ((vs (bstr (a3.take a5))), (F50_d1 a1 a4 a2 a5))) apn)) (by kernel_rfl)
  ·
   cases h
 ·
  rw [← sj h]
  exact fcs [(7, .v .anyp), (13, .r (vs ByteArray.empty) (F50_d0 a1 a2 a3 a4 a5))] (apc ((sd_f (e := eU8) (xs := a3) rfl h1) : sdA (F50_d0 a1 a2 a3 a4 a5) (.sl 1 a2 1 0 a5) = some .anyp) (apc ((us_f h1) : uSA (F50_d0 a1 a2 a3 a4 a5) 5 .anyp (i6 ((a5 : Nat) : Int)) = some ((vs ByteArray.empty), (F50_d0 a1 a2 a3 a4 a5))) apn)) (by kernel_rfl)
inductive R_F20 where
  | k0 (x0 : ByteArray) (x1 : Int)
def F20_v (a1 : TreeD) (r : R_F20) : AV := match r with | .k0 x0 x1 => (.tup [(vs x0), (i6 x1)])
def F20 (Nf : Nat) (a1 : TreeD) : Option R_F20 :=
  ((F23 a1).bind fun x1 => (bif (x1 != 0) then (some (.k0 (⟨([] : List UInt8).toArray⟩ : ByteArray) x1)) else ((F48_3 Nf a1 a1 0 ([]) false 0).bind fun r3 => match r3 with | .k0 x3_0 x3_1 x3_2 x3_3 => ((F49 x3_3).bind fun x4 => (bif (decide (x4 > 1048576)) then (some (.k0 (⟨([] : List UInt8).toArray⟩ : ByteArray) 3)) else ((F50 x3_1 x3_3).bind fun r6 => match r6 with | .k0 x6_0 => (some (.k0 x6_0 0)) | .k1 x6_0 => (some (.k0 x6_0 0))))))))
abbrev F20_d0 (a1 : TreeD) (x3_0 : Nat) (x3_1 : List Int) (x3_2 : Bool) (x3_3 : Nat) : List AB := [.cells 25 ((cT a1).map .p), .row 5 1 x3_0 (ra eU8 x3_1), .cells 87 [(sp x3_2 2 0), (.sl 1 x3_0 1 0 x3_3)]]
abbrev F20_d1 (a1 : TreeD) (x3_2 : Bool) (x3_0 : Nat) (x3_3 : Nat) : List AB := [.cells 25 ((cT a1).map .p), .dead, .cells 87 [(sp x3_2 2 0), (.sl 1 x3_0 1 0 x3_3)]]
abbrev F20_c0 (a1 : TreeD) (x3_0 : Nat) (x3_1 : List Int) (x3_2 : Bool) (x3_3 : Nat) : List (Nat × Hint) := [(12, .r (.tup []) (F20_d0 a1 x3_0 x3_1 x3_2 x3_3))]
abbrev F20_c1 (x4 : Int) (a1 : TreeD) (x3_0 : Nat) (x3_1 : List Int) (x3_2 : Bool) (x3_3 : Nat) : List (Nat × Hint) := [(13, .r (i6 x4) (F20_d0 a1 x3_0 x3_1 x3_2 x3_3))]
theorem F20_ok (Nf : Nat) (a1 : TreeD) {r : R_F20} (h : F20 Nf a1 = some r) : PR1 pg 20 [(.agg ((cT a1).map .p))] (F20_v a1 r) := by
 unfold F20 at h
 refine bn h fun x1 h1 h => ?_
 have q0 := (((F23_ok a1 h1).cp rfl _) : CP pg 23 [(.agg ((cT a1).map .p))] [.cells 25 ((cT a1).map .p)] = some (i6 x1))
 refine bi h (fun h2 h => ?_) fun h2 h => ?_
 ·
  rw [← sj h]
  exact fpr [(7, .v (i6 x1)), (9, .d true)] (apc q0 (apc (cv h2) apn)) rfl (by kernel_rfl)
 ·
  refine bn h fun r3 h3 h => ?_
  cases r3 with
  | k0 x3_0 x3_1 x3_2 x3_3 =>
   have q2 := ((F48_3_ok Nf a1 a1 0 ([]) false 0 h3 []) : CS pg 48 [(.ptr 2 0), (.agg ((cT a1).map .p))] [.cells 25 ((cT a1).map .p), .row 5 1 0 (ra eU8 []), .cells 87 [(sp false 2 0), (.sl 1 0 1 0 0)]] = some ((.tup []), (F20_d0 a1 x3_0 x3_1 x3_2 x3_3)))
   refine bn h fun x4 h4 h => ?_
   have q3 := ((F49_ok a1 x3_0 x3_1 x3_2 x3_3 h4) : CS pg 49 [(.ptr 2 0)] (F20_d0 a1 x3_0 x3_1 x3_2 x3_3) = some ((i6 x4), (F20_d0 a1 x3_0 x3_1 x3_2 x3_3)))
   refine bi h (fun h5 h => ?_) fun h5 h => ?_
   ·
    rw [← sj h]
    exact fpr ([(7, .v (i6 x1)), (9, .d false)] ++ ((F20_c0 a1 x3_0 x3_1 x3_2 x3_3) ++ ((F20_c1 x4 a1 x3_0 x3_1 x3_2 x3_3) ++ [(14, .d true)]))) (apc q0 (apc (cv h2) (apc q2 (apc q3 (apc (cv h5) apn))))) rfl (by kernel_rfl)
   ·
    refine bn h fun r6 h6 h => ?_
    cases r6 with
    | k0 x6_0 =>
     rw [← sj h]
     exact fpr ([(7, .v (i6 x1)), (9, .d false)] ++ ((F20_c0 a1 x3_0 x3_1 x3_2 x3_3) ++ ((F20_c1 x4 a1 x3_0 x3_1 x3_2 x3_3) ++ [(14, .d false), (15, .r (vs x6_0) (F20_d1 a1 x3_2 x3_0 x3_3))]))) (apc q0 (apc (cv h2) (apc q2 (apc q3 (apc (cv h5) (apc ((F50_ok a1 x3_0 x3_1 x3_2 x3_3 h6) : CS pg 50 [(.ptr 2 0)] (F20_d0 a1 x3_0 x3_1 x3_2 x3_3) = some ((vs x6_0), (F20_d1 a1 x3_2 x3_0 x3_3))) apn)))))) rfl (by kernel_rfl)
    | k1 x6_0 =>
     rw [← sj h]
     exact fpr ([(7, .v (i6 x1)), (9, .d false)] ++ ((F20_c0 a1 x3_0 x3_1 x3_2 x3_3) ++ ((F20_c1 x4 a1 x3_0 x3_1 x3_2 x3_3) ++ [(14, .d false), (15, .r (vs x6_0) (F20_d0 a1 x3_0 x3_1 x3_2 x3_3))]))) (apc q0 (apc (cv h2) (apc q2 (apc q3 (apc (cv h5) (apc ((F50_ok a1 x3_0 x3_1 x3_2 x3_3 h6) : CS pg 50 [(.ptr 2 0)] (F20_d0 a1 x3_0 x3_1 x3_2 x3_3) = some ((vs x6_0), (F20_d0 a1 x3_0 x3_1 x3_2 x3_3))) apn)))))) rfl (by kernel_rfl)
def F15_v (a1 : Int) (x0 : Int) : AV := (i6 x0)
def F15 (a1 : Int) : Option Int :=
  (some a1)
theorem F15_ok (a1 : Int) {r : Int} (h : F15 a1 = some r) : PR1 pg 15 [(i6 a1)] (F15_v a1 r) := by
 unfold F15 at h
 rw [← sj h]
 exact fpr [] apn rfl (by kernel_rfl)
def F24_v (a1 : TreeD) (a2 : TreeD) (x0 : Bool) : AV := (vb x0)
abbrev T_F24 := TreeD → TreeD → Option Bool
abbrev H_F24 (f : T_F24) : Prop := ∀ (a1 : TreeD) (a2 : TreeD) {r : Bool}, f a1 a2 = some r → PR1 pg 24 [(.agg ((cT a1).map .p)), (.agg ((cT a2).map .p))] (F24_v a1 a2 r)
inductive E_L55_0 where
  | k0
  | k1
def L55_0 (rF24 : T_F24) (a1 : TreeD) (a2 : TreeD) (a3 : Int) (v1 : Int) : Option (E_L55_0 ⊕ (Int)) :=
  (bif (decide (v1 < a3)) then ((getI a2.kids v1).bind fun x2 => ((getI a1.kids v1).bind fun x3 => ((rF24 x2 x3).bind fun x4 => (bif x4 then (some (.inr ((IntKind.wrap .i64 (v1 + 1))))) else (some (.inl (.k0))))))) else (some (.inl (.k1))))
def L55_0_s (a1 : TreeD) (a2 : TreeD) (a3 : Int) (v1 : Int) : St := ⟨fr 32 ug [(1, (.p (.lst 3 (eTrees a1.kids)))), (2, (.fn 24 [])), (15, (.p (.lst 3 (eTrees a2.kids)))), (16, (i6 a3)), (17, (i6 v1))], []⟩
def L55_0_x (a1 : TreeD) (a2 : TreeD) (a3 : Int) (e : E_L55_0) (r : Option (Out × St)) : Prop := match e with | .k0 => ∃ g y, r = some (.ret, ⟨fr 32 g [(6, (vb false))], y⟩) | .k1 => ∃ g, r = some ((.brk 0), ⟨fr 32 g [(1, (.p (.lst 3 (eTrees a1.kids)))), (15, (.p (.lst 3 (eTrees a2.kids))))], []⟩)
abbrev L55_0_d0 (x2 : TreeD) (x3 : TreeD) : List AB := [.row 25 3 0 (ra cT []), .cells 25 ((cT x2).map .p), .row 25 3 0 (ra cT []), .cells 25 ((cT x3).map .p)]
theorem L55_0_ok (rF24 : T_F24) (hF24 : H_F24 rF24) (a1 : TreeD) (a2 : TreeD) (a3 : Int) (v1 : Int) {r : E_L55_0 ⊕ (Int)} (h : L55_0 rF24 a1 a2 a3 v1 = some r) : OkR (fun e => L55_0_x a1 a2 a3 e (evH pg 0 [1, 2, 15, 16, 17] ir55_l0 (L55_0_s a1 a2 a3 v1))) (fun s => evH pg 0 [1, 2, 15, 16, 17] ir55_l0 (L55_0_s a1 a2 a3 v1) = evH pg 0 [1, 2, 15, 16, 17] ir55_l0 (L55_0_s a1 a2 a3 s)) r := by
 unfold L55_0 at h
 refine bi h (fun h1 h => ?_) fun h1 h => ?_
 ·
  refine bn h fun x2 h2 h => ?_
  have q1 := ((igr tr_map h2) : idxA 3 (.p (.lst 3 (eTrees a2.kids))) (i6 v1) = some (.ro (cT x2)))
  refine bn h fun x3 h3 h => ?_
  have q2 := ((igr tr_map h3) : idxA 3 (.p (.lst 3 (eTrees a1.kids))) (i6 v1) = some (.ro (cT x3)))
  refine bn h fun x4 h4 h => ?_
  refine bi h (fun h5 h => ?_) fun h5 h => ?_
  ·
   rw [← sj h]
   exact rnd [(18, .d true), (20, .v (.ro (cT x2))), (24, .v (.ro (cT x3))), (29, .v (vb true)), (6000, .d true)] (apc (cv h1) (apc q1 (apc q2 (apc ((((hF24 x2 x3 h4).cp rfl _).trans (congrArg (fun z => some (vb z)) h5)) : CP pg 24 [(.agg ((cT x2).map .p)), (.agg ((cT x3).map .p))] (L55_0_d0 x2 x3) = some (vb true)) (apc ((okT_of rfl rfl) : okT 0 (L55_0_d0 x2 x3) = true) apn))))) (by kernel_rfl)
  ·
   rw [← sj h]
   exact xretY [(18, .d true), (20, .v (.ro (cT x2))), (24, .v (.ro (cT x3))), (29, .v (vb false)), (6000, .d true)] (apc (cv h1) (apc q1 (apc q2 (apc ((((hF24 x2 x3 h4).cp rfl _).trans (congrArg (fun z => some (vb z)) h5)) : CP pg 24 [(.agg ((cT x2).map .p)), (.agg ((cT x3).map .p))] (L55_0_d0 x2 x3) = some (vb false)) apn)))) (by kernel_rfl)
 ·
  rw [← sj h]
  exact xbrk [(18, .d false), (6000, .d true)] (apc (cv h1) apn) (by kernel_rfl)
theorem L55_0_run (rF24 : T_F24) (hF24 : H_F24 rF24) (a1 : TreeD) (a2 : TreeD) (a3 : Int) (s0 : Int) (e : E_L55_0) (h : runL (fun s => L55_0 rF24 a1 a2 a3 s) s0 = some e) : L55_0_x a1 a2 a3 e (evH pg 0 [1, 2, 15, 16, 17] ir55_l0 (L55_0_s a1 a2 a3 s0)) := by
  have q := @loop_sound' (Int) E_L55_0 (fun s => L55_0 rF24 a1 a2 a3 s) (fun s => evH pg 0 [1, 2, 15, 16, 17] ir55_l0 (L55_0_s a1 a2 a3 s)) (L55_0_x a1 a2 a3) (fun s r h => L55_0_ok rF24 hF24 a1 a2 a3 s h) s0 e h
  exact q
def F55_v (a1 : TreeD) (a2 : TreeD) (x0 : Bool) : AV := (vb x0)
def F55 (rF24 : T_F24) (a1 : TreeD) (a2 : TreeD) : Option Bool :=
  (bif ((a1.kids.length : Int) != (a2.kids.length : Int)) then (some false) else ((runL (fun s => L55_0 rF24 a2 a1 (a1.kids.length : Int) s) 0).bind fun r2 => match r2 with | .k0 => (some false) | .k1 => (some true)))
abbrev F55_d0 (g2 : Nat → AV) (a2 : TreeD) (a1 : TreeD) : St := ⟨fr 32 g2 [(1, (.p (.lst 3 (eTrees a2.kids)))), (15, (.p (.lst 3 (eTrees a1.kids))))], []⟩
theorem F55_ok (rF24 : T_F24) (hF24 : H_F24 rF24) (a1 : TreeD) (a2 : TreeD) {r : Bool} (h : F55 rF24 a1 a2 = some r) : PR1 pg 55 [(.p (.lst 3 (eTrees a1.kids))), (.p (.lst 3 (eTrees a2.kids))), (.fn 24 [])] (F55_v a1 a2 r) := by
 unfold F55 at h
 have q0 := ((lgr tr_map) : lnA (.p (.lst 3 (eTrees a1.kids))) = some (i6 (a1.kids.length : Int)))
 have q1 := ((lgr tr_map) : lnA (.p (.lst 3 (eTrees a2.kids))) = some (i6 (a2.kids.length : Int)))
 refine bi h (fun h1 h => ?_) fun h1 h => ?_
 ·
  rw [← sj h]
  exact fpr [(11, .v (i6 (a1.kids.length : Int))), (13, .v (i6 (a2.kids.length : Int))), (14, .d true)] (apc q0 (apc q1 (apc (cv h1) apn))) rfl (by kernel_rfl)
 ·
  have q3 := ((lgr tr_map) : lnA (.p (.lst 3 (eTrees a1.kids))) = some (i6 (a1.kids.length : Int)))
  refine bn h fun r2 h2 h => ?_
  cases r2 with
  | k0 =>
   obtain ⟨g2, y2, e2⟩ := L55_0_run rF24 hF24 a2 a1 (a1.kids.length : Int) 0 _ h2
   rw [← sj h]
   exact fpr [(11, .v (i6 (a1.kids.length : Int))), (13, .v (i6 (a2.kids.length : Int))), (14, .d false), (16, .v (i6 (a1.kids.length : Int))), (2000, .l .ret ⟨fr 32 g2 [(6, (vb false))], y2⟩), (6000, .d true)] (apc q0 (apc q1 (apc (cv h1) (apc q3 (apc ((okT_of rfl rfl) : okT 0 [] = true) (apc (e2 : evH pg 0 [1, 2, 15, 16, 17] ir55_l0 (L55_0_s a2 a1 (a1.kids.length : Int) 0) = some (.ret, ⟨fr 32 g2 [(6, (vb false))], y2⟩)) apn)))))) rfl (by kernel_rfl)
  | k1 =>
   obtain ⟨g2, e2⟩ := L55_0_run rF24 hF24 a2 a1 (a1.kids.length : Int) 0 _ h2
   rw [← sj h]
   exact fpr [(11, .v (i6 (a1.kids.length : Int))), (13, .v (i6 (a2.kids.length : Int))), (14, .d false), (16, .v (i6 (a1.kids.length : Int))), (2000, .l (.brk 0) (F55_d0 g2 a2 a1)), (6000, .d true)] (apc q0 (apc q1 (apc (cv h1) (apc q3 (apc ((okT_of rfl rfl) : okT 0 [] = true) (apc (e2 : evH pg 0 [1, 2, 15, 16, 17] ir55_l0 (L55_0_s a2 a1 (a1.kids.length : Int) 0) = some ((.brk 0), (F55_d0 g2 a2 a1))) apn)))))) rfl (by kernel_rfl)
def F24_b (rF24 : T_F24) (a1 : TreeD) (a2 : TreeD) : Option Bool :=
  (bif (a1.prod == a2.prod) then (bif (a1.byte == a2.byte) then ((F55 rF24 a1 a2).bind fun x3 => (some x3)) else (some false)) else (some false))
theorem F24_bok (rF24 : T_F24) (hF24 : H_F24 rF24) (a1 : TreeD) (a2 : TreeD) {r : Bool} (h : F24_b rF24 a1 a2 = some r) : PR1 pg 24 [(.agg ((cT a1).map .p)), (.agg ((cT a2).map .p))] (F24_v a1 a2 r) := by
 unfold F24_b at h
 refine bi h (fun h1 h => ?_) fun h1 h => ?_
 ·
  refine bi h (fun h2 h => ?_) fun h2 h => ?_
  ·
   refine bn h fun x3 h3 h => ?_
   rw [← sj h]
   exact fpr [(9, .d true), (15, .d true), (22, .v (vb x3))] (apc (cv h1) (apc (cv h2) (apc (((F55_ok rF24 hF24 a1 a2 h3).cp rfl _) : CP pg 55 [(.p (.lst 3 (eTrees a1.kids))), (.p (.lst 3 (eTrees a2.kids))), (.fn 24 [])] [.cells 25 ((cT a1).map .p), .cells 25 ((cT a2).map .p)] = some (vb x3)) apn))) rfl (by kernel_rfl)
  ·
   rw [← sj h]
   exact fpr [(9, .d true), (15, .d false)] (apc (cv h1) (apc (cv h2) apn)) rfl (by kernel_rfl)
 ·
  rw [← sj h]
  exact fpr [(9, .d false)] (apc (cv h1) apn) rfl (by kernel_rfl)
def F24 : Nat → T_F24
  | 0 => fun _ _ => none
  | Nf + 1 => F24_b (F24 Nf)
theorem F24_ok (Nf : Nat) : H_F24 (F24 Nf) := by
  induction Nf with
  | zero => intro a1 a2 r h; have h : (none : Option Bool) = some r := h; cases h
  | succ Nf ih => intro a1 a2 r h; exact F24_bok (F24 Nf) ih a1 a2 h
inductive E_L6_1 where
  | k0 (x0 : Int)
def L6_1 (a1 : ByteArray) (v1 : Int) : Option (E_L6_1 ⊕ (Int)) :=
  (bif (decide (v1 < (a1.size : Int))) then ((getI a1.data.toList v1).bind fun x2 => (bif ((x2.toNat : Int) != 40) then (some (.inr ((IntKind.wrap .i64 (v1 + 1))))) else (some (.inl (.k0 v1))))) else (some (.inl (.k0 v1))))
def L6_1_s (a1 : ByteArray) (a2 : TreeD) (a3 : TreeD) (v1 : Int) : St := ⟨fr 120 ug [(2, (.ptr 0 0)), (5, (vs a1)), (9, (i6 v1))], [.cells 25 ((cT a2).map .p), .cells 25 ((cT a3).map .p), .row 25 3 0 [[(i6 a2.prod), (vi .u8 a2.byte), (.p (.lst 3 (eTrees a2.kids)))], [(i6 a3.prod), (vi .u8 a3.byte), (.p (.lst 3 (eTrees a3.kids)))]]]⟩
def L6_1_x (a1 : ByteArray) (a2 : TreeD) (a3 : TreeD) (e : E_L6_1) (r : Option (Out × St)) : Prop := match e with | .k0 x0 => ∃ g, r = some ((.brk 0), ⟨fr 120 g [(2, (.ptr 0 0)), (5, (vs a1)), (9, (i6 x0))], [.cells 25 ((cT a2).map .p), .cells 25 ((cT a3).map .p), .row 25 3 0 [[(i6 a2.prod), (vi .u8 a2.byte), (.p (.lst 3 (eTrees a2.kids)))], [(i6 a3.prod), (vi .u8 a3.byte), (.p (.lst 3 (eTrees a3.kids)))]]]⟩)
theorem L6_1_ok (a1 : ByteArray) (a2 : TreeD) (a3 : TreeD) (v1 : Int) {r : E_L6_1 ⊕ (Int)} (h : L6_1 a1 v1 = some r) : OkR (fun e => L6_1_x a1 a2 a3 e (evH pg 3 [2, 5, 9] ir6_l1 (L6_1_s a1 a2 a3 v1))) (fun s => evH pg 3 [2, 5, 9] ir6_l1 (L6_1_s a1 a2 a3 v1) = evH pg 3 [2, 5, 9] ir6_l1 (L6_1_s a1 a2 a3 s)) r := by
 unfold L6_1 at h
 refine bi h (fun h1 h => ?_) fun h1 h => ?_
 ·
  refine bn h fun x2 h2 h => ?_
  have q1 := ((ix_str h2) : ixS (vs a1) (i6 v1) = some (vi .u8 (x2.toNat : Int)))
  refine bi h (fun h3 h => ?_) fun h3 h => ?_
  ·
   rw [← sj h]
   exact rnd [(57, .d true), (61, .v (vi .u8 (x2.toNat : Int))), (62, .d true), (6000, .d true)] (apc (cv h1) (apc q1 (apc (cv h3) (apc ((okT_of rfl (abl_cons rfl (abl_cons rfl (abl_cons rfl rfl)))) : okT 3 [.cells 25 ((cT a2).map .p), .cells 25 ((cT a3).map .p), .row 25 3 0 [[(i6 a2.prod), (vi .u8 a2.byte), (.p (.lst 3 (eTrees a2.kids)))], [(i6 a3.prod), (vi .u8 a3.byte), (.p (.lst 3 (eTrees a3.kids)))]]] = true) apn)))) (by kernel_rfl)
  ·
   rw [← sj h]
   exact xbrk [(57, .d true), (61, .v (vi .u8 (x2.toNat : Int))), (62, .d false), (6000, .d true)] (apc (cv h1) (apc q1 (apc (cv h3) apn))) (by kernel_rfl)
 ·
  rw [← sj h]
  exact xbrk [(57, .d false), (6000, .d true)] (apc (cv h1) apn) (by kernel_rfl)
theorem L6_1_run (a1 : ByteArray) (a2 : TreeD) (a3 : TreeD) (s0 : Int) (e : E_L6_1) (h : runL (fun s => L6_1 a1 s) s0 = some e) : L6_1_x a1 a2 a3 e (evH pg 3 [2, 5, 9] ir6_l1 (L6_1_s a1 a2 a3 s0)) := by
  have q := @loop_sound' (Int) E_L6_1 (fun s => L6_1 a1 s) (fun s => evH pg 3 [2, 5, 9] ir6_l1 (L6_1_s a1 a2 a3 s)) (L6_1_x a1 a2 a3) (fun s r h => L6_1_ok a1 a2 a3 s h) s0 e h
  exact q
inductive E_L6_0 where
  | k0
  | k1 (x0 : Int)
def L6_0 (Nf : Nat) (a1 : ByteArray) (a3 : TreeD) (v1 : Int) (v2 : Int) : Option (E_L6_0 ⊕ (Int × Int)) :=
  (bif (decide (v2 < (a3.kids.length : Int))) then ((getI a3.kids v2).bind fun x2 => ((F20 Nf x2).bind fun r3 => match r3 with | .k0 x3_0 x3_1 => ((F15 x3_1).bind fun x4 => (bif (x4 != 0) then (some (.inl (.k0))) else (bif (decide ((IntKind.wrap .i64 ((a1.size : Int) - v1)) ≤ (x3_0.size : Int))) then (some (.inl (.k0))) else (bif (sl_ok v1 (IntKind.wrap .i64 (v1 + (x3_0.size : Int))) a1.size) then (bif (!((a1.extract (Int.toNat v1) (Int.toNat (IntKind.wrap .i64 (v1 + (x3_0.size : Int))))).toList == x3_0.toList)) then (some (.inl (.k0))) else (some (.inr ((IntKind.wrap .i64 ((IntKind.wrap .i64 (v1 + (x3_0.size : Int))) + 1)), (IntKind.wrap .i64 (v2 + 1)))))) else none)))))) else (some (.inl (.k1 v1))))
def L6_0_s (a1 : ByteArray) (a3 : TreeD) (a4 : TreeD) (v1 : Int) (v2 : Int) : St := ⟨fr 120 ug [(2, (.ptr 0 0)), (5, (vs a1)), (9, (i6 v1)), (10, (i6 v2))], [.cells 25 ((cT a3).map .p), .cells 25 ((cT a4).map .p), .row 25 3 0 [[(i6 a3.prod), (vi .u8 a3.byte), (.p (.lst 3 (eTrees a3.kids)))], [(i6 a4.prod), (vi .u8 a4.byte), (.p (.lst 3 (eTrees a4.kids)))]]]⟩
def L6_0_x (a1 : ByteArray) (a3 : TreeD) (a4 : TreeD) (e : E_L6_0) (r : Option (Out × St)) : Prop := match e with | .k0 => ∃ g y, r = some (.ret, ⟨fr 120 g [(4, (vb false))], y⟩) | .k1 x0 => ∃ g, r = some ((.brk 2), ⟨fr 120 g [(2, (.ptr 0 0)), (5, (vs a1)), (9, (i6 x0))], [.cells 25 ((cT a3).map .p), .cells 25 ((cT a4).map .p), .row 25 3 0 [[(i6 a3.prod), (vi .u8 a3.byte), (.p (.lst 3 (eTrees a3.kids)))], [(i6 a4.prod), (vi .u8 a4.byte), (.p (.lst 3 (eTrees a4.kids)))]]]⟩)
abbrev L6_0_d0 (a3 : TreeD) (a4 : TreeD) : List AB := [.cells 25 ((cT a3).map .p), .cells 25 ((cT a4).map .p), .row 25 3 0 [[(i6 a3.prod), (vi .u8 a3.byte), (.p (.lst 3 (eTrees a3.kids)))], [(i6 a4.prod), (vi .u8 a4.byte), (.p (.lst 3 (eTrees a4.kids)))]]]
abbrev L6_0_c0 (a1 : ByteArray) (v1 : Int) (x3_0 : ByteArray) : List (Nat × Hint) := [(103, .v (vs (a1.extract (Int.toNat v1) (Int.toNat (w6 (v1 + (x3_0.size : Int)))))))]
theorem L6_0_ok (Nf : Nat) (a1 : ByteArray) (a3 : TreeD) (a4 : TreeD) (v1 : Int) (v2 : Int) {r : E_L6_0 ⊕ (Int × Int)} (h : L6_0 Nf a1 a3 v1 v2 = some r) : OkR (fun e => L6_0_x a1 a3 a4 e (evH pg 3 [2, 5, 9, 10] ir6_l0 (L6_0_s a1 a3 a4 v1 v2))) (fun s => evH pg 3 [2, 5, 9, 10] ir6_l0 (L6_0_s a1 a3 a4 v1 v2) = evH pg 3 [2, 5, 9, 10] ir6_l0 (L6_0_s a1 a3 a4 s.1 s.2)) r := by
 unfold L6_0 at h
 have q0 := ((lgr tr_map) : lnA (.p (.lst 3 (eTrees a3.kids))) = some (i6 (a3.kids.length : Int)))
 refine bi h (fun h1 h => ?_) fun h1 h => ?_
 ·
  refine bn h fun x2 h2 h => ?_
  have q2 := ((igr tr_map h2) : idxA 3 (.p (.lst 3 (eTrees a3.kids))) (i6 v2) = some (.ro (cT x2)))
  refine bn h fun r3 h3 h => ?_
  cases r3 with
  | k0 x3_0 x3_1 =>
   have q3 := (((F20_ok Nf x2 h3).cp rfl _) : CP pg 20 [(.agg ((cT x2).map .p))] (L6_0_d0 a3 a4) = some (.tup [(vs x3_0), (i6 x3_1)]))
   refine bn h fun x4 h4 h => ?_
   have q4 := (((F15_ok x3_1 h4).cp rfl _) : CP pg 15 [(i6 x3_1)] (L6_0_d0 a3 a4) = some (i6 x4))
   refine bi h (fun h5 h => ?_) fun h5 h => ?_
   ·
    rw [← sj h]
    exact xretY [(71, .v (i6 (a3.kids.length : Int))), (72, .d true), (79, .v (.ro (cT x2))), (81, .v (.tup [(vs x3_0), (i6 x3_1)])), (85, .v (i6 x4)), (86, .d true), (6000, .d true)] (apc q0 (apc (cv h1) (apc q2 (apc q3 (apc q4 (apc (cv h5) apn)))))) (by kernel_rfl)
   ·
    refine bi h (fun h6 h => ?_) fun h6 h => ?_
    ·
     rw [← sj h]
     exact xretY [(71, .v (i6 (a3.kids.length : Int))), (72, .d true), (79, .v (.ro (cT x2))), (81, .v (.tup [(vs x3_0), (i6 x3_1)])), (85, .v (i6 x4)), (86, .d false), (94, .d true), (6000, .d true)] (apc q0 (apc (cv h1) (apc q2 (apc q3 (apc q4 (apc (cv h5) (apc (cv h6) apn))))))) (by kernel_rfl)
    ·
     refine bi h (fun h7 h => ?_) fun h7 h => ?_
     ·
      have q7 := ((sl_str h7) : slS (vs a1) (some v1) (some (w6 (v1 + (x3_0.size : Int)))) = some (vs (a1.extract (Int.toNat v1) (Int.toNat (w6 (v1 + (x3_0.size : Int)))))))
      refine bi h (fun h8 h => ?_) fun h8 h => ?_
      ·
       rw [← sj h]
       exact xretY ([(71, .v (i6 (a3.kids.length : Int))), (72, .d true), (79, .v (.ro (cT x2))), (81, .v (.tup [(vs x3_0), (i6 x3_1)])), (85, .v (i6 x4)), (86, .d false), (94, .d false)] ++ ((L6_0_c0 a1 v1 x3_0) ++ [(105, .d true), (6000, .d true)])) (apc q0 (apc (cv h1) (apc q2 (apc q3 (apc q4 (apc (cv h5) (apc (cv h6) (apc q7 (apc (cv h8) apn))))))))) (by kernel_rfl)
      ·
       rw [← sj h]
       exact rnd ([(71, .v (i6 (a3.kids.length : Int))), (72, .d true), (79, .v (.ro (cT x2))), (81, .v (.tup [(vs x3_0), (i6 x3_1)])), (85, .v (i6 x4)), (86, .d false), (94, .d false)] ++ ((L6_0_c0 a1 v1 x3_0) ++ [(105, .d false), (6000, .d true)])) (apc q0 (apc (cv h1) (apc q2 (apc q3 (apc q4 (apc (cv h5) (apc (cv h6) (apc q7 (apc (cv h8) (apc ((okT_of rfl (abl_cons rfl (abl_cons rfl (abl_cons rfl rfl)))) : okT 3 (L6_0_d0 a3 a4) = true) apn)))))))))) (by kernel_rfl)
     ·
      cases h
 ·
  rw [← sj h]
  exact xbrk [(71, .v (i6 (a3.kids.length : Int))), (72, .d false), (6000, .d true)] (apc q0 (apc (cv h1) apn)) (by kernel_rfl)
theorem L6_0_run (Nf : Nat) (a1 : ByteArray) (a3 : TreeD) (a4 : TreeD) (s0 : Int × Int) (e : E_L6_0) (h : runL (fun s => L6_0 Nf a1 a3 s.1 s.2) s0 = some e) : L6_0_x a1 a3 a4 e (evH pg 3 [2, 5, 9, 10] ir6_l0 (L6_0_s a1 a3 a4 s0.1 s0.2)) := by
  have q := @loop_sound' (Int × Int) E_L6_0 (fun s => L6_0 Nf a1 a3 s.1 s.2) (fun s => evH pg 3 [2, 5, 9, 10] ir6_l0 (L6_0_s a1 a3 a4 s.1 s.2)) (L6_0_x a1 a3 a4) (fun s r h => L6_0_ok Nf a1 a3 a4 s.1 s.2 h) s0 e h
  exact q
def F6_v (a1 : TreeD) (a2 : TreeD) (x0 : Bool) : AV := (vb x0)
def F6 (Nf : Nat) (a1 : TreeD) (a2 : TreeD) : Option Bool :=
  ((F16 Nf ([(TreeD.mk a1.prod a1.byte a1.kids), (TreeD.mk a2.prod a2.byte a2.kids)])).bind fun x1 => (bif x1 then ((F20 Nf a1).bind fun r3 => match r3 with | .k0 x3_0 x3_1 => ((F20 Nf a2).bind fun r4 => match r4 with | .k0 x4_0 x4_1 => ((F15 x3_1).bind fun x5 => (bif (x5 != 0) then ((F11).bind fun x7 => (some x7)) else ((F15 x4_1).bind fun x7 => (bif (x7 != 0) then ((F11).bind fun x9 => (some x9)) else ((F24 Nf a1 a2).bind fun x9 => (bif (!(((x3_0.toList == x4_0.toList) == x9) && true)) then (some false) else (bif (decide (a1.prod < 0)) then (bif ((x3_0.size : Int) == 3) then ((F11).bind fun x13 => (some x13)) else (some false)) else ((runL (fun s => L6_1 x3_0 s) 0).bind fun r12 => match r12 with | .k0 x12_0 => ((runL (fun s => L6_0 Nf x3_0 a1 s.1 s.2) ((IntKind.wrap .i64 (x12_0 + 1)), 0)).bind fun r13 => match r13 with | .k0 => (some false) | .k1 x13_0 => (bif (decide (x13_0 ≥ (IntKind.wrap .i64 ((x3_0.size : Int) - 1)))) then ((F11).bind fun x15 => (some x15)) else (some false))))))))))))) else ((F11).bind fun x3 => (some x3))))
abbrev F6_d0 (a1 : TreeD) (a2 : TreeD) : List AB := [.cells 25 ((cT a1).map .p), .cells 25 ((cT a2).map .p), .row 25 3 0 [[(i6 a1.prod), (vi .u8 a1.byte), (.p (.lst 3 (eTrees a1.kids)))], [(i6 a2.prod), (vi .u8 a2.byte), (.p (.lst 3 (eTrees a2.kids)))]]]
abbrev F6_d1 (g12 : Nat → AV) (x3_0 : ByteArray) (x12_0 : Int) (a1 : TreeD) (a2 : TreeD) : St := ⟨fr 120 g12 [(2, (.ptr 0 0)), (5, (vs x3_0)), (9, (i6 x12_0))], [.cells 25 ((cT a1).map .p), .cells 25 ((cT a2).map .p), .row 25 3 0 [[(i6 a1.prod), (vi .u8 a1.byte), (.p (.lst 3 (eTrees a1.kids)))], [(i6 a2.prod), (vi .u8 a2.byte), (.p (.lst 3 (eTrees a2.kids)))]]]⟩
abbrev F6_d2 (g13 : Nat → AV) (x3_0 : ByteArray) (x13_0 : Int) (a1 : TreeD) (a2 : TreeD) : St := ⟨fr 120 g13 [(2, (.ptr 0 0)), (5, (vs x3_0)), (9, (i6 x13_0))], [.cells 25 ((cT a1).map .p), .cells 25 ((cT a2).map .p), .row 25 3 0 [[(i6 a1.prod), (vi .u8 a1.byte), (.p (.lst 3 (eTrees a1.kids)))], [(i6 a2.prod), (vi .u8 a2.byte), (.p (.lst 3 (eTrees a2.kids)))]]]⟩
abbrev F6_c0 (g12 : Nat → AV) (x3_0 : ByteArray) (x12_0 : Int) (a1 : TreeD) (a2 : TreeD) : List (Nat × Hint) := [(2000, .l (.brk 0) (F6_d1 g12 x3_0 x12_0 a1 a2))]
abbrev F6_c1 (g13 : Nat → AV) (x3_0 : ByteArray) (x13_0 : Int) (a1 : TreeD) (a2 : TreeD) : List (Nat × Hint) := [(2002, .l (.brk 2) (F6_d2 g13 x3_0 x13_0 a1 a2))]
theorem F6_ok (Nf : Nat) (a1 : TreeD) (a2 : TreeD) {r : Bool} (h : F6 Nf a1 a2 = some r) : PR1 pg 6 [(.agg ((cT a1).map .p)), (.agg ((cT a2).map .p))] (F6_v a1 a2 r) := by
 unfold F6 at h
 refine bn h fun x1 h1 h => ?_
 refine bi h (fun h2 h => ?_) fun h2 h => ?_
 ·
  have q0 := ((((F16_ok Nf ([(TreeD.mk a1.prod a1.byte a1.kids), (TreeD.mk a2.prod a2.byte a2.kids)]) h1).own rfl (purAs_cons (purA_slr (e := cT) tr_map (xs := [(TreeD.mk a1.prod a1.byte a1.kids), (TreeD.mk a2.prod a2.byte a2.kids)]) rfl rfl) purAs_nil) rfl).trans (congrArg (fun z => some (vb z)) h2)) : CP pg 16 [(.sl 2 0 3 0 2)] (F6_d0 a1 a2) = some (vb true))
  refine bn h fun r3 h3 h => ?_
  cases r3 with
  | k0 x3_0 x3_1 =>
   have q1 := (((F20_ok Nf a1 h3).cp rfl _) : CP pg 20 [(.agg ((cT a1).map .p))] (F6_d0 a1 a2) = some (.tup [(vs x3_0), (i6 x3_1)]))
   refine bn h fun r4 h4 h => ?_
   cases r4 with
   | k0 x4_0 x4_1 =>
    have q2 := (((F20_ok Nf a2 h4).cp rfl _) : CP pg 20 [(.agg ((cT a2).map .p))] (F6_d0 a1 a2) = some (.tup [(vs x4_0), (i6 x4_1)]))
    refine bn h fun x5 h5 h => ?_
    have q3 := (((F15_ok x3_1 h5).cp rfl _) : CP pg 15 [(i6 x3_1)] (F6_d0 a1 a2) = some (i6 x5))
    refine bi h (fun h6 h => ?_) fun h6 h => ?_
    ·
     refine bn h fun x7 h7 h => ?_
     rw [← sj h]
     exact fpr [(16, .v (vb true)), (21, .v (.tup [(vs x3_0), (i6 x3_1)])), (26, .v (.tup [(vs x4_0), (i6 x4_1)])), (30, .v (i6 x5)), (31, .d true), (37, .v (vb x7))] (apc q0 (apc q1 (apc q2 (apc q3 (apc (cv h6) (apc (((F11_ok  h7).cp rfl _) : CP pg 11 [] (F6_d0 a1 a2) = some (vb x7)) apn)))))) rfl (by kernel_rfl)
    ·
     refine bn h fun x7 h7 h => ?_
     have q5 := (((F15_ok x4_1 h7).cp rfl _) : CP pg 15 [(i6 x4_1)] (F6_d0 a1 a2) = some (i6 x7))
     refine bi h (fun h8 h => ?_) fun h8 h => ?_
     ·
      refine bn h fun x9 h9 h => ?_
      rw [← sj h]
      exact fpr [(16, .v (vb true)), (21, .v (.tup [(vs x3_0), (i6 x3_1)])), (26, .v (.tup [(vs x4_0), (i6 x4_1)])), (30, .v (i6 x5)), (31, .d false), (34, .v (i6 x7)), (35, .d true), (37, .v (vb x9))] (apc q0 (apc q1 (apc q2 (apc q3 (apc (cv h6) (apc q5 (apc (cv h8) (apc (((F11_ok  h9).cp rfl _) : CP pg 11 [] (F6_d0 a1 a2) = some (vb x9)) apn)))))))) rfl (by kernel_rfl)
     ·
      refine bn h fun x9 h9 h => ?_
      have q7 := (((F24_ok Nf a1 a2 h9).cp rfl _) : CP pg 24 [(.agg ((cT a1).map .p)), (.agg ((cT a2).map .p))] (F6_d0 a1 a2) = some (vb x9))
      refine bi h (fun h10 h => ?_) fun h10 h => ?_
      ·
       rw [← sj h]
       exact fpr [(16, .v (vb true)), (21, .v (.tup [(vs x3_0), (i6 x3_1)])), (26, .v (.tup [(vs x4_0), (i6 x4_1)])), (30, .v (i6 x5)), (31, .d false), (34, .v (i6 x7)), (35, .d false), (43, .v (vb x9)), (44, .d true)] (apc q0 (apc q1 (apc q2 (apc q3 (apc (cv h6) (apc q5 (apc (cv h8) (apc q7 (apc (cv h10) apn))))))))) rfl (by kernel_rfl)
      ·
       refine bi h (fun h11 h => ?_) fun h11 h => ?_
       ·
        refine bi h (fun h12 h => ?_) fun h12 h => ?_
        ·
         refine bn h fun x13 h13 h => ?_
         rw [← sj h]
         exact fpr [(16, .v (vb true)), (21, .v (.tup [(vs x3_0), (i6 x3_1)])), (26, .v (.tup [(vs x4_0), (i6 x4_1)])), (30, .v (i6 x5)), (31, .d false), (34, .v (i6 x7)), (35, .d false), (43, .v (vb x9)), (44, .d false), (47, .d true), (50, .d true), (52, .v (vb x13))] (apc q0 (apc q1 (apc q2 (apc q3 (apc (cv h6) (apc q5 (apc (cv h8) (apc q7 (apc (cv h10) (apc (cv h11) (apc (cv h12) (apc (((F11_ok  h13).cp rfl _) : CP pg 11 [] (F6_d0 a1 a2) = some (vb x13)) apn)))))))))))) rfl (by kernel_rfl)
        ·
         rw [← sj h]
         exact fpr [(16, .v (vb true)), (21, .v (.tup [(vs x3_0), (i6 x3_1)])), (26, .v (.tup [(vs x4_0), (i6 x4_1)])), (30, .v (i6 x5)), (31, .d false), (34, .v (i6 x7)), (35, .d false), (43, .v (vb x9)), (44, .d false), (47, .d true), (50, .d false)] (apc q0 (apc q1 (apc q2 (apc q3 (apc (cv h6) (apc q5 (apc (cv h8) (apc q7 (apc (cv h10) (apc (cv h11) (apc (cv h12) apn))))))))))) rfl (by kernel_rfl)
       ·
        refine bn h fun r12 h12 h => ?_
        cases r12 with
        | k0 x12_0 =>
         obtain ⟨g12, e12⟩ := L6_1_run x3_0 a1 a2 0 _ h12
         have q10 := ((okT_of rfl (abl_cons rfl (abl_cons rfl (abl_cons rfl rfl)))) : okT 3 (F6_d0 a1 a2) = true)
         have q11 := (e12 : evH pg 3 [2, 5, 9] ir6_l1 (L6_1_s x3_0 a1 a2 0) = some ((.brk 0), (F6_d1 g12 x3_0 x12_0 a1 a2)))
         refine bn h fun r13 h13 h => ?_
         cases r13 with
         | k0 =>
          obtain ⟨g13, y13, e13⟩ := L6_0_run Nf x3_0 a1 a2 ((w6 (x12_0 + 1)), 0) _ h13
          rw [← sj h]
          exact fpr ([(16, .v (vb true)), (21, .v (.tup [(vs x3_0), (i6 x3_1)])), (26, .v (.tup [(vs x4_0), (i6 x4_1)])), (30, .v (i6 x5)), (31, .d false), (34, .v (i6 x7)), (35, .d false), (43, .v (vb x9)), (44, .d false), (47, .d false)] ++ ((F6_c0 g12 x3_0 x12_0 a1 a2) ++ [(2002, .l .ret ⟨fr 120 g13 [(4, (vb false))], y13⟩), (6000, .d true)])) (apc q0 (apc q1 (apc q2 (apc q3 (apc (cv h6) (apc q5 (apc (cv h8) (apc q7 (apc (cv h10) (apc (cv h11) (apc q10 (apc q11 (apc ((okT_of rfl (abl_cons rfl (abl_cons rfl (abl_cons rfl rfl)))) : okT 3 (F6_d0 a1 a2) = true) (apc (e13 : evH pg 3 [2, 5, 9, 10] ir6_l0 (L6_0_s x3_0 a1 a2 (w6 (x12_0 + 1)) 0) = some (.ret, ⟨fr 120 g13 [(4, (vb false))], y13⟩)) apn)))))))))))))) rfl (by kernel_rfl)
         | k1 x13_0 =>
          obtain ⟨g13, e13⟩ := L6_0_run Nf x3_0 a1 a2 ((w6 (x12_0 + 1)), 0) _ h13
          have q12 := ((okT_of rfl (abl_cons rfl (abl_cons rfl (abl_cons rfl rfl)))) : okT 3 (F6_d0 a1 a2) = true)
          have q13 := (e13 : evH pg 3 [2, 5, 9, 10] ir6_l0 (L6_0_s x3_0 a1 a2 (w6 (x12_0 + 1)) 0) = some ((.brk 2), (F6_d2 g13 x3_0 x13_0 a1 a2)))
          refine bi h (fun h14 h => ?_) fun h14 h => ?_
          ·
           refine bn h fun x15 h15 h => ?_
           rw [← sj h]
           exact fpr ([(16, .v (vb true)), (21, .v (.tup [(vs x3_0), (i6 x3_1)])), (26, .v (.tup [(vs x4_0), (i6 x4_1)])), (30, .v (i6 x5)), (31, .d false), (34, .v (i6 x7)), (35, .d false), (43, .v (vb x9)), (44, .d false), (47, .d false)] ++ ((F6_c0 g12 x3_0 x12_0 a1 a2) ++ ((F6_c1 g13 x3_0 x13_0 a1 a2) ++ [(116, .d true), (118, .v (vb x15)), (6000, .d true)]))) (apc q0 (apc q1 (apc q2 (apc q3 (apc (cv h6) (apc q5 (apc (cv h8) (apc q7 (apc (cv h10) (apc (cv h11) (apc q10 (apc q11 (apc q12 (apc q13 (apc (cv h14) (apc (((F11_ok  h15).cp rfl _) : CP pg 11 [] (F6_d0 a1 a2) = some (vb x15)) apn)))))))))))))))) rfl (by kernel_rfl)
          ·
           rw [← sj h]
           exact fpr ([(16, .v (vb true)), (21, .v (.tup [(vs x3_0), (i6 x3_1)])), (26, .v (.tup [(vs x4_0), (i6 x4_1)])), (30, .v (i6 x5)), (31, .d false), (34, .v (i6 x7)), (35, .d false), (43, .v (vb x9)), (44, .d false), (47, .d false)] ++ ((F6_c0 g12 x3_0 x12_0 a1 a2) ++ ((F6_c1 g13 x3_0 x13_0 a1 a2) ++ [(116, .d false), (6000, .d true)]))) (apc q0 (apc q1 (apc q2 (apc q3 (apc (cv h6) (apc q5 (apc (cv h8) (apc q7 (apc (cv h10) (apc (cv h11) (apc q10 (apc q11 (apc q12 (apc q13 (apc (cv h14) apn))))))))))))))) rfl (by kernel_rfl)
 ·
  refine bn h fun x3 h3 h => ?_
  rw [← sj h]
  exact fpr [(16, .v (vb false)), (18, .v (vb x3))] (apc ((((F16_ok Nf ([(TreeD.mk a1.prod a1.byte a1.kids), (TreeD.mk a2.prod a2.byte a2.kids)]) h1).own rfl (purAs_cons (purA_slr (e := cT) tr_map (xs := [(TreeD.mk a1.prod a1.byte a1.kids), (TreeD.mk a2.prod a2.byte a2.kids)]) rfl rfl) purAs_nil) rfl).trans (congrArg (fun z => some (vb z)) h2)) : CP pg 16 [(.sl 2 0 3 0 2)] (F6_d0 a1 a2) = some (vb false)) (apc (((F11_ok  h3).cp rfl _) : CP pg 11 [] (F6_d0 a1 a2) = some (vb x3)) apn)) rfl (by kernel_rfl)
end
end
end Go.Proofs.Tryd
