/- Decompiled by a program: functions as plain data see them, part 1. -/
import Derived.Test.YthlndaofdgpjfaaW5
namespace Go.Proofs.Try
set_option linter.unusedSimpArgs false
set_option linter.unusedVariables false
set_option maxHeartbeats 4000000
open Go Go.Vs
noncomputable section
def F7_v (a1 : ScopesD) (x0 : Bool) : AV := (vb x0)
def F7 (a1 : ScopesD) : Option Bool :=
  (bif (decide ((a1.all.length : Int) ≤ 60)) then (bif (decide ((a1.decl.length : Int) ≤ 60)) then (some (decide ((a1.uses.length : Int) ≤ 60))) else (some false)) else (some false))
theorem F7_ok (a1 : ScopesD) {r : Bool} (h : F7 a1 = some r) : PR1 prg 7 [(.agg ((eScps a1).map .p))] (F7_v a1 r) := by
 unfold F7 at h
 have k0 := ka [(5, .v (i6 (a1.all.length : Int)))] (apc (lg a1.all eScope 3) apn)
 apply bi h <;> intro h1 h
 ·
  have k1 := k0.a [(6, .d true), (10, .v (i6 (a1.decl.length : Int)))] (av h1 (apc (lg a1.decl eName 5) apn))
  apply bi h <;> intro h2 h
  ·
   rw [← sj h]
   exact fq ([(11, .d true), (16, .v (i6 (a1.uses.length : Int)))] ++ kH k1) (k1.b (av h2 (apc (lg a1.uses eName 5) apn)))
  ·
   rw [← sj h]
   exact fq ([(11, .d false)] ++ kH k1) (k1.b (av h2 apn))
 ·
  rw [← sj h]
  exact fq ([(6, .d false)] ++ kH k0) (k0.b (av h1 apn))
inductive E_L10_0 where
  | k0
  | k1
section
variable (a1 : ScopesD)
def L10_0 (v1 : Int) : Option (E_L10_0 ⊕ (Int)) :=
  (bif (decide (v1 < (a1.all.length : Int))) then (bif (decide (v1 > 0)) then ((getI a1.all v1).bind fun x3 => (bif (decide (x3.par < 0)) then (some (.inl (.k0))) else (bif (decide (x3.par ≥ v1)) then (some (.inl (.k0))) else (bif (decide (x3.frm < 0)) then (some (.inl (.k0))) else (bif (decide (x3.til < x3.frm)) then (some (.inl (.k0))) else (some (.inr ((IntKind.wrap .i64 (v1 + 1)))))))))) else ((getI a1.all v1).bind fun x3 => (bif (decide (x3.frm < 0)) then (some (.inl (.k0))) else (bif (decide (x3.til < x3.frm)) then (some (.inl (.k0))) else (some (.inr ((IntKind.wrap .i64 (v1 + 1))))))))) else (some (.inl (.k1))))
def L10_0_s (v1 : Int) : St := ⟨fr 85 ug [(1, .ptr 0 0), (3, i6 v1)], [.cells 25 ((eScps a1).map .p)]⟩
theorem L10_0_k (v1 : Int) : okT 1 (L10_0_s a1 v1).h = true := (okT_of rfl (ac rfl))
abbrev L10_0_e (v1 : Int) := evH prg 1 [1, 3] ir10_l0 (L10_0_s a1 v1)
def L10_0_x (e : E_L10_0) (r : Option (Out × St)) : Prop := match e with | .k0 => ∃ g y, r = some (.ret, ⟨fr 85 g [(2, vb false)], y⟩) | .k1 => ∃ g, r = some ((.brk 0), ⟨fr 85 g [(1, .ptr 0 0)], [.cells 25 ((eScps a1).map .p)]⟩)
theorem L10_0_ok (v1 : Int) {r : E_L10_0 ⊕ (Int)} (h : L10_0 a1 v1 = some r) : OkR (fun e => L10_0_x a1 e (L10_0_e a1 v1)) (fun s => L10_0_e a1 v1 = L10_0_e a1 s) r := by
 unfold L10_0 at h
 have k0 := ka [(19, .v (i6 (a1.all.length : Int)))] (apc (lg a1.all eScope 3) apn)
 apply bi h <;> intro h1 h
 ·
  apply bi h <;> intro h2 h
  ·
   have k1 := k0.a [(20, .d true), (24, .d true)] (av h1 (av h2 apn))
   apply bn h; intro x3 h3 h
   apply bi h <;> intro h4 h
   ·
    rw [← sj h]
    exact xy ([(29, .v (.ro (eScope x3))), (32, .d true), (6000, .d true)] ++ kH k1) (k1.b (apc (ig eScope 3 .i64 h3) (av h4 apn)))
   ·
    have k2 := k1.a [(29, .v (.ro (eScope x3))), (32, .d false), (37, .v (.ro (eScope x3)))] (apc (ig eScope 3 .i64 h3) (av h4 (apc (ig eScope 3 .i64 h3) apn)))
    apply bi h <;> intro h5 h
    ·
     rw [← sj h]
     exact xy ([(41, .d true), (6000, .d true)] ++ kH k2) (k2.b (av h5 apn))
    ·
     have k3 := k2.a [(41, .d false), (48, .v (.ro (eScope x3)))] (av h5 (apc (ig eScope 3 .i64 h3) apn))
     apply bi h <;> intro h6 h
     ·
      rw [← sj h]
      exact xy ([(52, .d true), (6000, .d true)] ++ kH k3) (k3.b (av h6 apn))
     ·
      have k4 := k3.a [(52, .d false), (58, .v (.ro (eScope x3))), (65, .v (.ro (eScope x3)))] (av h6 (apc (ig eScope 3 .i64 h3) (apc (ig eScope 3 .i64 h3) apn)))
      apply bi h <;> intro h7 h
      ·
       rw [← sj h]
       exact xy ([(69, .d true), (6000, .d true)] ++ kH k4) (k4.b (av h7 apn))
      ·
       rw [← sj h]
       exact rn ([(69, .d false), (6000, .d true)] ++ kH k4) (k4.b (av h7 (apc (L10_0_k a1 (w6 (v1 + 1))) apn)))
  ·
   have k5 := k0.a [(20, .d true), (24, .d false)] (av h1 (av h2 apn))
   apply bn h; intro x3 h3 h
   apply bi h <;> intro h4 h
   ·
    rw [← sj h]
    exact xy ([(48, .v (.ro (eScope x3))), (52, .d true), (6000, .d true)] ++ kH k5) (k5.b (apc (ig eScope 3 .i64 h3) (av h4 apn)))
   ·
    have k6 := k5.a [(48, .v (.ro (eScope x3))), (52, .d false), (58, .v (.ro (eScope x3))), (65, .v (.ro (eScope x3)))] (apc (ig eScope 3 .i64 h3) (av h4 (apc (ig eScope 3 .i64 h3) (apc (ig eScope 3 .i64 h3) apn))))
    apply bi h <;> intro h5 h
    ·
     rw [← sj h]
     exact xy ([(69, .d true), (6000, .d true)] ++ kH k6) (k6.b (av h5 apn))
    ·
     rw [← sj h]
     exact rn ([(69, .d false), (6000, .d true)] ++ kH k6) (k6.b (av h5 (apc (L10_0_k a1 (w6 (v1 + 1))) apn)))
 ·
  rw [← sj h]
  exact xb ([(20, .d false), (6000, .d true)] ++ kH k0) (k0.b (av h1 apn))
theorem L10_0_run (s0 : Int) (e : E_L10_0) (h : runL (fun s => L10_0 a1 s) s0 = some e) : L10_0_x a1 e (L10_0_e a1 s0) := by
  have q := @loop_sound' (Int) E_L10_0 (fun s => L10_0 a1 s) (fun s => L10_0_e a1 s) (L10_0_x a1) (fun s r h => L10_0_ok a1 s h) s0 e h
  exact q
end
inductive E_L22_0 where
  | k0
  | k1
section
variable (a1 : ScopesD) (a2 : Int)
def L22_0 (v1 : Int) : Option (E_L22_0 ⊕ (Int)) :=
  (bif (decide (v1 < (a1.decl.length : Int))) then ((getI a1.decl v1).bind fun x2 => (bif (decide (x2.scp < 0)) then (some (.inl (.k0))) else (bif (decide (x2.scp ≥ a2)) then (some (.inl (.k0))) else (bif (decide (x2.frm < 0)) then (some (.inl (.k0))) else (bif (decide (x2.til < x2.frm)) then (some (.inl (.k0))) else (bif (decide (v1 > 0)) then ((getI a1.decl (IntKind.wrap .i64 (v1 - 1))).bind fun x8 => (bif (decide (x2.frm < x8.frm)) then (some (.inl (.k0))) else (some (.inr ((IntKind.wrap .i64 (v1 + 1))))))) else (some (.inr ((IntKind.wrap .i64 (v1 + 1))))))))))) else (some (.inl (.k1))))
def L22_0_s (v1 : Int) : St := ⟨fr 71 ug [(0, ls 5 eName a1.decl), (1, i6 a2), (5, i6 v1)], []⟩
theorem L22_0_k (v1 : Int) : okT 0 (L22_0_s a1 a2 v1).h = true := (okT_of rfl rfl)
abbrev L22_0_e (v1 : Int) := evH prg 0 [0, 1, 5] ir22_l0 (L22_0_s a1 a2 v1)
def L22_0_x (e : E_L22_0) (r : Option (Out × St)) : Prop := match e with | .k0 => ∃ g y, r = some (.ret, ⟨fr 71 g [(4, vb false)], y⟩) | .k1 => ∃ g, r = some ((.brk 0), ⟨fr 71 g [], []⟩)
theorem L22_0_ok (v1 : Int) {r : E_L22_0 ⊕ (Int)} (h : L22_0 a1 a2 v1 = some r) : OkR (fun e => L22_0_x e (L22_0_e a1 a2 v1)) (fun s => L22_0_e a1 a2 v1 = L22_0_e a1 a2 s) r := by
 unfold L22_0 at h
 have k0 := ka [(8, .v (i6 (a1.decl.length : Int)))] (apc (lg a1.decl eName 5) apn)
 apply bi h <;> intro h1 h
 ·
  apply bn h; intro x2 h2 h
  have k1 := k0.a [(9, .d true), (14, .v (.ro (eName x2)))] (av h1 (apc (ig eName 5 .i64 h2) apn))
  apply bi h <;> intro h3 h
  ·
   rw [← sj h]
   exact xy ([(17, .d true), (6000, .d true)] ++ kH k1) (k1.b (av h3 apn))
  ·
   have k2 := k1.a [(17, .d false), (21, .v (.ro (eName x2)))] (av h3 (apc (ig eName 5 .i64 h2) apn))
   apply bi h <;> intro h4 h
   ·
    rw [← sj h]
    exact xy ([(25, .d true), (6000, .d true)] ++ kH k2) (k2.b (av h4 apn))
   ·
    have k3 := k2.a [(25, .d false), (30, .v (.ro (eName x2)))] (av h4 (apc (ig eName 5 .i64 h2) apn))
    apply bi h <;> intro h5 h
    ·
     rw [← sj h]
     exact xy ([(34, .d true), (6000, .d true)] ++ kH k3) (k3.b (av h5 apn))
    ·
     have k4 := k3.a [(34, .d false), (39, .v (.ro (eName x2))), (45, .v (.ro (eName x2)))] (av h5 (apc (ig eName 5 .i64 h2) (apc (ig eName 5 .i64 h2) apn)))
     apply bi h <;> intro h6 h
     ·
      rw [← sj h]
      exact xy ([(49, .d true), (6000, .d true)] ++ kH k4) (k4.b (av h6 apn))
     ·
      apply bi h <;> intro h7 h
      ·
       have k5 := k4.a [(49, .d false), (53, .d true), (57, .v (.ro (eName x2)))] (av h6 (av h7 (apc (ig eName 5 .i64 h2) apn)))
       apply bn h; intro x8 h8 h
       apply bi h <;> intro h9 h
       ·
        rw [← sj h]
        exact xy ([(64, .v (.ro (eName x8))), (68, .d true), (6000, .d true)] ++ kH k5) (k5.b (apc (ig eName 5 .i64 h8) (av h9 apn)))
       ·
        rw [← sj h]
        exact rn ([(64, .v (.ro (eName x8))), (68, .d false), (6000, .d true)] ++ kH k5) (k5.b (apc (ig eName 5 .i64 h8) (av h9 (apc (L22_0_k a1 a2 (w6 (v1 + 1))) apn))))
      ·
       rw [← sj h]
       exact rn ([(49, .d false), (53, .d false), (6000, .d true)] ++ kH k4) (k4.b (av h6 (av h7 (apc (L22_0_k a1 a2 (w6 (v1 + 1))) apn))))
 ·
  rw [← sj h]
  exact xb ([(9, .d false), (6000, .d true)] ++ kH k0) (k0.b (av h1 apn))
theorem L22_0_run (s0 : Int) (e : E_L22_0) (h : runL (fun s => L22_0 a1 a2 s) s0 = some e) : L22_0_x e (L22_0_e a1 a2 s0) := by
  have q := @loop_sound' (Int) E_L22_0 (fun s => L22_0 a1 a2 s) (fun s => L22_0_e a1 a2 s) (L22_0_x) (fun s r h => L22_0_ok a1 a2 s h) s0 e h
  exact q
end
def F22_v (a1 : ScopesD) (a2 : Int) (x0 : Bool) : AV := (vb x0)
def F22 (a1 : ScopesD) (a2 : Int) : Option Bool :=
  ((runL (fun s => L22_0 a1 a2 s) 0).bind fun r1 => match r1 with | .k0 => (some false) | .k1 => (some true))
theorem F22_ok (a1 : ScopesD) (a2 : Int) {r : Bool} (h : F22 a1 a2 = some r) : PR1 prg 22 [ls 5 eName a1.decl, i6 a2] (F22_v a1 a2 r) := by
 unfold F22 at h
 apply bn h; intro r1 h1 h
 cases r1 with
 | k0 =>
  obtain ⟨g1, y1, e1⟩ := L22_0_run a1 a2 0 _ h1
  rw [← sj h]
  exact fq [(2000, .l .ret ⟨fr 71 g1 [(4, vb false)], y1⟩), (6000, .d true)] (apc (L22_0_k a1 a2 0) (apc (e1 : L22_0_e a1 a2 0 = some (.ret, ⟨fr 71 g1 [(4, vb false)], y1⟩)) apn))
 | k1 =>
  obtain ⟨g1, e1⟩ := L22_0_run a1 a2 0 _ h1
  rw [← sj h]
  exact fq [(2000, .l (.brk 0) ⟨fr 71 g1 [], []⟩), (6000, .d true)] (apc (L22_0_k a1 a2 0) (apc (e1 : L22_0_e a1 a2 0 = some ((.brk 0), ⟨fr 71 g1 [], []⟩)) apn))
inductive E_L22_0_2 where
  | k0
  | k1
section
variable (a1 : ScopesD) (a2 : Int)
def L22_0_2 (v1 : Int) : Option (E_L22_0_2 ⊕ (Int)) :=
  (bif (decide (v1 < (a1.uses.length : Int))) then ((getI a1.uses v1).bind fun x2 => (bif (decide (x2.scp < 0)) then (some (.inl (.k0))) else (bif (decide (x2.scp ≥ a2)) then (some (.inl (.k0))) else (bif (decide (x2.frm < 0)) then (some (.inl (.k0))) else (bif (decide (x2.til < x2.frm)) then (some (.inl (.k0))) else (bif (decide (v1 > 0)) then ((getI a1.uses (IntKind.wrap .i64 (v1 - 1))).bind fun x8 => (bif (decide (x2.frm < x8.frm)) then (some (.inl (.k0))) else (some (.inr ((IntKind.wrap .i64 (v1 + 1))))))) else (some (.inr ((IntKind.wrap .i64 (v1 + 1))))))))))) else (some (.inl (.k1))))
def L22_0_2_s (v1 : Int) : St := ⟨fr 71 ug [(0, ls 5 eName a1.uses), (1, i6 a2), (5, i6 v1)], []⟩
theorem L22_0_2_k (v1 : Int) : okT 0 (L22_0_2_s a1 a2 v1).h = true := (okT_of rfl rfl)
abbrev L22_0_2_e (v1 : Int) := evH prg 0 [0, 1, 5] ir22_l0 (L22_0_2_s a1 a2 v1)
def L22_0_2_x (e : E_L22_0_2) (r : Option (Out × St)) : Prop := match e with | .k0 => ∃ g y, r = some (.ret, ⟨fr 71 g [(4, vb false)], y⟩) | .k1 => ∃ g, r = some ((.brk 0), ⟨fr 71 g [], []⟩)
theorem L22_0_2_ok (v1 : Int) {r : E_L22_0_2 ⊕ (Int)} (h : L22_0_2 a1 a2 v1 = some r) : OkR (fun e => L22_0_2_x e (L22_0_2_e a1 a2 v1)) (fun s => L22_0_2_e a1 a2 v1 = L22_0_2_e a1 a2 s) r := by
 unfold L22_0_2 at h
 have k0 := ka [(8, .v (i6 (a1.uses.length : Int)))] (apc (lg a1.uses eName 5) apn)
 apply bi h <;> intro h1 h
 ·
  apply bn h; intro x2 h2 h
  have k1 := k0.a [(9, .d true), (14, .v (.ro (eName x2)))] (av h1 (apc (ig eName 5 .i64 h2) apn))
  apply bi h <;> intro h3 h
  ·
   rw [← sj h]
   exact xy ([(17, .d true), (6000, .d true)] ++ kH k1) (k1.b (av h3 apn))
  ·
   have k2 := k1.a [(17, .d false), (21, .v (.ro (eName x2)))] (av h3 (apc (ig eName 5 .i64 h2) apn))
   apply bi h <;> intro h4 h
   ·
    rw [← sj h]
    exact xy ([(25, .d true), (6000, .d true)] ++ kH k2) (k2.b (av h4 apn))
   ·
    have k3 := k2.a [(25, .d false), (30, .v (.ro (eName x2)))] (av h4 (apc (ig eName 5 .i64 h2) apn))
    apply bi h <;> intro h5 h
    ·
     rw [← sj h]
     exact xy ([(34, .d true), (6000, .d true)] ++ kH k3) (k3.b (av h5 apn))
    ·
     have k4 := k3.a [(34, .d false), (39, .v (.ro (eName x2))), (45, .v (.ro (eName x2)))] (av h5 (apc (ig eName 5 .i64 h2) (apc (ig eName 5 .i64 h2) apn)))
     apply bi h <;> intro h6 h
     ·
      rw [← sj h]
      exact xy ([(49, .d true), (6000, .d true)] ++ kH k4) (k4.b (av h6 apn))
     ·
      apply bi h <;> intro h7 h
      ·
       have k5 := k4.a [(49, .d false), (53, .d true), (57, .v (.ro (eName x2)))] (av h6 (av h7 (apc (ig eName 5 .i64 h2) apn)))
       apply bn h; intro x8 h8 h
       apply bi h <;> intro h9 h
       ·
        rw [← sj h]
        exact xy ([(64, .v (.ro (eName x8))), (68, .d true), (6000, .d true)] ++ kH k5) (k5.b (apc (ig eName 5 .i64 h8) (av h9 apn)))
       ·
        rw [← sj h]
        exact rn ([(64, .v (.ro (eName x8))), (68, .d false), (6000, .d true)] ++ kH k5) (k5.b (apc (ig eName 5 .i64 h8) (av h9 (apc (L22_0_2_k a1 a2 (w6 (v1 + 1))) apn))))
      ·
       rw [← sj h]
       exact rn ([(49, .d false), (53, .d false), (6000, .d true)] ++ kH k4) (k4.b (av h6 (av h7 (apc (L22_0_2_k a1 a2 (w6 (v1 + 1))) apn))))
 ·
  rw [← sj h]
  exact xb ([(9, .d false), (6000, .d true)] ++ kH k0) (k0.b (av h1 apn))
theorem L22_0_2_run (s0 : Int) (e : E_L22_0_2) (h : runL (fun s => L22_0_2 a1 a2 s) s0 = some e) : L22_0_2_x e (L22_0_2_e a1 a2 s0) := by
  have q := @loop_sound' (Int) E_L22_0_2 (fun s => L22_0_2 a1 a2 s) (fun s => L22_0_2_e a1 a2 s) (L22_0_2_x) (fun s r h => L22_0_2_ok a1 a2 s h) s0 e h
  exact q
end
def F22_2_v (a1 : ScopesD) (a2 : Int) (x0 : Bool) : AV := (vb x0)
def F22_2 (a1 : ScopesD) (a2 : Int) : Option Bool :=
  ((runL (fun s => L22_0_2 a1 a2 s) 0).bind fun r1 => match r1 with | .k0 => (some false) | .k1 => (some true))
theorem F22_2_ok (a1 : ScopesD) (a2 : Int) {r : Bool} (h : F22_2 a1 a2 = some r) : PR1 prg 22 [ls 5 eName a1.uses, i6 a2] (F22_2_v a1 a2 r) := by
 unfold F22_2 at h
 apply bn h; intro r1 h1 h
 cases r1 with
 | k0 =>
  obtain ⟨g1, y1, e1⟩ := L22_0_2_run a1 a2 0 _ h1
  rw [← sj h]
  exact fq [(2000, .l .ret ⟨fr 71 g1 [(4, vb false)], y1⟩), (6000, .d true)] (apc (L22_0_2_k a1 a2 0) (apc (e1 : L22_0_2_e a1 a2 0 = some (.ret, ⟨fr 71 g1 [(4, vb false)], y1⟩)) apn))
 | k1 =>
  obtain ⟨g1, e1⟩ := L22_0_2_run a1 a2 0 _ h1
  rw [← sj h]
  exact fq [(2000, .l (.brk 0) ⟨fr 71 g1 [], []⟩), (6000, .d true)] (apc (L22_0_2_k a1 a2 0) (apc (e1 : L22_0_2_e a1 a2 0 = some ((.brk 0), ⟨fr 71 g1 [], []⟩)) apn))
def F10_v (a1 : ScopesD) (x0 : Bool) : AV := (vb x0)
def F10 (a1 : ScopesD) : Option Bool :=
  (bif ((a1.all.length : Int) == 0) then (some false) else ((getI a1.all 0).bind fun x2 => (bif (x2.par != (-1)) then (some false) else ((runL (fun s => L10_0 a1 s) 0).bind fun r4 => match r4 with | .k0 => (some false) | .k1 => ((F22 a1 (a1.all.length : Int)).bind fun x5 => (bif x5 then ((F22_2 a1 (a1.all.length : Int)).bind fun x7 => (some x7)) else (some false)))))))
theorem F10_ok (a1 : ScopesD) {r : Bool} (h : F10 a1 = some r) : PR1 prg 10 [(.agg ((eScps a1).map .p))] (F10_v a1 r) := by
 unfold F10 at h
 have k0 := ka [(6, .v (i6 (a1.all.length : Int)))] (apc (lg a1.all eScope 3) apn)
 apply bi h <;> intro h1 h
 ·
  rw [← sj h]
  exact fq ([(7, .d true)] ++ kH k0) (k0.b (av h1 apn))
 ·
  apply bn h; intro x2 h2 h
  have k1 := k0.a [(7, .d false), (11, .v (.ro (eScope x2)))] (av h1 (apc (ig eScope 3 .i64 h2) apn))
  apply bi h <;> intro h3 h
  ·
   rw [← sj h]
   exact fq ([(14, .d true)] ++ kH k1) (k1.b (av h3 apn))
  ·
   apply bn h; intro r4 h4 h
   cases r4 with
   | k0 =>
    obtain ⟨g4, y4, e4⟩ := L10_0_run a1 0 _ h4
    rw [← sj h]
    exact fq ([(14, .d false), (2000, .l .ret ⟨fr 85 g4 [(2, vb false)], y4⟩), (6000, .d true)] ++ kH k1) (k1.b (av h3 (apc (L10_0_k a1 0) (apc (e4 : L10_0_e a1 0 = some (.ret, ⟨fr 85 g4 [(2, vb false)], y4⟩)) apn))))
   | k1 =>
    obtain ⟨g4, e4⟩ := L10_0_run a1 0 _ h4
    have q2 := (e4 : L10_0_e a1 0 = some ((.brk 0), ⟨fr 85 g4 [(1, .ptr 0 0)], [.cells 25 ((eScps a1).map .p)]⟩))
    have k3 := k1.a [(14, .d false), (2000, .l (.brk 0) ⟨fr 85 g4 [(1, .ptr 0 0)], [.cells 25 ((eScps a1).map .p)]⟩), (75, .v (i6 (a1.all.length : Int)))] (av h3 (apc (L10_0_k a1 0) (apc q2 (apc (lg a1.all eScope 3) apn))))
    apply bn h; intro x5 h5 h
    apply bi h <;> intro h6 h
    ·
     apply bn h; intro x7 h7 h
     rw [← sj h]
     exact fq ([(76, .v (vb true)), (82, .v (i6 (a1.all.length : Int))), (83, .v (vb x7)), (6000, .d true)] ++ kH k3) (k3.b (apc ((((F22_ok a1 (a1.all.length : Int) h5).cp rfl _).trans (congrArg (fun z => some (vb z)) h6)) : CP prg 22 [ls 5 eName a1.decl, (i6 (a1.all.length : Int))] [.cells 25 ((eScps a1).map .p)] = some (vb true)) (apc (lg a1.all eScope 3) (apc (((F22_2_ok a1 (a1.all.length : Int) h7).cp rfl _) : CP prg 22 [ls 5 eName a1.uses, (i6 (a1.all.length : Int))] [.cells 25 ((eScps a1).map .p)] = some (vb x7)) apn))))
    ·
     rw [← sj h]
     exact fq ([(76, .v (vb false)), (6000, .d true)] ++ kH k3) (k3.b (apc ((((F22_ok a1 (a1.all.length : Int) h5).cp rfl _).trans (congrArg (fun z => some (vb z)) h6)) : CP prg 22 [ls 5 eName a1.decl, (i6 (a1.all.length : Int))] [.cells 25 ((eScps a1).map .p)] = some (vb false)) apn))
inductive E_L19_0 where
  | k0
  | k1
section
variable (a1 : ScopesD) (a2 : Int)
def L19_0 (v1 : Int) : Option (E_L19_0 ⊕ (Int)) :=
  (bif (decide (v1 < a2)) then ((getI a1.all v1).bind fun x2 => (bif (v1 == 0) then (bif (x2.par != (-1)) then (some (.inl (.k0))) else (bif (decide (v1 > 0)) then (bif (decide (x2.par < 0)) then (some (.inl (.k0))) else (bif (decide (x2.par ≥ v1)) then (some (.inl (.k0))) else (bif (decide (x2.frm < 0)) then (some (.inl (.k0))) else (bif (decide (x2.frm > x2.til)) then (some (.inl (.k0))) else (some (.inr ((IntKind.wrap .i64 (v1 + 1))))))))) else (bif (decide (x2.frm < 0)) then (some (.inl (.k0))) else (bif (decide (x2.frm > x2.til)) then (some (.inl (.k0))) else (some (.inr ((IntKind.wrap .i64 (v1 + 1))))))))) else (bif (decide (v1 > 0)) then (bif (decide (x2.par < 0)) then (some (.inl (.k0))) else (bif (decide (x2.par ≥ v1)) then (some (.inl (.k0))) else (bif (decide (x2.frm < 0)) then (some (.inl (.k0))) else (bif (decide (x2.frm > x2.til)) then (some (.inl (.k0))) else (some (.inr ((IntKind.wrap .i64 (v1 + 1))))))))) else (bif (decide (x2.frm < 0)) then (some (.inl (.k0))) else (bif (decide (x2.frm > x2.til)) then (some (.inl (.k0))) else (some (.inr ((IntKind.wrap .i64 (v1 + 1)))))))))) else (some (.inl (.k1))))
def L19_0_s (v1 : Int) : St := ⟨fr 73 ug [(1, .ptr 0 0), (6, ls 3 eScope a1.all), (7, i6 a2), (8, i6 v1)], [.cells 25 ((eScps a1).map .p)]⟩
theorem L19_0_k (v1 : Int) : okT 1 (L19_0_s a1 a2 v1).h = true := (okT_of rfl (ac rfl))
abbrev L19_0_e (v1 : Int) := evH prg 1 [1, 6, 7, 8] ir19_l0 (L19_0_s a1 a2 v1)
def L19_0_x (e : E_L19_0) (r : Option (Out × St)) : Prop := match e with | .k0 => ∃ g y, r = some (.ret, ⟨fr 73 g [(2, i6 2)], y⟩) | .k1 => ∃ g, r = some ((.brk 0), ⟨fr 73 g [(1, .ptr 0 0), (6, ls 3 eScope a1.all)], [.cells 25 ((eScps a1).map .p)]⟩)
theorem L19_0_ok (v1 : Int) {r : E_L19_0 ⊕ (Int)} (h : L19_0 a1 a2 v1 = some r) : OkR (fun e => L19_0_x a1 e (L19_0_e a1 a2 v1)) (fun s => L19_0_e a1 a2 v1 = L19_0_e a1 a2 s) r := by
 unfold L19_0 at h
 apply bi h <;> intro h1 h
 ·
  apply bn h; intro x2 h2 h
  have k0 := ka [(9, .d true), (11, .v (.ro (eScope x2)))] (av h1 (apc (ig eScope 3 .i64 h2) apn))
  apply bi h <;> intro h3 h
  ·
   apply bi h <;> intro h4 h
   ·
    rw [← sj h]
    exact xy ([(14, .d true), (18, .d true), (6000, .d true)] ++ kH k0) (k0.b (av h3 (av h4 apn)))
   ·
    have k1 := k0.a [(14, .d true), (18, .d false)] (av h3 (av h4 apn))
    apply bi h <;> intro h5 h
    ·
     apply bi h <;> intro h6 h
     ·
      rw [← sj h]
      exact xy ([(22, .d true), (26, .d true), (6000, .d true)] ++ kH k1) (k1.b (av h5 (av h6 apn)))
     ·
      have k2 := k1.a [(22, .d true), (26, .d false)] (av h5 (av h6 apn))
      apply bi h <;> intro h7 h
      ·
       rw [← sj h]
       exact xy ([(31, .d true), (6000, .d true)] ++ kH k2) (k2.b (av h7 apn))
      ·
       apply bi h <;> intro h8 h
       ·
        rw [← sj h]
        exact xy ([(31, .d false), (39, .d true), (6000, .d true)] ++ kH k2) (k2.b (av h7 (av h8 apn)))
       ·
        have k3 := k2.a [(31, .d false), (39, .d false)] (av h7 (av h8 apn))
        apply bi h <;> intro h9 h
        ·
         rw [← sj h]
         exact xy ([(48, .d true), (6000, .d true)] ++ kH k3) (k3.b (av h9 apn))
        ·
         rw [← sj h]
         exact rn ([(48, .d false), (6000, .d true)] ++ kH k3) (k3.b (av h9 (apc (L19_0_k a1 a2 (w6 (v1 + 1))) apn)))
    ·
     apply bi h <;> intro h6 h
     ·
      rw [← sj h]
      exact xy ([(22, .d false), (39, .d true), (6000, .d true)] ++ kH k1) (k1.b (av h5 (av h6 apn)))
     ·
      have k4 := k1.a [(22, .d false), (39, .d false)] (av h5 (av h6 apn))
      apply bi h <;> intro h7 h
      ·
       rw [← sj h]
       exact xy ([(48, .d true), (6000, .d true)] ++ kH k4) (k4.b (av h7 apn))
      ·
       rw [← sj h]
       exact rn ([(48, .d false), (6000, .d true)] ++ kH k4) (k4.b (av h7 (apc (L19_0_k a1 a2 (w6 (v1 + 1))) apn)))
  ·
   apply bi h <;> intro h4 h
   ·
    have k5 := k0.a [(14, .d false), (22, .d true)] (av h3 (av h4 apn))
    apply bi h <;> intro h5 h
    ·
     rw [← sj h]
     exact xy ([(26, .d true), (6000, .d true)] ++ kH k5) (k5.b (av h5 apn))
    ·
     apply bi h <;> intro h6 h
     ·
      rw [← sj h]
      exact xy ([(26, .d false), (31, .d true), (6000, .d true)] ++ kH k5) (k5.b (av h5 (av h6 apn)))
     ·
      have k6 := k5.a [(26, .d false), (31, .d false)] (av h5 (av h6 apn))
      apply bi h <;> intro h7 h
      ·
       rw [← sj h]
       exact xy ([(39, .d true), (6000, .d true)] ++ kH k6) (k6.b (av h7 apn))
      ·
       apply bi h <;> intro h8 h
       ·
        rw [← sj h]
        exact xy ([(39, .d false), (48, .d true), (6000, .d true)] ++ kH k6) (k6.b (av h7 (av h8 apn)))
       ·
        rw [← sj h]
        exact rn ([(39, .d false), (48, .d false), (6000, .d true)] ++ kH k6) (k6.b (av h7 (av h8 (apc (L19_0_k a1 a2 (w6 (v1 + 1))) apn))))
   ·
    have k7 := k0.a [(14, .d false), (22, .d false)] (av h3 (av h4 apn))
    apply bi h <;> intro h5 h
    ·
     rw [← sj h]
     exact xy ([(39, .d true), (6000, .d true)] ++ kH k7) (k7.b (av h5 apn))
    ·
     apply bi h <;> intro h6 h
     ·
      rw [← sj h]
      exact xy ([(39, .d false), (48, .d true), (6000, .d true)] ++ kH k7) (k7.b (av h5 (av h6 apn)))
     ·
      rw [← sj h]
      exact rn ([(39, .d false), (48, .d false), (6000, .d true)] ++ kH k7) (k7.b (av h5 (av h6 (apc (L19_0_k a1 a2 (w6 (v1 + 1))) apn))))
 ·
  rw [← sj h]
  exact xb [(9, .d false), (6000, .d true)] (av h1 apn)
theorem L19_0_run (s0 : Int) (e : E_L19_0) (h : runL (fun s => L19_0 a1 a2 s) s0 = some e) : L19_0_x a1 e (L19_0_e a1 a2 s0) := by
  have q := @loop_sound' (Int) E_L19_0 (fun s => L19_0 a1 a2 s) (fun s => L19_0_e a1 a2 s) (L19_0_x a1) (fun s r h => L19_0_ok a1 a2 s h) s0 e h
  exact q
end
inductive E_L31_0 where
  | k0
  | k1
section
variable (a1 : ScopesD) (a2 a3 : Int)
def L31_0 (v1 : Int) : Option (E_L31_0 ⊕ (Int)) :=
  (bif (decide (v1 < a3)) then ((getI a1.decl v1).bind fun x2 => (bif (decide (x2.scp < 0)) then (some (.inl (.k0))) else (bif (decide (x2.scp ≥ a2)) then (some (.inl (.k0))) else (bif (decide (x2.frm < 0)) then (some (.inl (.k0))) else (bif (decide (x2.frm > x2.til)) then (some (.inl (.k0))) else (bif (decide (v1 > 0)) then ((getI a1.decl (IntKind.wrap .i64 (v1 - 1))).bind fun x8 => (bif (decide (x8.frm > x2.frm)) then (some (.inl (.k0))) else (some (.inr ((IntKind.wrap .i64 (v1 + 1))))))) else (some (.inr ((IntKind.wrap .i64 (v1 + 1))))))))))) else (some (.inl (.k1))))
def L31_0_s (v1 : Int) : St := ⟨fr 56 ug [(0, ls 5 eName a1.decl), (1, i6 a2), (7, ls 5 eName a1.decl), (8, i6 a3), (9, i6 v1)], []⟩
theorem L31_0_k (v1 : Int) : okT 0 (L31_0_s a1 a2 a3 v1).h = true := (okT_of rfl rfl)
abbrev L31_0_e (v1 : Int) := evH prg 0 [0, 1, 7, 8, 9] ir31_l0 (L31_0_s a1 a2 a3 v1)
def L31_0_x (e : E_L31_0) (r : Option (Out × St)) : Prop := match e with | .k0 => ∃ g y, r = some (.ret, ⟨fr 56 g [(4, vb false)], y⟩) | .k1 => ∃ g, r = some ((.brk 0), ⟨fr 56 g [(0, ls 5 eName a1.decl), (7, ls 5 eName a1.decl)], []⟩)
theorem L31_0_ok (v1 : Int) {r : E_L31_0 ⊕ (Int)} (h : L31_0 a1 a2 a3 v1 = some r) : OkR (fun e => L31_0_x a1 e (L31_0_e a1 a2 a3 v1)) (fun s => L31_0_e a1 a2 a3 v1 = L31_0_e a1 a2 a3 s) r := by
 unfold L31_0 at h
 apply bi h <;> intro h1 h
 ·
  apply bn h; intro x2 h2 h
  have k0 := ka [(10, .d true), (12, .v (.ro (eName x2)))] (av h1 (apc (ig eName 5 .i64 h2) apn))
  apply bi h <;> intro h3 h
  ·
   rw [← sj h]
   exact xy ([(16, .d true), (6000, .d true)] ++ kH k0) (k0.b (av h3 apn))
  ·
   apply bi h <;> intro h4 h
   ·
    rw [← sj h]
    exact xy ([(16, .d false), (21, .d true), (6000, .d true)] ++ kH k0) (k0.b (av h3 (av h4 apn)))
   ·
    have k1 := k0.a [(16, .d false), (21, .d false)] (av h3 (av h4 apn))
    apply bi h <;> intro h5 h
    ·
     rw [← sj h]
     exact xy ([(27, .d true), (6000, .d true)] ++ kH k1) (k1.b (av h5 apn))
    ·
     apply bi h <;> intro h6 h
     ·
      rw [← sj h]
      exact xy ([(27, .d false), (36, .d true), (6000, .d true)] ++ kH k1) (k1.b (av h5 (av h6 apn)))
     ·
      have k2 := k1.a [(27, .d false), (36, .d false)] (av h5 (av h6 apn))
      apply bi h <;> intro h7 h
      ·
       apply bn h; intro x8 h8 h
       have k3 := k2.a [(40, .d true), (45, .v (.ro (eName x8)))] (av h7 (apc (ig eName 5 .i64 h8) apn))
       apply bi h <;> intro h9 h
       ·
        rw [← sj h]
        exact xy ([(52, .d true), (6000, .d true)] ++ kH k3) (k3.b (av h9 apn))
       ·
        rw [← sj h]
        exact rn ([(52, .d false), (6000, .d true)] ++ kH k3) (k3.b (av h9 (apc (L31_0_k a1 a2 a3 (w6 (v1 + 1))) apn)))
      ·
       rw [← sj h]
       exact rn ([(40, .d false), (6000, .d true)] ++ kH k2) (k2.b (av h7 (apc (L31_0_k a1 a2 a3 (w6 (v1 + 1))) apn)))
 ·
  rw [← sj h]
  exact xb [(10, .d false), (6000, .d true)] (av h1 apn)
theorem L31_0_run (s0 : Int) (e : E_L31_0) (h : runL (fun s => L31_0 a1 a2 a3 s) s0 = some e) : L31_0_x a1 e (L31_0_e a1 a2 a3 s0) := by
  have q := @loop_sound' (Int) E_L31_0 (fun s => L31_0 a1 a2 a3 s) (fun s => L31_0_e a1 a2 a3 s) (L31_0_x a1) (fun s r h => L31_0_ok a1 a2 a3 s h) s0 e h
  exact q
end
def F31_v (a1 : ScopesD) (a2 : Int) (x0 : Bool) : AV := (vb x0)
def F31 (a1 : ScopesD) (a2 : Int) : Option Bool :=
  ((runL (fun s => L31_0 a1 a2 (a1.decl.length : Int) s) 0).bind fun r1 => match r1 with | .k0 => (some false) | .k1 => (some true))
abbrev F31_d0 (g1 : Nat → AV) (a1 : ScopesD) : St := ⟨fr 56 g1 [(0, ls 5 eName a1.decl), (7, ls 5 eName a1.decl)], []⟩
theorem F31_ok (a1 : ScopesD) (a2 : Int) {r : Bool} (h : F31 a1 a2 = some r) : PR1 prg 31 [ls 5 eName a1.decl, i6 a2] (F31_v a1 a2 r) := by
 unfold F31 at h
 have k0 := ka [(8, .v (i6 (a1.decl.length : Int)))] (apc (lg a1.decl eName 5) apn)
 apply bn h; intro r1 h1 h
 cases r1 with
 | k0 =>
  obtain ⟨g1, y1, e1⟩ := L31_0_run a1 a2 (a1.decl.length : Int) 0 _ h1
  rw [← sj h]
  exact fq ([(2000, .l .ret ⟨fr 56 g1 [(4, vb false)], y1⟩), (6000, .d true)] ++ kH k0) (k0.b (apc (L31_0_k a1 a2 (a1.decl.length : Int) 0) (apc (e1 : L31_0_e a1 a2 (a1.decl.length : Int) 0 = some (.ret, ⟨fr 56 g1 [(4, vb false)], y1⟩)) apn)))
 | k1 =>
  obtain ⟨g1, e1⟩ := L31_0_run a1 a2 (a1.decl.length : Int) 0 _ h1
  rw [← sj h]
  exact fq ([(2000, .l (.brk 0) (F31_d0 g1 a1)), (6000, .d true)] ++ kH k0) (k0.b (apc (L31_0_k a1 a2 (a1.decl.length : Int) 0) (apc (e1 : L31_0_e a1 a2 (a1.decl.length : Int) 0 = some ((.brk 0), F31_d0 g1 a1)) apn)))
inductive E_L31_0_2 where
  | k0
  | k1
section
variable (a1 : ScopesD) (a2 a3 : Int)
def L31_0_2 (v1 : Int) : Option (E_L31_0_2 ⊕ (Int)) :=
  (bif (decide (v1 < a3)) then ((getI a1.uses v1).bind fun x2 => (bif (decide (x2.scp < 0)) then (some (.inl (.k0))) else (bif (decide (x2.scp ≥ a2)) then (some (.inl (.k0))) else (bif (decide (x2.frm < 0)) then (some (.inl (.k0))) else (bif (decide (x2.frm > x2.til)) then (some (.inl (.k0))) else (bif (decide (v1 > 0)) then ((getI a1.uses (IntKind.wrap .i64 (v1 - 1))).bind fun x8 => (bif (decide (x8.frm > x2.frm)) then (some (.inl (.k0))) else (some (.inr ((IntKind.wrap .i64 (v1 + 1))))))) else (some (.inr ((IntKind.wrap .i64 (v1 + 1))))))))))) else (some (.inl (.k1))))
def L31_0_2_s (v1 : Int) : St := ⟨fr 56 ug [(0, ls 5 eName a1.uses), (1, i6 a2), (7, ls 5 eName a1.uses), (8, i6 a3), (9, i6 v1)], []⟩
theorem L31_0_2_k (v1 : Int) : okT 0 (L31_0_2_s a1 a2 a3 v1).h = true := (okT_of rfl rfl)
abbrev L31_0_2_e (v1 : Int) := evH prg 0 [0, 1, 7, 8, 9] ir31_l0 (L31_0_2_s a1 a2 a3 v1)
def L31_0_2_x (e : E_L31_0_2) (r : Option (Out × St)) : Prop := match e with | .k0 => ∃ g y, r = some (.ret, ⟨fr 56 g [(4, vb false)], y⟩) | .k1 => ∃ g, r = some ((.brk 0), ⟨fr 56 g [(0, ls 5 eName a1.uses), (7, ls 5 eName a1.uses)], []⟩)
theorem L31_0_2_ok (v1 : Int) {r : E_L31_0_2 ⊕ (Int)} (h : L31_0_2 a1 a2 a3 v1 = some r) : OkR (fun e => L31_0_2_x a1 e (L31_0_2_e a1 a2 a3 v1)) (fun s => L31_0_2_e a1 a2 a3 v1 = L31_0_2_e a1 a2 a3 s) r := by
 unfold L31_0_2 at h
 apply bi h <;> intro h1 h
 ·
  apply bn h; intro x2 h2 h
  have k0 := ka [(10, .d true), (12, .v (.ro (eName x2)))] (av h1 (apc (ig eName 5 .i64 h2) apn))
  apply bi h <;> intro h3 h
  ·
   rw [← sj h]
   exact xy ([(16, .d true), (6000, .d true)] ++ kH k0) (k0.b (av h3 apn))
  ·
   apply bi h <;> intro h4 h
   ·
    rw [← sj h]
    exact xy ([(16, .d false), (21, .d true), (6000, .d true)] ++ kH k0) (k0.b (av h3 (av h4 apn)))
   ·
    have k1 := k0.a [(16, .d false), (21, .d false)] (av h3 (av h4 apn))
    apply bi h <;> intro h5 h
    ·
     rw [← sj h]
     exact xy ([(27, .d true), (6000, .d true)] ++ kH k1) (k1.b (av h5 apn))
    ·
     apply bi h <;> intro h6 h
     ·
      rw [← sj h]
      exact xy ([(27, .d false), (36, .d true), (6000, .d true)] ++ kH k1) (k1.b (av h5 (av h6 apn)))
     ·
      have k2 := k1.a [(27, .d false), (36, .d false)] (av h5 (av h6 apn))
      apply bi h <;> intro h7 h
      ·
       apply bn h; intro x8 h8 h
       have k3 := k2.a [(40, .d true), (45, .v (.ro (eName x8)))] (av h7 (apc (ig eName 5 .i64 h8) apn))
       apply bi h <;> intro h9 h
       ·
        rw [← sj h]
        exact xy ([(52, .d true), (6000, .d true)] ++ kH k3) (k3.b (av h9 apn))
       ·
        rw [← sj h]
        exact rn ([(52, .d false), (6000, .d true)] ++ kH k3) (k3.b (av h9 (apc (L31_0_2_k a1 a2 a3 (w6 (v1 + 1))) apn)))
      ·
       rw [← sj h]
       exact rn ([(40, .d false), (6000, .d true)] ++ kH k2) (k2.b (av h7 (apc (L31_0_2_k a1 a2 a3 (w6 (v1 + 1))) apn)))
 ·
  rw [← sj h]
  exact xb [(10, .d false), (6000, .d true)] (av h1 apn)
theorem L31_0_2_run (s0 : Int) (e : E_L31_0_2) (h : runL (fun s => L31_0_2 a1 a2 a3 s) s0 = some e) : L31_0_2_x a1 e (L31_0_2_e a1 a2 a3 s0) := by
  have q := @loop_sound' (Int) E_L31_0_2 (fun s => L31_0_2 a1 a2 a3 s) (fun s => L31_0_2_e a1 a2 a3 s) (L31_0_2_x a1) (fun s r h => L31_0_2_ok a1 a2 a3 s h) s0 e h
  exact q
end
def F31_2_v (a1 : ScopesD) (a2 : Int) (x0 : Bool) : AV := (vb x0)
def F31_2 (a1 : ScopesD) (a2 : Int) : Option Bool :=
  ((runL (fun s => L31_0_2 a1 a2 (a1.uses.length : Int) s) 0).bind fun r1 => match r1 with | .k0 => (some false) | .k1 => (some true))
abbrev F31_2_d0 (g1 : Nat → AV) (a1 : ScopesD) : St := ⟨fr 56 g1 [(0, ls 5 eName a1.uses), (7, ls 5 eName a1.uses)], []⟩
theorem F31_2_ok (a1 : ScopesD) (a2 : Int) {r : Bool} (h : F31_2 a1 a2 = some r) : PR1 prg 31 [ls 5 eName a1.uses, i6 a2] (F31_2_v a1 a2 r) := by
 unfold F31_2 at h
 have k0 := ka [(8, .v (i6 (a1.uses.length : Int)))] (apc (lg a1.uses eName 5) apn)
 apply bn h; intro r1 h1 h
 cases r1 with
 | k0 =>
  obtain ⟨g1, y1, e1⟩ := L31_0_2_run a1 a2 (a1.uses.length : Int) 0 _ h1
  rw [← sj h]
  exact fq ([(2000, .l .ret ⟨fr 56 g1 [(4, vb false)], y1⟩), (6000, .d true)] ++ kH k0) (k0.b (apc (L31_0_2_k a1 a2 (a1.uses.length : Int) 0) (apc (e1 : L31_0_2_e a1 a2 (a1.uses.length : Int) 0 = some (.ret, ⟨fr 56 g1 [(4, vb false)], y1⟩)) apn)))
 | k1 =>
  obtain ⟨g1, e1⟩ := L31_0_2_run a1 a2 (a1.uses.length : Int) 0 _ h1
  rw [← sj h]
  exact fq ([(2000, .l (.brk 0) (F31_2_d0 g1 a1)), (6000, .d true)] ++ kH k0) (k0.b (apc (L31_0_2_k a1 a2 (a1.uses.length : Int) 0) (apc (e1 : L31_0_2_e a1 a2 (a1.uses.length : Int) 0 = some ((.brk 0), F31_2_d0 g1 a1)) apn)))
def F19_v (a1 : ScopesD) (x0 : Int) : AV := (i6 x0)
def F19 (a1 : ScopesD) : Option Int :=
  ((runL (fun s => L19_0 a1 (a1.all.length : Int) s) 0).bind fun r1 => match r1 with | .k0 => (some 2) | .k1 => (bif ((a1.all.length : Int) == 0) then (some 2) else ((F31 a1 (a1.all.length : Int)).bind fun x3 => (bif x3 then ((F31_2 a1 (a1.all.length : Int)).bind fun x5 => (bif x5 then (some 0) else (some 2))) else (some 2)))))
abbrev F19_d0 (g1 : Nat → AV) (a1 : ScopesD) : St := ⟨fr 73 g1 [(1, .ptr 0 0), (6, ls 3 eScope a1.all)], [.cells 25 ((eScps a1).map .p)]⟩
theorem F19_ok (a1 : ScopesD) {r : Int} (h : F19 a1 = some r) : PR1 prg 19 [(.agg ((eScps a1).map .p))] (F19_v a1 r) := by
 unfold F19 at h
 have k0 := ka [(7, .v (i6 (a1.all.length : Int)))] (apc (lg a1.all eScope 3) apn)
 apply bn h; intro r1 h1 h
 cases r1 with
 | k0 =>
  obtain ⟨g1, y1, e1⟩ := L19_0_run a1 (a1.all.length : Int) 0 _ h1
  rw [← sj h]
  exact fq ([(2000, .l .ret ⟨fr 73 g1 [(2, i6 2)], y1⟩), (6000, .d true)] ++ kH k0) (k0.b (apc (L19_0_k a1 (a1.all.length : Int) 0) (apc (e1 : L19_0_e a1 (a1.all.length : Int) 0 = some (.ret, ⟨fr 73 g1 [(2, i6 2)], y1⟩)) apn)))
 | k1 =>
  obtain ⟨g1, e1⟩ := L19_0_run a1 (a1.all.length : Int) 0 _ h1
  have q1 := (e1 : L19_0_e a1 (a1.all.length : Int) 0 = some ((.brk 0), F19_d0 g1 a1))
  have k2 := k0.a [(2000, .l (.brk 0) (F19_d0 g1 a1)), (53, .v (i6 (a1.all.length : Int)))] (apc (L19_0_k a1 (a1.all.length : Int) 0) (apc q1 (apc (lg a1.all eScope 3) apn)))
  apply bi h <;> intro h2 h
  ·
   rw [← sj h]
   exact fq ([(54, .d true), (6000, .d true)] ++ kH k2) (k2.b (av h2 apn))
  ·
   have k3 := k2.a [(54, .d false), (60, .v (i6 (a1.all.length : Int)))] (av h2 (apc (lg a1.all eScope 3) apn))
   apply bn h; intro x3 h3 h
   apply bi h <;> intro h4 h
   ·
    have q4 := ((((F31_ok a1 (a1.all.length : Int) h3).cp rfl _).trans (congrArg (fun z => some (vb z)) h4)) : CP prg 31 [ls 5 eName a1.decl, (i6 (a1.all.length : Int))] [.cells 25 ((eScps a1).map .p)] = some (vb true))
    have k5 := k3.a [(61, .v (vb true)), (69, .v (i6 (a1.all.length : Int)))] (apc q4 (apc (lg a1.all eScope 3) apn))
    apply bn h; intro x5 h5 h
    apply bi h <;> intro h6 h
    ·
     rw [← sj h]
     exact fq ([(70, .v (vb true)), (6000, .d true)] ++ kH k5) (k5.b (apc ((((F31_2_ok a1 (a1.all.length : Int) h5).cp rfl _).trans (congrArg (fun z => some (vb z)) h6)) : CP prg 31 [ls 5 eName a1.uses, (i6 (a1.all.length : Int))] [.cells 25 ((eScps a1).map .p)] = some (vb true)) apn))
    ·
     rw [← sj h]
     exact fq ([(70, .v (vb false)), (6000, .d true)] ++ kH k5) (k5.b (apc ((((F31_2_ok a1 (a1.all.length : Int) h5).cp rfl _).trans (congrArg (fun z => some (vb z)) h6)) : CP prg 31 [ls 5 eName a1.uses, (i6 (a1.all.length : Int))] [.cells 25 ((eScps a1).map .p)] = some (vb false)) apn))
   ·
    rw [← sj h]
    exact fq ([(61, .v (vb false)), (6000, .d true)] ++ kH k3) (k3.b (apc ((((F31_ok a1 (a1.all.length : Int) h3).cp rfl _).trans (congrArg (fun z => some (vb z)) h4)) : CP prg 31 [ls 5 eName a1.decl, (i6 (a1.all.length : Int))] [.cells 25 ((eScps a1).map .p)] = some (vb false)) apn))
inductive R_F28_3 where
  | k0 (x0 : List ScopeD) (x1 x2 : List NameD)
def F28_3_v (a1 : ScopesD) (a2 : NameD) (a3 : List ((Int × ByteArray × ByteArray) × (List Int))) (a4 : Nat) (a5 : List Ints) (r : R_F28_3) : AV := match r with | .k0 x0 x1 x2 => (.fn 34 [.ptr 10 0, (.ro [.lst 3 (x0.map eScope), .lst 5 (x1.map eName), .lst 5 (x2.map eName)])])
def F28_3_h (a1 : ScopesD) (a2 : NameD) (a3 : List ((Int × ByteArray × ByteArray) × (List Int))) (a4 : Nat) (a5 : List Ints) (r : R_F28_3) : List AB := match r with | .k0 x0 x1 x2 => [.row 39 1 0 (ra eInts []), .map (mrow kA vL a3), .cells 59 [.mp 1], .row 39 1 a4 (ra eInts a5), .cells 34 ((eName a2).map .p), yI0, .cells 59 [.mp 1], yI0, yI0, .cells 39 [.sl 8 0 1 0 0], .cells 3 [i6 a2.scp]]
def F28_3 (a1 : ScopesD) : Option R_F28_3 :=
  (some (.k0 a1.all a1.decl a1.uses))
theorem F28_3_ok (a1 : ScopesD) (a2 : NameD) (a3 : List ((Int × ByteArray × ByteArray) × (List Int))) (a4 : Nat) (a5 : List Ints) {r : R_F28_3} (h : F28_3 a1 = some r) : CS prg 28 [(.agg ((eScps a1).map .p)), i6 a2.scp] [.row 39 1 0 (ra eInts []), .map (mrow kA vL a3), .cells 59 [.mp 1], .row 39 1 a4 (ra eInts a5), .cells 34 ((eName a2).map .p), yI0, .cells 59 [.mp 1], yI0, yI0, .cells 39 [.sl 8 0 1 0 0]] = some (F28_3_v a1 a2 a3 a4 a5 r, F28_3_h a1 a2 a3 a4 a5 r) := by
 unfold F28_3 at h
 rw [← sj h]
 exact fc [] apn
inductive R_Y25_0_5 where
  | k0
  | k1
def Y25_0_5_v (a1 : Int) (a2 : List ((Int × ByteArray × ByteArray) × (List Int))) (a3 : Nat) (a4 : List Ints) (a5 : NameD) (a6 a7 : ScopesD) (r : R_Y25_0_5) : AV := match r with | .k0 => (vb false) | .k1 => (vb true)
def Y25_0_5_h (a1 : Int) (a2 : List ((Int × ByteArray × ByteArray) × (List Int))) (a3 : Nat) (a4 : List Ints) (a5 : NameD) (a6 a7 : ScopesD) (r : R_Y25_0_5) : List AB := match r with | .k0 => [.row 39 1 0 (ra eInts []), .map (mrow kA vL a2), .cells 59 [.mp 1], .row 39 1 a3 (ra eInts a4), .cells 34 ((eName a5).map .p), yI0, .cells 59 [.mp 1], yI0, yI0, .cells 39 [(.sl 13 (gnz (mget ([] : List Int) a2 (a1, a5.spc, a5.txt))) 1 0 (mget ([] : List Int) a2 (a1, a5.spc, a5.txt)).length)], .cells 3 [i6 a1], .loop 2 (some (some 0)) [17] [.und, .und, i6 a5.scp, .und, .und, (.ro (eScps a6)), .ptr 6 0, .und, (.ro [.val (.string a5.spc)]), (.ro [.val (.string a5.txt)]), .und, .ptr 9 0, .und, .und, (.agg ((eScps a6).map .p)), i6 a5.scp, (.fn 34 [.ptr 10 0, (.ro (eScps a7))]), .und, .und, .und, .und, .und, .und, .und, .und, .und, .und, .und, .und, .und] ir25_a0 ir25_b0, yI0, yI (gnz (mget ([] : List Int) a2 (a1, a5.spc, a5.txt))) (mget ([] : List Int) a2 (a1, a5.spc, a5.txt))] | .k1 => [.row 39 1 0 (ra eInts []), .map (mrow kA vL a2), .cells 59 [.mp 1], .row 39 1 a3 (ra eInts a4), .cells 34 ((eName a5).map .p), yI0, .cells 59 [.mp 1], yI0, yI0, .cells 39 [.sl 8 0 1 0 0], .cells 3 [i6 a1], .loop 0 none [17] [.und, .und, i6 a5.scp, .und, .und, (.ro (eScps a6)), .ptr 6 0, .und, (.ro [.val (.string a5.spc)]), (.ro [.val (.string a5.txt)]), .und, .ptr 9 0, .und, .und, (.agg ((eScps a6).map .p)), i6 a5.scp, (.fn 34 [.ptr 10 0, (.ro (eScps a7))]), .und, .und, .und, .und, .und, .und, .und, .und, .und, .und, .und, .und, .und] ir25_a0 ir25_b0]
def Y25_0_5 (a1 : Int) (a2 : List ((Int × ByteArray × ByteArray) × (List Int))) (a5 : NameD) : Option R_Y25_0_5 :=
  (bif (decide (((mget ([] : List Int) a2 (a1, a5.spc, a5.txt)).length : Int) > 0)) then (bif (clOk (mget ([] : List Int) a2 (a1, a5.spc, a5.txt)).length 8) then (some (.k0)) else none) else (some (.k1)))
abbrev Y25_0_5_d0 (a2 : List ((Int × ByteArray × ByteArray) × (List Int))) (a3 : Nat) (a4 : List Ints) (a5 : NameD) (a1 : Int) (a6 a7 : ScopesD) : List AB := [.row 39 1 0 (ra eInts []), .map (mrow kA vL a2), .cells 59 [.mp 1], .row 39 1 a3 (ra eInts a4), .cells 34 ((eName a5).map .p), yI0, .cells 59 [.mp 1], yI0, yI0, .cells 39 [.sl 8 0 1 0 0], .cells 3 [i6 a1], .loop 1 none [17] [.und, .und, i6 a5.scp, .und, .und, (.ro (eScps a6)), .ptr 6 0, .und, (.ro [.val (.string a5.spc)]), (.ro [.val (.string a5.txt)]), .und, .ptr 9 0, .und, .und, (.agg ((eScps a6).map .p)), i6 a5.scp, (.fn 34 [.ptr 10 0, (.ro (eScps a7))]), .und, .und, .und, .und, .und, .und, .und, .und, .und, .und, .und, .und, .und] ir25_a0 ir25_b0]
abbrev Y25_0_5_d1 (a2 : List ((Int × ByteArray × ByteArray) × (List Int))) (a3 : Nat) (a4 : List Ints) (a5 : NameD) (a1 : Int) (a6 a7 : ScopesD) : List AB := [.row 39 1 0 (ra eInts []), .map (mrow kA vL a2), .cells 59 [.mp 1], .row 39 1 a3 (ra eInts a4), .cells 34 ((eName a5).map .p), yI0, .cells 59 [.mp 1], yI0, yI0, .cells 39 [.sl 8 0 1 0 0], .cells 3 [i6 a1], .loop 1 none [17] [.und, .und, i6 a5.scp, .und, .und, (.ro (eScps a6)), .ptr 6 0, .und, (.ro [.val (.string a5.spc)]), (.ro [.val (.string a5.txt)]), .und, .ptr 9 0, .und, .und, (.agg ((eScps a6).map .p)), i6 a5.scp, (.fn 34 [.ptr 10 0, (.ro (eScps a7))]), .und, .und, .und, .und, .und, .und, .und, .und, .und, .und, .und, .und, .und] ir25_a0 ir25_b0, yI0, yI (gnz (mget ([] : List Int) a2 (a1, a5.spc, a5.txt))) (mget ([] : List Int) a2 (a1, a5.spc, a5.txt))]
theorem Y25_0_5_ok (a1 : Int) (a2 : List ((Int × ByteArray × ByteArray) × (List Int))) (a3 : Nat) (a4 : List Ints) (a5 : NameD) (a6 a7 : ScopesD) {r : R_Y25_0_5} (h : Y25_0_5 a1 a2 a5 = some r) : callY (ev prg) 11 [i6 a1] [.row 39 1 0 (ra eInts []), .map (mrow kA vL a2), .cells 59 [.mp 1], .row 39 1 a3 (ra eInts a4), .cells 34 ((eName a5).map .p), yI0, .cells 59 [.mp 1], yI0, yI0, .cells 39 [.sl 8 0 1 0 0], .cells 3 [i6 a1], .loop 0 none [17] [.und, .und, i6 a5.scp, .und, .und, (.ro (eScps a6)), .ptr 6 0, .und, (.ro [.val (.string a5.spc)]), (.ro [.val (.string a5.txt)]), .und, .ptr 9 0, .und, .und, (.agg ((eScps a6).map .p)), i6 a5.scp, (.fn 34 [.ptr 10 0, (.ro (eScps a7))]), .und, .und, .und, .und, .und, .und, .und, .und, .und, .und, .und, .und, .und] ir25_a0 ir25_b0] = some (Y25_0_5_v a1 a2 a3 a4 a5 a6 a7 r, Y25_0_5_h a1 a2 a3 a4 a5 a6 a7 r) := by
 unfold Y25_0_5 at h
 have q0 := ((lk_row key_iss (ve := vL) (es := a2) (k := (a1, a5.spc, a5.txt)) (z := ([] : List Int)) rfl rfl) : lkA (Y25_0_5_d0 a2 a3 a4 a5 a1 a6 a7) [1, 2, 2] .true .false [(.lst 1 [])] .false (.mp 1) (.agg [i6 a1, vs a5.spc, vs a5.txt]) = some (.p (.lst 1 ((mget ([] : List Int) a2 (a1, a5.spc, a5.txt)).map eI64))))
 have k1 := ka [(23, .v (.p (.lst 1 ((mget ([] : List Int) a2 (a1, a5.spc, a5.txt)).map eI64)))), (25, .v (i6 ((mget ([] : List Int) a2 (a1, a5.spc, a5.txt)).length : Int)))] (apc q0 (apc (lg (mget ([] : List Int) a2 (a1, a5.spc, a5.txt)) eI64 1) apn))
 apply bi h <;> intro h1 h
 ·
  apply bi h <;> intro h2 h
  ·
   rw [← sj h]
   exact fyc ([(26, .d true), (28, .r (.sl 13 (gnz (mget ([] : List Int) a2 (a1, a5.spc, a5.txt))) 1 0 (mget ([] : List Int) a2 (a1, a5.spc, a5.txt)).length) (Y25_0_5_d1 a2 a3 a4 a5 a1 a6 a7))] ++ kH k1) (k1.b (av h1 (apc ((cs_cl (e := eI64) (xs := (mget ([] : List Int) a2 (a1, a5.spc, a5.txt))) rfl (fun _ _ => rfl) h2 (Y25_0_5_d0 a2 a3 a4 a5 a1 a6 a7)) : CS prg 32 [(.p (.lst 1 ((mget ([] : List Int) a2 (a1, a5.spc, a5.txt)).map eI64)))] (Y25_0_5_d0 a2 a3 a4 a5 a1 a6 a7) = some ((.sl 13 (gnz (mget ([] : List Int) a2 (a1, a5.spc, a5.txt))) 1 0 (mget ([] : List Int) a2 (a1, a5.spc, a5.txt)).length), Y25_0_5_d1 a2 a3 a4 a5 a1 a6 a7)) apn))) (by kernel_rfl)
  ·
   cases h
 ·
  rw [← sj h]
  exact fyc ([(26, .d false)] ++ kH k1) (k1.b (av h1 apn)) (by kernel_rfl)
inductive E_L34_0_3 where
  | k0 (x0 x1 : Nat) (x2 : Int) (x3 : List Int)
  | k1 (x0 : Int)
section
variable (a1 : ScopesD) (a2 : List ((Int × ByteArray × ByteArray) × (List Int))) (a3 : Nat) (a4 : List Ints) (a5 : NameD) (a6 : ScopesD)
abbrev L34_0_3_p (l : List AB) : List AB := .row 39 1 0 (ra eInts []) :: .map (mrow kA vL a2) :: .cells 59 [.mp 1] :: .row 39 1 a3 (ra eInts a4) :: .cells 34 ((eName a5).map .p) :: yI0 :: .cells 59 [.mp 1] :: yI0 :: yI0 :: l
def L34_0_3 (v1 : Int) : Option (E_L34_0_3 ⊕ (Int)) :=
  (bif (decide (v1 ≥ 0)) then ((Y25_0_5 v1 a2 a5).bind fun r2 => match r2 with | .k0 => (some (.inl (.k0 (gnz (mget ([] : List Int) a2 (v1, a5.spc, a5.txt))) ((mget ([] : List Int) a2 (v1, a5.spc, a5.txt)).length) v1 (mget ([] : List Int) a2 (v1, a5.spc, a5.txt))))) | .k1 => ((getI a1.all v1).bind fun x3 => (some (.inr (x3.par))))) else (some (.inl (.k1 v1))))
def L34_0_3_s (v1 : Int) : St := ⟨fr 16 ug [(0, .yl 11), (1, .ptr 10 0), (2, (.ro (eScps a1)))], (L34_0_3_p a2 a3 a4 a5 [.cells 39 [.sl 8 0 1 0 0], .cells 3 [i6 v1], .loop 0 none [17] [.und, .und, i6 a5.scp, .und, .und, (.ro (eScps a6)), .ptr 6 0, .und, (.ro [.val (.string a5.spc)]), (.ro [.val (.string a5.txt)]), .und, .ptr 9 0, .und, .und, (.agg ((eScps a6).map .p)), i6 a5.scp, (.fn 34 [.ptr 10 0, (.ro (eScps a1))]), .und, .und, .und, .und, .und, .und, .und, .und, .und, .und, .und, .und, .und] ir25_a0 ir25_b0])⟩
theorem L34_0_3_k (v1 : Int) : okT 12 (L34_0_3_s a1 a2 a3 a4 a5 a6 v1).h = true := (okT_of rfl (ar (abl_cons (abl_map (fun _ => rfl) (fun _ => rfl)) (ac (ar (ac (ar (ac (ar (ar (ac (ac (ac rfl)))))))))))))
abbrev L34_0_3_e (v1 : Int) := evH prg 12 [0, 1, 2] ir34_l0 (L34_0_3_s a1 a2 a3 a4 a5 a6 v1)
def L34_0_3_x (e : E_L34_0_3) (r : Option (Out × St)) : Prop := match e with | .k0 x0 x1 x2 x3 => ∃ g, r = some (.ret, ⟨fr 16 g [], (L34_0_3_p a2 a3 a4 a5 [.cells 39 [.sl 13 x0 1 0 x1], .cells 3 [i6 x2], .loop 2 (some (some 0)) [17] [.und, .und, i6 a5.scp, .und, .und, (.ro (eScps a6)), .ptr 6 0, .und, (.ro [.val (.string a5.spc)]), (.ro [.val (.string a5.txt)]), .und, .ptr 9 0, .und, .und, (.agg ((eScps a6).map .p)), i6 a5.scp, (.fn 34 [.ptr 10 0, (.ro (eScps a1))]), .und, .und, .und, .und, .und, .und, .und, .und, .und, .und, .und, .und, .und] ir25_a0 ir25_b0, yI0, yI x0 x3])⟩) | .k1 x0 => ∃ g, r = some ((.brk 0), ⟨fr 16 g [], (L34_0_3_p a2 a3 a4 a5 [.cells 39 [.sl 8 0 1 0 0], .cells 3 [i6 x0], .loop 0 none [17] [.und, .und, i6 a5.scp, .und, .und, (.ro (eScps a6)), .ptr 6 0, .und, (.ro [.val (.string a5.spc)]), (.ro [.val (.string a5.txt)]), .und, .ptr 9 0, .und, .und, (.agg ((eScps a6).map .p)), i6 a5.scp, (.fn 34 [.ptr 10 0, (.ro (eScps a1))]), .und, .und, .und, .und, .und, .und, .und, .und, .und, .und, .und, .und, .und] ir25_a0 ir25_b0])⟩)
abbrev L34_0_3_d0 (v1 : Int) : List AB := (L34_0_3_p a2 a3 a4 a5 [.cells 39 [(.sl 13 (gnz (mget ([] : List Int) a2 (v1, a5.spc, a5.txt))) 1 0 (mget ([] : List Int) a2 (v1, a5.spc, a5.txt)).length)], .cells 3 [i6 v1], .loop 2 (some (some 0)) [17] [.und, .und, i6 a5.scp, .und, .und, (.ro (eScps a6)), .ptr 6 0, .und, (.ro [.val (.string a5.spc)]), (.ro [.val (.string a5.txt)]), .und, .ptr 9 0, .und, .und, (.agg ((eScps a6).map .p)), i6 a5.scp, (.fn 34 [.ptr 10 0, (.ro (eScps a1))]), .und, .und, .und, .und, .und, .und, .und, .und, .und, .und, .und, .und, .und] ir25_a0 ir25_b0, yI0, yI (gnz (mget ([] : List Int) a2 (v1, a5.spc, a5.txt))) (mget ([] : List Int) a2 (v1, a5.spc, a5.txt))])
abbrev L34_0_3_d1 (v1 : Int) : List AB := (L34_0_3_p a2 a3 a4 a5 [.cells 39 [.sl 8 0 1 0 0], .cells 3 [i6 v1], .loop 0 none [17] [.und, .und, i6 a5.scp, .und, .und, (.ro (eScps a6)), .ptr 6 0, .und, (.ro [.val (.string a5.spc)]), (.ro [.val (.string a5.txt)]), .und, .ptr 9 0, .und, .und, (.agg ((eScps a6).map .p)), i6 a5.scp, (.fn 34 [.ptr 10 0, (.ro (eScps a1))]), .und, .und, .und, .und, .und, .und, .und, .und, .und, .und, .und, .und, .und] ir25_a0 ir25_b0])
theorem L34_0_3_ok (v1 : Int) {r : E_L34_0_3 ⊕ (Int)} (h : L34_0_3 a1 a2 a5 v1 = some r) : OkR (fun e => L34_0_3_x a1 a2 a3 a4 a5 a6 e (L34_0_3_e a1 a2 a3 a4 a5 a6 v1)) (fun s => L34_0_3_e a1 a2 a3 a4 a5 a6 v1 = L34_0_3_e a1 a2 a3 a4 a5 a6 s) r := by
 unfold L34_0_3 at h
 apply bi h <;> intro h1 h
 ·
  apply bn h; intro r2 h2 h
  cases r2 with
  | k0 =>
   rw [← sj h]
   exact xr [(5, .d true), (14, .r (vb false) (L34_0_3_d0 a1 a2 a3 a4 a5 a6 v1)), (6000, .d true)] (av h1 (apc ((Y25_0_5_ok v1 a2 a3 a4 a5 a6 a1 h2) : callY (ev prg) 11 [i6 v1] (L34_0_3_d1 a1 a2 a3 a4 a5 a6 v1) = some ((vb false), L34_0_3_d0 a1 a2 a3 a4 a5 a6 v1)) apn))
  | k1 =>
   apply bn h; intro x3 h3 h
   rw [← sj h]
   exact rn [(5, .d true), (14, .r (vb true) (L34_0_3_d1 a1 a2 a3 a4 a5 a6 v1)), (9, .v (.ro (eScope x3))), (6000, .d true)] (av h1 (apc ((Y25_0_5_ok v1 a2 a3 a4 a5 a6 a1 h2) : callY (ev prg) 11 [i6 v1] (L34_0_3_d1 a1 a2 a3 a4 a5 a6 v1) = some ((vb true), L34_0_3_d1 a1 a2 a3 a4 a5 a6 v1)) (apc (ig eScope 3 .i64 h3) (apc (L34_0_3_k a1 a2 a3 a4 a5 a6 x3.par) apn))))
 ·
  rw [← sj h]
  exact xb [(5, .d false), (6000, .d true)] (av h1 apn)
theorem L34_0_3_run (s0 : Int) (e : E_L34_0_3) (h : runL (fun s => L34_0_3 a1 a2 a5 s) s0 = some e) : L34_0_3_x a1 a2 a3 a4 a5 a6 e (L34_0_3_e a1 a2 a3 a4 a5 a6 s0) := by
  have q := @loop_sound' (Int) E_L34_0_3 (fun s => L34_0_3 a1 a2 a5 s) (fun s => L34_0_3_e a1 a2 a3 a4 a5 a6 s) (L34_0_3_x a1 a2 a3 a4 a5 a6) (fun s r h => L34_0_3_ok a1 a2 a3 a4 a5 a6 s h) s0 e h
  exact q
end
inductive R_F34_3 where
  | k0 (x0 x1 : Nat) (x2 : Int) (x3 : List Int)
  | k1 (x0 : Int)
def F34_3_v (a1 : ScopesD) (a2 : List ((Int × ByteArray × ByteArray) × (List Int))) (a3 : Nat) (a4 : List Ints) (a5 : NameD) (a6 : ScopesD) (r : R_F34_3) : AV := match r with | .k0 x0 x1 x2 x3 => (.tup []) | .k1 x0 => (.tup [])
def F34_3_h (a1 : ScopesD) (a2 : List ((Int × ByteArray × ByteArray) × (List Int))) (a3 : Nat) (a4 : List Ints) (a5 : NameD) (a6 : ScopesD) (r : R_F34_3) : List AB := match r with | .k0 x0 x1 x2 x3 => [.row 39 1 0 (ra eInts []), .map (mrow kA vL a2), .cells 59 [.mp 1], .row 39 1 a3 (ra eInts a4), .cells 34 ((eName a5).map .p), yI0, .cells 59 [.mp 1], yI0, yI0, .cells 39 [.sl 13 x0 1 0 x1], .cells 3 [i6 x2], .loop 2 (some (some 0)) [17] [.und, .und, i6 a5.scp, .und, .und, (.ro (eScps a6)), .ptr 6 0, .und, (.ro [.val (.string a5.spc)]), (.ro [.val (.string a5.txt)]), .und, .ptr 9 0, .und, .und, (.agg ((eScps a6).map .p)), i6 a5.scp, (.fn 34 [.ptr 10 0, (.ro (eScps a1))]), .und, .und, .und, .und, .und, .und, .und, .und, .und, .und, .und, .und, .und] ir25_a0 ir25_b0, yI0, yI x0 x3] | .k1 x0 => [.row 39 1 0 (ra eInts []), .map (mrow kA vL a2), .cells 59 [.mp 1], .row 39 1 a3 (ra eInts a4), .cells 34 ((eName a5).map .p), yI0, .cells 59 [.mp 1], yI0, yI0, .cells 39 [.sl 8 0 1 0 0], .cells 3 [i6 x0], .loop 0 none [17] [.und, .und, i6 a5.scp, .und, .und, (.ro (eScps a6)), .ptr 6 0, .und, (.ro [.val (.string a5.spc)]), (.ro [.val (.string a5.txt)]), .und, .ptr 9 0, .und, .und, (.agg ((eScps a6).map .p)), i6 a5.scp, (.fn 34 [.ptr 10 0, (.ro (eScps a1))]), .und, .und, .und, .und, .und, .und, .und, .und, .und, .und, .und, .und, .und] ir25_a0 ir25_b0]
def F34_3 (a1 : ScopesD) (a2 : List ((Int × ByteArray × ByteArray) × (List Int))) (a5 : NameD) : Option R_F34_3 :=
  ((runL (fun s => L34_0_3 a1 a2 a5 s) a5.scp).bind fun r1 => match r1 with | .k0 x1_0 x1_1 x1_2 x1_3 => (some (.k0 x1_0 x1_1 x1_2 x1_3)) | .k1 x1_0 => (some (.k1 x1_0)))
theorem F34_3_ok (a1 : ScopesD) (a2 : List ((Int × ByteArray × ByteArray) × (List Int))) (a3 : Nat) (a4 : List Ints) (a5 : NameD) (a6 : ScopesD) {r : R_F34_3} (h : F34_3 a1 a2 a5 = some r) : CS prg 34 [.yl 11, .ptr 10 0, (.ro (eScps a1))] [.row 39 1 0 (ra eInts []), .map (mrow kA vL a2), .cells 59 [.mp 1], .row 39 1 a3 (ra eInts a4), .cells 34 ((eName a5).map .p), yI0, .cells 59 [.mp 1], yI0, yI0, .cells 39 [.sl 8 0 1 0 0], .cells 3 [i6 a5.scp], .loop 0 none [17] [.und, .und, i6 a5.scp, .und, .und, (.ro (eScps a6)), .ptr 6 0, .und, (.ro [.val (.string a5.spc)]), (.ro [.val (.string a5.txt)]), .und, .ptr 9 0, .und, .und, (.agg ((eScps a6).map .p)), i6 a5.scp, (.fn 34 [.ptr 10 0, (.ro (eScps a1))]), .und, .und, .und, .und, .und, .und, .und, .und, .und, .und, .und, .und, .und] ir25_a0 ir25_b0] = some (F34_3_v a1 a2 a3 a4 a5 a6 r, F34_3_h a1 a2 a3 a4 a5 a6 r) := by
 unfold F34_3 at h
 apply bn h; intro r1 h1 h
 cases r1 with
 | k0 x1_0 x1_1 x1_2 x1_3 =>
  obtain ⟨g1, e1⟩ := L34_0_3_run a1 a2 a3 a4 a5 a6 a5.scp _ h1
  rw [← sj h]
  exact fc [(2000, .l .ret ⟨fr 16 g1 [], [.row 39 1 0 (ra eInts []), .map (mrow kA vL a2), .cells 59 [.mp 1], .row 39 1 a3 (ra eInts a4), .cells 34 ((eName a5).map .p), yI0, .cells 59 [.mp 1], yI0, yI0, .cells 39 [.sl 13 x1_0 1 0 x1_1], .cells 3 [i6 x1_2], .loop 2 (some (some 0)) [17] [.und, .und, i6 a5.scp, .und, .und, (.ro (eScps a6)), .ptr 6 0, .und, (.ro [.val (.string a5.spc)]), (.ro [.val (.string a5.txt)]), .und, .ptr 9 0, .und, .und, (.agg ((eScps a6).map .p)), i6 a5.scp, (.fn 34 [.ptr 10 0, (.ro (eScps a1))]), .und, .und, .und, .und, .und, .und, .und, .und, .und, .und, .und, .und, .und] ir25_a0 ir25_b0, yI0, yI x1_0 x1_3]⟩), (6000, .d true)] (apc (L34_0_3_k a1 a2 a3 a4 a5 a6 a5.scp) (apc (e1 : L34_0_3_e a1 a2 a3 a4 a5 a6 a5.scp = some (.ret, ⟨fr 16 g1 [], [.row 39 1 0 (ra eInts []), .map (mrow kA vL a2), .cells 59 [.mp 1], .row 39 1 a3 (ra eInts a4), .cells 34 ((eName a5).map .p), yI0, .cells 59 [.mp 1], yI0, yI0, .cells 39 [.sl 13 x1_0 1 0 x1_1], .cells 3 [i6 x1_2], .loop 2 (some (some 0)) [17] [.und, .und, i6 a5.scp, .und, .und, (.ro (eScps a6)), .ptr 6 0, .und, (.ro [.val (.string a5.spc)]), (.ro [.val (.string a5.txt)]), .und, .ptr 9 0, .und, .und, (.agg ((eScps a6).map .p)), i6 a5.scp, (.fn 34 [.ptr 10 0, (.ro (eScps a1))]), .und, .und, .und, .und, .und, .und, .und, .und, .und, .und, .und, .und, .und] ir25_a0 ir25_b0, yI0, yI x1_0 x1_3]⟩)) apn))
 | k1 x1_0 =>
  obtain ⟨g1, e1⟩ := L34_0_3_run a1 a2 a3 a4 a5 a6 a5.scp _ h1
  rw [← sj h]
  exact fc [(2000, .l (.brk 0) ⟨fr 16 g1 [], [.row 39 1 0 (ra eInts []), .map (mrow kA vL a2), .cells 59 [.mp 1], .row 39 1 a3 (ra eInts a4), .cells 34 ((eName a5).map .p), yI0, .cells 59 [.mp 1], yI0, yI0, .cells 39 [.sl 8 0 1 0 0], .cells 3 [i6 x1_0], .loop 0 none [17] [.und, .und, i6 a5.scp, .und, .und, (.ro (eScps a6)), .ptr 6 0, .und, (.ro [.val (.string a5.spc)]), (.ro [.val (.string a5.txt)]), .und, .ptr 9 0, .und, .und, (.agg ((eScps a6).map .p)), i6 a5.scp, (.fn 34 [.ptr 10 0, (.ro (eScps a1))]), .und, .und, .und, .und, .und, .und, .und, .und, .und, .und, .und, .und, .und] ir25_a0 ir25_b0]⟩), (6000, .d true)] (apc (L34_0_3_k a1 a2 a3 a4 a5 a6 a5.scp) (apc (e1 : L34_0_3_e a1 a2 a3 a4 a5 a6 a5.scp = some ((.brk 0), ⟨fr 16 g1 [], [.row 39 1 0 (ra eInts []), .map (mrow kA vL a2), .cells 59 [.mp 1], .row 39 1 a3 (ra eInts a4), .cells 34 ((eName a5).map .p), yI0, .cells 59 [.mp 1], yI0, yI0, .cells 39 [.sl 8 0 1 0 0], .cells 3 [i6 x1_0], .loop 0 none [17] [.und, .und, i6 a5.scp, .und, .und, (.ro (eScps a6)), .ptr 6 0, .und, (.ro [.val (.string a5.spc)]), (.ro [.val (.string a5.txt)]), .und, .ptr 9 0, .und, .und, (.agg ((eScps a6).map .p)), i6 a5.scp, (.fn 34 [.ptr 10 0, (.ro (eScps a1))]), .und, .und, .und, .und, .und, .und, .und, .und, .und, .und, .und, .und, .und] ir25_a0 ir25_b0]⟩)) apn))
inductive E_L25_1_3 where
  | k0 (x0 x1 : Nat) (x2 : Int) (x3 : List Int)
  | k1 (x0 : Int)
section
variable (a1 : NameD) (a2 : ScopesD) (a3 : List ((Int × ByteArray × ByteArray) × (List Int))) (a4 : Nat) (a5 : List Ints)
abbrev L25_1_3_p (l : List AB) : List AB := .row 39 1 0 (ra eInts []) :: .map (mrow kA vL a3) :: .cells 59 [.mp 1] :: .row 39 1 a4 (ra eInts a5) :: .cells 34 ((eName a1).map .p) :: yI0 :: .cells 59 [.mp 1] :: yI0 :: yI0 :: l
def L25_1_3 : Option (E_L25_1_3 ⊕ (Unit)) :=
  ((F28_3 a2).bind fun r1 => match r1 with | .k0 x1_0 x1_1 x1_2 => ((F34_3 (⟨x1_0, x1_1, x1_2⟩ : ScopesD) a3 a1).bind fun r2 => match r2 with | .k0 x2_0 x2_1 x2_2 x2_3 => (some (.inl (.k0 x2_0 x2_1 x2_2 x2_3))) | .k1 x2_0 => (some (.inl (.k1 x2_0)))))
def L25_1_3_s : St := ⟨fr 30 ug [(2, i6 a1.scp), (5, (.ro (eScps a2))), (6, .ptr 6 0), (8, (.ro [.val (.string a1.spc)])), (9, (.ro [.val (.string a1.txt)])), (11, .ptr 9 0)], (L25_1_3_p a1 a3 a4 a5 [.cells 39 [.sl 8 0 1 0 0]])⟩
theorem L25_1_3_k : okT 10 (L25_1_3_s a1 a2 a3 a4 a5).h = true := (okT_of rfl (ar (abl_cons (abl_map (fun _ => rfl) (fun _ => rfl)) (ac (ar (ac (ar (ac (ar (ar (ac rfl)))))))))))
abbrev L25_1_3_e := evH prg 10 [2, 5, 6, 8, 9, 11] ir25_l1 (L25_1_3_s a1 a2 a3 a4 a5)
def L25_1_3_x (e : E_L25_1_3) (r : Option (Out × St)) : Prop := match e with | .k0 x0 x1 x2 x3 => ∃ g, r = some (.ret, ⟨fr 30 g [(10, .sl 13 x0 1 0 x1)], (L25_1_3_p a1 a3 a4 a5 [.cells 39 [.sl 13 x0 1 0 x1], .cells 3 [i6 x2], .dead, yI0, yI x0 x3])⟩) | .k1 x0 => ∃ g, r = some (.ret, ⟨fr 30 g [(10, .sl 8 0 1 0 0)], (L25_1_3_p a1 a3 a4 a5 [.cells 39 [.sl 8 0 1 0 0], .cells 3 [i6 x0], .dead])⟩)
abbrev L25_1_3_d0 : List AB := (L25_1_3_p a1 a3 a4 a5 [.cells 39 [.sl 8 0 1 0 0], .cells 3 [i6 a1.scp]])
theorem L25_1_3_ok {r : E_L25_1_3 ⊕ (Unit)} (h : L25_1_3 a1 a2 a3 = some r) : OkR (fun e => L25_1_3_x a1 a3 a4 a5 e (L25_1_3_e a1 a2 a3 a4 a5)) (fun s => L25_1_3_e a1 a2 a3 a4 a5 = L25_1_3_e a1 a2 a3 a4 a5) r := by
 unfold L25_1_3 at h
 apply bn h; intro r1 h1 h
 cases r1 with
 | k0 x1_0 x1_1 x1_2 =>
  have q0 := ((F28_3_ok a2 a1 a3 a4 a5 h1) : CS prg 28 [(.agg ((eScps a2).map .p)), i6 a1.scp] (L25_1_3_p a1 a3 a4 a5 [.cells 39 [.sl 8 0 1 0 0]]) = some ((.fn 34 [.ptr 10 0, (.ro [.lst 3 (x1_0.map eScope), .lst 5 (x1_1.map eName), .lst 5 (x1_2.map eName)])]), L25_1_3_d0 a1 a3 a4 a5))
  have k1 := ka [(16, .r (.fn 34 [.ptr 10 0, (.ro [.lst 3 (x1_0.map eScope), .lst 5 (x1_1.map eName), .lst 5 (x1_2.map eName)])]) (L25_1_3_d0 a1 a3 a4 a5))] (apc q0 apn)
  apply bn h; intro r2 h2 h
  cases r2 with
  | k0 x2_0 x2_1 x2_2 x2_3 =>
   rw [← sj h]
   exact xr ([(2000, .l (.brk 0) ⟨[.und, .und, i6 a1.scp, .und, .und, (.ro (eScps a2)), .ptr 6 0, .und, (.ro [.val (.string a1.spc)]), (.ro [.val (.string a1.txt)]), .und, .ptr 9 0, .und, .und, (.agg ((eScps a2).map .p)), i6 a1.scp, (.fn 34 [.ptr 10 0, (.ro [.lst 3 (x1_0.map eScope), .lst 5 (x1_1.map eName), .lst 5 (x1_2.map eName)])]), .und, .und, .und, .und, .und, .und, .und, .und, .und, .und, .und, .und, .und], (L25_1_3_p a1 a3 a4 a5 [.cells 39 [.sl 13 x2_0 1 0 x2_1], .cells 3 [i6 x2_2], .dead, yI0, yI x2_0 x2_3])⟩), (6000, .d true)] ++ kH k1) (k1.b (apc ((ev_range rfl (F34_3_ok (⟨x1_0, x1_1, x1_2⟩ : ScopesD) a3 a4 a5 a1 a2 h2) rfl) : ev prg (.rangeF (.t 16) [17] ir25_a0 ir25_b0) ⟨[.und, .und, i6 a1.scp, .und, .und, (.ro (eScps a2)), .ptr 6 0, .und, (.ro [.val (.string a1.spc)]), (.ro [.val (.string a1.txt)]), .und, .ptr 9 0, .und, .und, (.agg ((eScps a2).map .p)), i6 a1.scp, (.fn 34 [.ptr 10 0, (.ro [.lst 3 (x1_0.map eScope), .lst 5 (x1_1.map eName), .lst 5 (x1_2.map eName)])]), .und, .und, .und, .und, .und, .und, .und, .und, .und, .und, .und, .und, .und], L25_1_3_d0 a1 a3 a4 a5⟩ = some ((.brk 0), ⟨[.und, .und, i6 a1.scp, .und, .und, (.ro (eScps a2)), .ptr 6 0, .und, (.ro [.val (.string a1.spc)]), (.ro [.val (.string a1.txt)]), .und, .ptr 9 0, .und, .und, (.agg ((eScps a2).map .p)), i6 a1.scp, (.fn 34 [.ptr 10 0, (.ro [.lst 3 (x1_0.map eScope), .lst 5 (x1_1.map eName), .lst 5 (x1_2.map eName)])]), .und, .und, .und, .und, .und, .und, .und, .und, .und, .und, .und, .und, .und], (L25_1_3_p a1 a3 a4 a5 [.cells 39 [.sl 13 x2_0 1 0 x2_1], .cells 3 [i6 x2_2], .dead, yI0, yI x2_0 x2_3])⟩)) apn))
  | k1 x2_0 =>
   rw [← sj h]
   exact xr ([(2000, .l .norm ⟨[.und, .und, i6 a1.scp, .und, .und, (.ro (eScps a2)), .ptr 6 0, .und, (.ro [.val (.string a1.spc)]), (.ro [.val (.string a1.txt)]), .und, .ptr 9 0, .und, .und, (.agg ((eScps a2).map .p)), i6 a1.scp, (.fn 34 [.ptr 10 0, (.ro [.lst 3 (x1_0.map eScope), .lst 5 (x1_1.map eName), .lst 5 (x1_2.map eName)])]), .und, .und, .und, .und, .und, .und, .und, .und, .und, .und, .und, .und, .und], (L25_1_3_p a1 a3 a4 a5 [.cells 39 [.sl 8 0 1 0 0], .cells 3 [i6 x2_0], .dead])⟩), (6000, .d true)] ++ kH k1) (k1.b (apc ((ev_range rfl (F34_3_ok (⟨x1_0, x1_1, x1_2⟩ : ScopesD) a3 a4 a5 a1 a2 h2) rfl) : ev prg (.rangeF (.t 16) [17] ir25_a0 ir25_b0) ⟨[.und, .und, i6 a1.scp, .und, .und, (.ro (eScps a2)), .ptr 6 0, .und, (.ro [.val (.string a1.spc)]), (.ro [.val (.string a1.txt)]), .und, .ptr 9 0, .und, .und, (.agg ((eScps a2).map .p)), i6 a1.scp, (.fn 34 [.ptr 10 0, (.ro [.lst 3 (x1_0.map eScope), .lst 5 (x1_1.map eName), .lst 5 (x1_2.map eName)])]), .und, .und, .und, .und, .und, .und, .und, .und, .und, .und, .und, .und, .und], L25_1_3_d0 a1 a3 a4 a5⟩ = some (.norm, ⟨[.und, .und, i6 a1.scp, .und, .und, (.ro (eScps a2)), .ptr 6 0, .und, (.ro [.val (.string a1.spc)]), (.ro [.val (.string a1.txt)]), .und, .ptr 9 0, .und, .und, (.agg ((eScps a2).map .p)), i6 a1.scp, (.fn 34 [.ptr 10 0, (.ro [.lst 3 (x1_0.map eScope), .lst 5 (x1_1.map eName), .lst 5 (x1_2.map eName)])]), .und, .und, .und, .und, .und, .und, .und, .und, .und, .und, .und, .und, .und], (L25_1_3_p a1 a3 a4 a5 [.cells 39 [.sl 8 0 1 0 0], .cells 3 [i6 x2_0], .dead])⟩)) apn))
theorem L25_1_3_run (s0 : Unit) (e : E_L25_1_3) (h : runL (fun s => L25_1_3 a1 a2 a3) s0 = some e) : L25_1_3_x a1 a3 a4 a5 e (L25_1_3_e a1 a2 a3 a4 a5) := by
  have q := @loop_sound' (Unit) E_L25_1_3 (fun s => L25_1_3 a1 a2 a3) (fun s => L25_1_3_e a1 a2 a3 a4 a5) (L25_1_3_x a1 a3 a4 a5) (fun s r h => L25_1_3_ok a1 a2 a3 a4 a5 h) s0 e h
  exact q
end
inductive R_F25_3 where
  | k0 (x0 x1 : Nat) (x2 : Int) (x3 : List Int)
  | k1 (x0 : Int)
def F25_3_v (a1 : ScopesD) (a2 : NameD) (a3 : List ((Int × ByteArray × ByteArray) × (List Int))) (a4 : Nat) (a5 : List Ints) (r : R_F25_3) : AV := match r with | .k0 x0 x1 x2 x3 => (.sl 13 x0 1 0 x1) | .k1 x0 => (.sl 8 0 1 0 0)
def F25_3_h (a1 : ScopesD) (a2 : NameD) (a3 : List ((Int × ByteArray × ByteArray) × (List Int))) (a4 : Nat) (a5 : List Ints) (r : R_F25_3) : List AB := match r with | .k0 x0 x1 x2 x3 => [.row 39 1 0 (ra eInts []), .map (mrow kA vL a3), .cells 59 [.mp 1], .row 39 1 a4 (ra eInts a5), .cells 34 ((eName a2).map .p), yI0, .cells 59 [.mp 1], yI0, yI0, .cells 39 [.sl 13 x0 1 0 x1], .cells 3 [i6 x2], .dead, yI0, yI x0 x3] | .k1 x0 => [.row 39 1 0 (ra eInts []), .map (mrow kA vL a3), .cells 59 [.mp 1], .row 39 1 a4 (ra eInts a5), .cells 34 ((eName a2).map .p), yI0, .cells 59 [.mp 1], yI0, yI0, .cells 39 [.sl 8 0 1 0 0], .cells 3 [i6 x0], .dead]
def F25_3 (a1 : ScopesD) (a2 : NameD) (a3 : List ((Int × ByteArray × ByteArray) × (List Int))) : Option R_F25_3 :=
  ((runL (fun s => L25_1_3 a2 a1 a3) ()).bind fun r1 => match r1 with | .k0 x1_0 x1_1 x1_2 x1_3 => (some (.k0 x1_0 x1_1 x1_2 x1_3)) | .k1 x1_0 => (some (.k1 x1_0)))
theorem F25_3_ok (a1 : ScopesD) (a2 : NameD) (a3 : List ((Int × ByteArray × ByteArray) × (List Int))) (a4 : Nat) (a5 : List Ints) {r : R_F25_3} (h : F25_3 a1 a2 a3 = some r) : CS prg 25 [(.agg ((eScps a1).map .p)), .mp 1, i6 a2.scp, vs a2.spc, vs a2.txt] [.row 39 1 0 (ra eInts []), .map (mrow kA vL a3), .cells 59 [.mp 1], .row 39 1 a4 (ra eInts a5), .cells 34 ((eName a2).map .p), yI0] = some (F25_3_v a1 a2 a3 a4 a5 r, F25_3_h a1 a2 a3 a4 a5 r) := by
 unfold F25_3 at h
 apply bn h; intro r1 h1 h
 cases r1 with
 | k0 x1_0 x1_1 x1_2 x1_3 =>
  obtain ⟨g1, e1⟩ := L25_1_3_run a2 a1 a3 a4 a5 () _ h1
  rw [← sj h]
  exact fc [(2002000, .l .ret ⟨fr 30 g1 [(10, .sl 13 x1_0 1 0 x1_1)], [.row 39 1 0 (ra eInts []), .map (mrow kA vL a3), .cells 59 [.mp 1], .row 39 1 a4 (ra eInts a5), .cells 34 ((eName a2).map .p), yI0, .cells 59 [.mp 1], yI0, yI0, .cells 39 [.sl 13 x1_0 1 0 x1_1], .cells 3 [i6 x1_2], .dead, yI0, yI x1_0 x1_3]⟩), (6000, .d true)] (apc (L25_1_3_k a2 a1 a3 a4 a5) (apc (e1 : L25_1_3_e a2 a1 a3 a4 a5 = some (.ret, ⟨fr 30 g1 [(10, .sl 13 x1_0 1 0 x1_1)], [.row 39 1 0 (ra eInts []), .map (mrow kA vL a3), .cells 59 [.mp 1], .row 39 1 a4 (ra eInts a5), .cells 34 ((eName a2).map .p), yI0, .cells 59 [.mp 1], yI0, yI0, .cells 39 [.sl 13 x1_0 1 0 x1_1], .cells 3 [i6 x1_2], .dead, yI0, yI x1_0 x1_3]⟩)) apn))
 | k1 x1_0 =>
  obtain ⟨g1, e1⟩ := L25_1_3_run a2 a1 a3 a4 a5 () _ h1
  rw [← sj h]
  exact fc [(2002000, .l .ret ⟨fr 30 g1 [(10, .sl 8 0 1 0 0)], [.row 39 1 0 (ra eInts []), .map (mrow kA vL a3), .cells 59 [.mp 1], .row 39 1 a4 (ra eInts a5), .cells 34 ((eName a2).map .p), yI0, .cells 59 [.mp 1], yI0, yI0, .cells 39 [.sl 8 0 1 0 0], .cells 3 [i6 x1_0], .dead]⟩), (6000, .d true)] (apc (L25_1_3_k a2 a1 a3 a4 a5) (apc (e1 : L25_1_3_e a2 a1 a3 a4 a5 = some (.ret, ⟨fr 30 g1 [(10, .sl 8 0 1 0 0)], [.row 39 1 0 (ra eInts []), .map (mrow kA vL a3), .cells 59 [.mp 1], .row 39 1 a4 (ra eInts a5), .cells 34 ((eName a2).map .p), yI0, .cells 59 [.mp 1], yI0, yI0, .cells 39 [.sl 8 0 1 0 0], .cells 3 [i6 x1_0], .dead]⟩)) apn))
inductive R_F24_3 where
  | k0 (x0 x1 : Nat) (x2 : Int) (x3 : List Int)
  | k1 (x0 : Int)
def F24_3_v (a1 : NameD) (a2 : ScopesD) (a3 : List ((Int × ByteArray × ByteArray) × (List Int))) (a4 : Nat) (a5 : List Ints) (r : R_F24_3) : AV := match r with | .k0 x0 x1 x2 x3 => (.sl 13 x0 1 0 x1) | .k1 x0 => (.sl 8 0 1 0 0)
def F24_3_h (a1 : NameD) (a2 : ScopesD) (a3 : List ((Int × ByteArray × ByteArray) × (List Int))) (a4 : Nat) (a5 : List Ints) (r : R_F24_3) : List AB := match r with | .k0 x0 x1 x2 x3 => [.row 39 1 0 (ra eInts []), .map (mrow kA vL a3), .cells 59 [.mp 1], .row 39 1 a4 (ra eInts a5), .cells 34 ((eName a1).map .p), yI0, .cells 59 [.mp 1], yI0, yI0, .cells 39 [.sl 13 x0 1 0 x1], .cells 3 [i6 x2], .dead, yI0, yI x0 x3] | .k1 x0 => [.row 39 1 0 (ra eInts []), .map (mrow kA vL a3), .cells 59 [.mp 1], .row 39 1 a4 (ra eInts a5), .cells 34 ((eName a1).map .p), yI0, .cells 59 [.mp 1], yI0, yI0, .cells 39 [.sl 8 0 1 0 0], .cells 3 [i6 x0], .dead]
def F24_3 (a1 : NameD) (a2 : ScopesD) (a3 : List ((Int × ByteArray × ByteArray) × (List Int))) : Option R_F24_3 :=
  ((F25_3 a2 a1 a3).bind fun r1 => match r1 with | .k0 x1_0 x1_1 x1_2 x1_3 => (some (.k0 x1_0 x1_1 x1_2 x1_3)) | .k1 x1_0 => (some (.k1 x1_0)))
abbrev F24_3_d1 (a3 : List ((Int × ByteArray × ByteArray) × (List Int))) (a4 : Nat) (a5 : List Ints) (a1 : NameD) : List AB := [.row 39 1 0 (ra eInts []), .map (mrow kA vL a3), .cells 59 [.mp 1], .row 39 1 a4 (ra eInts a5), .cells 34 ((eName a1).map .p), yI0]
theorem F24_3_ok (a1 : NameD) (a2 : ScopesD) (a3 : List ((Int × ByteArray × ByteArray) × (List Int))) (a4 : Nat) (a5 : List Ints) {r : R_F24_3} (h : F24_3 a1 a2 a3 = some r) : CS prg 24 [(.agg ((eName a1).map .p)), (.ro (eScps a2)), .ptr 2 0] [.row 39 1 0 (ra eInts []), .map (mrow kA vL a3), .cells 59 [.mp 1], .row 39 1 a4 (ra eInts a5), .cells 34 ((eName a1).map .p)] = some (F24_3_v a1 a2 a3 a4 a5 r, F24_3_h a1 a2 a3 a4 a5 r) := by
 unfold F24_3 at h
 apply bn h; intro r1 h1 h
 cases r1 with
 | k0 x1_0 x1_1 x1_2 x1_3 =>
  rw [← sj h]
  exact fc [(13, .r (.sl 13 x1_0 1 0 x1_1) [.row 39 1 0 (ra eInts []), .map (mrow kA vL a3), .cells 59 [.mp 1], .row 39 1 a4 (ra eInts a5), .cells 34 ((eName a1).map .p), yI0, .cells 59 [.mp 1], yI0, yI0, .cells 39 [.sl 13 x1_0 1 0 x1_1], .cells 3 [i6 x1_2], .dead, yI0, yI x1_0 x1_3])] (apc ((F25_3_ok a2 a1 a3 a4 a5 h1) : CS prg 25 [(.agg ((eScps a2).map .p)), .mp 1, i6 a1.scp, vs a1.spc, vs a1.txt] (F24_3_d1 a3 a4 a5 a1) = some ((.sl 13 x1_0 1 0 x1_1), [.row 39 1 0 (ra eInts []), .map (mrow kA vL a3), .cells 59 [.mp 1], .row 39 1 a4 (ra eInts a5), .cells 34 ((eName a1).map .p), yI0, .cells 59 [.mp 1], yI0, yI0, .cells 39 [.sl 13 x1_0 1 0 x1_1], .cells 3 [i6 x1_2], .dead, yI0, yI x1_0 x1_3])) apn)
 | k1 x1_0 =>
  rw [← sj h]
  exact fc [(13, .r (.sl 8 0 1 0 0) [.row 39 1 0 (ra eInts []), .map (mrow kA vL a3), .cells 59 [.mp 1], .row 39 1 a4 (ra eInts a5), .cells 34 ((eName a1).map .p), yI0, .cells 59 [.mp 1], yI0, yI0, .cells 39 [.sl 8 0 1 0 0], .cells 3 [i6 x1_0], .dead])] (apc ((F25_3_ok a2 a1 a3 a4 a5 h1) : CS prg 25 [(.agg ((eScps a2).map .p)), .mp 1, i6 a1.scp, vs a1.spc, vs a1.txt] (F24_3_d1 a3 a4 a5 a1) = some ((.sl 8 0 1 0 0), [.row 39 1 0 (ra eInts []), .map (mrow kA vL a3), .cells 59 [.mp 1], .row 39 1 a4 (ra eInts a5), .cells 34 ((eName a1).map .p), yI0, .cells 59 [.mp 1], yI0, yI0, .cells 39 [.sl 8 0 1 0 0], .cells 3 [i6 x1_0], .dead])) apn)
inductive E_L11_0 where
  | k0 (x0 x1 : Nat) (x2 : List Ints)
section
variable (a1 : ScopesD) (a2 : Int) (a3 : List ((Int × ByteArray × ByteArray) × (List Int)))
abbrev L11_0_p (l : List AB) : List AB := .row 39 1 0 (ra eInts []) :: .map (mrow kA vL a3) :: .cells 59 [.mp 1] :: l
def L11_0 (v1 v2 : Nat) (v3 : Int) (v4 : List Ints) : Option (E_L11_0 ⊕ (Nat × Nat × Int × (List Ints))) :=
  (bif (decide (v3 < a2)) then ((getI a1.uses v3).bind fun x2 => ((F24_3 x2 a1 a3).bind fun r3 => match r3 with | .k0 x3_0 x3_1 x3_2 x3_3 => (bif (apOk v2 1 v4.length 24) then (bif (decide (v2 + 1 ≤ v4.length)) then (bif (decide (x3_1 ≤ x3_3.length)) then (some (.inr (v1, v2 + 1, (IntKind.wrap .i64 (v3 + 1)), (splice v4 v2 [x3_3.take x3_1])))) else none) else (bif (decide (x3_1 ≤ x3_3.length)) then (some (.inr ((v1 + 1), v2 + 1, (IntKind.wrap .i64 (v3 + 1)), (v4.take v2 ++ [x3_3.take x3_1])))) else none)) else none) | .k1 x3_0 => (bif (apOk v2 1 v4.length 24) then (bif (decide (v2 + 1 ≤ v4.length)) then (some (.inr (v1, v2 + 1, (IntKind.wrap .i64 (v3 + 1)), (splice v4 v2 [[]])))) else (some (.inr ((v1 + 1), v2 + 1, (IntKind.wrap .i64 (v3 + 1)), (v4.take v2 ++ [[]]))))) else none))) else (some (.inl (.k0 v1 v2 v4))))
def L11_0_s (v1 v2 : Nat) (v3 : Int) (v4 : List Ints) : St := ⟨fr 30 ug [(5, (.fn 24 [(.ro (eScps a1)), .ptr 2 0])), (6, .sl 3 v1 1 0 v2), (16, ls 5 eName a1.uses), (17, i6 a2), (18, i6 v3)], (L11_0_p a3 [.row 39 1 v1 (ra eInts v4)])⟩
theorem L11_0_k (v1 v2 : Nat) (v3 : Int) (v4 : List Ints) : okT 4 (L11_0_s a1 a2 a3 v1 v2 v3 v4).h = true := (okT_of rfl (ar (abl_cons (abl_map (fun _ => rfl) (fun _ => rfl)) (ac (ar rfl)))))
abbrev L11_0_e (v1 v2 : Nat) (v3 : Int) (v4 : List Ints) := evH prg 4 [5, 6, 16, 17, 18] ir11_l0 (L11_0_s a1 a2 a3 v1 v2 v3 v4)
def L11_0_x (e : E_L11_0) (r : Option (Out × St)) : Prop := match e with | .k0 x0 x1 x2 => ∃ g, r = some ((.brk 0), ⟨fr 30 g [(6, .sl 3 x0 1 0 x1), (16, ls 5 eName a1.uses)], (L11_0_p a3 [.row 39 1 x0 (ra eInts x2)])⟩)
abbrev L11_0_d0 (v1 : Nat) (v4 : List Ints) (x2 : NameD) : List AB := (L11_0_p a3 [.row 39 1 v1 (ra eInts v4), .cells 34 ((eName x2).map .p)])
abbrev L11_0_d4 (v1 : Nat) (v4 : List Ints) (v2 : Nat) (x3_3 : List Int) (x3_1 : Nat) : List AB := (L11_0_p a3 [.row 39 1 v1 (ra eInts (splice v4 v2 [x3_3.take x3_1]))])
abbrev L11_0_d6 (v1 : Nat) (v4 : List Ints) (v2 : Nat) (x3_3 : List Int) (x3_1 : Nat) : List AB := (L11_0_p a3 [.row 39 1 (v1 + 1) (ra eInts (v4.take v2 ++ [x3_3.take x3_1]))])
abbrev L11_0_d9 (v1 : Nat) (v4 : List Ints) (v2 : Nat) : List AB := (L11_0_p a3 [.row 39 1 v1 (ra eInts (splice v4 v2 [[]]))])
abbrev L11_0_d12 (v1 : Nat) (v4 : List Ints) (v2 : Nat) : List AB := (L11_0_p a3 [.row 39 1 (v1 + 1) (ra eInts (v4.take v2 ++ [[]]))])
theorem L11_0_ok (v1 v2 : Nat) (v3 : Int) (v4 : List Ints) {r : E_L11_0 ⊕ (Nat × Nat × Int × (List Ints))} (h : L11_0 a1 a2 a3 v1 v2 v3 v4 = some r) : OkR (fun e => L11_0_x a1 a3 e (L11_0_e a1 a2 a3 v1 v2 v3 v4)) (fun s => L11_0_e a1 a2 a3 v1 v2 v3 v4 = L11_0_e a1 a2 a3 s.1 s.2.1 s.2.2.1 s.2.2.2) r := by
 unfold L11_0 at h
 apply bi h <;> intro h1 h
 ·
  apply bn h; intro x2 h2 h
  have k0 := ka [(19, .d true), (20, .v (.ro (eName x2)))] (av h1 (apc (ig eName 5 .i64 h2) apn))
  apply bn h; intro r3 h3 h
  cases r3 with
  | k0 x3_0 x3_1 x3_2 x3_3 =>
   have q1 := ((F24_3_ok x2 a1 a3 v1 v4 h3) : CS prg 24 [(.agg ((eName x2).map .p)), (.ro (eScps a1)), .ptr 2 0] (L11_0_d0 a3 v1 v4 x2) = some ((.sl 13 x3_0 1 0 x3_1), (L11_0_p a3 [.row 39 1 v1 (ra eInts v4), .cells 34 ((eName x2).map .p), yI0, .cells 59 [.mp 1], yI0, yI0, .cells 39 [.sl 13 x3_0 1 0 x3_1], .cells 3 [i6 x3_2], .dead, yI0, yI x3_0 x3_3])))
   have k2 := k0.a [(25, .r (.sl 13 x3_0 1 0 x3_1) (L11_0_p a3 [.row 39 1 v1 (ra eInts v4), .cells 34 ((eName x2).map .p), yI0, .cells 59 [.mp 1], yI0, yI0, .cells 39 [.sl 13 x3_0 1 0 x3_1], .cells 3 [i6 x3_2], .dead, yI0, yI x3_0 x3_3]))] (apc q1 apn)
   apply bi h <;> intro h4 h
   ·
    apply bi h <;> intro h5 h
    ·
     have q3 := ((ap_pin (e := eInts) (xs := v4) (cs := [.sl 13 x3_0 1 0 x3_1]) rfl rfl h4 h5) : appA (L11_0_p a3 [.row 39 1 v1 (ra eInts v4), .cells 34 ((eName x2).map .p), yI0, .cells 59 [.mp 1], yI0, yI0, .cells 39 [.sl 13 x3_0 1 0 x3_1], .cells 3 [i6 x3_2], .dead, yI0, yI x3_0 x3_3, .row 39 1 0 [[.sl 13 x3_0 1 0 x3_1]]]) 39 1 24 (.sl 3 v1 1 0 v2) (.sl 14 0 1 0 1) = some ((.sl 3 v1 1 0 (v2 + 1)), (L11_0_p a3 [.row 39 1 v1 (splice (ra eInts v4) v2 [[.sl 13 x3_0 1 0 x3_1]]), .cells 34 ((eName x2).map .p), yI0, .cells 59 [.mp 1], yI0, yI0, .cells 39 [.sl 13 x3_0 1 0 x3_1], .cells 3 [i6 x3_2], .dead, yI0, yI x3_0 x3_3, .row 39 1 0 [[.sl 13 x3_0 1 0 x3_1]]])))
     have k4 := k2.a [(27, .r (.sl 3 v1 1 0 (v2 + 1)) (L11_0_p a3 [.row 39 1 v1 (splice (ra eInts v4) v2 [[.sl 13 x3_0 1 0 x3_1]]), .cells 34 ((eName x2).map .p), yI0, .cells 59 [.mp 1], yI0, yI0, .cells 39 [.sl 13 x3_0 1 0 x3_1], .cells 3 [i6 x3_2], .dead, yI0, yI x3_0 x3_3, .row 39 1 0 [[.sl 13 x3_0 1 0 x3_1]]]))] (apc q3 apn)
     apply bi h <;> intro h6 h
     ·
      rw [← sj h]
      exact rn ([(6000, .d true), (6001, .r ud (L11_0_d4 a3 v1 v4 v2 x3_3 x3_1))] ++ kH k4) (k4.b (apc ((frz_of rfl (frz_same abl_row (frz_same (abl_map (fun _ => rfl) (fun _ => rfl)) (frz_same rfl (frz_con (frz_pin (e := eInts) (xs := v4) (w := (x3_3.take x3_1)) (fzc_s rfl (purP_sl (e := eI64) (xs := x3_3) rfl h6) fzc_nil)) frz_nil))))) : frzT 4 (L11_0_p a3 [.row 39 1 v1 (splice (ra eInts v4) v2 [[.sl 13 x3_0 1 0 x3_1]]), .cells 34 ((eName x2).map .p), yI0, .cells 59 [.mp 1], yI0, yI0, .cells 39 [.sl 13 x3_0 1 0 x3_1], .cells 3 [i6 x3_2], .dead, yI0, yI x3_0 x3_3, .row 39 1 0 [[.sl 13 x3_0 1 0 x3_1]]]) = some (L11_0_d4 a3 v1 v4 v2 x3_3 x3_1)) apn))
     ·
      cases h
    ·
     have q5 := ((ap_pout (e := eInts) (xs := v4) (cs := [.sl 13 x3_0 1 0 x3_1]) rfl rfl h4 h5) : appA (L11_0_p a3 [.row 39 1 v1 (ra eInts v4), .cells 34 ((eName x2).map .p), yI0, .cells 59 [.mp 1], yI0, yI0, .cells 39 [.sl 13 x3_0 1 0 x3_1], .cells 3 [i6 x3_2], .dead, yI0, yI x3_0 x3_3, .row 39 1 0 [[.sl 13 x3_0 1 0 x3_1]]]) 39 1 24 (.sl 3 v1 1 0 v2) (.sl 14 0 1 0 1) = some ((.sl 3 (v1 + 1) 1 0 (v2 + 1)), (L11_0_p a3 [.row 39 1 (v1 + 1) ((ra eInts v4).take v2 ++ [[.sl 13 x3_0 1 0 x3_1]]), .cells 34 ((eName x2).map .p), yI0, .cells 59 [.mp 1], yI0, yI0, .cells 39 [.sl 13 x3_0 1 0 x3_1], .cells 3 [i6 x3_2], .dead, yI0, yI x3_0 x3_3, .row 39 1 0 [[.sl 13 x3_0 1 0 x3_1]]])))
     have k6 := k2.a [(27, .r (.sl 3 (v1 + 1) 1 0 (v2 + 1)) (L11_0_p a3 [.row 39 1 (v1 + 1) ((ra eInts v4).take v2 ++ [[.sl 13 x3_0 1 0 x3_1]]), .cells 34 ((eName x2).map .p), yI0, .cells 59 [.mp 1], yI0, yI0, .cells 39 [.sl 13 x3_0 1 0 x3_1], .cells 3 [i6 x3_2], .dead, yI0, yI x3_0 x3_3, .row 39 1 0 [[.sl 13 x3_0 1 0 x3_1]]]))] (apc q5 apn)
     apply bi h <;> intro h6 h
     ·
      rw [← sj h]
      exact rn ([(6000, .d true), (6001, .r ud (L11_0_d6 a3 v1 v4 v2 x3_3 x3_1))] ++ kH k6) (k6.b (apc ((frz_of rfl (frz_same abl_row (frz_same (abl_map (fun _ => rfl) (fun _ => rfl)) (frz_same rfl (frz_con (frz_pout (e := eInts) (xs := v4) (w := (x3_3.take x3_1)) (fzc_s rfl (purP_sl (e := eI64) (xs := x3_3) rfl h6) fzc_nil)) frz_nil))))) : frzT 4 (L11_0_p a3 [.row 39 1 (v1 + 1) ((ra eInts v4).take v2 ++ [[.sl 13 x3_0 1 0 x3_1]]), .cells 34 ((eName x2).map .p), yI0, .cells 59 [.mp 1], yI0, yI0, .cells 39 [.sl 13 x3_0 1 0 x3_1], .cells 3 [i6 x3_2], .dead, yI0, yI x3_0 x3_3, .row 39 1 0 [[.sl 13 x3_0 1 0 x3_1]]]) = some (L11_0_d6 a3 v1 v4 v2 x3_3 x3_1)) apn))
     ·
      cases h
   ·
    cases h
  | k1 x3_0 =>
   have q7 := ((F24_3_ok x2 a1 a3 v1 v4 h3) : CS prg 24 [(.agg ((eName x2).map .p)), (.ro (eScps a1)), .ptr 2 0] (L11_0_d0 a3 v1 v4 x2) = some ((.sl 8 0 1 0 0), (L11_0_p a3 [.row 39 1 v1 (ra eInts v4), .cells 34 ((eName x2).map .p), yI0, .cells 59 [.mp 1], yI0, yI0, .cells 39 [.sl 8 0 1 0 0], .cells 3 [i6 x3_0], .dead])))
   have k8 := k0.a [(25, .r (.sl 8 0 1 0 0) (L11_0_p a3 [.row 39 1 v1 (ra eInts v4), .cells 34 ((eName x2).map .p), yI0, .cells 59 [.mp 1], yI0, yI0, .cells 39 [.sl 8 0 1 0 0], .cells 3 [i6 x3_0], .dead]))] (apc q7 apn)
   apply bi h <;> intro h4 h
   ·
    apply bi h <;> intro h5 h
    ·
     rw [← sj h]
     exact rn ([(27, .r (.sl 3 v1 1 0 (v2 + 1)) (L11_0_p a3 [.row 39 1 v1 (splice (ra eInts v4) v2 [[.sl 8 0 1 0 0]]), .cells 34 ((eName x2).map .p), yI0, .cells 59 [.mp 1], yI0, yI0, .cells 39 [.sl 8 0 1 0 0], .cells 3 [i6 x3_0], .dead, .row 39 1 0 [[.sl 8 0 1 0 0]]])), (6000, .d true), (6001, .r ud (L11_0_d9 a3 v1 v4 v2))] ++ kH k8) (k8.b (apc ((ap_pin (e := eInts) (xs := v4) (cs := [.sl 8 0 1 0 0]) rfl rfl h4 h5) : appA (L11_0_p a3 [.row 39 1 v1 (ra eInts v4), .cells 34 ((eName x2).map .p), yI0, .cells 59 [.mp 1], yI0, yI0, .cells 39 [.sl 8 0 1 0 0], .cells 3 [i6 x3_0], .dead, .row 39 1 0 [[.sl 8 0 1 0 0]]]) 39 1 24 (.sl 3 v1 1 0 v2) (.sl 12 0 1 0 1) = some ((.sl 3 v1 1 0 (v2 + 1)), (L11_0_p a3 [.row 39 1 v1 (splice (ra eInts v4) v2 [[.sl 8 0 1 0 0]]), .cells 34 ((eName x2).map .p), yI0, .cells 59 [.mp 1], yI0, yI0, .cells 39 [.sl 8 0 1 0 0], .cells 3 [i6 x3_0], .dead, .row 39 1 0 [[.sl 8 0 1 0 0]]]))) (apc ((frz_of rfl (frz_same abl_row (frz_same (abl_map (fun _ => rfl) (fun _ => rfl)) (frz_same rfl (frz_con (frz_pin (e := eInts) (xs := v4) (w := []) (fzc_s rfl (purP_sl (e := eI64) (xs := []) rfl rfl) fzc_nil)) frz_nil))))) : frzT 4 (L11_0_p a3 [.row 39 1 v1 (splice (ra eInts v4) v2 [[.sl 8 0 1 0 0]]), .cells 34 ((eName x2).map .p), yI0, .cells 59 [.mp 1], yI0, yI0, .cells 39 [.sl 8 0 1 0 0], .cells 3 [i6 x3_0], .dead, .row 39 1 0 [[.sl 8 0 1 0 0]]]) = some (L11_0_d9 a3 v1 v4 v2)) apn)))
    ·
     rw [← sj h]
     exact rn ([(27, .r (.sl 3 (v1 + 1) 1 0 (v2 + 1)) (L11_0_p a3 [.row 39 1 (v1 + 1) ((ra eInts v4).take v2 ++ [[.sl 8 0 1 0 0]]), .cells 34 ((eName x2).map .p), yI0, .cells 59 [.mp 1], yI0, yI0, .cells 39 [.sl 8 0 1 0 0], .cells 3 [i6 x3_0], .dead, .row 39 1 0 [[.sl 8 0 1 0 0]]])), (6000, .d true), (6001, .r ud (L11_0_d12 a3 v1 v4 v2))] ++ kH k8) (k8.b (apc ((ap_pout (e := eInts) (xs := v4) (cs := [.sl 8 0 1 0 0]) rfl rfl h4 h5) : appA (L11_0_p a3 [.row 39 1 v1 (ra eInts v4), .cells 34 ((eName x2).map .p), yI0, .cells 59 [.mp 1], yI0, yI0, .cells 39 [.sl 8 0 1 0 0], .cells 3 [i6 x3_0], .dead, .row 39 1 0 [[.sl 8 0 1 0 0]]]) 39 1 24 (.sl 3 v1 1 0 v2) (.sl 12 0 1 0 1) = some ((.sl 3 (v1 + 1) 1 0 (v2 + 1)), (L11_0_p a3 [.row 39 1 (v1 + 1) ((ra eInts v4).take v2 ++ [[.sl 8 0 1 0 0]]), .cells 34 ((eName x2).map .p), yI0, .cells 59 [.mp 1], yI0, yI0, .cells 39 [.sl 8 0 1 0 0], .cells 3 [i6 x3_0], .dead, .row 39 1 0 [[.sl 8 0 1 0 0]]]))) (apc ((frz_of rfl (frz_same abl_row (frz_same (abl_map (fun _ => rfl) (fun _ => rfl)) (frz_same rfl (frz_con (frz_pout (e := eInts) (xs := v4) (w := []) (fzc_s rfl (purP_sl (e := eI64) (xs := []) rfl rfl) fzc_nil)) frz_nil))))) : frzT 4 (L11_0_p a3 [.row 39 1 (v1 + 1) ((ra eInts v4).take v2 ++ [[.sl 8 0 1 0 0]]), .cells 34 ((eName x2).map .p), yI0, .cells 59 [.mp 1], yI0, yI0, .cells 39 [.sl 8 0 1 0 0], .cells 3 [i6 x3_0], .dead, .row 39 1 0 [[.sl 8 0 1 0 0]]]) = some (L11_0_d12 a3 v1 v4 v2)) apn)))
   ·
    cases h
 ·
  rw [← sj h]
  exact xb [(19, .d false), (6000, .d true)] (av h1 apn)
theorem L11_0_run (s0 : Nat × Nat × Int × (List Ints)) (e : E_L11_0) (h : runL (fun s => L11_0 a1 a2 a3 s.1 s.2.1 s.2.2.1 s.2.2.2) s0 = some e) : L11_0_x a1 a3 e (L11_0_e a1 a2 a3 s0.1 s0.2.1 s0.2.2.1 s0.2.2.2) := by
  have q := @loop_sound' (Nat × Nat × Int × (List Ints)) E_L11_0 (fun s => L11_0 a1 a2 a3 s.1 s.2.1 s.2.2.1 s.2.2.2) (fun s => L11_0_e a1 a2 a3 s.1 s.2.1 s.2.2.1 s.2.2.2) (L11_0_x a1 a3) (fun s r h => L11_0_ok a1 a2 a3 s.1 s.2.1 s.2.2.1 s.2.2.2 h) s0 e h
  exact q
end
inductive R_F11 where
  | k0 (x0 : List Ints) (x1 : Int)
def F11_v (a1 : ScopesD) (r : R_F11) : AV := match r with | .k0 x0 x1 => (.tup [ls 1 eInts x0, i6 x1])
def F11 (a1 : ScopesD) : Option R_F11 :=
  ((F19 a1).bind fun x1 => (bif (x1 != 0) then (some (.k0 ([]) 2)) else (bif (decide (a1.decl.length ≤ 1000000)) then ((runL (fun s => L11_0 a1 (a1.uses.length : Int) (foundL a1.decl 0 []) s.1 s.2.1 s.2.2.1 s.2.2.2) (0, 0, 0, [])).bind fun r4 => match r4 with | .k0 x4_0 x4_1 x4_2 => (bif (decide (x4_1 ≤ x4_2.length)) then (some (.k0 (x4_2.take x4_1) 0)) else none)) else none)))
abbrev F11_d0 (g4 : Nat → AV) (x4_0 x4_1 : Nat) (a1 : ScopesD) (x4_2 : List Ints) : St := ⟨fr 30 g4 [(6, .sl 3 x4_0 1 0 x4_1), (16, ls 5 eName a1.uses)], [.row 39 1 0 (ra eInts []), .map (mrow kA vL (foundL a1.decl 0 [])), .cells 59 [.mp 1], .row 39 1 x4_0 (ra eInts x4_2)]⟩
theorem F11_ok (a1 : ScopesD) {r : R_F11} (h : F11 a1 = some r) : PR1 prg 11 [(.agg ((eScps a1).map .p))] (F11_v a1 r) := by
 unfold F11 at h
 have q0 := (L11_0_k a1 (a1.uses.length : Int) (foundL a1.decl 0 []) 0 0 0 ([]))
 apply bn h; intro x1 h1 h
 have q1 := (((F19_ok a1 h1).cp rfl _) : CP prg 19 [(.agg ((eScps a1).map .p))] [.row 39 1 0 (ra eInts [])] = some (i6 x1))
 apply bi h <;> intro h2 h
 ·
  rw [← sj h]
  exact fpo (v := (.tup [.sl 1 0 1 0 0, i6 2])) (h' := [.row 39 1 0 (ra eInts []), .row 39 1 0 (ra eInts [])]) [(10, .v (i6 x1)), (11, .d true)] (apc q1 (av h2 apn)) (purA_tup (purAs_cons (purA_sl (e := eInts) (xs := []) rfl rfl) (purAs_cons rfl purAs_nil))) (by kernel_rfl)
 ·
  have k2 := ka [(10, .v (i6 x1)), (11, .d false)] (apc q1 (av h2 apn))
  apply bi h <;> intro h3 h
  ·
   have q3 := ((cs_found a1 h3 [.row 39 1 0 (ra eInts [])]) : CS prg 23 [(.agg ((eScps a1).map .p))] [.row 39 1 0 (ra eInts [])] = some ((.mp 1), [.row 39 1 0 (ra eInts []), .map (mrow kA vL (foundL a1.decl 0 []))]))
   have k4 := k2.a [(13, .r (.mp 1) [.row 39 1 0 (ra eInts []), .map (mrow kA vL (foundL a1.decl 0 []))]), (17, .v (i6 (a1.uses.length : Int)))] (apc q3 (apc (lg a1.uses eName 5) apn))
   apply bn h; intro r4 h4 h
   cases r4 with
   | k0 x4_0 x4_1 x4_2 =>
    obtain ⟨g4, e4⟩ := L11_0_run a1 (a1.uses.length : Int) (foundL a1.decl 0 []) (0, 0, 0, []) _ h4
    have q5 := (e4 : L11_0_e a1 (a1.uses.length : Int) (foundL a1.decl 0 []) 0 0 0 ([]) = some ((.brk 0), F11_d0 g4 x4_0 x4_1 a1 x4_2))
    have k6 := k4.a [(2000, .l (.brk 0) (F11_d0 g4 x4_0 x4_1 a1 x4_2))] (apc q0 (apc q5 apn))
    apply bi h <;> intro h5 h
    ·
     rw [← sj h]
     exact fpo (v := (.tup [.sl 3 x4_0 1 0 x4_1, i6 0])) (h' := [.row 39 1 0 (ra eInts []), .map (mrow kA vL (foundL a1.decl 0 [])), .cells 59 [.mp 1], .row 39 1 x4_0 (ra eInts x4_2)]) ([(6000, .d true)] ++ kH k6) (k6.b apn) (purA_tup (purAs_cons (purA_sl (e := eInts) rfl h5) (purAs_cons rfl purAs_nil))) (by kernel_rfl)
    ·
     cases h
  ·
   cases h
inductive R_F12 where
  | k0 (x0 : List Int) (x1 : Int)
def F12_v (a1 : ScopesD) (a2 : Int) (r : R_F12) : AV := match r with | .k0 x0 x1 => (.tup [ls 1 eI64 x0, i6 x1])
def F12 (a1 : ScopesD) (a2 : Int) : Option R_F12 :=
  ((F11 a1).bind fun r1 => match r1 with | .k0 x1_0 x1_1 => (bif (x1_1 != 0) then (some (.k0 ([]) x1_1)) else (bif (decide (a2 < 0)) then (some (.k0 ([]) 4)) else (bif (decide (a2 ≥ (x1_0.length : Int))) then (some (.k0 ([]) 4)) else ((getI x1_0 a2).bind fun x5 => (some (.k0 x5 0)))))))
theorem F12_ok (a1 : ScopesD) (a2 : Int) {r : R_F12} (h : F12 a1 a2 = some r) : PR1 prg 12 [(.agg ((eScps a1).map .p)), i6 a2] (F12_v a1 a2 r) := by
 unfold F12 at h
 apply bn h; intro r1 h1 h
 cases r1 with
 | k0 x1_0 x1_1 =>
  have q0 := (((F11_ok a1 h1).cp rfl _) : CP prg 11 [(.agg ((eScps a1).map .p))] [yI0] = some (.tup [ls 1 eInts x1_0, i6 x1_1]))
  have k1 := ka [(10, .v (.tup [ls 1 eInts x1_0, i6 x1_1]))] (apc q0 apn)
  apply bi h <;> intro h2 h
  ·
   rw [← sj h]
   exact fpo (v := (.tup [.sl 1 0 1 0 0, i6 x1_1])) (h' := [yI0, yI0]) ([(15, .d true)] ++ kH k1) (k1.b (av h2 apn)) (purA_tup (purAs_cons (purA_sl (e := eI64) (xs := []) rfl rfl) (purAs_cons rfl purAs_nil))) (by kernel_rfl)
  ·
   apply bi h <;> intro h3 h
   ·
    rw [← sj h]
    exact fpo (v := (.tup [.sl 1 0 1 0 0, i6 4])) (h' := [yI0, yI0]) ([(15, .d false), (19, .d true)] ++ kH k1) (k1.b (av h2 (av h3 apn))) (purA_tup (purAs_cons (purA_sl (e := eI64) (xs := []) rfl rfl) (purAs_cons rfl purAs_nil))) (by kernel_rfl)
   ·
    have k2 := k1.a [(15, .d false), (19, .d false), (23, .v (i6 (x1_0.length : Int)))] (av h2 (av h3 (apc (lg x1_0 eInts 1) apn)))
    apply bi h <;> intro h4 h
    ·
     rw [← sj h]
     exact fpo (v := (.tup [.sl 1 0 1 0 0, i6 4])) (h' := [yI0, yI0]) ([(24, .d true)] ++ kH k2) (k2.b (av h4 apn)) (purA_tup (purAs_cons (purA_sl (e := eI64) (xs := []) rfl rfl) (purAs_cons rfl purAs_nil))) (by kernel_rfl)
    ·
     apply bn h; intro x5 h5 h
     rw [← sj h]
     exact fq ([(24, .d false), (28, .v (.ro [.lst 1 (x5.map eI64)]))] ++ kH k2) (k2.b (av h4 (apc (ig eInts 1 .i64 h5) apn)))
inductive E_L5_1 where
  | k0 (x0 : Int)
section
variable (a1 : Int) (a2 : ByteArray) (a3 : ScopesD) (a4 : List Int) (a5 : Int) (a6 : NameD)
def L5_1 (v1 v2 : Int) : Option (E_L5_1 ⊕ (Int × Int)) :=
  (bif (decide (v2 < (a3.decl.length : Int))) then ((getI a3.decl v2).bind fun x2 => (some (.inr ((if v1 < x2.frm then x2.frm else v1), (IntKind.wrap .i64 (v2 + 1)))))) else (some (.inl (.k0 v1))))
def L5_1_s (v1 v2 : Int) : St := ⟨fr 210 ug [(1, i6 a1), (2, vs a2), (3, (.ro (eScps a3))), (7, ls 1 eI64 a4), (8, i6 a5), (9, .ptr 0 0), (10, i6 v1), (11, i6 v2)], [.cells 34 ((eName a6).map .p)]⟩
theorem L5_1_k (v1 v2 : Int) : okT 1 (L5_1_s a1 a2 a3 a4 a5 a6 v1 v2).h = true := (okT_of rfl (ac rfl))
abbrev L5_1_e (v1 v2 : Int) := evH prg 1 [1, 2, 3, 7, 8, 9, 10, 11] ir5_l1 (L5_1_s a1 a2 a3 a4 a5 a6 v1 v2)
def L5_1_x (e : E_L5_1) (r : Option (Out × St)) : Prop := match e with | .k0 x0 => ∃ g, r = some ((.brk 0), ⟨fr 210 g [(1, i6 a1), (2, vs a2), (3, (.ro (eScps a3))), (7, ls 1 eI64 a4), (8, i6 a5), (9, .ptr 0 0), (10, i6 x0)], [.cells 34 ((eName a6).map .p)]⟩)
theorem L5_1_ok (v1 v2 : Int) {r : E_L5_1 ⊕ (Int × Int)} (h : L5_1 a3 v1 v2 = some r) : OkR (fun e => L5_1_x a1 a2 a3 a4 a5 a6 e (L5_1_e a1 a2 a3 a4 a5 a6 v1 v2)) (fun s => L5_1_e a1 a2 a3 a4 a5 a6 v1 v2 = L5_1_e a1 a2 a3 a4 a5 a6 s.1 s.2) r := by
 unfold L5_1 at h
 have k0 := ka [(55, .v (i6 (a3.decl.length : Int)))] (apc (lg a3.decl eName 5) apn)
 apply bi h <;> intro h1 h
 ·
  apply bn h; intro x2 h2 h
  rw [← sj h]
  exact rn ([(56, .d true), (63, .v (.ro (eName x2))), (6000, .d true)] ++ kH k0) (k0.b (av h1 (apc (ig eName 5 .i64 h2) (apc (L5_1_k a1 a2 a3 a4 a5 a6 (if v1 < x2.frm then x2.frm else v1) (w6 (v2 + 1))) apn))))
 ·
  rw [← sj h]
  exact xb ([(56, .d false), (6000, .d true)] ++ kH k0) (k0.b (av h1 apn))
theorem L5_1_run (s0 : Int × Int) (e : E_L5_1) (h : runL (fun s => L5_1 a3 s.1 s.2) s0 = some e) : L5_1_x a1 a2 a3 a4 a5 a6 e (L5_1_e a1 a2 a3 a4 a5 a6 s0.1 s0.2) := by
  have q := @loop_sound' (Int × Int) E_L5_1 (fun s => L5_1 a3 s.1 s.2) (fun s => L5_1_e a1 a2 a3 a4 a5 a6 s.1 s.2) (L5_1_x a1 a2 a3 a4 a5 a6) (fun s r h => L5_1_ok a1 a2 a3 a4 a5 a6 s.1 s.2 h) s0 e h
  exact q
end
inductive E_L15_0_2 where
  | k0 (x0 x1 : Nat) (x2 : List Int)
section
variable (a1 : NameD) (a2 : ScopesD) (a3 : Int)
def L15_0_2 (v1 v2 : Nat) (v3 : Int) (v4 : List Int) : Option (E_L15_0_2 ⊕ (Nat × Nat × Int × (List Int))) :=
  (bif (decide (v3 < (a2.decl.length : Int))) then ((getI a2.decl v3).bind fun x2 => (bif (x2.scp == a3) then (bif (x2.spc.toList == a1.spc.toList) then (bif (x2.txt.toList == a1.txt.toList) then (bif (apOk v2 1 v4.length 8) then (bif (decide (v2 + 1 ≤ v4.length)) then (some (.inr (v1, v2 + 1, (IntKind.wrap .i64 (v3 + 1)), (splice v4 v2 [v3])))) else (some (.inr ((v1 + 1), v2 + 1, (IntKind.wrap .i64 (v3 + 1)), (v4.take v2 ++ [v3]))))) else none) else (some (.inr (v1, v2, (IntKind.wrap .i64 (v3 + 1)), v4)))) else (some (.inr (v1, v2, (IntKind.wrap .i64 (v3 + 1)), v4)))) else (some (.inr (v1, v2, (IntKind.wrap .i64 (v3 + 1)), v4))))) else (some (.inl (.k0 v1 v2 v4))))
def L15_0_2_s (v1 v2 : Nat) (v3 : Int) (v4 : List Int) : St := ⟨fr 58 ug [(2, vs a1.spc), (3, vs a1.txt), (4, (.ro (eScps a2))), (9, i6 a3), (10, .sl 1 v1 1 0 v2), (11, i6 v3)], [yI0, yI v1 v4]⟩
theorem L15_0_2_k (v1 v2 : Nat) (v3 : Int) (v4 : List Int) : okT 2 (L15_0_2_s a1 a2 a3 v1 v2 v3 v4).h = true := (okT_of rfl (ar (ar rfl)))
abbrev L15_0_2_e (v1 v2 : Nat) (v3 : Int) (v4 : List Int) := evH prg 2 [2, 3, 4, 9, 10, 11] ir15_l0 (L15_0_2_s a1 a2 a3 v1 v2 v3 v4)
def L15_0_2_x (e : E_L15_0_2) (r : Option (Out × St)) : Prop := match e with | .k0 x0 x1 x2 => ∃ g, r = some ((.brk 2), ⟨fr 58 g [(2, vs a1.spc), (3, vs a1.txt), (4, (.ro (eScps a2))), (9, i6 a3), (10, .sl 1 x0 1 0 x1)], [yI0, yI x0 x2]⟩)
abbrev L15_0_2_d0 (v1 : Nat) (v4 : List Int) (v2 : Nat) (v3 : Int) (x2 : NameD) : List AB := [yI0, yI v1 (splice v4 v2 [v3]), .cells 34 ((eName x2).map .p), .row 3 1 0 [[i6 v3]]]
abbrev L15_0_2_d1 (v1 : Nat) (v4 : List Int) (x2 : NameD) (v3 : Int) : List AB := [yI0, yI v1 v4, .cells 34 ((eName x2).map .p), .row 3 1 0 [[i6 v3]]]
abbrev L15_0_2_d2 (v1 : Nat) (v4 : List Int) (v2 : Nat) (v3 : Int) (x2 : NameD) : List AB := [yI0, yI (v1 + 1) (v4.take v2 ++ [v3]), .cells 34 ((eName x2).map .p), .row 3 1 0 [[i6 v3]]]
theorem L15_0_2_ok (v1 v2 : Nat) (v3 : Int) (v4 : List Int) {r : E_L15_0_2 ⊕ (Nat × Nat × Int × (List Int))} (h : L15_0_2 a1 a2 a3 v1 v2 v3 v4 = some r) : OkR (fun e => L15_0_2_x a1 a2 a3 e (L15_0_2_e a1 a2 a3 v1 v2 v3 v4)) (fun s => L15_0_2_e a1 a2 a3 v1 v2 v3 v4 = L15_0_2_e a1 a2 a3 s.1 s.2.1 s.2.2.1 s.2.2.2) r := by
 unfold L15_0_2 at h
 have k0 := ka [(25, .v (i6 (a2.decl.length : Int)))] (apc (lg a2.decl eName 5) apn)
 apply bi h <;> intro h1 h
 ·
  apply bn h; intro x2 h2 h
  have k1 := k0.a [(26, .d true), (32, .v (.ro (eName x2)))] (av h1 (apc (ig eName 5 .i64 h2) apn))
  apply bi h <;> intro h3 h
  ·
   apply bi h <;> intro h4 h
   ·
    have k2 := k1.a [(37, .d true), (42, .d true)] (av h3 (av h4 apn))
    apply bi h <;> intro h5 h
    ·
     apply bi h <;> intro h6 h
     ·
      apply bi h <;> intro h7 h
      ·
       rw [← sj h]
       exact rn ([(48, .d true), (53, .r (.sl 1 v1 1 0 (v2 + 1)) (L15_0_2_d0 v1 v4 v2 v3 x2)), (6000, .d true)] ++ kH k2) (k2.b (av h5 (apc ((ap_in (e := eI64) (xs := v4) (news := [v3]) rfl (rows_x (e := eI64) (xs := [v3]) rfl) rfl h6 h7) : appA (L15_0_2_d1 v1 v4 x2 v3) 3 1 8 (.sl 1 v1 1 0 v2) (.sl 3 0 1 0 1) = some ((.sl 1 v1 1 0 (v2 + 1)), L15_0_2_d0 v1 v4 v2 v3 x2)) (apc (L15_0_2_k a1 a2 a3 v1 (v2 + 1) (w6 (v3 + 1)) (splice v4 v2 [v3])) apn))))
      ·
       rw [← sj h]
       exact rn ([(48, .d true), (53, .r (.sl 1 (v1 + 1) 1 0 (v2 + 1)) (L15_0_2_d2 v1 v4 v2 v3 x2)), (6000, .d true)] ++ kH k2) (k2.b (av h5 (apc ((ap_out (e := eI64) (xs := v4) (news := [v3]) rfl (rows_x (e := eI64) (xs := [v3]) rfl) rfl h6 h7) : appA (L15_0_2_d1 v1 v4 x2 v3) 3 1 8 (.sl 1 v1 1 0 v2) (.sl 3 0 1 0 1) = some ((.sl 1 (v1 + 1) 1 0 (v2 + 1)), L15_0_2_d2 v1 v4 v2 v3 x2)) (apc (L15_0_2_k a1 a2 a3 (v1 + 1) (v2 + 1) (w6 (v3 + 1)) (v4.take v2 ++ [v3])) apn))))
     ·
      cases h
    ·
     rw [← sj h]
     exact rn ([(48, .d false), (6000, .d true)] ++ kH k2) (k2.b (av h5 (apc (L15_0_2_k a1 a2 a3 v1 v2 (w6 (v3 + 1)) v4) apn)))
   ·
    rw [← sj h]
    exact rn ([(37, .d true), (42, .d false), (6000, .d true)] ++ kH k1) (k1.b (av h3 (av h4 (apc (L15_0_2_k a1 a2 a3 v1 v2 (w6 (v3 + 1)) v4) apn))))
  ·
   rw [← sj h]
   exact rn ([(37, .d false), (6000, .d true)] ++ kH k1) (k1.b (av h3 (apc (L15_0_2_k a1 a2 a3 v1 v2 (w6 (v3 + 1)) v4) apn)))
 ·
  rw [← sj h]
  exact xb ([(26, .d false), (6000, .d true)] ++ kH k0) (k0.b (av h1 apn))
theorem L15_0_2_run (s0 : Nat × Nat × Int × (List Int)) (e : E_L15_0_2) (h : runL (fun s => L15_0_2 a1 a2 a3 s.1 s.2.1 s.2.2.1 s.2.2.2) s0 = some e) : L15_0_2_x a1 a2 a3 e (L15_0_2_e a1 a2 a3 s0.1 s0.2.1 s0.2.2.1 s0.2.2.2) := by
  have q := @loop_sound' (Nat × Nat × Int × (List Int)) E_L15_0_2 (fun s => L15_0_2 a1 a2 a3 s.1 s.2.1 s.2.2.1 s.2.2.2) (fun s => L15_0_2_e a1 a2 a3 s.1 s.2.1 s.2.2.1 s.2.2.2) (L15_0_2_x a1 a2 a3) (fun s r h => L15_0_2_ok a1 a2 a3 s.1 s.2.1 s.2.2.1 s.2.2.2 h) s0 e h
  exact q
end
inductive E_L15_1 where
  | k0 (x0 x1 : Nat) (x2 : List Int)
  | k1
section
variable (a1 : NameD) (a2 : ScopesD)
def L15_1 (v1 : Int) : Option (E_L15_1 ⊕ (Int)) :=
  (bif (decide (v1 ≥ 0)) then ((runL (fun s => L15_0_2 a1 a2 v1 s.1 s.2.1 s.2.2.1 s.2.2.2) (0, 0, 0, [])).bind fun r2 => match r2 with | .k0 x2_0 x2_1 x2_2 => (bif (decide (((x2_1 : Nat) : Int) > 0)) then (some (.inl (.k0 x2_0 x2_1 x2_2))) else ((getI a2.all v1).bind fun x4 => (some (.inr (x4.par)))))) else (some (.inl (.k1))))
def L15_1_s (v1 : Int) : St := ⟨fr 58 ug [(2, vs a1.spc), (3, vs a1.txt), (4, (.ro (eScps a2))), (9, i6 v1)], [yI0]⟩
theorem L15_1_k (v1 : Int) : okT 1 (L15_1_s a1 a2 v1).h = true := (okT_of rfl (ar rfl))
abbrev L15_1_e (v1 : Int) := evH prg 1 [2, 3, 4, 9] ir15_l1 (L15_1_s a1 a2 v1)
def L15_1_x (e : E_L15_1) (r : Option (Out × St)) : Prop := match e with | .k0 x0 x1 x2 => ∃ g, r = some (.ret, ⟨fr 58 g [(8, .sl 1 x0 1 0 x1)], [yI0, yI x0 x2]⟩) | .k1 => ∃ g, r = some ((.brk 0), ⟨fr 58 g [], [yI0]⟩)
abbrev L15_1_d0 (g2 : Nat → AV) (v1 : Int) (x2_0 x2_1 : Nat) (x2_2 : List Int) : St := ⟨fr 58 g2 [(2, vs a1.spc), (3, vs a1.txt), (4, (.ro (eScps a2))), (9, i6 v1), (10, .sl 1 x2_0 1 0 x2_1)], [yI0, yI x2_0 x2_2]⟩
theorem L15_1_ok (v1 : Int) {r : E_L15_1 ⊕ (Int)} (h : L15_1 a1 a2 v1 = some r) : OkR (fun e => L15_1_x e (L15_1_e a1 a2 v1)) (fun s => L15_1_e a1 a2 v1 = L15_1_e a1 a2 s) r := by
 unfold L15_1 at h
 apply bi h <;> intro h1 h
 ·
  apply bn h; intro r2 h2 h
  cases r2 with
  | k0 x2_0 x2_1 x2_2 =>
   obtain ⟨g2, e2⟩ := L15_0_2_run a1 a2 v1 (0, 0, 0, []) _ h2
   have q0 := (e2 : L15_0_2_e a1 a2 v1 0 0 0 ([]) = some ((.brk 2), L15_1_d0 a1 a2 g2 v1 x2_0 x2_1 x2_2))
   have k1 := ka [(15, .d true), (2002, .l (.brk 2) (L15_1_d0 a1 a2 g2 v1 x2_0 x2_1 x2_2))] (av h1 (apc (L15_0_2_k a1 a2 v1 0 0 0 ([])) (apc q0 apn)))
   apply bi h <;> intro h3 h
   ·
    rw [← sj h]
    exact xr ([(56, .d true), (6000, .d true)] ++ kH k1) (k1.b (av h3 apn))
   ·
    apply bn h; intro x4 h4 h
    rw [← sj h]
    exact rn ([(56, .d false), (19, .v (.ro (eScope x4))), (6000, .d true)] ++ kH k1) (k1.b (av h3 (apc (ig eScope 3 .i64 h4) (apc (L15_1_k a1 a2 x4.par) apn))))
 ·
  rw [← sj h]
  exact xb [(15, .d false), (6000, .d true)] (av h1 apn)
theorem L15_1_run (s0 : Int) (e : E_L15_1) (h : runL (fun s => L15_1 a1 a2 s) s0 = some e) : L15_1_x e (L15_1_e a1 a2 s0) := by
  have q := @loop_sound' (Int) E_L15_1 (fun s => L15_1 a1 a2 s) (fun s => L15_1_e a1 a2 s) (L15_1_x) (fun s r h => L15_1_ok a1 a2 s h) s0 e h
  exact q
end
def F15_v (a1 : ScopesD) (a2 : NameD) (x0 : (List Int)) : AV := (ls 1 eI64 x0)
def F15 (a1 : ScopesD) (a2 : NameD) : Option (List Int) :=
  ((runL (fun s => L15_1 a2 a1 s) a2.scp).bind fun r1 => match r1 with | .k0 x1_0 x1_1 x1_2 => (bif (decide (x1_1 ≤ x1_2.length)) then (some (x1_2.take x1_1)) else none) | .k1 => (some ([])))
abbrev F15_d0 (g1 : Nat → AV) (x1_0 x1_1 : Nat) (x1_2 : List Int) : St := ⟨fr 58 g1 [(8, .sl 1 x1_0 1 0 x1_1)], [yI0, yI x1_0 x1_2]⟩
theorem F15_ok (a1 : ScopesD) (a2 : NameD) {r : (List Int)} (h : F15 a1 a2 = some r) : PR2 prg 15 [(.agg ((eScps a1).map .p)), i6 a2.scp, vs a2.spc, vs a2.txt] (F15_v a1 a2 r) := by
 unfold F15 at h
 apply bn h; intro r1 h1 h
 cases r1 with
 | k0 x1_0 x1_1 x1_2 =>
  obtain ⟨g1, e1⟩ := L15_1_run a2 a1 a2.scp _ h1
  have q0 := (e1 : L15_1_e a2 a1 a2.scp = some (.ret, F15_d0 g1 x1_0 x1_1 x1_2))
  have k1 := ka [(2000, .l .ret (F15_d0 g1 x1_0 x1_1 x1_2))] (apc (L15_1_k a2 a1 a2.scp) (apc q0 apn))
  apply bi h <;> intro h2 h
  ·
   rw [← sj h]
   exact fpn (v := (.sl 1 x1_0 1 0 x1_1)) (h' := [yI0, yI x1_0 x1_2]) ([(6000, .d true)] ++ kH k1) (k1.b apn) (purA_sl (e := eI64) rfl h2) rfl (purA_sl (e := eI64) (getq rfl (nols_ra (fun _ => rfl))) h2) (by kernel_rfl)
  ·
   cases h
 | k1 =>
  obtain ⟨g1, e1⟩ := L15_1_run a2 a1 a2.scp _ h1
  rw [← sj h]
  exact fpn (v := (.sl 1 0 1 0 0)) (h' := [yI0, yI0]) [(2000, .l (.brk 0) ⟨fr 58 g1 [], [yI0]⟩), (6000, .d true)] (apc (L15_1_k a2 a1 a2.scp) (apc (e1 : L15_1_e a2 a1 a2.scp = some ((.brk 0), ⟨fr 58 g1 [], [yI0]⟩)) apn)) (purA_sl (e := eI64) (xs := []) rfl rfl) rfl (purA_sl (e := eI64) (xs := []) (getq rfl (nols_ra (fun _ => rfl))) rfl) (by kernel_rfl)
inductive E_L14_0 where
  | k0
  | k1
section
variable (a1 a2 : List Int)
def L14_0 (v1 : Int) : Option (E_L14_0 ⊕ (Int)) :=
  (bif (decide (v1 < (a1.length : Int))) then ((getI a1 v1).bind fun x2 => ((getI a2 v1).bind fun x3 => (bif (x2 != x3) then (some (.inl (.k0))) else (some (.inr ((IntKind.wrap .i64 (v1 + 1)))))))) else (some (.inl (.k1))))
def L14_0_s (v1 : Int) : St := ⟨fr 26 ug [(0, ls 1 eI64 a1), (1, ls 1 eI64 a2), (5, i6 v1)], []⟩
theorem L14_0_k (v1 : Int) : okT 0 (L14_0_s a1 a2 v1).h = true := (okT_of rfl rfl)
abbrev L14_0_e (v1 : Int) := evH prg 0 [0, 1, 5] ir14_l0 (L14_0_s a1 a2 v1)
def L14_0_x (e : E_L14_0) (r : Option (Out × St)) : Prop := match e with | .k0 => ∃ g y, r = some (.ret, ⟨fr 26 g [(4, vb false)], y⟩) | .k1 => ∃ g, r = some ((.brk 0), ⟨fr 26 g [(0, ls 1 eI64 a1), (1, ls 1 eI64 a2)], []⟩)
theorem L14_0_ok (v1 : Int) {r : E_L14_0 ⊕ (Int)} (h : L14_0 a1 a2 v1 = some r) : OkR (fun e => L14_0_x a1 a2 e (L14_0_e a1 a2 v1)) (fun s => L14_0_e a1 a2 v1 = L14_0_e a1 a2 s) r := by
 unfold L14_0 at h
 have k0 := ka [(13, .v (i6 (a1.length : Int)))] (apc (lg a1 eI64 1) apn)
 apply bi h <;> intro h1 h
 ·
  apply bn h; intro x2 h2 h
  have k1 := k0.a [(14, .d true), (19, .v (.ro [.val (.int .i64 x2)]))] (av h1 (apc (ig eI64 1 .i64 h2) apn))
  apply bn h; intro x3 h3 h
  have k2 := k1.a [(23, .v (.ro [.val (.int .i64 x3)]))] (apc (ig eI64 1 .i64 h3) apn)
  apply bi h <;> intro h4 h
  ·
   rw [← sj h]
   exact xy ([(25, .d true), (6000, .d true)] ++ kH k2) (k2.b (av h4 apn))
  ·
   rw [← sj h]
   exact rn ([(25, .d false), (6000, .d true)] ++ kH k2) (k2.b (av h4 (apc (L14_0_k a1 a2 (w6 (v1 + 1))) apn)))
 ·
  rw [← sj h]
  exact xb ([(14, .d false), (6000, .d true)] ++ kH k0) (k0.b (av h1 apn))
theorem L14_0_run (s0 : Int) (e : E_L14_0) (h : runL (fun s => L14_0 a1 a2 s) s0 = some e) : L14_0_x a1 a2 e (L14_0_e a1 a2 s0) := by
  have q := @loop_sound' (Int) E_L14_0 (fun s => L14_0 a1 a2 s) (fun s => L14_0_e a1 a2 s) (L14_0_x a1 a2) (fun s r h => L14_0_ok a1 a2 s h) s0 e h
  exact q
end
def F14_v (a1 a2 : List Int) (x0 : Bool) : AV := (vb x0)
def F14 (a1 a2 : List Int) : Option Bool :=
  (bif ((a1.length : Int) != (a2.length : Int)) then (some false) else ((runL (fun s => L14_0 a1 a2 s) 0).bind fun r2 => match r2 with | .k0 => (some false) | .k1 => (some true)))
abbrev F14_d0 (g2 : Nat → AV) (a1 a2 : List Int) : St := ⟨fr 26 g2 [(0, ls 1 eI64 a1), (1, ls 1 eI64 a2)], []⟩
theorem F14_ok (a1 a2 : List Int) {r : Bool} (h : F14 a1 a2 = some r) : PR1 prg 14 [ls 1 eI64 a1, ls 1 eI64 a2] (F14_v a1 a2 r) := by
 unfold F14 at h
 have k0 := ka [(7, .v (i6 (a1.length : Int))), (9, .v (i6 (a2.length : Int)))] (apc (lg a1 eI64 1) (apc (lg a2 eI64 1) apn))
 apply bi h <;> intro h1 h
 ·
  rw [← sj h]
  exact fq ([(10, .d true)] ++ kH k0) (k0.b (av h1 apn))
 ·
  apply bn h; intro r2 h2 h
  cases r2 with
  | k0 =>
   obtain ⟨g2, y2, e2⟩ := L14_0_run a1 a2 0 _ h2
   rw [← sj h]
   exact fq ([(10, .d false), (2000, .l .ret ⟨fr 26 g2 [(4, vb false)], y2⟩), (6000, .d true)] ++ kH k0) (k0.b (av h1 (apc (L14_0_k a1 a2 0) (apc (e2 : L14_0_e a1 a2 0 = some (.ret, ⟨fr 26 g2 [(4, vb false)], y2⟩)) apn))))
  | k1 =>
   obtain ⟨g2, e2⟩ := L14_0_run a1 a2 0 _ h2
   rw [← sj h]
   exact fq ([(10, .d false), (2000, .l (.brk 0) (F14_d0 g2 a1 a2)), (6000, .d true)] ++ kH k0) (k0.b (av h1 (apc (L14_0_k a1 a2 0) (apc (e2 : L14_0_e a1 a2 0 = some ((.brk 0), F14_d0 g2 a1 a2)) apn))))
inductive E_L5_0 where
  | k0
  | k1
section
variable (a1 : ScopesD) (a2 a3 : List Int) (a4 : NameD) (a5 : ByteArray) (a6 : Int) (a7 a8 : List NameD)
abbrev L5_0_p (l : List AB) : List AB := .cells 34 ((eName a4).map .p) :: .cells 34 [i6 a4.scp, vs a5, vs a4.txt, i6 a6, i6 a6] :: .frz 5 0 (a7.map eName) :: .row 34 5 0 [[i6 a4.scp, vs a5, vs a4.txt, i6 a6, i6 a6]] :: .row 54 3 0 (ra eScope []) :: yN0 :: yN0 :: .cells 25 [ls 3 eScope a1.all, ls 5 eName a8, ls 5 eName a1.uses] :: l
def L5_0 (v1 : Int) : Option (E_L5_0 ⊕ (Int)) :=
  (bif (decide (v1 < (a3.length : Int))) then ((getI a3 v1).bind fun x2 => (bif (decide (x2 < 0)) then (some (.inl (.k0))) else (bif (decide (x2 ≥ (a8.length : Int))) then (some (.inl (.k0))) else ((getI a8 x2).bind fun x5 => (bif (x5.scp != a4.scp) then (some (.inl (.k0))) else (some (.inr ((IntKind.wrap .i64 (v1 + 1)))))))))) else (some (.inl (.k1))))
def L5_0_s (v1 : Int) : St := ⟨fr 210 ug [(3, (.ro (eScps a1))), (7, ls 1 eI64 a2), (9, .ptr 0 0), (13, .ptr 7 0), (14, ls 1 eI64 a3), (16, i6 v1)], (L5_0_p a1 a4 a5 a6 a7 a8 [])⟩
theorem L5_0_k (v1 : Int) : okT 8 (L5_0_s a1 a2 a3 a4 a5 a6 a7 a8 v1).h = true := (okT_of rfl (ac (ac (ac (ac (ar (ar (ar (ac rfl)))))))))
abbrev L5_0_e (v1 : Int) := evH prg 8 [3, 7, 9, 13, 14, 16] ir5_l0 (L5_0_s a1 a2 a3 a4 a5 a6 a7 a8 v1)
def L5_0_x (e : E_L5_0) (r : Option (Out × St)) : Prop := match e with | .k0 => ∃ g y, r = some (.ret, ⟨fr 210 g [(6, vb false)], y⟩) | .k1 => ∃ g, r = some ((.brk 2), ⟨fr 210 g [(3, (.ro (eScps a1))), (7, ls 1 eI64 a2), (9, .ptr 0 0), (13, .ptr 7 0), (14, ls 1 eI64 a3)], (L5_0_p a1 a4 a5 a6 a7 a8 [])⟩)
theorem L5_0_ok (v1 : Int) {r : E_L5_0 ⊕ (Int)} (h : L5_0 a3 a4 a8 v1 = some r) : OkR (fun e => L5_0_x a1 a2 a3 a4 a5 a6 a7 a8 e (L5_0_e a1 a2 a3 a4 a5 a6 a7 a8 v1)) (fun s => L5_0_e a1 a2 a3 a4 a5 a6 a7 a8 v1 = L5_0_e a1 a2 a3 a4 a5 a6 a7 a8 s) r := by
 unfold L5_0 at h
 have k0 := ka [(140, .v (i6 (a3.length : Int)))] (apc (lg a3 eI64 1) apn)
 apply bi h <;> intro h1 h
 ·
  apply bn h; intro x2 h2 h
  have k1 := k0.a [(141, .d true), (146, .v (.ro [.val (.int .i64 x2)]))] (av h1 (apc (ig eI64 1 .i64 h2) apn))
  apply bi h <;> intro h3 h
  ·
   rw [← sj h]
   exact xy ([(148, .d true), (6000, .d true)] ++ kH k1) (k1.b (av h3 apn))
  ·
   have k2 := k1.a [(148, .d false), (152, .v (.ro [.val (.int .i64 x2)])), (156, .v (i6 (a8.length : Int)))] (av h3 (apc (ig eI64 1 .i64 h2) (apc (lg a8 eName 5) apn)))
   apply bi h <;> intro h4 h
   ·
    rw [← sj h]
    exact xy ([(157, .d true), (6000, .d true)] ++ kH k2) (k2.b (av h4 apn))
   ·
    have k3 := k2.a [(157, .d false), (164, .v (.ro [.val (.int .i64 x2)]))] (av h4 (apc (ig eI64 1 .i64 h2) apn))
    apply bn h; intro x5 h5 h
    apply bi h <;> intro h6 h
    ·
     rw [← sj h]
     exact xy ([(166, .v (.ro (eName x5))), (171, .d true), (6000, .d true)] ++ kH k3) (k3.b (apc (ig eName 5 .i64 h5) (av h6 apn)))
    ·
     rw [← sj h]
     exact rn ([(166, .v (.ro (eName x5))), (171, .d false), (6000, .d true)] ++ kH k3) (k3.b (apc (ig eName 5 .i64 h5) (av h6 (apc (L5_0_k a1 a2 a3 a4 a5 a6 a7 a8 (w6 (v1 + 1))) apn))))
 ·
  rw [← sj h]
  exact xb ([(141, .d false), (6000, .d true)] ++ kH k0) (k0.b (av h1 apn))
theorem L5_0_run (s0 : Int) (e : E_L5_0) (h : runL (fun s => L5_0 a3 a4 a8 s) s0 = some e) : L5_0_x a1 a2 a3 a4 a5 a6 a7 a8 e (L5_0_e a1 a2 a3 a4 a5 a6 a7 a8 s0) := by
  have q := @loop_sound' (Int) E_L5_0 (fun s => L5_0 a3 a4 a8 s) (fun s => L5_0_e a1 a2 a3 a4 a5 a6 a7 a8 s) (L5_0_x a1 a2 a3 a4 a5 a6 a7 a8) (fun s r h => L5_0_ok a1 a2 a3 a4 a5 a6 a7 a8 s h) s0 e h
  exact q
end
inductive E_L5_0_2 where
  | k0
  | k1
section
variable (a1 : ScopesD) (a2 a3 : List Int) (a4 : NameD) (a5 : ByteArray) (a6 : Int) (a7 a8 : List NameD)
abbrev L5_0_2_p (l : List AB) : List AB := .cells 34 ((eName a4).map .p) :: .cells 34 [i6 a4.scp, vs a5, vs a4.txt, i6 a6, i6 a6] :: .frz 5 1 (a7.map eName) :: .row 34 5 0 [[i6 a4.scp, vs a5, vs a4.txt, i6 a6, i6 a6]] :: .row 54 3 0 (ra eScope []) :: yN0 :: yN0 :: .cells 25 [ls 3 eScope a1.all, ls 5 eName a8, ls 5 eName a1.uses] :: l
def L5_0_2 (v1 : Int) : Option (E_L5_0_2 ⊕ (Int)) :=
  (bif (decide (v1 < (a3.length : Int))) then ((getI a3 v1).bind fun x2 => (bif (decide (x2 < 0)) then (some (.inl (.k0))) else (bif (decide (x2 ≥ (a8.length : Int))) then (some (.inl (.k0))) else ((getI a8 x2).bind fun x5 => (bif (x5.scp != a4.scp) then (some (.inl (.k0))) else (some (.inr ((IntKind.wrap .i64 (v1 + 1)))))))))) else (some (.inl (.k1))))
def L5_0_2_s (v1 : Int) : St := ⟨fr 210 ug [(3, (.ro (eScps a1))), (7, ls 1 eI64 a2), (9, .ptr 0 0), (13, .ptr 7 0), (14, ls 1 eI64 a3), (16, i6 v1)], (L5_0_2_p a1 a4 a5 a6 a7 a8 [])⟩
theorem L5_0_2_k (v1 : Int) : okT 8 (L5_0_2_s a1 a2 a3 a4 a5 a6 a7 a8 v1).h = true := (okT_of rfl (ac (ac (ac (ac (ar (ar (ar (ac rfl)))))))))
abbrev L5_0_2_e (v1 : Int) := evH prg 8 [3, 7, 9, 13, 14, 16] ir5_l0 (L5_0_2_s a1 a2 a3 a4 a5 a6 a7 a8 v1)
def L5_0_2_x (e : E_L5_0_2) (r : Option (Out × St)) : Prop := match e with | .k0 => ∃ g y, r = some (.ret, ⟨fr 210 g [(6, vb false)], y⟩) | .k1 => ∃ g, r = some ((.brk 2), ⟨fr 210 g [(3, (.ro (eScps a1))), (7, ls 1 eI64 a2), (9, .ptr 0 0), (13, .ptr 7 0), (14, ls 1 eI64 a3)], (L5_0_2_p a1 a4 a5 a6 a7 a8 [])⟩)
theorem L5_0_2_ok (v1 : Int) {r : E_L5_0_2 ⊕ (Int)} (h : L5_0_2 a3 a4 a8 v1 = some r) : OkR (fun e => L5_0_2_x a1 a2 a3 a4 a5 a6 a7 a8 e (L5_0_2_e a1 a2 a3 a4 a5 a6 a7 a8 v1)) (fun s => L5_0_2_e a1 a2 a3 a4 a5 a6 a7 a8 v1 = L5_0_2_e a1 a2 a3 a4 a5 a6 a7 a8 s) r := by
 unfold L5_0_2 at h
 have k0 := ka [(140, .v (i6 (a3.length : Int)))] (apc (lg a3 eI64 1) apn)
 apply bi h <;> intro h1 h
 ·
  apply bn h; intro x2 h2 h
  have k1 := k0.a [(141, .d true), (146, .v (.ro [.val (.int .i64 x2)]))] (av h1 (apc (ig eI64 1 .i64 h2) apn))
  apply bi h <;> intro h3 h
  ·
   rw [← sj h]
   exact xy ([(148, .d true), (6000, .d true)] ++ kH k1) (k1.b (av h3 apn))
  ·
   have k2 := k1.a [(148, .d false), (152, .v (.ro [.val (.int .i64 x2)])), (156, .v (i6 (a8.length : Int)))] (av h3 (apc (ig eI64 1 .i64 h2) (apc (lg a8 eName 5) apn)))
   apply bi h <;> intro h4 h
   ·
    rw [← sj h]
    exact xy ([(157, .d true), (6000, .d true)] ++ kH k2) (k2.b (av h4 apn))
   ·
    have k3 := k2.a [(157, .d false), (164, .v (.ro [.val (.int .i64 x2)]))] (av h4 (apc (ig eI64 1 .i64 h2) apn))
    apply bn h; intro x5 h5 h
    apply bi h <;> intro h6 h
    ·
     rw [← sj h]
     exact xy ([(166, .v (.ro (eName x5))), (171, .d true), (6000, .d true)] ++ kH k3) (k3.b (apc (ig eName 5 .i64 h5) (av h6 apn)))
    ·
     rw [← sj h]
     exact rn ([(166, .v (.ro (eName x5))), (171, .d false), (6000, .d true)] ++ kH k3) (k3.b (apc (ig eName 5 .i64 h5) (av h6 (apc (L5_0_2_k a1 a2 a3 a4 a5 a6 a7 a8 (w6 (v1 + 1))) apn))))
 ·
  rw [← sj h]
  exact xb ([(141, .d false), (6000, .d true)] ++ kH k0) (k0.b (av h1 apn))
theorem L5_0_2_run (s0 : Int) (e : E_L5_0_2) (h : runL (fun s => L5_0_2 a3 a4 a8 s) s0 = some e) : L5_0_2_x a1 a2 a3 a4 a5 a6 a7 a8 e (L5_0_2_e a1 a2 a3 a4 a5 a6 a7 a8 s0) := by
  have q := @loop_sound' (Int) E_L5_0_2 (fun s => L5_0_2 a3 a4 a8 s) (fun s => L5_0_2_e a1 a2 a3 a4 a5 a6 a7 a8 s) (L5_0_2_x a1 a2 a3 a4 a5 a6 a7 a8) (fun s r h => L5_0_2_ok a1 a2 a3 a4 a5 a6 a7 a8 s h) s0 e h
  exact q
end
def F5_v (a1 : ScopesD) (a2 : Int) (a3 : ByteArray) (x0 : Bool) : AV := (vb x0)
def F5 (a1 : ScopesD) (a2 : Int) (a3 : ByteArray) : Option Bool :=
  ((F7 a1).bind fun x1 => (bif x1 then ((F10 a1).bind fun x3 => (bif x3 then (bif (decide (a2 < 0)) then ((F8).bind fun x6 => (some x6)) else (bif (decide (a2 ≥ (a1.uses.length : Int))) then ((F8).bind fun x7 => (some x7)) else ((F12 a1 a2).bind fun r7 => match r7 with | .k0 x7_0 x7_1 => ((getI a1.uses a2).bind fun x8 => ((runL (fun s => L5_1 a1 s.1 s.2) (x8.frm, 0)).bind fun r9 => match r9 with | .k0 x9_0 => (bif (nilOk a1.decl.length 56) then (bif (apOk a1.decl.length 1 a1.decl.length 56) then (bif (decide (a1.decl.length + 1 ≤ a1.decl.length)) then (bif (decide ((a1.decl.length + 1) ≤ (splice a1.decl a1.decl.length [(⟨x8.scp, a3, x8.txt, x9_0, x9_0⟩ : NameD)]).length)) then ((F12 (⟨a1.all, ((splice a1.decl a1.decl.length [(⟨x8.scp, a3, x8.txt, x9_0, x9_0⟩ : NameD)]).take (a1.decl.length + 1)), a1.uses⟩ : ScopesD) a2).bind fun r14 => match r14 with | .k0 x14_0 x14_1 => (bif (x7_1 != 0) then (some false) else (bif (x14_1 != 0) then (some false) else ((F15 a1 x8).bind fun x17 => ((F14 x7_0 x17).bind fun x18 => (bif x18 then (bif (!(a3.toList == x8.spc.toList)) then ((F14 x7_0 x14_0).bind fun x21 => (bif x21 then ((F8).bind fun x23 => (some x23)) else (some false))) else (bif ((x14_0.length : Int) == 0) then (some false) else ((getI x14_0 (IntKind.wrap .i64 ((x14_0.length : Int) - 1))).bind fun x22 => (bif (x22 != (a1.decl.length : Int)) then (some false) else ((runL (fun s => L5_0 x14_0 x8 ((splice a1.decl a1.decl.length [(⟨x8.scp, a3, x8.txt, x9_0, x9_0⟩ : NameD)]).take (a1.decl.length + 1)) s) 0).bind fun r24 => match r24 with | .k0 => (some false) | .k1 => (bif (decide ((x7_0.length : Int) > 0)) then ((getI x7_0 0).bind fun x26 => ((getI a1.decl x26).bind fun x27 => (bif (x27.scp == x8.scp) then (bif ((x14_0.length : Int) == (IntKind.wrap .i64 ((x7_0.length : Int) + 1))) then ((F8).bind fun x30 => (some x30)) else (some false)) else (bif ((x14_0.length : Int) == 1) then ((F8).bind fun x30 => (some x30)) else (some false))))) else (bif ((x14_0.length : Int) == 1) then ((F8).bind fun x27 => (some x27)) else (some false)))))))) else (some false))))))) else none) else (bif (decide ((a1.decl.length + 1) ≤ (a1.decl.take a1.decl.length ++ [(⟨x8.scp, a3, x8.txt, x9_0, x9_0⟩ : NameD)]).length)) then ((F12 (⟨a1.all, ((a1.decl.take a1.decl.length ++ [(⟨x8.scp, a3, x8.txt, x9_0, x9_0⟩ : NameD)]).take (a1.decl.length + 1)), a1.uses⟩ : ScopesD) a2).bind fun r14 => match r14 with | .k0 x14_0 x14_1 => (bif (x7_1 != 0) then (some false) else (bif (x14_1 != 0) then (some false) else ((F15 a1 x8).bind fun x17 => ((F14 x7_0 x17).bind fun x18 => (bif x18 then (bif (!(a3.toList == x8.spc.toList)) then ((F14 x7_0 x14_0).bind fun x21 => (bif x21 then ((F8).bind fun x23 => (some x23)) else (some false))) else (bif ((x14_0.length : Int) == 0) then (some false) else ((getI x14_0 (IntKind.wrap .i64 ((x14_0.length : Int) - 1))).bind fun x22 => (bif (x22 != (a1.decl.length : Int)) then (some false) else ((runL (fun s => L5_0_2 x14_0 x8 ((a1.decl.take a1.decl.length ++ [(⟨x8.scp, a3, x8.txt, x9_0, x9_0⟩ : NameD)]).take (a1.decl.length + 1)) s) 0).bind fun r24 => match r24 with | .k0 => (some false) | .k1 => (bif (decide ((x7_0.length : Int) > 0)) then ((getI x7_0 0).bind fun x26 => ((getI a1.decl x26).bind fun x27 => (bif (x27.scp == x8.scp) then (bif ((x14_0.length : Int) == (IntKind.wrap .i64 ((x7_0.length : Int) + 1))) then ((F8).bind fun x30 => (some x30)) else (some false)) else (bif ((x14_0.length : Int) == 1) then ((F8).bind fun x30 => (some x30)) else (some false))))) else (bif ((x14_0.length : Int) == 1) then ((F8).bind fun x27 => (some x27)) else (some false)))))))) else (some false))))))) else none)) else none) else none)))))) else ((F8).bind fun x5 => (some x5)))) else ((F8).bind fun x3 => (some x3))))
abbrev F5_d0 (g9 : Nat → AV) (a2 : Int) (a3 : ByteArray) (a1 : ScopesD) (x7_0 : List Int) (x7_1 x9_0 : Int) (x8 : NameD) : St := ⟨fr 210 g9 [(1, i6 a2), (2, vs a3), (3, (.ro (eScps a1))), (7, ls 1 eI64 x7_0), (8, i6 x7_1), (9, .ptr 0 0), (10, i6 x9_0)], [.cells 34 ((eName x8).map .p)]⟩
abbrev F5_d1 (x8 : NameD) (a3 : ByteArray) (x9_0 : Int) (a1 : ScopesD) : List AB := [.cells 34 ((eName x8).map .p), .cells 34 [i6 x8.scp, vs a3, vs x8.txt, i6 x9_0, i6 x9_0], yN 0 a1.decl, .row 34 5 0 [[i6 x8.scp, vs a3, vs x8.txt, i6 x9_0, i6 x9_0]], .hole, .hole, .hole, .hole]
abbrev F5_d2 (x8 : NameD) (a3 : ByteArray) (x9_0 : Int) (a1 : ScopesD) : List AB := [.cells 34 ((eName x8).map .p), .cells 34 [i6 x8.scp, vs a3, vs x8.txt, i6 x9_0, i6 x9_0], yN 0 (splice a1.decl a1.decl.length [(⟨x8.scp, a3, x8.txt, x9_0, x9_0⟩ : NameD)]), .row 34 5 0 [[i6 x8.scp, vs a3, vs x8.txt, i6 x9_0, i6 x9_0]], .hole, .hole, .hole, .hole]
abbrev F5_d3 (x8 : NameD) (a3 : ByteArray) (x9_0 : Int) (a1 : ScopesD) : List AB := [.cells 34 ((eName x8).map .p), .cells 34 [i6 x8.scp, vs a3, vs x8.txt, i6 x9_0, i6 x9_0], .frz 5 0 ((splice a1.decl a1.decl.length [(⟨x8.scp, a3, x8.txt, x9_0, x9_0⟩ : NameD)]).map eName), .row 34 5 0 [[i6 x8.scp, vs a3, vs x8.txt, i6 x9_0, i6 x9_0]], .row 54 3 0 (ra eScope []), yN0, yN0, .cells 25 [ls 3 eScope a1.all, (.p (.lst 5 (((splice a1.decl a1.decl.length [(⟨x8.scp, a3, x8.txt, x9_0, x9_0⟩ : NameD)]).take (a1.decl.length + 1)).map eName))), ls 5 eName a1.uses]]
abbrev F5_d4 (g24 : Nat → AV) (a1 : ScopesD) (x7_0 x14_0 : List Int) (x8 : NameD) (a3 : ByteArray) (x9_0 : Int) : St := ⟨fr 210 g24 [(3, (.ro (eScps a1))), (7, ls 1 eI64 x7_0), (9, .ptr 0 0), (13, .ptr 7 0), (14, ls 1 eI64 x14_0)], [.cells 34 ((eName x8).map .p), .cells 34 [i6 x8.scp, vs a3, vs x8.txt, i6 x9_0, i6 x9_0], .frz 5 0 ((splice a1.decl a1.decl.length [(⟨x8.scp, a3, x8.txt, x9_0, x9_0⟩ : NameD)]).map eName), .row 34 5 0 [[i6 x8.scp, vs a3, vs x8.txt, i6 x9_0, i6 x9_0]], .row 54 3 0 (ra eScope []), yN0, yN0, .cells 25 [ls 3 eScope a1.all, (.p (.lst 5 (((splice a1.decl a1.decl.length [(⟨x8.scp, a3, x8.txt, x9_0, x9_0⟩ : NameD)]).take (a1.decl.length + 1)).map eName))), ls 5 eName a1.uses]]⟩
abbrev F5_d5 (x8 : NameD) (a3 : ByteArray) (x9_0 : Int) (a1 : ScopesD) : List AB := [.cells 34 ((eName x8).map .p), .cells 34 [i6 x8.scp, vs a3, vs x8.txt, i6 x9_0, i6 x9_0], yN 1 (a1.decl.take a1.decl.length ++ [(⟨x8.scp, a3, x8.txt, x9_0, x9_0⟩ : NameD)]), .row 34 5 0 [[i6 x8.scp, vs a3, vs x8.txt, i6 x9_0, i6 x9_0]], .hole, .hole, .hole, .hole]
abbrev F5_d6 (x8 : NameD) (a3 : ByteArray) (x9_0 : Int) (a1 : ScopesD) : List AB := [.cells 34 ((eName x8).map .p), .cells 34 [i6 x8.scp, vs a3, vs x8.txt, i6 x9_0, i6 x9_0], .frz 5 1 ((a1.decl.take a1.decl.length ++ [(⟨x8.scp, a3, x8.txt, x9_0, x9_0⟩ : NameD)]).map eName), .row 34 5 0 [[i6 x8.scp, vs a3, vs x8.txt, i6 x9_0, i6 x9_0]], .row 54 3 0 (ra eScope []), yN0, yN0, .cells 25 [ls 3 eScope a1.all, (.p (.lst 5 (((a1.decl.take a1.decl.length ++ [(⟨x8.scp, a3, x8.txt, x9_0, x9_0⟩ : NameD)]).take (a1.decl.length + 1)).map eName))), ls 5 eName a1.uses]]
abbrev F5_d7 (g24 : Nat → AV) (a1 : ScopesD) (x7_0 x14_0 : List Int) (x8 : NameD) (a3 : ByteArray) (x9_0 : Int) : St := ⟨fr 210 g24 [(3, (.ro (eScps a1))), (7, ls 1 eI64 x7_0), (9, .ptr 0 0), (13, .ptr 7 0), (14, ls 1 eI64 x14_0)], [.cells 34 ((eName x8).map .p), .cells 34 [i6 x8.scp, vs a3, vs x8.txt, i6 x9_0, i6 x9_0], .frz 5 1 ((a1.decl.take a1.decl.length ++ [(⟨x8.scp, a3, x8.txt, x9_0, x9_0⟩ : NameD)]).map eName), .row 34 5 0 [[i6 x8.scp, vs a3, vs x8.txt, i6 x9_0, i6 x9_0]], .row 54 3 0 (ra eScope []), yN0, yN0, .cells 25 [ls 3 eScope a1.all, (.p (.lst 5 (((a1.decl.take a1.decl.length ++ [(⟨x8.scp, a3, x8.txt, x9_0, x9_0⟩ : NameD)]).take (a1.decl.length + 1)).map eName))), ls 5 eName a1.uses]]⟩
theorem F5_ok (a1 : ScopesD) (a2 : Int) (a3 : ByteArray) {r : Bool} (h : F5 a1 a2 a3 = some r) : PR1 prg 5 [(.agg ((eScps a1).map .p)), i6 a2, vs a3] (F5_v a1 a2 a3 r) := by
 unfold F5 at h
 apply bn h; intro x1 h1 h
 apply bi h <;> intro h2 h
 ·
  have q0 := ((((F7_ok a1 h1).cp rfl _).trans (congrArg (fun z => some (vb z)) h2)) : CP prg 7 [(.agg ((eScps a1).map .p))] [] = some (vb true))
  apply bn h; intro x3 h3 h
  apply bi h <;> intro h4 h
  ·
   have q1 := ((((F10_ok a1 h3).cp rfl _).trans (congrArg (fun z => some (vb z)) h4)) : CP prg 10 [(.agg ((eScps a1).map .p))] [] = some (vb true))
   have k2 := ka [(19, .v (vb true)), (23, .v (vb true))] (apc q0 (apc q1 apn))
   apply bi h <;> intro h5 h
   ·
    apply bn h; intro x6 h6 h
    rw [← sj h]
    exact fq ([(28, .d true), (37, .v (vb x6))] ++ kH k2) (k2.b (av h5 (apc (((F8_ok  h6).cp rfl _) : CP prg 8 [] [] = some (vb x6)) apn)))
   ·
    have k3 := k2.a [(28, .d false), (34, .v (i6 (a1.uses.length : Int)))] (av h5 (apc (lg a1.uses eName 5) apn))
    apply bi h <;> intro h6 h
    ·
     apply bn h; intro x7 h7 h
     rw [← sj h]
     exact fq ([(35, .d true), (37, .v (vb x7))] ++ kH k3) (k3.b (av h6 (apc (((F8_ok  h7).cp rfl _) : CP prg 8 [] [] = some (vb x7)) apn)))
    ·
     apply bn h; intro r7 h7 h
     cases r7 with
     | k0 x7_0 x7_1 =>
      have q4 := (((F12_ok a1 a2 h7).cp rfl _) : CP prg 12 [(.agg ((eScps a1).map .p)), i6 a2] [] = some (.tup [ls 1 eI64 x7_0, i6 x7_1]))
      have k5 := k3.a [(35, .d false), (41, .v (.tup [ls 1 eI64 x7_0, i6 x7_1]))] (av h6 (apc q4 apn))
      apply bn h; intro x8 h8 h
      apply bn h; intro r9 h9 h
      cases r9 with
      | k0 x9_0 =>
       obtain ⟨g9, e9⟩ := L5_1_run a2 a3 a1 x7_0 x7_1 x8 (x8.frm, 0) _ h9
       have q6 := (e9 : L5_1_e a2 a3 a1 x7_0 x7_1 x8 x8.frm 0 = some ((.brk 0), F5_d0 g9 a2 a3 a1 x7_0 x7_1 x9_0 x8))
       have k7 := k5.a [(47, .v (.ro (eName x8))), (2000, .l (.brk 0) (F5_d0 g9 a2 a3 a1 x7_0 x7_1 x9_0 x8))] (apc (ig eName 5 .i64 h8) (apc (L5_1_k a2 a3 a1 x7_0 x7_1 x8 x8.frm 0) (apc q6 apn)))
       apply bi h <;> intro h10 h
       ·
        have q8 := ((apN_l (e := eName) (news := a1.decl) rows_l rfl h10) : apN 34 5 56 (ls 5 eName a1.decl) 2 = some ((.sl 2 0 5 0 a1.decl.length), [yN 0 a1.decl]))
        have k9 := k7.a [(81, .r (.sl 2 0 5 0 a1.decl.length) [yN 0 a1.decl])] (apc q8 apn)
        apply bi h <;> intro h11 h
        ·
         apply bi h <;> intro h12 h
         ·
          have q10 := ((ap_in (e := eName) (xs := a1.decl) (news := [(⟨x8.scp, a3, x8.txt, x9_0, x9_0⟩ : NameD)]) rfl (rows_x (e := eName) (xs := [(⟨x8.scp, a3, x8.txt, x9_0, x9_0⟩ : NameD)]) rfl) rfl h11 h12) : appA (F5_d1 x8 a3 x9_0 a1) 34 5 56 (.sl 2 0 5 0 a1.decl.length) (.sl 3 0 5 0 1) = some ((.sl 2 0 5 0 (a1.decl.length + 1)), F5_d2 x8 a3 x9_0 a1))
          have k11 := k9.a [(84, .r (.sl 2 0 5 0 (a1.decl.length + 1)) (F5_d2 x8 a3 x9_0 a1))] (apc q10 apn)
          apply bi h <;> intro h13 h
          ·
           have q12 := ((frzS_cel (e := eName) (xs := (splice a1.decl a1.decl.length [(⟨x8.scp, a3, x8.txt, x9_0, x9_0⟩ : NameD)])) rfl rfl rfl rfl rfl (by exact (frzL_p (frzL_s (e := eName) (l := (splice a1.decl a1.decl.length [(⟨x8.scp, a3, x8.txt, x9_0, x9_0⟩ : NameD)])) rfl h13 (frzL_p frzL_nil)))) (by kernel_rfl)) : frzS [13] [] [] ⟨[g9 0, i6 a2, vs a3, (.ro (eScps a1)), g9 4, g9 5, g9 6, ls 1 eI64 x7_0, i6 x7_1, .ptr 0 0, i6 x9_0, g9 11, .ptr 1 0, .ptr 7 0, g9 14, g9 15, g9 16, g9 17, g9 18, g9 19, g9 20, g9 21, g9 22, g9 23, g9 24, g9 25, g9 26, g9 27, g9 28, g9 29, g9 30, g9 31, g9 32, g9 33, g9 34, g9 35, g9 36, g9 37, g9 38, g9 39, g9 40, g9 41, g9 42, g9 43, g9 44, g9 45, g9 46, g9 47, g9 48, g9 49, g9 50, g9 51, g9 52, g9 53, g9 54, g9 55, g9 56, g9 57, g9 58, g9 59, g9 60, g9 61, g9 62, g9 63, g9 64, g9 65, g9 66, g9 67, .ptr 0 0, i6 x8.scp, vs a3, .ptr 0 2, vs x8.txt, i6 x9_0, i6 x9_0, (.agg [i6 x9_0, i6 x9_0]), (.agg [i6 x8.scp, vs a3, vs x8.txt, i6 x9_0, i6 x9_0]), (.ro (eScps a1)), ls 3 eScope a1.all, (.ro (List.drop 1 (eScps a1))), ls 5 eName a1.decl, .sl 2 0 5 0 a1.decl.length, (.agg [i6 x8.scp, vs a3, vs x8.txt, i6 x9_0, i6 x9_0]), .sl 3 0 5 0 1, (.sl 2 0 5 0 (a1.decl.length + 1)), (.ro [.lst 5 (a1.uses.map eName)]), ls 5 eName a1.uses, (.agg [ls 3 eScope a1.all, (.sl 2 0 5 0 (a1.decl.length + 1)), ls 5 eName a1.uses]), g9 88, g9 89, g9 90, g9 91, g9 92, g9 93, g9 94, g9 95, g9 96, g9 97, g9 98, g9 99, g9 100, g9 101, g9 102, g9 103, g9 104, g9 105, g9 106, g9 107, g9 108, g9 109, g9 110, g9 111, g9 112, g9 113, g9 114, g9 115, g9 116, g9 117, g9 118, g9 119, g9 120, g9 121, g9 122, g9 123, g9 124, g9 125, g9 126, g9 127, g9 128, g9 129, g9 130, g9 131, g9 132, g9 133, g9 134, g9 135, g9 136, g9 137, g9 138, g9 139, g9 140, g9 141, g9 142, g9 143, g9 144, g9 145, g9 146, g9 147, g9 148, g9 149, g9 150, g9 151, g9 152, g9 153, g9 154, g9 155, g9 156, g9 157, g9 158, g9 159, g9 160, g9 161, g9 162, g9 163, g9 164, g9 165, g9 166, g9 167, g9 168, g9 169, g9 170, g9 171, g9 172, g9 173, g9 174, g9 175, g9 176, g9 177, g9 178, g9 179, g9 180, g9 181, g9 182, g9 183, g9 184, g9 185, g9 186, g9 187, g9 188, g9 189, g9 190, g9 191, g9 192, g9 193, g9 194, g9 195, g9 196, g9 197, g9 198, g9 199, g9 200, g9 201, g9 202, g9 203, g9 204, g9 205, g9 206, g9 207, g9 208, g9 209], [.cells 34 ((eName x8).map .p), .cells 34 [i6 x8.scp, vs a3, vs x8.txt, i6 x9_0, i6 x9_0], yN 0 (splice a1.decl a1.decl.length [(⟨x8.scp, a3, x8.txt, x9_0, x9_0⟩ : NameD)]), .row 34 5 0 [[i6 x8.scp, vs a3, vs x8.txt, i6 x9_0, i6 x9_0]], .row 54 3 0 (ra eScope []), yN0, yN0, .cells 25 [ls 3 eScope a1.all, (.sl 2 0 5 0 (a1.decl.length + 1)), ls 5 eName a1.uses]]⟩ = ⟨[g9 0, i6 a2, vs a3, (.ro (eScps a1)), g9 4, g9 5, g9 6, ls 1 eI64 x7_0, i6 x7_1, .ptr 0 0, i6 x9_0, g9 11, .ptr 1 0, .ptr 7 0, g9 14, g9 15, g9 16, g9 17, g9 18, g9 19, g9 20, g9 21, g9 22, g9 23, g9 24, g9 25, g9 26, g9 27, g9 28, g9 29, g9 30, g9 31, g9 32, g9 33, g9 34, g9 35, g9 36, g9 37, g9 38, g9 39, g9 40, g9 41, g9 42, g9 43, g9 44, g9 45, g9 46, g9 47, g9 48, g9 49, g9 50, g9 51, g9 52, g9 53, g9 54, g9 55, g9 56, g9 57, g9 58, g9 59, g9 60, g9 61, g9 62, g9 63, g9 64, g9 65, g9 66, g9 67, .ptr 0 0, i6 x8.scp, vs a3, .ptr 0 2, vs x8.txt, i6 x9_0, i6 x9_0, (.agg [i6 x9_0, i6 x9_0]), (.agg [i6 x8.scp, vs a3, vs x8.txt, i6 x9_0, i6 x9_0]), (.ro (eScps a1)), ls 3 eScope a1.all, (.ro (List.drop 1 (eScps a1))), ls 5 eName a1.decl, .sl 2 0 5 0 a1.decl.length, (.agg [i6 x8.scp, vs a3, vs x8.txt, i6 x9_0, i6 x9_0]), .sl 3 0 5 0 1, (.sl 2 0 5 0 (a1.decl.length + 1)), (.ro [.lst 5 (a1.uses.map eName)]), ls 5 eName a1.uses, (.agg [ls 3 eScope a1.all, (.sl 2 0 5 0 (a1.decl.length + 1)), ls 5 eName a1.uses]), g9 88, g9 89, g9 90, g9 91, g9 92, g9 93, g9 94, g9 95, g9 96, g9 97, g9 98, g9 99, g9 100, g9 101, g9 102, g9 103, g9 104, g9 105, g9 106, g9 107, g9 108, g9 109, g9 110, g9 111, g9 112, g9 113, g9 114, g9 115, g9 116, g9 117, g9 118, g9 119, g9 120, g9 121, g9 122, g9 123, g9 124, g9 125, g9 126, g9 127, g9 128, g9 129, g9 130, g9 131, g9 132, g9 133, g9 134, g9 135, g9 136, g9 137, g9 138, g9 139, g9 140, g9 141, g9 142, g9 143, g9 144, g9 145, g9 146, g9 147, g9 148, g9 149, g9 150, g9 151, g9 152, g9 153, g9 154, g9 155, g9 156, g9 157, g9 158, g9 159, g9 160, g9 161, g9 162, g9 163, g9 164, g9 165, g9 166, g9 167, g9 168, g9 169, g9 170, g9 171, g9 172, g9 173, g9 174, g9 175, g9 176, g9 177, g9 178, g9 179, g9 180, g9 181, g9 182, g9 183, g9 184, g9 185, g9 186, g9 187, g9 188, g9 189, g9 190, g9 191, g9 192, g9 193, g9 194, g9 195, g9 196, g9 197, g9 198, g9 199, g9 200, g9 201, g9 202, g9 203, g9 204, g9 205, g9 206, g9 207, g9 208, g9 209], F5_d3 x8 a3 x9_0 a1⟩)
           have k13 := k11.a [(9013, .l .norm ⟨[g9 0, i6 a2, vs a3, (.ro (eScps a1)), g9 4, g9 5, g9 6, ls 1 eI64 x7_0, i6 x7_1, .ptr 0 0, i6 x9_0, g9 11, .ptr 1 0, .ptr 7 0, g9 14, g9 15, g9 16, g9 17, g9 18, g9 19, g9 20, g9 21, g9 22, g9 23, g9 24, g9 25, g9 26, g9 27, g9 28, g9 29, g9 30, g9 31, g9 32, g9 33, g9 34, g9 35, g9 36, g9 37, g9 38, g9 39, g9 40, g9 41, g9 42, g9 43, g9 44, g9 45, g9 46, g9 47, g9 48, g9 49, g9 50, g9 51, g9 52, g9 53, g9 54, g9 55, g9 56, g9 57, g9 58, g9 59, g9 60, g9 61, g9 62, g9 63, g9 64, g9 65, g9 66, g9 67, .ptr 0 0, i6 x8.scp, vs a3, .ptr 0 2, vs x8.txt, i6 x9_0, i6 x9_0, (.agg [i6 x9_0, i6 x9_0]), (.agg [i6 x8.scp, vs a3, vs x8.txt, i6 x9_0, i6 x9_0]), (.ro (eScps a1)), ls 3 eScope a1.all, (.ro (List.drop 1 (eScps a1))), ls 5 eName a1.decl, .sl 2 0 5 0 a1.decl.length, (.agg [i6 x8.scp, vs a3, vs x8.txt, i6 x9_0, i6 x9_0]), .sl 3 0 5 0 1, (.sl 2 0 5 0 (a1.decl.length + 1)), (.ro [.lst 5 (a1.uses.map eName)]), ls 5 eName a1.uses, (.agg [ls 3 eScope a1.all, (.sl 2 0 5 0 (a1.decl.length + 1)), ls 5 eName a1.uses]), g9 88, g9 89, g9 90, g9 91, g9 92, g9 93, g9 94, g9 95, g9 96, g9 97, g9 98, g9 99, g9 100, g9 101, g9 102, g9 103, g9 104, g9 105, g9 106, g9 107, g9 108, g9 109, g9 110, g9 111, g9 112, g9 113, g9 114, g9 115, g9 116, g9 117, g9 118, g9 119, g9 120, g9 121, g9 122, g9 123, g9 124, g9 125, g9 126, g9 127, g9 128, g9 129, g9 130, g9 131, g9 132, g9 133, g9 134, g9 135, g9 136, g9 137, g9 138, g9 139, g9 140, g9 141, g9 142, g9 143, g9 144, g9 145, g9 146, g9 147, g9 148, g9 149, g9 150, g9 151, g9 152, g9 153, g9 154, g9 155, g9 156, g9 157, g9 158, g9 159, g9 160, g9 161, g9 162, g9 163, g9 164, g9 165, g9 166, g9 167, g9 168, g9 169, g9 170, g9 171, g9 172, g9 173, g9 174, g9 175, g9 176, g9 177, g9 178, g9 179, g9 180, g9 181, g9 182, g9 183, g9 184, g9 185, g9 186, g9 187, g9 188, g9 189, g9 190, g9 191, g9 192, g9 193, g9 194, g9 195, g9 196, g9 197, g9 198, g9 199, g9 200, g9 201, g9 202, g9 203, g9 204, g9 205, g9 206, g9 207, g9 208, g9 209], F5_d3 x8 a3 x9_0 a1⟩)] (apc q12 apn)
           apply bn h; intro r14 h14 h
           cases r14 with
           | k0 x14_0 x14_1 =>
            have q14 := (((F12_ok (⟨a1.all, ((splice a1.decl a1.decl.length [(⟨x8.scp, a3, x8.txt, x9_0, x9_0⟩ : NameD)]).take (a1.decl.length + 1)), a1.uses⟩ : ScopesD) a2 h14).cp rfl _) : CP prg 12 [(.agg [ls 3 eScope a1.all, (.p (.lst 5 (((splice a1.decl a1.decl.length [(⟨x8.scp, a3, x8.txt, x9_0, x9_0⟩ : NameD)]).take (a1.decl.length + 1)).map eName))), ls 5 eName a1.uses]), i6 a2] (F5_d3 x8 a3 x9_0 a1) = some (.tup [ls 1 eI64 x14_0, i6 x14_1]))
            have q15 := (L5_0_k a1 x7_0 x14_0 x8 a3 x9_0 (splice a1.decl a1.decl.length [(⟨x8.scp, a3, x8.txt, x9_0, x9_0⟩ : NameD)]) ((splice a1.decl a1.decl.length [(⟨x8.scp, a3, x8.txt, x9_0, x9_0⟩ : NameD)]).take (a1.decl.length + 1)) 0)
            have k16 := k13.a [(91, .v (.tup [ls 1 eI64 x14_0, i6 x14_1]))] (apc q14 apn)
            apply bi h <;> intro h15 h
            ·
             rw [← sj h]
             exact fq ([(95, .d true), (6000, .d true)] ++ kH k16) (k16.b (av h15 apn))
            ·
             apply bi h <;> intro h16 h
             ·
              rw [← sj h]
              exact fq ([(95, .d false), (98, .d true), (6000, .d true)] ++ kH k16) (k16.b (av h15 (av h16 apn)))
             ·
              have k17 := k16.a [(95, .d false), (98, .d false)] (av h15 (av h16 apn))
              apply bn h; intro x17 h17 h
              have q18 := (((F15_ok a1 x8 h17).cp rfl _) : CP prg 15 [(.agg ((eScps a1).map .p)), i6 x8.scp, vs x8.spc, vs x8.txt] (F5_d3 x8 a3 x9_0 a1) = some (ls 1 eI64 x17))
              apply bn h; intro x18 h18 h
              apply bi h <;> intro h19 h
              ·
               have q19 := ((((F14_ok x7_0 x17 h18).cp rfl _).trans (congrArg (fun z => some (vb z)) h19)) : CP prg 14 [ls 1 eI64 x7_0, ls 1 eI64 x17] (F5_d3 x8 a3 x9_0 a1) = some (vb true))
               have k20 := k17.a [(109, .v (ls 1 eI64 x17)), (110, .v (vb true))] (apc q18 (apc q19 apn))
               apply bi h <;> intro h20 h
               ·
                apply bn h; intro x21 h21 h
                apply bi h <;> intro h22 h
                ·
                 apply bn h; intro x23 h23 h
                 rw [← sj h]
                 exact fq ([(116, .d true), (119, .v (vb true)), (121, .v (vb x23)), (6000, .d true)] ++ kH k20) (k20.b (av h20 (apc ((((F14_ok x7_0 x14_0 h21).cp rfl _).trans (congrArg (fun z => some (vb z)) h22)) : CP prg 14 [ls 1 eI64 x7_0, ls 1 eI64 x14_0] (F5_d3 x8 a3 x9_0 a1) = some (vb true)) (apc (((F8_ok  h23).cp rfl _) : CP prg 8 [] (F5_d3 x8 a3 x9_0 a1) = some (vb x23)) apn))))
                ·
                 rw [← sj h]
                 exact fq ([(116, .d true), (119, .v (vb false)), (6000, .d true)] ++ kH k20) (k20.b (av h20 (apc ((((F14_ok x7_0 x14_0 h21).cp rfl _).trans (congrArg (fun z => some (vb z)) h22)) : CP prg 14 [ls 1 eI64 x7_0, ls 1 eI64 x14_0] (F5_d3 x8 a3 x9_0 a1) = some (vb false)) apn)))
               ·
                have k21 := k20.a [(116, .d false), (124, .v (i6 (x14_0.length : Int)))] (av h20 (apc (lg x14_0 eI64 1) apn))
                apply bi h <;> intro h21 h
                ·
                 rw [← sj h]
                 exact fq ([(125, .d true), (6000, .d true)] ++ kH k21) (k21.b (av h21 apn))
                ·
                 have k22 := k21.a [(125, .d false), (129, .v (i6 (x14_0.length : Int)))] (av h21 (apc (lg x14_0 eI64 1) apn))
                 apply bn h; intro x22 h22 h
                 have k23 := k22.a [(131, .v (.ro [.val (.int .i64 x22)])), (135, .v (i6 (a1.decl.length : Int)))] (apc (ig eI64 1 .i64 h22) (apc (lg a1.decl eName 5) apn))
                 apply bi h <;> intro h23 h
                 ·
                  rw [← sj h]
                  exact fq ([(136, .d true), (6000, .d true)] ++ kH k23) (k23.b (av h23 apn))
                 ·
                  apply bn h; intro r24 h24 h
                  cases r24 with
                  | k0 =>
                   obtain ⟨g24, y24, e24⟩ := L5_0_run a1 x7_0 x14_0 x8 a3 x9_0 (splice a1.decl a1.decl.length [(⟨x8.scp, a3, x8.txt, x9_0, x9_0⟩ : NameD)]) ((splice a1.decl a1.decl.length [(⟨x8.scp, a3, x8.txt, x9_0, x9_0⟩ : NameD)]).take (a1.decl.length + 1)) 0 _ h24
                   rw [← sj h]
                   exact fq ([(136, .d false), (2002, .l .ret ⟨fr 210 g24 [(6, vb false)], y24⟩), (6000, .d true)] ++ kH k23) (k23.b (av h23 (apc q15 (apc (e24 : L5_0_e a1 x7_0 x14_0 x8 a3 x9_0 (splice a1.decl a1.decl.length [(⟨x8.scp, a3, x8.txt, x9_0, x9_0⟩ : NameD)]) ((splice a1.decl a1.decl.length [(⟨x8.scp, a3, x8.txt, x9_0, x9_0⟩ : NameD)]).take (a1.decl.length + 1)) 0 = some (.ret, ⟨fr 210 g24 [(6, vb false)], y24⟩)) apn))))
                  | k1 =>
                   obtain ⟨g24, e24⟩ := L5_0_run a1 x7_0 x14_0 x8 a3 x9_0 (splice a1.decl a1.decl.length [(⟨x8.scp, a3, x8.txt, x9_0, x9_0⟩ : NameD)]) ((splice a1.decl a1.decl.length [(⟨x8.scp, a3, x8.txt, x9_0, x9_0⟩ : NameD)]).take (a1.decl.length + 1)) 0 _ h24
                   have q24 := (e24 : L5_0_e a1 x7_0 x14_0 x8 a3 x9_0 (splice a1.decl a1.decl.length [(⟨x8.scp, a3, x8.txt, x9_0, x9_0⟩ : NameD)]) ((splice a1.decl a1.decl.length [(⟨x8.scp, a3, x8.txt, x9_0, x9_0⟩ : NameD)]).take (a1.decl.length + 1)) 0 = some ((.brk 2), F5_d4 g24 a1 x7_0 x14_0 x8 a3 x9_0))
                   have k25 := k23.a [(136, .d false), (2002, .l (.brk 2) (F5_d4 g24 a1 x7_0 x14_0 x8 a3 x9_0)), (174, .v (i6 (x7_0.length : Int)))] (av h23 (apc q15 (apc q24 (apc (lg x7_0 eI64 1) apn))))
                   apply bi h <;> intro h25 h
                   ·
                    apply bn h; intro x26 h26 h
                    have k26 := k25.a [(175, .d true), (180, .v (.ro [.val (.int .i64 x26)]))] (av h25 (apc (ig eI64 1 .i64 h26) apn))
                    apply bn h; intro x27 h27 h
                    have k27 := k26.a [(182, .v (.ro (eName x27)))] (apc (ig eName 5 .i64 h27) apn)
                    apply bi h <;> intro h28 h
                    ·
                     have k28 := k27.a [(187, .d true), (192, .v (i6 (x14_0.length : Int))), (194, .v (i6 (x7_0.length : Int)))] (av h28 (apc (lg x14_0 eI64 1) (apc (lg x7_0 eI64 1) apn)))
                     apply bi h <;> intro h29 h
                     ·
                      apply bn h; intro x30 h30 h
                      rw [← sj h]
                      exact fq ([(196, .d true), (208, .v (vb x30)), (6000, .d true)] ++ kH k28) (k28.b (av h29 (apc (((F8_ok  h30).cp rfl _) : CP prg 8 [] (F5_d3 x8 a3 x9_0 a1) = some (vb x30)) apn)))
                     ·
                      rw [← sj h]
                      exact fq ([(196, .d false), (6000, .d true)] ++ kH k28) (k28.b (av h29 apn))
                    ·
                     have k29 := k27.a [(187, .d false), (203, .v (i6 (x14_0.length : Int)))] (av h28 (apc (lg x14_0 eI64 1) apn))
                     apply bi h <;> intro h29 h
                     ·
                      apply bn h; intro x30 h30 h
                      rw [← sj h]
                      exact fq ([(204, .d true), (208, .v (vb x30)), (6000, .d true)] ++ kH k29) (k29.b (av h29 (apc (((F8_ok  h30).cp rfl _) : CP prg 8 [] (F5_d3 x8 a3 x9_0 a1) = some (vb x30)) apn)))
                     ·
                      rw [← sj h]
                      exact fq ([(204, .d false), (6000, .d true)] ++ kH k29) (k29.b (av h29 apn))
                   ·
                    have k30 := k25.a [(175, .d false), (203, .v (i6 (x14_0.length : Int)))] (av h25 (apc (lg x14_0 eI64 1) apn))
                    apply bi h <;> intro h26 h
                    ·
                     apply bn h; intro x27 h27 h
                     rw [← sj h]
                     exact fq ([(204, .d true), (208, .v (vb x27)), (6000, .d true)] ++ kH k30) (k30.b (av h26 (apc (((F8_ok  h27).cp rfl _) : CP prg 8 [] (F5_d3 x8 a3 x9_0 a1) = some (vb x27)) apn)))
                    ·
                     rw [← sj h]
                     exact fq ([(204, .d false), (6000, .d true)] ++ kH k30) (k30.b (av h26 apn))
              ·
               rw [← sj h]
               exact fq ([(109, .v (ls 1 eI64 x17)), (110, .v (vb false)), (6000, .d true)] ++ kH k17) (k17.b (apc q18 (apc ((((F14_ok x7_0 x17 h18).cp rfl _).trans (congrArg (fun z => some (vb z)) h19)) : CP prg 14 [ls 1 eI64 x7_0, ls 1 eI64 x17] (F5_d3 x8 a3 x9_0 a1) = some (vb false)) apn)))
          ·
           cases h
         ·
          have q31 := ((ap_out (e := eName) (xs := a1.decl) (news := [(⟨x8.scp, a3, x8.txt, x9_0, x9_0⟩ : NameD)]) rfl (rows_x (e := eName) (xs := [(⟨x8.scp, a3, x8.txt, x9_0, x9_0⟩ : NameD)]) rfl) rfl h11 h12) : appA (F5_d1 x8 a3 x9_0 a1) 34 5 56 (.sl 2 0 5 0 a1.decl.length) (.sl 3 0 5 0 1) = some ((.sl 2 1 5 0 (a1.decl.length + 1)), F5_d5 x8 a3 x9_0 a1))
          have k32 := k9.a [(84, .r (.sl 2 1 5 0 (a1.decl.length + 1)) (F5_d5 x8 a3 x9_0 a1))] (apc q31 apn)
          apply bi h <;> intro h13 h
          ·
           have q33 := ((frzS_cel (e := eName) (xs := (a1.decl.take a1.decl.length ++ [(⟨x8.scp, a3, x8.txt, x9_0, x9_0⟩ : NameD)])) rfl rfl rfl rfl rfl (by exact (frzL_p (frzL_s (e := eName) (l := (a1.decl.take a1.decl.length ++ [(⟨x8.scp, a3, x8.txt, x9_0, x9_0⟩ : NameD)])) rfl h13 (frzL_p frzL_nil)))) (by kernel_rfl)) : frzS [13] [] [] ⟨[g9 0, i6 a2, vs a3, (.ro (eScps a1)), g9 4, g9 5, g9 6, ls 1 eI64 x7_0, i6 x7_1, .ptr 0 0, i6 x9_0, g9 11, .ptr 1 0, .ptr 7 0, g9 14, g9 15, g9 16, g9 17, g9 18, g9 19, g9 20, g9 21, g9 22, g9 23, g9 24, g9 25, g9 26, g9 27, g9 28, g9 29, g9 30, g9 31, g9 32, g9 33, g9 34, g9 35, g9 36, g9 37, g9 38, g9 39, g9 40, g9 41, g9 42, g9 43, g9 44, g9 45, g9 46, g9 47, g9 48, g9 49, g9 50, g9 51, g9 52, g9 53, g9 54, g9 55, g9 56, g9 57, g9 58, g9 59, g9 60, g9 61, g9 62, g9 63, g9 64, g9 65, g9 66, g9 67, .ptr 0 0, i6 x8.scp, vs a3, .ptr 0 2, vs x8.txt, i6 x9_0, i6 x9_0, (.agg [i6 x9_0, i6 x9_0]), (.agg [i6 x8.scp, vs a3, vs x8.txt, i6 x9_0, i6 x9_0]), (.ro (eScps a1)), ls 3 eScope a1.all, (.ro (List.drop 1 (eScps a1))), ls 5 eName a1.decl, .sl 2 0 5 0 a1.decl.length, (.agg [i6 x8.scp, vs a3, vs x8.txt, i6 x9_0, i6 x9_0]), .sl 3 0 5 0 1, (.sl 2 1 5 0 (a1.decl.length + 1)), (.ro [.lst 5 (a1.uses.map eName)]), ls 5 eName a1.uses, (.agg [ls 3 eScope a1.all, (.sl 2 1 5 0 (a1.decl.length + 1)), ls 5 eName a1.uses]), g9 88, g9 89, g9 90, g9 91, g9 92, g9 93, g9 94, g9 95, g9 96, g9 97, g9 98, g9 99, g9 100, g9 101, g9 102, g9 103, g9 104, g9 105, g9 106, g9 107, g9 108, g9 109, g9 110, g9 111, g9 112, g9 113, g9 114, g9 115, g9 116, g9 117, g9 118, g9 119, g9 120, g9 121, g9 122, g9 123, g9 124, g9 125, g9 126, g9 127, g9 128, g9 129, g9 130, g9 131, g9 132, g9 133, g9 134, g9 135, g9 136, g9 137, g9 138, g9 139, g9 140, g9 141, g9 142, g9 143, g9 144, g9 145, g9 146, g9 147, g9 148, g9 149, g9 150, g9 151, g9 152, g9 153, g9 154, g9 155, g9 156, g9 157, g9 158, g9 159, g9 160, g9 161, g9 162, g9 163, g9 164, g9 165, g9 166, g9 167, g9 168, g9 169, g9 170, g9 171, g9 172, g9 173, g9 174, g9 175, g9 176, g9 177, g9 178, g9 179, g9 180, g9 181, g9 182, g9 183, g9 184, g9 185, g9 186, g9 187, g9 188, g9 189, g9 190, g9 191, g9 192, g9 193, g9 194, g9 195, g9 196, g9 197, g9 198, g9 199, g9 200, g9 201, g9 202, g9 203, g9 204, g9 205, g9 206, g9 207, g9 208, g9 209], [.cells 34 ((eName x8).map .p), .cells 34 [i6 x8.scp, vs a3, vs x8.txt, i6 x9_0, i6 x9_0], yN 1 (a1.decl.take a1.decl.length ++ [(⟨x8.scp, a3, x8.txt, x9_0, x9_0⟩ : NameD)]), .row 34 5 0 [[i6 x8.scp, vs a3, vs x8.txt, i6 x9_0, i6 x9_0]], .row 54 3 0 (ra eScope []), yN0, yN0, .cells 25 [ls 3 eScope a1.all, (.sl 2 1 5 0 (a1.decl.length + 1)), ls 5 eName a1.uses]]⟩ = ⟨[g9 0, i6 a2, vs a3, (.ro (eScps a1)), g9 4, g9 5, g9 6, ls 1 eI64 x7_0, i6 x7_1, .ptr 0 0, i6 x9_0, g9 11, .ptr 1 0, .ptr 7 0, g9 14, g9 15, g9 16, g9 17, g9 18, g9 19, g9 20, g9 21, g9 22, g9 23, g9 24, g9 25, g9 26, g9 27, g9 28, g9 29, g9 30, g9 31, g9 32, g9 33, g9 34, g9 35, g9 36, g9 37, g9 38, g9 39, g9 40, g9 41, g9 42, g9 43, g9 44, g9 45, g9 46, g9 47, g9 48, g9 49, g9 50, g9 51, g9 52, g9 53, g9 54, g9 55, g9 56, g9 57, g9 58, g9 59, g9 60, g9 61, g9 62, g9 63, g9 64, g9 65, g9 66, g9 67, .ptr 0 0, i6 x8.scp, vs a3, .ptr 0 2, vs x8.txt, i6 x9_0, i6 x9_0, (.agg [i6 x9_0, i6 x9_0]), (.agg [i6 x8.scp, vs a3, vs x8.txt, i6 x9_0, i6 x9_0]), (.ro (eScps a1)), ls 3 eScope a1.all, (.ro (List.drop 1 (eScps a1))), ls 5 eName a1.decl, .sl 2 0 5 0 a1.decl.length, (.agg [i6 x8.scp, vs a3, vs x8.txt, i6 x9_0, i6 x9_0]), .sl 3 0 5 0 1, (.sl 2 1 5 0 (a1.decl.length + 1)), (.ro [.lst 5 (a1.uses.map eName)]), ls 5 eName a1.uses, (.agg [ls 3 eScope a1.all, (.sl 2 1 5 0 (a1.decl.length + 1)), ls 5 eName a1.uses]), g9 88, g9 89, g9 90, g9 91, g9 92, g9 93, g9 94, g9 95, g9 96, g9 97, g9 98, g9 99, g9 100, g9 101, g9 102, g9 103, g9 104, g9 105, g9 106, g9 107, g9 108, g9 109, g9 110, g9 111, g9 112, g9 113, g9 114, g9 115, g9 116, g9 117, g9 118, g9 119, g9 120, g9 121, g9 122, g9 123, g9 124, g9 125, g9 126, g9 127, g9 128, g9 129, g9 130, g9 131, g9 132, g9 133, g9 134, g9 135, g9 136, g9 137, g9 138, g9 139, g9 140, g9 141, g9 142, g9 143, g9 144, g9 145, g9 146, g9 147, g9 148, g9 149, g9 150, g9 151, g9 152, g9 153, g9 154, g9 155, g9 156, g9 157, g9 158, g9 159, g9 160, g9 161, g9 162, g9 163, g9 164, g9 165, g9 166, g9 167, g9 168, g9 169, g9 170, g9 171, g9 172, g9 173, g9 174, g9 175, g9 176, g9 177, g9 178, g9 179, g9 180, g9 181, g9 182, g9 183, g9 184, g9 185, g9 186, g9 187, g9 188, g9 189, g9 190, g9 191, g9 192, g9 193, g9 194, g9 195, g9 196, g9 197, g9 198, g9 199, g9 200, g9 201, g9 202, g9 203, g9 204, g9 205, g9 206, g9 207, g9 208, g9 209], F5_d6 x8 a3 x9_0 a1⟩)
           have k34 := k32.a [(9013, .l .norm ⟨[g9 0, i6 a2, vs a3, (.ro (eScps a1)), g9 4, g9 5, g9 6, ls 1 eI64 x7_0, i6 x7_1, .ptr 0 0, i6 x9_0, g9 11, .ptr 1 0, .ptr 7 0, g9 14, g9 15, g9 16, g9 17, g9 18, g9 19, g9 20, g9 21, g9 22, g9 23, g9 24, g9 25, g9 26, g9 27, g9 28, g9 29, g9 30, g9 31, g9 32, g9 33, g9 34, g9 35, g9 36, g9 37, g9 38, g9 39, g9 40, g9 41, g9 42, g9 43, g9 44, g9 45, g9 46, g9 47, g9 48, g9 49, g9 50, g9 51, g9 52, g9 53, g9 54, g9 55, g9 56, g9 57, g9 58, g9 59, g9 60, g9 61, g9 62, g9 63, g9 64, g9 65, g9 66, g9 67, .ptr 0 0, i6 x8.scp, vs a3, .ptr 0 2, vs x8.txt, i6 x9_0, i6 x9_0, (.agg [i6 x9_0, i6 x9_0]), (.agg [i6 x8.scp, vs a3, vs x8.txt, i6 x9_0, i6 x9_0]), (.ro (eScps a1)), ls 3 eScope a1.all, (.ro (List.drop 1 (eScps a1))), ls 5 eName a1.decl, .sl 2 0 5 0 a1.decl.length, (.agg [i6 x8.scp, vs a3, vs x8.txt, i6 x9_0, i6 x9_0]), .sl 3 0 5 0 1, (.sl 2 1 5 0 (a1.decl.length + 1)), (.ro [.lst 5 (a1.uses.map eName)]), ls 5 eName a1.uses, (.agg [ls 3 eScope a1.all, (.sl 2 1 5 0 (a1.decl.length + 1)), ls 5 eName a1.uses]), g9 88, g9 89, g9 90, g9 91, g9 92, g9 93, g9 94, g9 95, g9 96, g9 97, g9 98, g9 99, g9 100, g9 101, g9 102, g9 103, g9 104, g9 105, g9 106, g9 107, g9 108, g9 109, g9 110, g9 111, g9 112, g9 113, g9 114, g9 115, g9 116, g9 117, g9 118, g9 119, g9 120, g9 121, g9 122, g9 123, g9 124, g9 125, g9 126, g9 127, g9 128, g9 129, g9 130, g9 131, g9 132, g9 133, g9 134, g9 135, g9 136, g9 137, g9 138, g9 139, g9 140, g9 141, g9 142, g9 143, g9 144, g9 145, g9 146, g9 147, g9 148, g9 149, g9 150, g9 151, g9 152, g9 153, g9 154, g9 155, g9 156, g9 157, g9 158, g9 159, g9 160, g9 161, g9 162, g9 163, g9 164, g9 165, g9 166, g9 167, g9 168, g9 169, g9 170, g9 171, g9 172, g9 173, g9 174, g9 175, g9 176, g9 177, g9 178, g9 179, g9 180, g9 181, g9 182, g9 183, g9 184, g9 185, g9 186, g9 187, g9 188, g9 189, g9 190, g9 191, g9 192, g9 193, g9 194, g9 195, g9 196, g9 197, g9 198, g9 199, g9 200, g9 201, g9 202, g9 203, g9 204, g9 205, g9 206, g9 207, g9 208, g9 209], F5_d6 x8 a3 x9_0 a1⟩)] (apc q33 apn)
           apply bn h; intro r14 h14 h
           cases r14 with
           | k0 x14_0 x14_1 =>
            have q35 := (((F12_ok (⟨a1.all, ((a1.decl.take a1.decl.length ++ [(⟨x8.scp, a3, x8.txt, x9_0, x9_0⟩ : NameD)]).take (a1.decl.length + 1)), a1.uses⟩ : ScopesD) a2 h14).cp rfl _) : CP prg 12 [(.agg [ls 3 eScope a1.all, (.p (.lst 5 (((a1.decl.take a1.decl.length ++ [(⟨x8.scp, a3, x8.txt, x9_0, x9_0⟩ : NameD)]).take (a1.decl.length + 1)).map eName))), ls 5 eName a1.uses]), i6 a2] (F5_d6 x8 a3 x9_0 a1) = some (.tup [ls 1 eI64 x14_0, i6 x14_1]))
            have q36 := (L5_0_2_k a1 x7_0 x14_0 x8 a3 x9_0 (a1.decl.take a1.decl.length ++ [(⟨x8.scp, a3, x8.txt, x9_0, x9_0⟩ : NameD)]) ((a1.decl.take a1.decl.length ++ [(⟨x8.scp, a3, x8.txt, x9_0, x9_0⟩ : NameD)]).take (a1.decl.length + 1)) 0)
            have k37 := k34.a [(91, .v (.tup [ls 1 eI64 x14_0, i6 x14_1]))] (apc q35 apn)
            apply bi h <;> intro h15 h
            ·
             rw [← sj h]
             exact fq ([(95, .d true), (6000, .d true)] ++ kH k37) (k37.b (av h15 apn))
            ·
             apply bi h <;> intro h16 h
             ·
              rw [← sj h]
              exact fq ([(95, .d false), (98, .d true), (6000, .d true)] ++ kH k37) (k37.b (av h15 (av h16 apn)))
             ·
              have k38 := k37.a [(95, .d false), (98, .d false)] (av h15 (av h16 apn))
              apply bn h; intro x17 h17 h
              have q39 := (((F15_ok a1 x8 h17).cp rfl _) : CP prg 15 [(.agg ((eScps a1).map .p)), i6 x8.scp, vs x8.spc, vs x8.txt] (F5_d6 x8 a3 x9_0 a1) = some (ls 1 eI64 x17))
              apply bn h; intro x18 h18 h
              apply bi h <;> intro h19 h
              ·
               have q40 := ((((F14_ok x7_0 x17 h18).cp rfl _).trans (congrArg (fun z => some (vb z)) h19)) : CP prg 14 [ls 1 eI64 x7_0, ls 1 eI64 x17] (F5_d6 x8 a3 x9_0 a1) = some (vb true))
               have k41 := k38.a [(109, .v (ls 1 eI64 x17)), (110, .v (vb true))] (apc q39 (apc q40 apn))
               apply bi h <;> intro h20 h
               ·
                apply bn h; intro x21 h21 h
                apply bi h <;> intro h22 h
                ·
                 apply bn h; intro x23 h23 h
                 rw [← sj h]
                 exact fq ([(116, .d true), (119, .v (vb true)), (121, .v (vb x23)), (6000, .d true)] ++ kH k41) (k41.b (av h20 (apc ((((F14_ok x7_0 x14_0 h21).cp rfl _).trans (congrArg (fun z => some (vb z)) h22)) : CP prg 14 [ls 1 eI64 x7_0, ls 1 eI64 x14_0] (F5_d6 x8 a3 x9_0 a1) = some (vb true)) (apc (((F8_ok  h23).cp rfl _) : CP prg 8 [] (F5_d6 x8 a3 x9_0 a1) = some (vb x23)) apn))))
                ·
                 rw [← sj h]
                 exact fq ([(116, .d true), (119, .v (vb false)), (6000, .d true)] ++ kH k41) (k41.b (av h20 (apc ((((F14_ok x7_0 x14_0 h21).cp rfl _).trans (congrArg (fun z => some (vb z)) h22)) : CP prg 14 [ls 1 eI64 x7_0, ls 1 eI64 x14_0] (F5_d6 x8 a3 x9_0 a1) = some (vb false)) apn)))
               ·
                have k42 := k41.a [(116, .d false), (124, .v (i6 (x14_0.length : Int)))] (av h20 (apc (lg x14_0 eI64 1) apn))
                apply bi h <;> intro h21 h
                ·
                 rw [← sj h]
                 exact fq ([(125, .d true), (6000, .d true)] ++ kH k42) (k42.b (av h21 apn))
                ·
                 have k43 := k42.a [(125, .d false), (129, .v (i6 (x14_0.length : Int)))] (av h21 (apc (lg x14_0 eI64 1) apn))
                 apply bn h; intro x22 h22 h
                 have k44 := k43.a [(131, .v (.ro [.val (.int .i64 x22)])), (135, .v (i6 (a1.decl.length : Int)))] (apc (ig eI64 1 .i64 h22) (apc (lg a1.decl eName 5) apn))
                 apply bi h <;> intro h23 h
                 ·
                  rw [← sj h]
                  exact fq ([(136, .d true), (6000, .d true)] ++ kH k44) (k44.b (av h23 apn))
                 ·
                  apply bn h; intro r24 h24 h
                  cases r24 with
                  | k0 =>
                   obtain ⟨g24, y24, e24⟩ := L5_0_2_run a1 x7_0 x14_0 x8 a3 x9_0 (a1.decl.take a1.decl.length ++ [(⟨x8.scp, a3, x8.txt, x9_0, x9_0⟩ : NameD)]) ((a1.decl.take a1.decl.length ++ [(⟨x8.scp, a3, x8.txt, x9_0, x9_0⟩ : NameD)]).take (a1.decl.length + 1)) 0 _ h24
                   rw [← sj h]
                   exact fq ([(136, .d false), (2002, .l .ret ⟨fr 210 g24 [(6, vb false)], y24⟩), (6000, .d true)] ++ kH k44) (k44.b (av h23 (apc q36 (apc (e24 : L5_0_2_e a1 x7_0 x14_0 x8 a3 x9_0 (a1.decl.take a1.decl.length ++ [(⟨x8.scp, a3, x8.txt, x9_0, x9_0⟩ : NameD)]) ((a1.decl.take a1.decl.length ++ [(⟨x8.scp, a3, x8.txt, x9_0, x9_0⟩ : NameD)]).take (a1.decl.length + 1)) 0 = some (.ret, ⟨fr 210 g24 [(6, vb false)], y24⟩)) apn))))
                  | k1 =>
                   obtain ⟨g24, e24⟩ := L5_0_2_run a1 x7_0 x14_0 x8 a3 x9_0 (a1.decl.take a1.decl.length ++ [(⟨x8.scp, a3, x8.txt, x9_0, x9_0⟩ : NameD)]) ((a1.decl.take a1.decl.length ++ [(⟨x8.scp, a3, x8.txt, x9_0, x9_0⟩ : NameD)]).take (a1.decl.length + 1)) 0 _ h24
                   have q45 := (e24 : L5_0_2_e a1 x7_0 x14_0 x8 a3 x9_0 (a1.decl.take a1.decl.length ++ [(⟨x8.scp, a3, x8.txt, x9_0, x9_0⟩ : NameD)]) ((a1.decl.take a1.decl.length ++ [(⟨x8.scp, a3, x8.txt, x9_0, x9_0⟩ : NameD)]).take (a1.decl.length + 1)) 0 = some ((.brk 2), F5_d7 g24 a1 x7_0 x14_0 x8 a3 x9_0))
                   have k46 := k44.a [(136, .d false), (2002, .l (.brk 2) (F5_d7 g24 a1 x7_0 x14_0 x8 a3 x9_0)), (174, .v (i6 (x7_0.length : Int)))] (av h23 (apc q36 (apc q45 (apc (lg x7_0 eI64 1) apn))))
                   apply bi h <;> intro h25 h
                   ·
                    apply bn h; intro x26 h26 h
                    have k47 := k46.a [(175, .d true), (180, .v (.ro [.val (.int .i64 x26)]))] (av h25 (apc (ig eI64 1 .i64 h26) apn))
                    apply bn h; intro x27 h27 h
                    have k48 := k47.a [(182, .v (.ro (eName x27)))] (apc (ig eName 5 .i64 h27) apn)
                    apply bi h <;> intro h28 h
                    ·
                     have k49 := k48.a [(187, .d true), (192, .v (i6 (x14_0.length : Int))), (194, .v (i6 (x7_0.length : Int)))] (av h28 (apc (lg x14_0 eI64 1) (apc (lg x7_0 eI64 1) apn)))
                     apply bi h <;> intro h29 h
                     ·
                      apply bn h; intro x30 h30 h
                      rw [← sj h]
                      exact fq ([(196, .d true), (208, .v (vb x30)), (6000, .d true)] ++ kH k49) (k49.b (av h29 (apc (((F8_ok  h30).cp rfl _) : CP prg 8 [] (F5_d6 x8 a3 x9_0 a1) = some (vb x30)) apn)))
                     ·
                      rw [← sj h]
                      exact fq ([(196, .d false), (6000, .d true)] ++ kH k49) (k49.b (av h29 apn))
                    ·
                     have k50 := k48.a [(187, .d false), (203, .v (i6 (x14_0.length : Int)))] (av h28 (apc (lg x14_0 eI64 1) apn))
                     apply bi h <;> intro h29 h
                     ·
                      apply bn h; intro x30 h30 h
                      rw [← sj h]
                      exact fq ([(204, .d true), (208, .v (vb x30)), (6000, .d true)] ++ kH k50) (k50.b (av h29 (apc (((F8_ok  h30).cp rfl _) : CP prg 8 [] (F5_d6 x8 a3 x9_0 a1) = some (vb x30)) apn)))
                     ·
                      rw [← sj h]
                      exact fq ([(204, .d false), (6000, .d true)] ++ kH k50) (k50.b (av h29 apn))
                   ·
                    have k51 := k46.a [(175, .d false), (203, .v (i6 (x14_0.length : Int)))] (av h25 (apc (lg x14_0 eI64 1) apn))
                    apply bi h <;> intro h26 h
                    ·
                     apply bn h; intro x27 h27 h
                     rw [← sj h]
                     exact fq ([(204, .d true), (208, .v (vb x27)), (6000, .d true)] ++ kH k51) (k51.b (av h26 (apc (((F8_ok  h27).cp rfl _) : CP prg 8 [] (F5_d6 x8 a3 x9_0 a1) = some (vb x27)) apn)))
                    ·
                     rw [← sj h]
                     exact fq ([(204, .d false), (6000, .d true)] ++ kH k51) (k51.b (av h26 apn))
              ·
               rw [← sj h]
               exact fq ([(109, .v (ls 1 eI64 x17)), (110, .v (vb false)), (6000, .d true)] ++ kH k38) (k38.b (apc q39 (apc ((((F14_ok x7_0 x17 h18).cp rfl _).trans (congrArg (fun z => some (vb z)) h19)) : CP prg 14 [ls 1 eI64 x7_0, ls 1 eI64 x17] (F5_d6 x8 a3 x9_0 a1) = some (vb false)) apn)))
          ·
           cases h
        ·
         cases h
       ·
        cases h
  ·
   apply bn h; intro x5 h5 h
   rw [← sj h]
   exact fq [(19, .v (vb true)), (23, .v (vb false)), (37, .v (vb x5))] (apc q0 (apc ((((F10_ok a1 h3).cp rfl _).trans (congrArg (fun z => some (vb z)) h4)) : CP prg 10 [(.agg ((eScps a1).map .p))] [] = some (vb false)) (apc (((F8_ok  h5).cp rfl _) : CP prg 8 [] [] = some (vb x5)) apn)))
 ·
  apply bn h; intro x3 h3 h
  rw [← sj h]
  exact fq [(19, .v (vb false)), (37, .v (vb x3))] (apc ((((F7_ok a1 h1).cp rfl _).trans (congrArg (fun z => some (vb z)) h2)) : CP prg 7 [(.agg ((eScps a1).map .p))] [] = some (vb false)) (apc (((F8_ok  h3).cp rfl _) : CP prg 8 [] [] = some (vb x3)) apn))
end
end Go.Proofs.Try
