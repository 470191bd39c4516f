/- Decompiled by a program: functions as plain data see them, part 1. -/
import Derived.Test.YthlndaofdgpjfaaW3
namespace Go.Proofs.Try
set_option linter.unusedSimpArgs false
set_option linter.unusedVariables false
set_option maxHeartbeats 4000000
open Go Go.Vs
noncomputable section
def F7_v (a1 : ScopesD) (x0 : Bool) : AV := (vb x0)
def F7 (a1 : ScopesD) : Option Bool :=
  (bif (decide ((a1.all.length : Int) ≤ 60)) then (bif (decide ((a1.decl.length : Int) ≤ 60)) then (some (decide ((a1.uses.length : Int) ≤ 60))) else (some false)) else (some false))
theorem F7_ok (a1 : ScopesD) {r : Bool} (h : F7 a1 = some r) : PR1 prg 7 [(.agg ((eScps a1).map .p))] (F7_v a1 r) := by
 unfold F7 at h
 have k0 := ka [(5, .v (i6 (a1.all.length : Int)))] (apc (lg a1.all eScope 3) apn)
 apply bi h <;> intro h1 h
 ·
  have k1 := k0.a [(6, .d true), (10, .v (i6 (a1.decl.length : Int)))] (av h1 (apc (lg a1.decl eName 5) apn))
  apply bi h <;> intro h2 h
  ·
   rw [← sj h]
   exact fq ([(11, .d true), (16, .v (i6 (a1.uses.length : Int)))] ++ kH k1) (k1.b (av h2 (apc (lg a1.uses eName 5) apn)))
  ·
   rw [← sj h]
   exact fq ([(11, .d false)] ++ kH k1) (k1.b (av h2 apn))
 ·
  rw [← sj h]
  exact fq ([(6, .d false)] ++ kH k0) (k0.b (av h1 apn))
inductive E_L19_0 where
  | k0
  | k1
section
variable (a1 : ScopesD) (a2 : Int)
def L19_0 (v1 : Int) : Option (E_L19_0 ⊕ (Int)) :=
  (bif (decide (v1 < a2)) then ((getI a1.all v1).bind fun x2 => (bif (v1 == 0) then (bif (x2.par != (-1)) then (some (.inl (.k0))) else (bif (decide (v1 > 0)) then (bif (decide (x2.par < 0)) then (some (.inl (.k0))) else (bif (decide (x2.par ≥ v1)) then (some (.inl (.k0))) else (bif (decide (x2.frm < 0)) then (some (.inl (.k0))) else (bif (decide (x2.frm > x2.til)) then (some (.inl (.k0))) else (some (.inr ((IntKind.wrap .i64 (v1 + 1))))))))) else (bif (decide (x2.frm < 0)) then (some (.inl (.k0))) else (bif (decide (x2.frm > x2.til)) then (some (.inl (.k0))) else (some (.inr ((IntKind.wrap .i64 (v1 + 1))))))))) else (bif (decide (v1 > 0)) then (bif (decide (x2.par < 0)) then (some (.inl (.k0))) else (bif (decide (x2.par ≥ v1)) then (some (.inl (.k0))) else (bif (decide (x2.frm < 0)) then (some (.inl (.k0))) else (bif (decide (x2.frm > x2.til)) then (some (.inl (.k0))) else (some (.inr ((IntKind.wrap .i64 (v1 + 1))))))))) else (bif (decide (x2.frm < 0)) then (some (.inl (.k0))) else (bif (decide (x2.frm > x2.til)) then (some (.inl (.k0))) else (some (.inr ((IntKind.wrap .i64 (v1 + 1)))))))))) else (some (.inl (.k1))))
def L19_0_s (v1 : Int) : St := ⟨fr 73 ug [(1, .ptr 0 0), (6, ls 3 eScope a1.all), (7, i6 a2), (8, i6 v1)], [.cells 25 ((eScps a1).map .p)]⟩
theorem L19_0_k (v1 : Int) : okT 1 (L19_0_s a1 a2 v1).h = true := (okT_of rfl (ac rfl))
abbrev L19_0_e (v1 : Int) := evH prg 1 [1, 6, 7, 8] ir19_l0 (L19_0_s a1 a2 v1)
def L19_0_x (e : E_L19_0) (r : Option (Out × St)) : Prop := match e with | .k0 => ∃ g y, r = some (.ret, ⟨fr 73 g [(2, i6 2)], y⟩) | .k1 => ∃ g, r = some ((.brk 0), ⟨fr 73 g [(1, .ptr 0 0), (6, ls 3 eScope a1.all)], [.cells 25 ((eScps a1).map .p)]⟩)
theorem L19_0_ok (v1 : Int) {r : E_L19_0 ⊕ (Int)} (h : L19_0 a1 a2 v1 = some r) : OkR (fun e => L19_0_x a1 e (L19_0_e a1 a2 v1)) (fun s => L19_0_e a1 a2 v1 = L19_0_e a1 a2 s) r := by
 unfold L19_0 at h
 apply bi h <;> intro h1 h
 ·
  apply bn h; intro x2 h2 h
  have k0 := ka [(9, .d true), (11, .v (.ro (eScope x2)))] (av h1 (apc (ig eScope 3 .i64 h2) apn))
  apply bi h <;> intro h3 h
  ·
   apply bi h <;> intro h4 h
   ·
    rw [← sj h]
    exact xy ([(14, .d true), (18, .d true), (6000, .d true)] ++ kH k0) (k0.b (av h3 (av h4 apn)))
   ·
    have k1 := k0.a [(14, .d true), (18, .d false)] (av h3 (av h4 apn))
    apply bi h <;> intro h5 h
    ·
     apply bi h <;> intro h6 h
     ·
      rw [← sj h]
      exact xy ([(22, .d true), (26, .d true), (6000, .d true)] ++ kH k1) (k1.b (av h5 (av h6 apn)))
     ·
      have k2 := k1.a [(22, .d true), (26, .d false)] (av h5 (av h6 apn))
      apply bi h <;> intro h7 h
      ·
       rw [← sj h]
       exact xy ([(31, .d true), (6000, .d true)] ++ kH k2) (k2.b (av h7 apn))
      ·
       apply bi h <;> intro h8 h
       ·
        rw [← sj h]
        exact xy ([(31, .d false), (39, .d true), (6000, .d true)] ++ kH k2) (k2.b (av h7 (av h8 apn)))
       ·
        have k3 := k2.a [(31, .d false), (39, .d false)] (av h7 (av h8 apn))
        apply bi h <;> intro h9 h
        ·
         rw [← sj h]
         exact xy ([(48, .d true), (6000, .d true)] ++ kH k3) (k3.b (av h9 apn))
        ·
         rw [← sj h]
         exact rn ([(48, .d false), (6000, .d true)] ++ kH k3) (k3.b (av h9 (apc (L19_0_k a1 a2 (w6 (v1 + 1))) apn)))
    ·
     apply bi h <;> intro h6 h
     ·
      rw [← sj h]
      exact xy ([(22, .d false), (39, .d true), (6000, .d true)] ++ kH k1) (k1.b (av h5 (av h6 apn)))
     ·
      have k4 := k1.a [(22, .d false), (39, .d false)] (av h5 (av h6 apn))
      apply bi h <;> intro h7 h
      ·
       rw [← sj h]
       exact xy ([(48, .d true), (6000, .d true)] ++ kH k4) (k4.b (av h7 apn))
      ·
       rw [← sj h]
       exact rn ([(48, .d false), (6000, .d true)] ++ kH k4) (k4.b (av h7 (apc (L19_0_k a1 a2 (w6 (v1 + 1))) apn)))
  ·
   apply bi h <;> intro h4 h
   ·
    have k5 := k0.a [(14, .d false), (22, .d true)] (av h3 (av h4 apn))
    apply bi h <;> intro h5 h
    ·
     rw [← sj h]
     exact xy ([(26, .d true), (6000, .d true)] ++ kH k5) (k5.b (av h5 apn))
    ·
     apply bi h <;> intro h6 h
     ·
      rw [← sj h]
      exact xy ([(26, .d false), (31, .d true), (6000, .d true)] ++ kH k5) (k5.b (av h5 (av h6 apn)))
     ·
      have k6 := k5.a [(26, .d false), (31, .d false)] (av h5 (av h6 apn))
      apply bi h <;> intro h7 h
      ·
       rw [← sj h]
       exact xy ([(39, .d true), (6000, .d true)] ++ kH k6) (k6.b (av h7 apn))
      ·
       apply bi h <;> intro h8 h
       ·
        rw [← sj h]
        exact xy ([(39, .d false), (48, .d true), (6000, .d true)] ++ kH k6) (k6.b (av h7 (av h8 apn)))
       ·
        rw [← sj h]
        exact rn ([(39, .d false), (48, .d false), (6000, .d true)] ++ kH k6) (k6.b (av h7 (av h8 (apc (L19_0_k a1 a2 (w6 (v1 + 1))) apn))))
   ·
    have k7 := k0.a [(14, .d false), (22, .d false)] (av h3 (av h4 apn))
    apply bi h <;> intro h5 h
    ·
     rw [← sj h]
     exact xy ([(39, .d true), (6000, .d true)] ++ kH k7) (k7.b (av h5 apn))
    ·
     apply bi h <;> intro h6 h
     ·
      rw [← sj h]
      exact xy ([(39, .d false), (48, .d true), (6000, .d true)] ++ kH k7) (k7.b (av h5 (av h6 apn)))
     ·
      rw [← sj h]
      exact rn ([(39, .d false), (48, .d false), (6000, .d true)] ++ kH k7) (k7.b (av h5 (av h6 (apc (L19_0_k a1 a2 (w6 (v1 + 1))) apn))))
 ·
  rw [← sj h]
  exact xb [(9, .d false), (6000, .d true)] (av h1 apn)
theorem L19_0_run (s0 : Int) (e : E_L19_0) (h : runL (fun s => L19_0 a1 a2 s) s0 = some e) : L19_0_x a1 e (L19_0_e a1 a2 s0) := by
  have q := @loop_sound' (Int) E_L19_0 (fun s => L19_0 a1 a2 s) (fun s => L19_0_e a1 a2 s) (L19_0_x a1) (fun s r h => L19_0_ok a1 a2 s h) s0 e h
  exact q
end
inductive E_L31_0 where
  | k0
  | k1
section
variable (a1 : ScopesD) (a2 a3 : Int)
def L31_0 (v1 : Int) : Option (E_L31_0 ⊕ (Int)) :=
  (bif (decide (v1 < a3)) then ((getI a1.decl v1).bind fun x2 => (bif (decide (x2.scp < 0)) then (some (.inl (.k0))) else (bif (decide (x2.scp ≥ a2)) then (some (.inl (.k0))) else (bif (decide (x2.frm < 0)) then (some (.inl (.k0))) else (bif (decide (x2.frm > x2.til)) then (some (.inl (.k0))) else (bif (decide (v1 > 0)) then ((getI a1.decl (IntKind.wrap .i64 (v1 - 1))).bind fun x8 => (bif (decide (x8.frm > x2.frm)) then (some (.inl (.k0))) else (some (.inr ((IntKind.wrap .i64 (v1 + 1))))))) else (some (.inr ((IntKind.wrap .i64 (v1 + 1))))))))))) else (some (.inl (.k1))))
def L31_0_s (v1 : Int) : St := ⟨fr 56 ug [(0, ls 5 eName a1.decl), (1, i6 a2), (7, ls 5 eName a1.decl), (8, i6 a3), (9, i6 v1)], []⟩
theorem L31_0_k (v1 : Int) : okT 0 (L31_0_s a1 a2 a3 v1).h = true := (okT_of rfl rfl)
abbrev L31_0_e (v1 : Int) := evH prg 0 [0, 1, 7, 8, 9] ir31_l0 (L31_0_s a1 a2 a3 v1)
def L31_0_x (e : E_L31_0) (r : Option (Out × St)) : Prop := match e with | .k0 => ∃ g y, r = some (.ret, ⟨fr 56 g [(4, vb false)], y⟩) | .k1 => ∃ g, r = some ((.brk 0), ⟨fr 56 g [(0, ls 5 eName a1.decl), (7, ls 5 eName a1.decl)], []⟩)
theorem L31_0_ok (v1 : Int) {r : E_L31_0 ⊕ (Int)} (h : L31_0 a1 a2 a3 v1 = some r) : OkR (fun e => L31_0_x a1 e (L31_0_e a1 a2 a3 v1)) (fun s => L31_0_e a1 a2 a3 v1 = L31_0_e a1 a2 a3 s) r := by
 unfold L31_0 at h
 apply bi h <;> intro h1 h
 ·
  apply bn h; intro x2 h2 h
  have k0 := ka [(10, .d true), (12, .v (.ro (eName x2)))] (av h1 (apc (ig eName 5 .i64 h2) apn))
  apply bi h <;> intro h3 h
  ·
   rw [← sj h]
   exact xy ([(16, .d true), (6000, .d true)] ++ kH k0) (k0.b (av h3 apn))
  ·
   apply bi h <;> intro h4 h
   ·
    rw [← sj h]
    exact xy ([(16, .d false), (21, .d true), (6000, .d true)] ++ kH k0) (k0.b (av h3 (av h4 apn)))
   ·
    have k1 := k0.a [(16, .d false), (21, .d false)] (av h3 (av h4 apn))
    apply bi h <;> intro h5 h
    ·
     rw [← sj h]
     exact xy ([(27, .d true), (6000, .d true)] ++ kH k1) (k1.b (av h5 apn))
    ·
     apply bi h <;> intro h6 h
     ·
      rw [← sj h]
      exact xy ([(27, .d false), (36, .d true), (6000, .d true)] ++ kH k1) (k1.b (av h5 (av h6 apn)))
     ·
      have k2 := k1.a [(27, .d false), (36, .d false)] (av h5 (av h6 apn))
      apply bi h <;> intro h7 h
      ·
       apply bn h; intro x8 h8 h
       have k3 := k2.a [(40, .d true), (45, .v (.ro (eName x8)))] (av h7 (apc (ig eName 5 .i64 h8) apn))
       apply bi h <;> intro h9 h
       ·
        rw [← sj h]
        exact xy ([(52, .d true), (6000, .d true)] ++ kH k3) (k3.b (av h9 apn))
       ·
        rw [← sj h]
        exact rn ([(52, .d false), (6000, .d true)] ++ kH k3) (k3.b (av h9 (apc (L31_0_k a1 a2 a3 (w6 (v1 + 1))) apn)))
      ·
       rw [← sj h]
       exact rn ([(40, .d false), (6000, .d true)] ++ kH k2) (k2.b (av h7 (apc (L31_0_k a1 a2 a3 (w6 (v1 + 1))) apn)))
 ·
  rw [← sj h]
  exact xb [(10, .d false), (6000, .d true)] (av h1 apn)
theorem L31_0_run (s0 : Int) (e : E_L31_0) (h : runL (fun s => L31_0 a1 a2 a3 s) s0 = some e) : L31_0_x a1 e (L31_0_e a1 a2 a3 s0) := by
  have q := @loop_sound' (Int) E_L31_0 (fun s => L31_0 a1 a2 a3 s) (fun s => L31_0_e a1 a2 a3 s) (L31_0_x a1) (fun s r h => L31_0_ok a1 a2 a3 s h) s0 e h
  exact q
end
def F31_v (a1 : ScopesD) (a2 : Int) (x0 : Bool) : AV := (vb x0)
def F31 (a1 : ScopesD) (a2 : Int) : Option Bool :=
  ((runL (fun s => L31_0 a1 a2 (a1.decl.length : Int) s) 0).bind fun r1 => match r1 with | .k0 => (some false) | .k1 => (some true))
abbrev F31_d0 (g1 : Nat → AV) (a1 : ScopesD) : St := ⟨fr 56 g1 [(0, ls 5 eName a1.decl), (7, ls 5 eName a1.decl)], []⟩
theorem F31_ok (a1 : ScopesD) (a2 : Int) {r : Bool} (h : F31 a1 a2 = some r) : PR1 prg 31 [ls 5 eName a1.decl, i6 a2] (F31_v a1 a2 r) := by
 unfold F31 at h
 have k0 := ka [(8, .v (i6 (a1.decl.length : Int)))] (apc (lg a1.decl eName 5) apn)
 apply bn h; intro r1 h1 h
 cases r1 with
 | k0 =>
  obtain ⟨g1, y1, e1⟩ := L31_0_run a1 a2 (a1.decl.length : Int) 0 _ h1
  rw [← sj h]
  exact fq ([(2000, .l .ret ⟨fr 56 g1 [(4, vb false)], y1⟩), (6000, .d true)] ++ kH k0) (k0.b (apc (L31_0_k a1 a2 (a1.decl.length : Int) 0) (apc (e1 : L31_0_e a1 a2 (a1.decl.length : Int) 0 = some (.ret, ⟨fr 56 g1 [(4, vb false)], y1⟩)) apn)))
 | k1 =>
  obtain ⟨g1, e1⟩ := L31_0_run a1 a2 (a1.decl.length : Int) 0 _ h1
  rw [← sj h]
  exact fq ([(2000, .l (.brk 0) (F31_d0 g1 a1)), (6000, .d true)] ++ kH k0) (k0.b (apc (L31_0_k a1 a2 (a1.decl.length : Int) 0) (apc (e1 : L31_0_e a1 a2 (a1.decl.length : Int) 0 = some ((.brk 0), F31_d0 g1 a1)) apn)))
inductive E_L31_0_2 where
  | k0
  | k1
section
variable (a1 : ScopesD) (a2 a3 : Int)
def L31_0_2 (v1 : Int) : Option (E_L31_0_2 ⊕ (Int)) :=
  (bif (decide (v1 < a3)) then ((getI a1.uses v1).bind fun x2 => (bif (decide (x2.scp < 0)) then (some (.inl (.k0))) else (bif (decide (x2.scp ≥ a2)) then (some (.inl (.k0))) else (bif (decide (x2.frm < 0)) then (some (.inl (.k0))) else (bif (decide (x2.frm > x2.til)) then (some (.inl (.k0))) else (bif (decide (v1 > 0)) then ((getI a1.uses (IntKind.wrap .i64 (v1 - 1))).bind fun x8 => (bif (decide (x8.frm > x2.frm)) then (some (.inl (.k0))) else (some (.inr ((IntKind.wrap .i64 (v1 + 1))))))) else (some (.inr ((IntKind.wrap .i64 (v1 + 1))))))))))) else (some (.inl (.k1))))
def L31_0_2_s (v1 : Int) : St := ⟨fr 56 ug [(0, ls 5 eName a1.uses), (1, i6 a2), (7, ls 5 eName a1.uses), (8, i6 a3), (9, i6 v1)], []⟩
theorem L31_0_2_k (v1 : Int) : okT 0 (L31_0_2_s a1 a2 a3 v1).h = true := (okT_of rfl rfl)
abbrev L31_0_2_e (v1 : Int) := evH prg 0 [0, 1, 7, 8, 9] ir31_l0 (L31_0_2_s a1 a2 a3 v1)
def L31_0_2_x (e : E_L31_0_2) (r : Option (Out × St)) : Prop := match e with | .k0 => ∃ g y, r = some (.ret, ⟨fr 56 g [(4, vb false)], y⟩) | .k1 => ∃ g, r = some ((.brk 0), ⟨fr 56 g [(0, ls 5 eName a1.uses), (7, ls 5 eName a1.uses)], []⟩)
theorem L31_0_2_ok (v1 : Int) {r : E_L31_0_2 ⊕ (Int)} (h : L31_0_2 a1 a2 a3 v1 = some r) : OkR (fun e => L31_0_2_x a1 e (L31_0_2_e a1 a2 a3 v1)) (fun s => L31_0_2_e a1 a2 a3 v1 = L31_0_2_e a1 a2 a3 s) r := by
 unfold L31_0_2 at h
 apply bi h <;> intro h1 h
 ·
  apply bn h; intro x2 h2 h
  have k0 := ka [(10, .d true), (12, .v (.ro (eName x2)))] (av h1 (apc (ig eName 5 .i64 h2) apn))
  apply bi h <;> intro h3 h
  ·
   rw [← sj h]
   exact xy ([(16, .d true), (6000, .d true)] ++ kH k0) (k0.b (av h3 apn))
  ·
   apply bi h <;> intro h4 h
   ·
    rw [← sj h]
    exact xy ([(16, .d false), (21, .d true), (6000, .d true)] ++ kH k0) (k0.b (av h3 (av h4 apn)))
   ·
    have k1 := k0.a [(16, .d false), (21, .d false)] (av h3 (av h4 apn))
    apply bi h <;> intro h5 h
    ·
     rw [← sj h]
     exact xy ([(27, .d true), (6000, .d true)] ++ kH k1) (k1.b (av h5 apn))
    ·
     apply bi h <;> intro h6 h
     ·
      rw [← sj h]
      exact xy ([(27, .d false), (36, .d true), (6000, .d true)] ++ kH k1) (k1.b (av h5 (av h6 apn)))
     ·
      have k2 := k1.a [(27, .d false), (36, .d false)] (av h5 (av h6 apn))
      apply bi h <;> intro h7 h
      ·
       apply bn h; intro x8 h8 h
       have k3 := k2.a [(40, .d true), (45, .v (.ro (eName x8)))] (av h7 (apc (ig eName 5 .i64 h8) apn))
       apply bi h <;> intro h9 h
       ·
        rw [← sj h]
        exact xy ([(52, .d true), (6000, .d true)] ++ kH k3) (k3.b (av h9 apn))
       ·
        rw [← sj h]
        exact rn ([(52, .d false), (6000, .d true)] ++ kH k3) (k3.b (av h9 (apc (L31_0_2_k a1 a2 a3 (w6 (v1 + 1))) apn)))
      ·
       rw [← sj h]
       exact rn ([(40, .d false), (6000, .d true)] ++ kH k2) (k2.b (av h7 (apc (L31_0_2_k a1 a2 a3 (w6 (v1 + 1))) apn)))
 ·
  rw [← sj h]
  exact xb [(10, .d false), (6000, .d true)] (av h1 apn)
theorem L31_0_2_run (s0 : Int) (e : E_L31_0_2) (h : runL (fun s => L31_0_2 a1 a2 a3 s) s0 = some e) : L31_0_2_x a1 e (L31_0_2_e a1 a2 a3 s0) := by
  have q := @loop_sound' (Int) E_L31_0_2 (fun s => L31_0_2 a1 a2 a3 s) (fun s => L31_0_2_e a1 a2 a3 s) (L31_0_2_x a1) (fun s r h => L31_0_2_ok a1 a2 a3 s h) s0 e h
  exact q
end
def F31_2_v (a1 : ScopesD) (a2 : Int) (x0 : Bool) : AV := (vb x0)
def F31_2 (a1 : ScopesD) (a2 : Int) : Option Bool :=
  ((runL (fun s => L31_0_2 a1 a2 (a1.uses.length : Int) s) 0).bind fun r1 => match r1 with | .k0 => (some false) | .k1 => (some true))
abbrev F31_2_d0 (g1 : Nat → AV) (a1 : ScopesD) : St := ⟨fr 56 g1 [(0, ls 5 eName a1.uses), (7, ls 5 eName a1.uses)], []⟩
theorem F31_2_ok (a1 : ScopesD) (a2 : Int) {r : Bool} (h : F31_2 a1 a2 = some r) : PR1 prg 31 [ls 5 eName a1.uses, i6 a2] (F31_2_v a1 a2 r) := by
 unfold F31_2 at h
 have k0 := ka [(8, .v (i6 (a1.uses.length : Int)))] (apc (lg a1.uses eName 5) apn)
 apply bn h; intro r1 h1 h
 cases r1 with
 | k0 =>
  obtain ⟨g1, y1, e1⟩ := L31_0_2_run a1 a2 (a1.uses.length : Int) 0 _ h1
  rw [← sj h]
  exact fq ([(2000, .l .ret ⟨fr 56 g1 [(4, vb false)], y1⟩), (6000, .d true)] ++ kH k0) (k0.b (apc (L31_0_2_k a1 a2 (a1.uses.length : Int) 0) (apc (e1 : L31_0_2_e a1 a2 (a1.uses.length : Int) 0 = some (.ret, ⟨fr 56 g1 [(4, vb false)], y1⟩)) apn)))
 | k1 =>
  obtain ⟨g1, e1⟩ := L31_0_2_run a1 a2 (a1.uses.length : Int) 0 _ h1
  rw [← sj h]
  exact fq ([(2000, .l (.brk 0) (F31_2_d0 g1 a1)), (6000, .d true)] ++ kH k0) (k0.b (apc (L31_0_2_k a1 a2 (a1.uses.length : Int) 0) (apc (e1 : L31_0_2_e a1 a2 (a1.uses.length : Int) 0 = some ((.brk 0), F31_2_d0 g1 a1)) apn)))
def F19_v (a1 : ScopesD) (x0 : Int) : AV := (i6 x0)
def F19 (a1 : ScopesD) : Option Int :=
  ((runL (fun s => L19_0 a1 (a1.all.length : Int) s) 0).bind fun r1 => match r1 with | .k0 => (some 2) | .k1 => (bif ((a1.all.length : Int) == 0) then (some 2) else ((F31 a1 (a1.all.length : Int)).bind fun x3 => (bif x3 then ((F31_2 a1 (a1.all.length : Int)).bind fun x5 => (bif x5 then (some 0) else (some 2))) else (some 2)))))
abbrev F19_d0 (g1 : Nat → AV) (a1 : ScopesD) : St := ⟨fr 73 g1 [(1, .ptr 0 0), (6, ls 3 eScope a1.all)], [.cells 25 ((eScps a1).map .p)]⟩
theorem F19_ok (a1 : ScopesD) {r : Int} (h : F19 a1 = some r) : PR1 prg 19 [(.agg ((eScps a1).map .p))] (F19_v a1 r) := by
 unfold F19 at h
 have k0 := ka [(7, .v (i6 (a1.all.length : Int)))] (apc (lg a1.all eScope 3) apn)
 apply bn h; intro r1 h1 h
 cases r1 with
 | k0 =>
  obtain ⟨g1, y1, e1⟩ := L19_0_run a1 (a1.all.length : Int) 0 _ h1
  rw [← sj h]
  exact fq ([(2000, .l .ret ⟨fr 73 g1 [(2, i6 2)], y1⟩), (6000, .d true)] ++ kH k0) (k0.b (apc (L19_0_k a1 (a1.all.length : Int) 0) (apc (e1 : L19_0_e a1 (a1.all.length : Int) 0 = some (.ret, ⟨fr 73 g1 [(2, i6 2)], y1⟩)) apn)))
 | k1 =>
  obtain ⟨g1, e1⟩ := L19_0_run a1 (a1.all.length : Int) 0 _ h1
  have q1 := (e1 : L19_0_e a1 (a1.all.length : Int) 0 = some ((.brk 0), F19_d0 g1 a1))
  have k2 := k0.a [(2000, .l (.brk 0) (F19_d0 g1 a1)), (53, .v (i6 (a1.all.length : Int)))] (apc (L19_0_k a1 (a1.all.length : Int) 0) (apc q1 (apc (lg a1.all eScope 3) apn)))
  apply bi h <;> intro h2 h
  ·
   rw [← sj h]
   exact fq ([(54, .d true), (6000, .d true)] ++ kH k2) (k2.b (av h2 apn))
  ·
   have k3 := k2.a [(54, .d false), (60, .v (i6 (a1.all.length : Int)))] (av h2 (apc (lg a1.all eScope 3) apn))
   apply bn h; intro x3 h3 h
   apply bi h <;> intro h4 h
   ·
    have q4 := ((((F31_ok a1 (a1.all.length : Int) h3).cp rfl _).trans (congrArg (fun z => some (vb z)) h4)) : CP prg 31 [ls 5 eName a1.decl, (i6 (a1.all.length : Int))] [.cells 25 ((eScps a1).map .p)] = some (vb true))
    have k5 := k3.a [(61, .v (vb true)), (69, .v (i6 (a1.all.length : Int)))] (apc q4 (apc (lg a1.all eScope 3) apn))
    apply bn h; intro x5 h5 h
    apply bi h <;> intro h6 h
    ·
     rw [← sj h]
     exact fq ([(70, .v (vb true)), (6000, .d true)] ++ kH k5) (k5.b (apc ((((F31_2_ok a1 (a1.all.length : Int) h5).cp rfl _).trans (congrArg (fun z => some (vb z)) h6)) : CP prg 31 [ls 5 eName a1.uses, (i6 (a1.all.length : Int))] [.cells 25 ((eScps a1).map .p)] = some (vb true)) apn))
    ·
     rw [← sj h]
     exact fq ([(70, .v (vb false)), (6000, .d true)] ++ kH k5) (k5.b (apc ((((F31_2_ok a1 (a1.all.length : Int) h5).cp rfl _).trans (congrArg (fun z => some (vb z)) h6)) : CP prg 31 [ls 5 eName a1.uses, (i6 (a1.all.length : Int))] [.cells 25 ((eScps a1).map .p)] = some (vb false)) apn))
   ·
    rw [← sj h]
    exact fq ([(61, .v (vb false)), (6000, .d true)] ++ kH k3) (k3.b (apc ((((F31_ok a1 (a1.all.length : Int) h3).cp rfl _).trans (congrArg (fun z => some (vb z)) h4)) : CP prg 31 [ls 5 eName a1.decl, (i6 (a1.all.length : Int))] [.cells 25 ((eScps a1).map .p)] = some (vb false)) apn))
def F20_v (a1 : NameD) (a2 : Int) (x0 : Bool) : AV := (vb x0)
def F20 (a1 : NameD) (a2 : Int) : Option Bool :=
  (bif (decide (a1.frm ≤ a2)) then (some (decide (a2 < a1.til))) else (some false))
theorem F20_ok (a1 : NameD) (a2 : Int) {r : Bool} (h : F20 a1 a2 = some r) : PR1 prg 20 [(.agg ((eName a1).map .p)), (.ro [.val (.int .i64 a2)])] (F20_v a1 a2 r) := by
 unfold F20 at h
 apply bi h <;> intro h1 h
 ·
  rw [← sj h]
  exact fq [(8, .d true)] (av h1 apn)
 ·
  rw [← sj h]
  exact fq [(8, .d false)] (av h1 apn)
inductive E_L21_0 where
  | k0 (x0 : Int)
  | k1
section
variable (a1 : ScopesD) (a2 a3 : Int)
def L21_0 (v1 : Int) : Option (E_L21_0 ⊕ (Int)) :=
  (bif (decide (v1 < a3)) then ((getI a1.decl v1).bind fun x2 => ((F20 x2 a2).bind fun x3 => (bif x3 then (some (.inl (.k0 v1))) else (some (.inr ((IntKind.wrap .i64 (v1 + 1)))))))) else (some (.inl (.k1))))
def L21_0_s (v1 : Int) : St := ⟨fr 19 ug [(0, ls 5 eName a1.decl), (1, (.fn 20 [(.ro [.val (.int .i64 a2)])])), (7, i6 a3), (8, i6 v1)], []⟩
theorem L21_0_k (v1 : Int) : okT 0 (L21_0_s a1 a2 a3 v1).h = true := (okT_of rfl rfl)
abbrev L21_0_e (v1 : Int) := evH prg 0 [0, 1, 7, 8] ir21_l0 (L21_0_s a1 a2 a3 v1)
def L21_0_x (e : E_L21_0) (r : Option (Out × St)) : Prop := match e with | .k0 x0 => ∃ g y, r = some (.ret, ⟨fr 19 g [(4, i6 x0)], y⟩) | .k1 => ∃ g, r = some ((.brk 0), ⟨fr 19 g [(0, ls 5 eName a1.decl)], []⟩)
theorem L21_0_ok (v1 : Int) {r : E_L21_0 ⊕ (Int)} (h : L21_0 a1 a2 a3 v1 = some r) : OkR (fun e => L21_0_x a1 e (L21_0_e a1 a2 a3 v1)) (fun s => L21_0_e a1 a2 a3 v1 = L21_0_e a1 a2 a3 s) r := by
 unfold L21_0 at h
 apply bi h <;> intro h1 h
 ·
  apply bn h; intro x2 h2 h
  have k0 := ka [(9, .d true), (14, .v (.ro (eName x2)))] (av h1 (apc (ig eName 5 .i64 h2) apn))
  apply bn h; intro x3 h3 h
  apply bi h <;> intro h4 h
  ·
   rw [← sj h]
   exact xy ([(16, .v (vb true)), (6000, .d true)] ++ kH k0) (k0.b (apc ((((F20_ok x2 a2 h3).cp rfl _).trans (congrArg (fun z => some (vb z)) h4)) : CP prg 20 [(.agg ((eName x2).map .p)), (.ro [.val (.int .i64 a2)])] [] = some (vb true)) apn))
  ·
   rw [← sj h]
   exact rn ([(16, .v (vb false)), (6000, .d true)] ++ kH k0) (k0.b (apc ((((F20_ok x2 a2 h3).cp rfl _).trans (congrArg (fun z => some (vb z)) h4)) : CP prg 20 [(.agg ((eName x2).map .p)), (.ro [.val (.int .i64 a2)])] [] = some (vb false)) (apc (L21_0_k a1 a2 a3 (w6 (v1 + 1))) apn)))
 ·
  rw [← sj h]
  exact xb [(9, .d false), (6000, .d true)] (av h1 apn)
theorem L21_0_run (s0 : Int) (e : E_L21_0) (h : runL (fun s => L21_0 a1 a2 a3 s) s0 = some e) : L21_0_x a1 e (L21_0_e a1 a2 a3 s0) := by
  have q := @loop_sound' (Int) E_L21_0 (fun s => L21_0 a1 a2 a3 s) (fun s => L21_0_e a1 a2 a3 s) (L21_0_x a1) (fun s r h => L21_0_ok a1 a2 a3 s h) s0 e h
  exact q
end
def F21_v (a1 : ScopesD) (a2 : Int) (x0 : Int) : AV := (i6 x0)
def F21 (a1 : ScopesD) (a2 : Int) : Option Int :=
  ((runL (fun s => L21_0 a1 a2 (a1.decl.length : Int) s) 0).bind fun r1 => match r1 with | .k0 x1_0 => (some x1_0) | .k1 => (some (-1)))
theorem F21_ok (a1 : ScopesD) (a2 : Int) {r : Int} (h : F21 a1 a2 = some r) : PR1 prg 21 [ls 5 eName a1.decl, (.fn 20 [(.ro [.val (.int .i64 a2)])])] (F21_v a1 a2 r) := by
 unfold F21 at h
 have k0 := ka [(7, .v (i6 (a1.decl.length : Int)))] (apc (lg a1.decl eName 5) apn)
 apply bn h; intro r1 h1 h
 cases r1 with
 | k0 x1_0 =>
  obtain ⟨g1, y1, e1⟩ := L21_0_run a1 a2 (a1.decl.length : Int) 0 _ h1
  rw [← sj h]
  exact fq ([(2000, .l .ret ⟨fr 19 g1 [(4, i6 x1_0)], y1⟩), (6000, .d true)] ++ kH k0) (k0.b (apc (L21_0_k a1 a2 (a1.decl.length : Int) 0) (apc (e1 : L21_0_e a1 a2 (a1.decl.length : Int) 0 = some (.ret, ⟨fr 19 g1 [(4, i6 x1_0)], y1⟩)) apn)))
 | k1 =>
  obtain ⟨g1, e1⟩ := L21_0_run a1 a2 (a1.decl.length : Int) 0 _ h1
  rw [← sj h]
  exact fq ([(2000, .l (.brk 0) ⟨fr 19 g1 [(0, ls 5 eName a1.decl)], []⟩), (6000, .d true)] ++ kH k0) (k0.b (apc (L21_0_k a1 a2 (a1.decl.length : Int) 0) (apc (e1 : L21_0_e a1 a2 (a1.decl.length : Int) 0 = some ((.brk 0), ⟨fr 19 g1 [(0, ls 5 eName a1.decl)], []⟩)) apn)))
inductive E_L21_0_2 where
  | k0 (x0 : Int)
  | k1
section
variable (a1 : ScopesD) (a2 a3 : Int)
def L21_0_2 (v1 : Int) : Option (E_L21_0_2 ⊕ (Int)) :=
  (bif (decide (v1 < a3)) then ((getI a1.uses v1).bind fun x2 => ((F20 x2 a2).bind fun x3 => (bif x3 then (some (.inl (.k0 v1))) else (some (.inr ((IntKind.wrap .i64 (v1 + 1)))))))) else (some (.inl (.k1))))
def L21_0_2_s (v1 : Int) : St := ⟨fr 19 ug [(0, ls 5 eName a1.uses), (1, (.fn 20 [(.ro [.val (.int .i64 a2)])])), (7, i6 a3), (8, i6 v1)], []⟩
theorem L21_0_2_k (v1 : Int) : okT 0 (L21_0_2_s a1 a2 a3 v1).h = true := (okT_of rfl rfl)
abbrev L21_0_2_e (v1 : Int) := evH prg 0 [0, 1, 7, 8] ir21_l0 (L21_0_2_s a1 a2 a3 v1)
def L21_0_2_x (e : E_L21_0_2) (r : Option (Out × St)) : Prop := match e with | .k0 x0 => ∃ g y, r = some (.ret, ⟨fr 19 g [(4, i6 x0)], y⟩) | .k1 => ∃ g, r = some ((.brk 0), ⟨fr 19 g [(0, ls 5 eName a1.uses)], []⟩)
theorem L21_0_2_ok (v1 : Int) {r : E_L21_0_2 ⊕ (Int)} (h : L21_0_2 a1 a2 a3 v1 = some r) : OkR (fun e => L21_0_2_x a1 e (L21_0_2_e a1 a2 a3 v1)) (fun s => L21_0_2_e a1 a2 a3 v1 = L21_0_2_e a1 a2 a3 s) r := by
 unfold L21_0_2 at h
 apply bi h <;> intro h1 h
 ·
  apply bn h; intro x2 h2 h
  have k0 := ka [(9, .d true), (14, .v (.ro (eName x2)))] (av h1 (apc (ig eName 5 .i64 h2) apn))
  apply bn h; intro x3 h3 h
  apply bi h <;> intro h4 h
  ·
   rw [← sj h]
   exact xy ([(16, .v (vb true)), (6000, .d true)] ++ kH k0) (k0.b (apc ((((F20_ok x2 a2 h3).cp rfl _).trans (congrArg (fun z => some (vb z)) h4)) : CP prg 20 [(.agg ((eName x2).map .p)), (.ro [.val (.int .i64 a2)])] [] = some (vb true)) apn))
  ·
   rw [← sj h]
   exact rn ([(16, .v (vb false)), (6000, .d true)] ++ kH k0) (k0.b (apc ((((F20_ok x2 a2 h3).cp rfl _).trans (congrArg (fun z => some (vb z)) h4)) : CP prg 20 [(.agg ((eName x2).map .p)), (.ro [.val (.int .i64 a2)])] [] = some (vb false)) (apc (L21_0_2_k a1 a2 a3 (w6 (v1 + 1))) apn)))
 ·
  rw [← sj h]
  exact xb [(9, .d false), (6000, .d true)] (av h1 apn)
theorem L21_0_2_run (s0 : Int) (e : E_L21_0_2) (h : runL (fun s => L21_0_2 a1 a2 a3 s) s0 = some e) : L21_0_2_x a1 e (L21_0_2_e a1 a2 a3 s0) := by
  have q := @loop_sound' (Int) E_L21_0_2 (fun s => L21_0_2 a1 a2 a3 s) (fun s => L21_0_2_e a1 a2 a3 s) (L21_0_2_x a1) (fun s r h => L21_0_2_ok a1 a2 a3 s h) s0 e h
  exact q
end
def F21_2_v (a1 : ScopesD) (a2 : Int) (x0 : Int) : AV := (i6 x0)
def F21_2 (a1 : ScopesD) (a2 : Int) : Option Int :=
  ((runL (fun s => L21_0_2 a1 a2 (a1.uses.length : Int) s) 0).bind fun r1 => match r1 with | .k0 x1_0 => (some x1_0) | .k1 => (some (-1)))
theorem F21_2_ok (a1 : ScopesD) (a2 : Int) {r : Int} (h : F21_2 a1 a2 = some r) : PR1 prg 21 [ls 5 eName a1.uses, (.fn 20 [(.ro [.val (.int .i64 a2)])])] (F21_2_v a1 a2 r) := by
 unfold F21_2 at h
 have k0 := ka [(7, .v (i6 (a1.uses.length : Int)))] (apc (lg a1.uses eName 5) apn)
 apply bn h; intro r1 h1 h
 cases r1 with
 | k0 x1_0 =>
  obtain ⟨g1, y1, e1⟩ := L21_0_2_run a1 a2 (a1.uses.length : Int) 0 _ h1
  rw [← sj h]
  exact fq ([(2000, .l .ret ⟨fr 19 g1 [(4, i6 x1_0)], y1⟩), (6000, .d true)] ++ kH k0) (k0.b (apc (L21_0_2_k a1 a2 (a1.uses.length : Int) 0) (apc (e1 : L21_0_2_e a1 a2 (a1.uses.length : Int) 0 = some (.ret, ⟨fr 19 g1 [(4, i6 x1_0)], y1⟩)) apn)))
 | k1 =>
  obtain ⟨g1, e1⟩ := L21_0_2_run a1 a2 (a1.uses.length : Int) 0 _ h1
  rw [← sj h]
  exact fq ([(2000, .l (.brk 0) ⟨fr 19 g1 [(0, ls 5 eName a1.uses)], []⟩), (6000, .d true)] ++ kH k0) (k0.b (apc (L21_0_2_k a1 a2 (a1.uses.length : Int) 0) (apc (e1 : L21_0_2_e a1 a2 (a1.uses.length : Int) 0 = some ((.brk 0), ⟨fr 19 g1 [(0, ls 5 eName a1.uses)], []⟩)) apn)))
inductive R_F9 where
  | k0 (x0 x1 x2 : Int)
def F9_v (a1 : ScopesD) (a2 : Int) (r : R_F9) : AV := match r with | .k0 x0 x1 x2 => (.tup [i6 x0, i6 x1, i6 x2])
def F9 (a1 : ScopesD) (a2 : Int) : Option R_F9 :=
  ((F19 a1).bind fun x1 => (bif (x1 != 0) then (some (.k0 0 0 2)) else (bif (decide (a2 < 0)) then (some (.k0 0 0 4)) else ((F21 a1 a2).bind fun x4 => ((F21_2 a1 a2).bind fun x5 => (bif (decide (x4 ≥ 0)) then (some (.k0 x4 (-1) 0)) else (bif (decide (x5 ≥ 0)) then (some (.k0 (-1) x5 0)) else (some (.k0 0 0 5)))))))))
theorem F9_ok (a1 : ScopesD) (a2 : Int) {r : R_F9} (h : F9 a1 a2 = some r) : PR1 prg 9 [(.agg ((eScps a1).map .p)), i6 a2] (F9_v a1 a2 r) := by
 unfold F9 at h
 apply bn h; intro x1 h1 h
 have q0 := (((F19_ok a1 h1).cp rfl _) : CP prg 19 [(.agg ((eScps a1).map .p))] [] = some (i6 x1))
 apply bi h <;> intro h2 h
 ·
  rw [← sj h]
  exact fq [(10, .v (i6 x1)), (11, .d true)] (apc q0 (av h2 apn))
 ·
  have k1 := ka [(10, .v (i6 x1)), (11, .d false)] (apc q0 (av h2 apn))
  apply bi h <;> intro h3 h
  ·
   rw [← sj h]
   exact fq ([(14, .d true)] ++ kH k1) (k1.b (av h3 apn))
  ·
   apply bn h; intro x4 h4 h
   have q2 := (((F21_ok a1 a2 h4).cp rfl _) : CP prg 21 [ls 5 eName a1.decl, (.fn 20 [(.ro [.val (.int .i64 a2)])])] [] = some (i6 x4))
   have k3 := k1.a [(14, .d false), (19, .v (i6 x4))] (av h3 (apc q2 apn))
   apply bn h; intro x5 h5 h
   have q4 := (((F21_2_ok a1 a2 h5).cp rfl _) : CP prg 21 [ls 5 eName a1.uses, (.fn 20 [(.ro [.val (.int .i64 a2)])])] [] = some (i6 x5))
   apply bi h <;> intro h6 h
   ·
    rw [← sj h]
    exact fq ([(23, .v (i6 x5)), (26, .d true)] ++ kH k3) (k3.b (apc q4 (av h6 apn)))
   ·
    have k5 := k3.a [(23, .v (i6 x5)), (26, .d false)] (apc q4 (av h6 apn))
    apply bi h <;> intro h7 h
    ·
     rw [← sj h]
     exact fq ([(30, .d true)] ++ kH k5) (k5.b (av h7 apn))
    ·
     rw [← sj h]
     exact fq ([(30, .d false)] ++ kH k5) (k5.b (av h7 apn))
inductive E_L10_0 where
  | k0
  | k1
section
variable (a1 : ScopesD)
def L10_0 (v1 : Int) : Option (E_L10_0 ⊕ (Int)) :=
  (bif (decide (v1 < (a1.all.length : Int))) then (bif (decide (v1 > 0)) then ((getI a1.all v1).bind fun x3 => (bif (decide (x3.par < 0)) then (some (.inl (.k0))) else (bif (decide (x3.par ≥ v1)) then (some (.inl (.k0))) else (bif (decide (x3.frm < 0)) then (some (.inl (.k0))) else (bif (decide (x3.til < x3.frm)) then (some (.inl (.k0))) else (some (.inr ((IntKind.wrap .i64 (v1 + 1)))))))))) else ((getI a1.all v1).bind fun x3 => (bif (decide (x3.frm < 0)) then (some (.inl (.k0))) else (bif (decide (x3.til < x3.frm)) then (some (.inl (.k0))) else (some (.inr ((IntKind.wrap .i64 (v1 + 1))))))))) else (some (.inl (.k1))))
def L10_0_s (v1 : Int) : St := ⟨fr 85 ug [(1, .ptr 0 0), (3, i6 v1)], [.cells 25 ((eScps a1).map .p)]⟩
theorem L10_0_k (v1 : Int) : okT 1 (L10_0_s a1 v1).h = true := (okT_of rfl (ac rfl))
abbrev L10_0_e (v1 : Int) := evH prg 1 [1, 3] ir10_l0 (L10_0_s a1 v1)
def L10_0_x (e : E_L10_0) (r : Option (Out × St)) : Prop := match e with | .k0 => ∃ g y, r = some (.ret, ⟨fr 85 g [(2, vb false)], y⟩) | .k1 => ∃ g, r = some ((.brk 0), ⟨fr 85 g [(1, .ptr 0 0)], [.cells 25 ((eScps a1).map .p)]⟩)
theorem L10_0_ok (v1 : Int) {r : E_L10_0 ⊕ (Int)} (h : L10_0 a1 v1 = some r) : OkR (fun e => L10_0_x a1 e (L10_0_e a1 v1)) (fun s => L10_0_e a1 v1 = L10_0_e a1 s) r := by
 unfold L10_0 at h
 have k0 := ka [(19, .v (i6 (a1.all.length : Int)))] (apc (lg a1.all eScope 3) apn)
 apply bi h <;> intro h1 h
 ·
  apply bi h <;> intro h2 h
  ·
   have k1 := k0.a [(20, .d true), (24, .d true)] (av h1 (av h2 apn))
   apply bn h; intro x3 h3 h
   apply bi h <;> intro h4 h
   ·
    rw [← sj h]
    exact xy ([(29, .v (.ro (eScope x3))), (32, .d true), (6000, .d true)] ++ kH k1) (k1.b (apc (ig eScope 3 .i64 h3) (av h4 apn)))
   ·
    have k2 := k1.a [(29, .v (.ro (eScope x3))), (32, .d false), (37, .v (.ro (eScope x3)))] (apc (ig eScope 3 .i64 h3) (av h4 (apc (ig eScope 3 .i64 h3) apn)))
    apply bi h <;> intro h5 h
    ·
     rw [← sj h]
     exact xy ([(41, .d true), (6000, .d true)] ++ kH k2) (k2.b (av h5 apn))
    ·
     have k3 := k2.a [(41, .d false), (48, .v (.ro (eScope x3)))] (av h5 (apc (ig eScope 3 .i64 h3) apn))
     apply bi h <;> intro h6 h
     ·
      rw [← sj h]
      exact xy ([(52, .d true), (6000, .d true)] ++ kH k3) (k3.b (av h6 apn))
     ·
      have k4 := k3.a [(52, .d false), (58, .v (.ro (eScope x3))), (65, .v (.ro (eScope x3)))] (av h6 (apc (ig eScope 3 .i64 h3) (apc (ig eScope 3 .i64 h3) apn)))
      apply bi h <;> intro h7 h
      ·
       rw [← sj h]
       exact xy ([(69, .d true), (6000, .d true)] ++ kH k4) (k4.b (av h7 apn))
      ·
       rw [← sj h]
       exact rn ([(69, .d false), (6000, .d true)] ++ kH k4) (k4.b (av h7 (apc (L10_0_k a1 (w6 (v1 + 1))) apn)))
  ·
   have k5 := k0.a [(20, .d true), (24, .d false)] (av h1 (av h2 apn))
   apply bn h; intro x3 h3 h
   apply bi h <;> intro h4 h
   ·
    rw [← sj h]
    exact xy ([(48, .v (.ro (eScope x3))), (52, .d true), (6000, .d true)] ++ kH k5) (k5.b (apc (ig eScope 3 .i64 h3) (av h4 apn)))
   ·
    have k6 := k5.a [(48, .v (.ro (eScope x3))), (52, .d false), (58, .v (.ro (eScope x3))), (65, .v (.ro (eScope x3)))] (apc (ig eScope 3 .i64 h3) (av h4 (apc (ig eScope 3 .i64 h3) (apc (ig eScope 3 .i64 h3) apn))))
    apply bi h <;> intro h5 h
    ·
     rw [← sj h]
     exact xy ([(69, .d true), (6000, .d true)] ++ kH k6) (k6.b (av h5 apn))
    ·
     rw [← sj h]
     exact rn ([(69, .d false), (6000, .d true)] ++ kH k6) (k6.b (av h5 (apc (L10_0_k a1 (w6 (v1 + 1))) apn)))
 ·
  rw [← sj h]
  exact xb ([(20, .d false), (6000, .d true)] ++ kH k0) (k0.b (av h1 apn))
theorem L10_0_run (s0 : Int) (e : E_L10_0) (h : runL (fun s => L10_0 a1 s) s0 = some e) : L10_0_x a1 e (L10_0_e a1 s0) := by
  have q := @loop_sound' (Int) E_L10_0 (fun s => L10_0 a1 s) (fun s => L10_0_e a1 s) (L10_0_x a1) (fun s r h => L10_0_ok a1 s h) s0 e h
  exact q
end
inductive E_L22_0 where
  | k0
  | k1
section
variable (a1 : ScopesD) (a2 : Int)
def L22_0 (v1 : Int) : Option (E_L22_0 ⊕ (Int)) :=
  (bif (decide (v1 < (a1.decl.length : Int))) then ((getI a1.decl v1).bind fun x2 => (bif (decide (x2.scp < 0)) then (some (.inl (.k0))) else (bif (decide (x2.scp ≥ a2)) then (some (.inl (.k0))) else (bif (decide (x2.frm < 0)) then (some (.inl (.k0))) else (bif (decide (x2.til < x2.frm)) then (some (.inl (.k0))) else (bif (decide (v1 > 0)) then ((getI a1.decl (IntKind.wrap .i64 (v1 - 1))).bind fun x8 => (bif (decide (x2.frm < x8.frm)) then (some (.inl (.k0))) else (some (.inr ((IntKind.wrap .i64 (v1 + 1))))))) else (some (.inr ((IntKind.wrap .i64 (v1 + 1))))))))))) else (some (.inl (.k1))))
def L22_0_s (v1 : Int) : St := ⟨fr 71 ug [(0, ls 5 eName a1.decl), (1, i6 a2), (5, i6 v1)], []⟩
theorem L22_0_k (v1 : Int) : okT 0 (L22_0_s a1 a2 v1).h = true := (okT_of rfl rfl)
abbrev L22_0_e (v1 : Int) := evH prg 0 [0, 1, 5] ir22_l0 (L22_0_s a1 a2 v1)
def L22_0_x (e : E_L22_0) (r : Option (Out × St)) : Prop := match e with | .k0 => ∃ g y, r = some (.ret, ⟨fr 71 g [(4, vb false)], y⟩) | .k1 => ∃ g, r = some ((.brk 0), ⟨fr 71 g [], []⟩)
theorem L22_0_ok (v1 : Int) {r : E_L22_0 ⊕ (Int)} (h : L22_0 a1 a2 v1 = some r) : OkR (fun e => L22_0_x e (L22_0_e a1 a2 v1)) (fun s => L22_0_e a1 a2 v1 = L22_0_e a1 a2 s) r := by
 unfold L22_0 at h
 have k0 := ka [(8, .v (i6 (a1.decl.length : Int)))] (apc (lg a1.decl eName 5) apn)
 apply bi h <;> intro h1 h
 ·
  apply bn h; intro x2 h2 h
  have k1 := k0.a [(9, .d true), (14, .v (.ro (eName x2)))] (av h1 (apc (ig eName 5 .i64 h2) apn))
  apply bi h <;> intro h3 h
  ·
   rw [← sj h]
   exact xy ([(17, .d true), (6000, .d true)] ++ kH k1) (k1.b (av h3 apn))
  ·
   have k2 := k1.a [(17, .d false), (21, .v (.ro (eName x2)))] (av h3 (apc (ig eName 5 .i64 h2) apn))
   apply bi h <;> intro h4 h
   ·
    rw [← sj h]
    exact xy ([(25, .d true), (6000, .d true)] ++ kH k2) (k2.b (av h4 apn))
   ·
    have k3 := k2.a [(25, .d false), (30, .v (.ro (eName x2)))] (av h4 (apc (ig eName 5 .i64 h2) apn))
    apply bi h <;> intro h5 h
    ·
     rw [← sj h]
     exact xy ([(34, .d true), (6000, .d true)] ++ kH k3) (k3.b (av h5 apn))
    ·
     have k4 := k3.a [(34, .d false), (39, .v (.ro (eName x2))), (45, .v (.ro (eName x2)))] (av h5 (apc (ig eName 5 .i64 h2) (apc (ig eName 5 .i64 h2) apn)))
     apply bi h <;> intro h6 h
     ·
      rw [← sj h]
      exact xy ([(49, .d true), (6000, .d true)] ++ kH k4) (k4.b (av h6 apn))
     ·
      apply bi h <;> intro h7 h
      ·
       have k5 := k4.a [(49, .d false), (53, .d true), (57, .v (.ro (eName x2)))] (av h6 (av h7 (apc (ig eName 5 .i64 h2) apn)))
       apply bn h; intro x8 h8 h
       apply bi h <;> intro h9 h
       ·
        rw [← sj h]
        exact xy ([(64, .v (.ro (eName x8))), (68, .d true), (6000, .d true)] ++ kH k5) (k5.b (apc (ig eName 5 .i64 h8) (av h9 apn)))
       ·
        rw [← sj h]
        exact rn ([(64, .v (.ro (eName x8))), (68, .d false), (6000, .d true)] ++ kH k5) (k5.b (apc (ig eName 5 .i64 h8) (av h9 (apc (L22_0_k a1 a2 (w6 (v1 + 1))) apn))))
      ·
       rw [← sj h]
       exact rn ([(49, .d false), (53, .d false), (6000, .d true)] ++ kH k4) (k4.b (av h6 (av h7 (apc (L22_0_k a1 a2 (w6 (v1 + 1))) apn))))
 ·
  rw [← sj h]
  exact xb ([(9, .d false), (6000, .d true)] ++ kH k0) (k0.b (av h1 apn))
theorem L22_0_run (s0 : Int) (e : E_L22_0) (h : runL (fun s => L22_0 a1 a2 s) s0 = some e) : L22_0_x e (L22_0_e a1 a2 s0) := by
  have q := @loop_sound' (Int) E_L22_0 (fun s => L22_0 a1 a2 s) (fun s => L22_0_e a1 a2 s) (L22_0_x) (fun s r h => L22_0_ok a1 a2 s h) s0 e h
  exact q
end
def F22_v (a1 : ScopesD) (a2 : Int) (x0 : Bool) : AV := (vb x0)
def F22 (a1 : ScopesD) (a2 : Int) : Option Bool :=
  ((runL (fun s => L22_0 a1 a2 s) 0).bind fun r1 => match r1 with | .k0 => (some false) | .k1 => (some true))
theorem F22_ok (a1 : ScopesD) (a2 : Int) {r : Bool} (h : F22 a1 a2 = some r) : PR1 prg 22 [ls 5 eName a1.decl, i6 a2] (F22_v a1 a2 r) := by
 unfold F22 at h
 apply bn h; intro r1 h1 h
 cases r1 with
 | k0 =>
  obtain ⟨g1, y1, e1⟩ := L22_0_run a1 a2 0 _ h1
  rw [← sj h]
  exact fq [(2000, .l .ret ⟨fr 71 g1 [(4, vb false)], y1⟩), (6000, .d true)] (apc (L22_0_k a1 a2 0) (apc (e1 : L22_0_e a1 a2 0 = some (.ret, ⟨fr 71 g1 [(4, vb false)], y1⟩)) apn))
 | k1 =>
  obtain ⟨g1, e1⟩ := L22_0_run a1 a2 0 _ h1
  rw [← sj h]
  exact fq [(2000, .l (.brk 0) ⟨fr 71 g1 [], []⟩), (6000, .d true)] (apc (L22_0_k a1 a2 0) (apc (e1 : L22_0_e a1 a2 0 = some ((.brk 0), ⟨fr 71 g1 [], []⟩)) apn))
inductive E_L22_0_2 where
  | k0
  | k1
section
variable (a1 : ScopesD) (a2 : Int)
def L22_0_2 (v1 : Int) : Option (E_L22_0_2 ⊕ (Int)) :=
  (bif (decide (v1 < (a1.uses.length : Int))) then ((getI a1.uses v1).bind fun x2 => (bif (decide (x2.scp < 0)) then (some (.inl (.k0))) else (bif (decide (x2.scp ≥ a2)) then (some (.inl (.k0))) else (bif (decide (x2.frm < 0)) then (some (.inl (.k0))) else (bif (decide (x2.til < x2.frm)) then (some (.inl (.k0))) else (bif (decide (v1 > 0)) then ((getI a1.uses (IntKind.wrap .i64 (v1 - 1))).bind fun x8 => (bif (decide (x2.frm < x8.frm)) then (some (.inl (.k0))) else (some (.inr ((IntKind.wrap .i64 (v1 + 1))))))) else (some (.inr ((IntKind.wrap .i64 (v1 + 1))))))))))) else (some (.inl (.k1))))
def L22_0_2_s (v1 : Int) : St := ⟨fr 71 ug [(0, ls 5 eName a1.uses), (1, i6 a2), (5, i6 v1)], []⟩
theorem L22_0_2_k (v1 : Int) : okT 0 (L22_0_2_s a1 a2 v1).h = true := (okT_of rfl rfl)
abbrev L22_0_2_e (v1 : Int) := evH prg 0 [0, 1, 5] ir22_l0 (L22_0_2_s a1 a2 v1)
def L22_0_2_x (e : E_L22_0_2) (r : Option (Out × St)) : Prop := match e with | .k0 => ∃ g y, r = some (.ret, ⟨fr 71 g [(4, vb false)], y⟩) | .k1 => ∃ g, r = some ((.brk 0), ⟨fr 71 g [], []⟩)
theorem L22_0_2_ok (v1 : Int) {r : E_L22_0_2 ⊕ (Int)} (h : L22_0_2 a1 a2 v1 = some r) : OkR (fun e => L22_0_2_x e (L22_0_2_e a1 a2 v1)) (fun s => L22_0_2_e a1 a2 v1 = L22_0_2_e a1 a2 s) r := by
 unfold L22_0_2 at h
 have k0 := ka [(8, .v (i6 (a1.uses.length : Int)))] (apc (lg a1.uses eName 5) apn)
 apply bi h <;> intro h1 h
 ·
  apply bn h; intro x2 h2 h
  have k1 := k0.a [(9, .d true), (14, .v (.ro (eName x2)))] (av h1 (apc (ig eName 5 .i64 h2) apn))
  apply bi h <;> intro h3 h
  ·
   rw [← sj h]
   exact xy ([(17, .d true), (6000, .d true)] ++ kH k1) (k1.b (av h3 apn))
  ·
   have k2 := k1.a [(17, .d false), (21, .v (.ro (eName x2)))] (av h3 (apc (ig eName 5 .i64 h2) apn))
   apply bi h <;> intro h4 h
   ·
    rw [← sj h]
    exact xy ([(25, .d true), (6000, .d true)] ++ kH k2) (k2.b (av h4 apn))
   ·
    have k3 := k2.a [(25, .d false), (30, .v (.ro (eName x2)))] (av h4 (apc (ig eName 5 .i64 h2) apn))
    apply bi h <;> intro h5 h
    ·
     rw [← sj h]
     exact xy ([(34, .d true), (6000, .d true)] ++ kH k3) (k3.b (av h5 apn))
    ·
     have k4 := k3.a [(34, .d false), (39, .v (.ro (eName x2))), (45, .v (.ro (eName x2)))] (av h5 (apc (ig eName 5 .i64 h2) (apc (ig eName 5 .i64 h2) apn)))
     apply bi h <;> intro h6 h
     ·
      rw [← sj h]
      exact xy ([(49, .d true), (6000, .d true)] ++ kH k4) (k4.b (av h6 apn))
     ·
      apply bi h <;> intro h7 h
      ·
       have k5 := k4.a [(49, .d false), (53, .d true), (57, .v (.ro (eName x2)))] (av h6 (av h7 (apc (ig eName 5 .i64 h2) apn)))
       apply bn h; intro x8 h8 h
       apply bi h <;> intro h9 h
       ·
        rw [← sj h]
        exact xy ([(64, .v (.ro (eName x8))), (68, .d true), (6000, .d true)] ++ kH k5) (k5.b (apc (ig eName 5 .i64 h8) (av h9 apn)))
       ·
        rw [← sj h]
        exact rn ([(64, .v (.ro (eName x8))), (68, .d false), (6000, .d true)] ++ kH k5) (k5.b (apc (ig eName 5 .i64 h8) (av h9 (apc (L22_0_2_k a1 a2 (w6 (v1 + 1))) apn))))
      ·
       rw [← sj h]
       exact rn ([(49, .d false), (53, .d false), (6000, .d true)] ++ kH k4) (k4.b (av h6 (av h7 (apc (L22_0_2_k a1 a2 (w6 (v1 + 1))) apn))))
 ·
  rw [← sj h]
  exact xb ([(9, .d false), (6000, .d true)] ++ kH k0) (k0.b (av h1 apn))
theorem L22_0_2_run (s0 : Int) (e : E_L22_0_2) (h : runL (fun s => L22_0_2 a1 a2 s) s0 = some e) : L22_0_2_x e (L22_0_2_e a1 a2 s0) := by
  have q := @loop_sound' (Int) E_L22_0_2 (fun s => L22_0_2 a1 a2 s) (fun s => L22_0_2_e a1 a2 s) (L22_0_2_x) (fun s r h => L22_0_2_ok a1 a2 s h) s0 e h
  exact q
end
def F22_2_v (a1 : ScopesD) (a2 : Int) (x0 : Bool) : AV := (vb x0)
def F22_2 (a1 : ScopesD) (a2 : Int) : Option Bool :=
  ((runL (fun s => L22_0_2 a1 a2 s) 0).bind fun r1 => match r1 with | .k0 => (some false) | .k1 => (some true))
theorem F22_2_ok (a1 : ScopesD) (a2 : Int) {r : Bool} (h : F22_2 a1 a2 = some r) : PR1 prg 22 [ls 5 eName a1.uses, i6 a2] (F22_2_v a1 a2 r) := by
 unfold F22_2 at h
 apply bn h; intro r1 h1 h
 cases r1 with
 | k0 =>
  obtain ⟨g1, y1, e1⟩ := L22_0_2_run a1 a2 0 _ h1
  rw [← sj h]
  exact fq [(2000, .l .ret ⟨fr 71 g1 [(4, vb false)], y1⟩), (6000, .d true)] (apc (L22_0_2_k a1 a2 0) (apc (e1 : L22_0_2_e a1 a2 0 = some (.ret, ⟨fr 71 g1 [(4, vb false)], y1⟩)) apn))
 | k1 =>
  obtain ⟨g1, e1⟩ := L22_0_2_run a1 a2 0 _ h1
  rw [← sj h]
  exact fq [(2000, .l (.brk 0) ⟨fr 71 g1 [], []⟩), (6000, .d true)] (apc (L22_0_2_k a1 a2 0) (apc (e1 : L22_0_2_e a1 a2 0 = some ((.brk 0), ⟨fr 71 g1 [], []⟩)) apn))
def F10_v (a1 : ScopesD) (x0 : Bool) : AV := (vb x0)
def F10 (a1 : ScopesD) : Option Bool :=
  (bif ((a1.all.length : Int) == 0) then (some false) else ((getI a1.all 0).bind fun x2 => (bif (x2.par != (-1)) then (some false) else ((runL (fun s => L10_0 a1 s) 0).bind fun r4 => match r4 with | .k0 => (some false) | .k1 => ((F22 a1 (a1.all.length : Int)).bind fun x5 => (bif x5 then ((F22_2 a1 (a1.all.length : Int)).bind fun x7 => (some x7)) else (some false)))))))
theorem F10_ok (a1 : ScopesD) {r : Bool} (h : F10 a1 = some r) : PR1 prg 10 [(.agg ((eScps a1).map .p))] (F10_v a1 r) := by
 unfold F10 at h
 have k0 := ka [(6, .v (i6 (a1.all.length : Int)))] (apc (lg a1.all eScope 3) apn)
 apply bi h <;> intro h1 h
 ·
  rw [← sj h]
  exact fq ([(7, .d true)] ++ kH k0) (k0.b (av h1 apn))
 ·
  apply bn h; intro x2 h2 h
  have k1 := k0.a [(7, .d false), (11, .v (.ro (eScope x2)))] (av h1 (apc (ig eScope 3 .i64 h2) apn))
  apply bi h <;> intro h3 h
  ·
   rw [← sj h]
   exact fq ([(14, .d true)] ++ kH k1) (k1.b (av h3 apn))
  ·
   apply bn h; intro r4 h4 h
   cases r4 with
   | k0 =>
    obtain ⟨g4, y4, e4⟩ := L10_0_run a1 0 _ h4
    rw [← sj h]
    exact fq ([(14, .d false), (2000, .l .ret ⟨fr 85 g4 [(2, vb false)], y4⟩), (6000, .d true)] ++ kH k1) (k1.b (av h3 (apc (L10_0_k a1 0) (apc (e4 : L10_0_e a1 0 = some (.ret, ⟨fr 85 g4 [(2, vb false)], y4⟩)) apn))))
   | k1 =>
    obtain ⟨g4, e4⟩ := L10_0_run a1 0 _ h4
    have q2 := (e4 : L10_0_e a1 0 = some ((.brk 0), ⟨fr 85 g4 [(1, .ptr 0 0)], [.cells 25 ((eScps a1).map .p)]⟩))
    have k3 := k1.a [(14, .d false), (2000, .l (.brk 0) ⟨fr 85 g4 [(1, .ptr 0 0)], [.cells 25 ((eScps a1).map .p)]⟩), (75, .v (i6 (a1.all.length : Int)))] (av h3 (apc (L10_0_k a1 0) (apc q2 (apc (lg a1.all eScope 3) apn))))
    apply bn h; intro x5 h5 h
    apply bi h <;> intro h6 h
    ·
     apply bn h; intro x7 h7 h
     rw [← sj h]
     exact fq ([(76, .v (vb true)), (82, .v (i6 (a1.all.length : Int))), (83, .v (vb x7)), (6000, .d true)] ++ kH k3) (k3.b (apc ((((F22_ok a1 (a1.all.length : Int) h5).cp rfl _).trans (congrArg (fun z => some (vb z)) h6)) : CP prg 22 [ls 5 eName a1.decl, (i6 (a1.all.length : Int))] [.cells 25 ((eScps a1).map .p)] = some (vb true)) (apc (lg a1.all eScope 3) (apc (((F22_2_ok a1 (a1.all.length : Int) h7).cp rfl _) : CP prg 22 [ls 5 eName a1.uses, (i6 (a1.all.length : Int))] [.cells 25 ((eScps a1).map .p)] = some (vb x7)) apn))))
    ·
     rw [← sj h]
     exact fq ([(76, .v (vb false)), (6000, .d true)] ++ kH k3) (k3.b (apc ((((F22_ok a1 (a1.all.length : Int) h5).cp rfl _).trans (congrArg (fun z => some (vb z)) h6)) : CP prg 22 [ls 5 eName a1.decl, (i6 (a1.all.length : Int))] [.cells 25 ((eScps a1).map .p)] = some (vb false)) apn))
inductive E_L3_1 where
  | k0 (x0 : Bool)
  | k1
section
variable (a1 : Int) (a2 : ScopesD) (a3 a4 a5 : Int)
def L3_1 (v1 : Int) : Option (E_L3_1 ⊕ (Int)) :=
  (bif (decide (v1 < (a2.decl.length : Int))) then ((getI a2.decl v1).bind fun x2 => (bif (decide (x2.frm ≤ a1)) then (bif (decide (a1 < x2.til)) then (bif (a3 == v1) then (bif (a4 == (-1)) then (bif (a5 == 0) then ((F8).bind fun x8 => (some (.inl (.k0 x8)))) else (some (.inl (.k0 false)))) else (some (.inl (.k0 false)))) else (some (.inl (.k0 false)))) else (some (.inr ((IntKind.wrap .i64 (v1 + 1)))))) else (some (.inr ((IntKind.wrap .i64 (v1 + 1))))))) else (some (.inl (.k1))))
def L3_1_s (v1 : Int) : St := ⟨fr 147 ug [(1, i6 a1), (2, (.ro (eScps a2))), (5, i6 a3), (6, i6 a4), (7, i6 a5), (8, i6 v1)], []⟩
theorem L3_1_k (v1 : Int) : okT 0 (L3_1_s a1 a2 a3 a4 a5 v1).h = true := (okT_of rfl rfl)
abbrev L3_1_e (v1 : Int) := evH prg 0 [1, 2, 5, 6, 7, 8] ir3_l1 (L3_1_s a1 a2 a3 a4 a5 v1)
def L3_1_x (e : E_L3_1) (r : Option (Out × St)) : Prop := match e with | .k0 x0 => ∃ g y, r = some (.ret, ⟨fr 147 g [(4, vb x0)], y⟩) | .k1 => ∃ g, r = some ((.brk 0), ⟨fr 147 g [(1, i6 a1), (2, (.ro (eScps a2))), (5, i6 a3), (6, i6 a4), (7, i6 a5)], []⟩)
theorem L3_1_ok (v1 : Int) {r : E_L3_1 ⊕ (Int)} (h : L3_1 a1 a2 a3 a4 a5 v1 = some r) : OkR (fun e => L3_1_x a1 a2 a3 a4 a5 e (L3_1_e a1 a2 a3 a4 a5 v1)) (fun s => L3_1_e a1 a2 a3 a4 a5 v1 = L3_1_e a1 a2 a3 a4 a5 s) r := by
 unfold L3_1 at h
 have k0 := ka [(55, .v (i6 (a2.decl.length : Int)))] (apc (lg a2.decl eName 5) apn)
 apply bi h <;> intro h1 h
 ·
  apply bn h; intro x2 h2 h
  have k1 := k0.a [(56, .d true), (62, .v (.ro (eName x2)))] (av h1 (apc (ig eName 5 .i64 h2) apn))
  apply bi h <;> intro h3 h
  ·
   have k2 := k1.a [(67, .d true), (73, .v (.ro (eName x2)))] (av h3 (apc (ig eName 5 .i64 h2) apn))
   apply bi h <;> intro h4 h
   ·
    apply bi h <;> intro h5 h
    ·
     have k3 := k2.a [(77, .d true), (81, .d true)] (av h4 (av h5 apn))
     apply bi h <;> intro h6 h
     ·
      apply bi h <;> intro h7 h
      ·
       apply bn h; intro x8 h8 h
       rw [← sj h]
       exact xy ([(84, .d true), (88, .d true), (91, .v (vb x8)), (6000, .d true)] ++ kH k3) (k3.b (av h6 (av h7 (apc (((F8_ok  h8).cp rfl _) : CP prg 8 [] [] = some (vb x8)) apn))))
      ·
       rw [← sj h]
       exact xy ([(84, .d true), (88, .d false), (6000, .d true)] ++ kH k3) (k3.b (av h6 (av h7 apn)))
     ·
      rw [← sj h]
      exact xy ([(84, .d false), (6000, .d true)] ++ kH k3) (k3.b (av h6 apn))
    ·
     rw [← sj h]
     exact xy ([(77, .d true), (81, .d false), (6000, .d true)] ++ kH k2) (k2.b (av h4 (av h5 apn)))
   ·
    rw [← sj h]
    exact rn ([(77, .d false), (6000, .d true)] ++ kH k2) (k2.b (av h4 (apc (L3_1_k a1 a2 a3 a4 a5 (w6 (v1 + 1))) apn)))
  ·
   rw [← sj h]
   exact rn ([(67, .d false), (6000, .d true)] ++ kH k1) (k1.b (av h3 (apc (L3_1_k a1 a2 a3 a4 a5 (w6 (v1 + 1))) apn)))
 ·
  rw [← sj h]
  exact xb ([(56, .d false), (6000, .d true)] ++ kH k0) (k0.b (av h1 apn))
theorem L3_1_run (s0 : Int) (e : E_L3_1) (h : runL (fun s => L3_1 a1 a2 a3 a4 a5 s) s0 = some e) : L3_1_x a1 a2 a3 a4 a5 e (L3_1_e a1 a2 a3 a4 a5 s0) := by
  have q := @loop_sound' (Int) E_L3_1 (fun s => L3_1 a1 a2 a3 a4 a5 s) (fun s => L3_1_e a1 a2 a3 a4 a5 s) (L3_1_x a1 a2 a3 a4 a5) (fun s r h => L3_1_ok a1 a2 a3 a4 a5 s h) s0 e h
  exact q
end
inductive E_L3_0 where
  | k0 (x0 : Bool)
  | k1
section
variable (a1 : Int) (a2 : ScopesD) (a3 a4 a5 : Int)
def L3_0 (v1 : Int) : Option (E_L3_0 ⊕ (Int)) :=
  (bif (decide (v1 < (a2.uses.length : Int))) then ((getI a2.uses v1).bind fun x2 => (bif (decide (x2.frm ≤ a1)) then (bif (decide (a1 < x2.til)) then (bif (a3 == (-1)) then (bif (a4 == v1) then (bif (a5 == 0) then ((F8).bind fun x8 => (some (.inl (.k0 x8)))) else (some (.inl (.k0 false)))) else (some (.inl (.k0 false)))) else (some (.inl (.k0 false)))) else (some (.inr ((IntKind.wrap .i64 (v1 + 1)))))) else (some (.inr ((IntKind.wrap .i64 (v1 + 1))))))) else (some (.inl (.k1))))
def L3_0_s (v1 : Int) : St := ⟨fr 147 ug [(1, i6 a1), (2, (.ro (eScps a2))), (5, i6 a3), (6, i6 a4), (7, i6 a5), (9, i6 v1)], []⟩
theorem L3_0_k (v1 : Int) : okT 0 (L3_0_s a1 a2 a3 a4 a5 v1).h = true := (okT_of rfl rfl)
abbrev L3_0_e (v1 : Int) := evH prg 0 [1, 2, 5, 6, 7, 9] ir3_l0 (L3_0_s a1 a2 a3 a4 a5 v1)
def L3_0_x (e : E_L3_0) (r : Option (Out × St)) : Prop := match e with | .k0 x0 => ∃ g y, r = some (.ret, ⟨fr 147 g [(4, vb x0)], y⟩) | .k1 => ∃ g, r = some ((.brk 2), ⟨fr 147 g [(1, i6 a1), (2, (.ro (eScps a2))), (5, i6 a3), (6, i6 a4), (7, i6 a5)], []⟩)
theorem L3_0_ok (v1 : Int) {r : E_L3_0 ⊕ (Int)} (h : L3_0 a1 a2 a3 a4 a5 v1 = some r) : OkR (fun e => L3_0_x a1 a2 a3 a4 a5 e (L3_0_e a1 a2 a3 a4 a5 v1)) (fun s => L3_0_e a1 a2 a3 a4 a5 v1 = L3_0_e a1 a2 a3 a4 a5 s) r := by
 unfold L3_0 at h
 have k0 := ka [(96, .v (i6 (a2.uses.length : Int)))] (apc (lg a2.uses eName 5) apn)
 apply bi h <;> intro h1 h
 ·
  apply bn h; intro x2 h2 h
  have k1 := k0.a [(97, .d true), (103, .v (.ro (eName x2)))] (av h1 (apc (ig eName 5 .i64 h2) apn))
  apply bi h <;> intro h3 h
  ·
   have k2 := k1.a [(108, .d true), (114, .v (.ro (eName x2)))] (av h3 (apc (ig eName 5 .i64 h2) apn))
   apply bi h <;> intro h4 h
   ·
    apply bi h <;> intro h5 h
    ·
     have k3 := k2.a [(118, .d true), (121, .d true)] (av h4 (av h5 apn))
     apply bi h <;> intro h6 h
     ·
      apply bi h <;> intro h7 h
      ·
       apply bn h; intro x8 h8 h
       rw [← sj h]
       exact xy ([(125, .d true), (129, .d true), (132, .v (vb x8)), (6000, .d true)] ++ kH k3) (k3.b (av h6 (av h7 (apc (((F8_ok  h8).cp rfl _) : CP prg 8 [] [] = some (vb x8)) apn))))
      ·
       rw [← sj h]
       exact xy ([(125, .d true), (129, .d false), (6000, .d true)] ++ kH k3) (k3.b (av h6 (av h7 apn)))
     ·
      rw [← sj h]
      exact xy ([(125, .d false), (6000, .d true)] ++ kH k3) (k3.b (av h6 apn))
    ·
     rw [← sj h]
     exact xy ([(118, .d true), (121, .d false), (6000, .d true)] ++ kH k2) (k2.b (av h4 (av h5 apn)))
   ·
    rw [← sj h]
    exact rn ([(118, .d false), (6000, .d true)] ++ kH k2) (k2.b (av h4 (apc (L3_0_k a1 a2 a3 a4 a5 (w6 (v1 + 1))) apn)))
  ·
   rw [← sj h]
   exact rn ([(108, .d false), (6000, .d true)] ++ kH k1) (k1.b (av h3 (apc (L3_0_k a1 a2 a3 a4 a5 (w6 (v1 + 1))) apn)))
 ·
  rw [← sj h]
  exact xb ([(97, .d false), (6000, .d true)] ++ kH k0) (k0.b (av h1 apn))
theorem L3_0_run (s0 : Int) (e : E_L3_0) (h : runL (fun s => L3_0 a1 a2 a3 a4 a5 s) s0 = some e) : L3_0_x a1 a2 a3 a4 a5 e (L3_0_e a1 a2 a3 a4 a5 s0) := by
  have q := @loop_sound' (Int) E_L3_0 (fun s => L3_0 a1 a2 a3 a4 a5 s) (fun s => L3_0_e a1 a2 a3 a4 a5 s) (L3_0_x a1 a2 a3 a4 a5) (fun s r h => L3_0_ok a1 a2 a3 a4 a5 s h) s0 e h
  exact q
end
def F3_v (a1 : ScopesD) (a2 : Int) (x0 : Bool) : AV := (vb x0)
def F3 (a1 : ScopesD) (a2 : Int) : Option Bool :=
  ((F7 a1).bind fun x1 => (bif x1 then ((F9 a1 a2).bind fun r3 => match r3 with | .k0 x3_0 x3_1 x3_2 => ((F10 a1).bind fun x4 => (bif x4 then (bif (decide (a2 < 0)) then (bif (x3_0 == 0) then (bif (x3_1 == 0) then (bif (x3_2 == 4) then ((F8).bind fun x10 => (some x10)) else (some false)) else (some false)) else (some false)) else ((runL (fun s => L3_1 a2 a1 x3_0 x3_1 x3_2 s) 0).bind fun r7 => match r7 with | .k0 x7_0 => (some x7_0) | .k1 => ((runL (fun s => L3_0 a2 a1 x3_0 x3_1 x3_2 s) 0).bind fun r8 => match r8 with | .k0 x8_0 => (some x8_0) | .k1 => (bif (x3_0 == 0) then (bif (x3_1 == 0) then (bif (x3_2 == 5) then ((F8).bind fun x12 => (some x12)) else (some false)) else (some false)) else (some false))))) else (bif (x3_0 == 0) then (bif (x3_1 == 0) then (bif (x3_2 == 2) then ((F8).bind fun x9 => (some x9)) else (some false)) else (some false)) else (some false))))) else ((F8).bind fun x3 => (some x3))))
abbrev F3_d0 (g7 : Nat → AV) (a2 : Int) (a1 : ScopesD) (x3_0 x3_1 x3_2 : Int) : St := ⟨fr 147 g7 [(1, i6 a2), (2, (.ro (eScps a1))), (5, i6 x3_0), (6, i6 x3_1), (7, i6 x3_2)], []⟩
abbrev F3_d1 (g8 : Nat → AV) (a2 : Int) (a1 : ScopesD) (x3_0 x3_1 x3_2 : Int) : St := ⟨fr 147 g8 [(1, i6 a2), (2, (.ro (eScps a1))), (5, i6 x3_0), (6, i6 x3_1), (7, i6 x3_2)], []⟩
theorem F3_ok (a1 : ScopesD) (a2 : Int) {r : Bool} (h : F3 a1 a2 = some r) : PR1 prg 3 [(.agg ((eScps a1).map .p)), i6 a2] (F3_v a1 a2 r) := by
 unfold F3 at h
 apply bn h; intro x1 h1 h
 apply bi h <;> intro h2 h
 ·
  have q0 := ((((F7_ok a1 h1).cp rfl _).trans (congrArg (fun z => some (vb z)) h2)) : CP prg 7 [(.agg ((eScps a1).map .p))] [] = some (vb true))
  apply bn h; intro r3 h3 h
  cases r3 with
  | k0 x3_0 x3_1 x3_2 =>
   have q1 := (((F9_ok a1 a2 h3).cp rfl _) : CP prg 9 [(.agg ((eScps a1).map .p)), i6 a2] [] = some (.tup [i6 x3_0, i6 x3_1, i6 x3_2]))
   have k2 := ka [(11, .v (vb true)), (17, .v (.tup [i6 x3_0, i6 x3_1, i6 x3_2]))] (apc q0 (apc q1 apn))
   apply bn h; intro x4 h4 h
   apply bi h <;> intro h5 h
   ·
    have q3 := ((((F10_ok a1 h4).cp rfl _).trans (congrArg (fun z => some (vb z)) h5)) : CP prg 10 [(.agg ((eScps a1).map .p))] [] = some (vb true))
    apply bi h <;> intro h6 h
    ·
     have k4 := k2.a [(22, .v (vb true)), (38, .d true)] (apc q3 (av h6 apn))
     apply bi h <;> intro h7 h
     ·
      apply bi h <;> intro h8 h
      ·
       have k5 := k4.a [(40, .d true), (43, .d true)] (av h7 (av h8 apn))
       apply bi h <;> intro h9 h
       ·
        apply bn h; intro x10 h10 h
        rw [← sj h]
        exact fq ([(47, .d true), (50, .v (vb x10))] ++ kH k5) (k5.b (av h9 (apc (((F8_ok  h10).cp rfl _) : CP prg 8 [] [] = some (vb x10)) apn)))
       ·
        rw [← sj h]
        exact fq ([(47, .d false)] ++ kH k5) (k5.b (av h9 apn))
      ·
       rw [← sj h]
       exact fq ([(40, .d true), (43, .d false)] ++ kH k4) (k4.b (av h7 (av h8 apn)))
     ·
      rw [← sj h]
      exact fq ([(40, .d false)] ++ kH k4) (k4.b (av h7 apn))
    ·
     have k6 := k2.a [(22, .v (vb true)), (38, .d false)] (apc q3 (av h6 apn))
     apply bn h; intro r7 h7 h
     cases r7 with
     | k0 x7_0 =>
      obtain ⟨g7, y7, e7⟩ := L3_1_run a2 a1 x3_0 x3_1 x3_2 0 _ h7
      rw [← sj h]
      exact fq ([(2000, .l .ret ⟨fr 147 g7 [(4, vb x7_0)], y7⟩), (6000, .d true)] ++ kH k6) (k6.b (apc (L3_1_k a2 a1 x3_0 x3_1 x3_2 0) (apc (e7 : L3_1_e a2 a1 x3_0 x3_1 x3_2 0 = some (.ret, ⟨fr 147 g7 [(4, vb x7_0)], y7⟩)) apn)))
     | k1 =>
      obtain ⟨g7, e7⟩ := L3_1_run a2 a1 x3_0 x3_1 x3_2 0 _ h7
      have q7 := (e7 : L3_1_e a2 a1 x3_0 x3_1 x3_2 0 = some ((.brk 0), F3_d0 g7 a2 a1 x3_0 x3_1 x3_2))
      have k8 := k6.a [(2000, .l (.brk 0) (F3_d0 g7 a2 a1 x3_0 x3_1 x3_2))] (apc (L3_1_k a2 a1 x3_0 x3_1 x3_2 0) (apc q7 apn))
      apply bn h; intro r8 h8 h
      cases r8 with
      | k0 x8_0 =>
       obtain ⟨g8, y8, e8⟩ := L3_0_run a2 a1 x3_0 x3_1 x3_2 0 _ h8
       rw [← sj h]
       exact fq ([(2002, .l .ret ⟨fr 147 g8 [(4, vb x8_0)], y8⟩), (6000, .d true)] ++ kH k8) (k8.b (apc (L3_0_k a2 a1 x3_0 x3_1 x3_2 0) (apc (e8 : L3_0_e a2 a1 x3_0 x3_1 x3_2 0 = some (.ret, ⟨fr 147 g8 [(4, vb x8_0)], y8⟩)) apn)))
      | k1 =>
       obtain ⟨g8, e8⟩ := L3_0_run a2 a1 x3_0 x3_1 x3_2 0 _ h8
       have q9 := (e8 : L3_0_e a2 a1 x3_0 x3_1 x3_2 0 = some ((.brk 2), F3_d1 g8 a2 a1 x3_0 x3_1 x3_2))
       have k10 := k8.a [(2002, .l (.brk 2) (F3_d1 g8 a2 a1 x3_0 x3_1 x3_2))] (apc (L3_0_k a2 a1 x3_0 x3_1 x3_2 0) (apc q9 apn))
       apply bi h <;> intro h9 h
       ·
        apply bi h <;> intro h10 h
        ·
         have k11 := k10.a [(135, .d true), (138, .d true)] (av h9 (av h10 apn))
         apply bi h <;> intro h11 h
         ·
          apply bn h; intro x12 h12 h
          rw [← sj h]
          exact fq ([(142, .d true), (145, .v (vb x12)), (6000, .d true)] ++ kH k11) (k11.b (av h11 (apc (((F8_ok  h12).cp rfl _) : CP prg 8 [] [] = some (vb x12)) apn)))
         ·
          rw [← sj h]
          exact fq ([(142, .d false), (6000, .d true)] ++ kH k11) (k11.b (av h11 apn))
        ·
         rw [← sj h]
         exact fq ([(135, .d true), (138, .d false), (6000, .d true)] ++ kH k10) (k10.b (av h9 (av h10 apn)))
       ·
        rw [← sj h]
        exact fq ([(135, .d false), (6000, .d true)] ++ kH k10) (k10.b (av h9 apn))
   ·
    have q12 := ((((F10_ok a1 h4).cp rfl _).trans (congrArg (fun z => some (vb z)) h5)) : CP prg 10 [(.agg ((eScps a1).map .p))] [] = some (vb false))
    apply bi h <;> intro h6 h
    ·
     have k13 := k2.a [(22, .v (vb false)), (25, .d true)] (apc q12 (av h6 apn))
     apply bi h <;> intro h7 h
     ·
      apply bi h <;> intro h8 h
      ·
       apply bn h; intro x9 h9 h
       rw [← sj h]
       exact fq ([(28, .d true), (32, .d true), (35, .v (vb x9))] ++ kH k13) (k13.b (av h7 (av h8 (apc (((F8_ok  h9).cp rfl _) : CP prg 8 [] [] = some (vb x9)) apn))))
      ·
       rw [← sj h]
       exact fq ([(28, .d true), (32, .d false)] ++ kH k13) (k13.b (av h7 (av h8 apn)))
     ·
      rw [← sj h]
      exact fq ([(28, .d false)] ++ kH k13) (k13.b (av h7 apn))
    ·
     rw [← sj h]
     exact fq ([(22, .v (vb false)), (25, .d false)] ++ kH k2) (k2.b (apc q12 (av h6 apn)))
 ·
  apply bn h; intro x3 h3 h
  rw [← sj h]
  exact fq [(11, .v (vb false)), (13, .v (vb x3))] (apc ((((F7_ok a1 h1).cp rfl _).trans (congrArg (fun z => some (vb z)) h2)) : CP prg 7 [(.agg ((eScps a1).map .p))] [] = some (vb false)) (apc (((F8_ok  h3).cp rfl _) : CP prg 8 [] [] = some (vb x3)) apn))
end
end Go.Proofs.Try
