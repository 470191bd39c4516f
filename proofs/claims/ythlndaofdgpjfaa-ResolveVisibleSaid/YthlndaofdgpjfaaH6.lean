/- Decompiled by a program: functions as plain data see them, part 1. -/
import Derived.Test.YthlndaofdgpjfaaW6
namespace Go.Proofs.Try
set_option linter.unusedSimpArgs false
set_option linter.unusedVariables false
set_option maxHeartbeats 4000000
open Go Go.Vs
noncomputable section
def F7_v (a1 : ScopesD) (x0 : Bool) : AV := (vb x0)
def F7 (a1 : ScopesD) : Option Bool :=
  (bif (decide ((a1.all.length : Int) ≤ 60)) then (bif (decide ((a1.decl.length : Int) ≤ 60)) then (some (decide ((a1.uses.length : Int) ≤ 60))) else (some false)) else (some false))
theorem F7_ok (a1 : ScopesD) {r : Bool} (h : F7 a1 = some r) : PR1 prg 7 [(.agg ((eScps a1).map .p))] (F7_v a1 r) := by
 unfold F7 at h
 have k0 := ka [(5, .v (i6 (a1.all.length : Int)))] (apc (lg a1.all eScope 3) apn)
 apply bi h <;> intro h1 h
 ·
  have k1 := k0.a [(6, .d true), (10, .v (i6 (a1.decl.length : Int)))] (av h1 (apc (lg a1.decl eName 5) apn))
  apply bi h <;> intro h2 h
  ·
   rw [← sj h]
   exact fq ([(11, .d true), (16, .v (i6 (a1.uses.length : Int)))] ++ kH k1) (k1.b (av h2 (apc (lg a1.uses eName 5) apn)))
  ·
   rw [← sj h]
   exact fq ([(11, .d false)] ++ kH k1) (k1.b (av h2 apn))
 ·
  rw [← sj h]
  exact fq ([(6, .d false)] ++ kH k0) (k0.b (av h1 apn))
inductive E_L19_0 where
  | k0
  | k1
section
variable (a1 : ScopesD) (a2 : Int)
def L19_0 (v1 : Int) : Option (E_L19_0 ⊕ (Int)) :=
  (bif (decide (v1 < a2)) then ((getI a1.all v1).bind fun x2 => (bif (v1 == 0) then (bif (x2.par != (-1)) then (some (.inl (.k0))) else (bif (decide (v1 > 0)) then (bif (decide (x2.par < 0)) then (some (.inl (.k0))) else (bif (decide (x2.par ≥ v1)) then (some (.inl (.k0))) else (bif (decide (x2.frm < 0)) then (some (.inl (.k0))) else (bif (decide (x2.frm > x2.til)) then (some (.inl (.k0))) else (some (.inr ((IntKind.wrap .i64 (v1 + 1))))))))) else (bif (decide (x2.frm < 0)) then (some (.inl (.k0))) else (bif (decide (x2.frm > x2.til)) then (some (.inl (.k0))) else (some (.inr ((IntKind.wrap .i64 (v1 + 1))))))))) else (bif (decide (v1 > 0)) then (bif (decide (x2.par < 0)) then (some (.inl (.k0))) else (bif (decide (x2.par ≥ v1)) then (some (.inl (.k0))) else (bif (decide (x2.frm < 0)) then (some (.inl (.k0))) else (bif (decide (x2.frm > x2.til)) then (some (.inl (.k0))) else (some (.inr ((IntKind.wrap .i64 (v1 + 1))))))))) else (bif (decide (x2.frm < 0)) then (some (.inl (.k0))) else (bif (decide (x2.frm > x2.til)) then (some (.inl (.k0))) else (some (.inr ((IntKind.wrap .i64 (v1 + 1)))))))))) else (some (.inl (.k1))))
def L19_0_s (v1 : Int) : St := ⟨fr 73 ug [(1, .ptr 0 0), (6, ls 3 eScope a1.all), (7, i6 a2), (8, i6 v1)], [.cells 25 ((eScps a1).map .p)]⟩
theorem L19_0_k (v1 : Int) : okT 1 (L19_0_s a1 a2 v1).h = true := (okT_of rfl (ac rfl))
abbrev L19_0_e (v1 : Int) := evH prg 1 [1, 6, 7, 8] ir19_l0 (L19_0_s a1 a2 v1)
def L19_0_x (e : E_L19_0) (r : Option (Out × St)) : Prop := match e with | .k0 => ∃ g y, r = some (.ret, ⟨fr 73 g [(2, i6 2)], y⟩) | .k1 => ∃ g, r = some ((.brk 0), ⟨fr 73 g [(1, .ptr 0 0), (6, ls 3 eScope a1.all)], [.cells 25 ((eScps a1).map .p)]⟩)
theorem L19_0_ok (v1 : Int) {r : E_L19_0 ⊕ (Int)} (h : L19_0 a1 a2 v1 = some r) : OkR (fun e => L19_0_x a1 e (L19_0_e a1 a2 v1)) (fun s => L19_0_e a1 a2 v1 = L19_0_e a1 a2 s) r := by
 unfold L19_0 at h
 apply bi h <;> intro h1 h
 ·
  apply bn h; intro x2 h2 h
  have k0 := ka [(9, .d true), (11, .v (.ro (eScope x2)))] (av h1 (apc (ig eScope 3 .i64 h2) apn))
  apply bi h <;> intro h3 h
  ·
   apply bi h <;> intro h4 h
   ·
    rw [← sj h]
    exact xy ([(14, .d true), (18, .d true), (6000, .d true)] ++ kH k0) (k0.b (av h3 (av h4 apn)))
   ·
    have k1 := k0.a [(14, .d true), (18, .d false)] (av h3 (av h4 apn))
    apply bi h <;> intro h5 h
    ·
     apply bi h <;> intro h6 h
     ·
      rw [← sj h]
      exact xy ([(22, .d true), (26, .d true), (6000, .d true)] ++ kH k1) (k1.b (av h5 (av h6 apn)))
     ·
      have k2 := k1.a [(22, .d true), (26, .d false)] (av h5 (av h6 apn))
      apply bi h <;> intro h7 h
      ·
       rw [← sj h]
       exact xy ([(31, .d true), (6000, .d true)] ++ kH k2) (k2.b (av h7 apn))
      ·
       apply bi h <;> intro h8 h
       ·
        rw [← sj h]
        exact xy ([(31, .d false), (39, .d true), (6000, .d true)] ++ kH k2) (k2.b (av h7 (av h8 apn)))
       ·
        have k3 := k2.a [(31, .d false), (39, .d false)] (av h7 (av h8 apn))
        apply bi h <;> intro h9 h
        ·
         rw [← sj h]
         exact xy ([(48, .d true), (6000, .d true)] ++ kH k3) (k3.b (av h9 apn))
        ·
         rw [← sj h]
         exact rn ([(48, .d false), (6000, .d true)] ++ kH k3) (k3.b (av h9 (apc (L19_0_k a1 a2 (w6 (v1 + 1))) apn)))
    ·
     apply bi h <;> intro h6 h
     ·
      rw [← sj h]
      exact xy ([(22, .d false), (39, .d true), (6000, .d true)] ++ kH k1) (k1.b (av h5 (av h6 apn)))
     ·
      have k4 := k1.a [(22, .d false), (39, .d false)] (av h5 (av h6 apn))
      apply bi h <;> intro h7 h
      ·
       rw [← sj h]
       exact xy ([(48, .d true), (6000, .d true)] ++ kH k4) (k4.b (av h7 apn))
      ·
       rw [← sj h]
       exact rn ([(48, .d false), (6000, .d true)] ++ kH k4) (k4.b (av h7 (apc (L19_0_k a1 a2 (w6 (v1 + 1))) apn)))
  ·
   apply bi h <;> intro h4 h
   ·
    have k5 := k0.a [(14, .d false), (22, .d true)] (av h3 (av h4 apn))
    apply bi h <;> intro h5 h
    ·
     rw [← sj h]
     exact xy ([(26, .d true), (6000, .d true)] ++ kH k5) (k5.b (av h5 apn))
    ·
     apply bi h <;> intro h6 h
     ·
      rw [← sj h]
      exact xy ([(26, .d false), (31, .d true), (6000, .d true)] ++ kH k5) (k5.b (av h5 (av h6 apn)))
     ·
      have k6 := k5.a [(26, .d false), (31, .d false)] (av h5 (av h6 apn))
      apply bi h <;> intro h7 h
      ·
       rw [← sj h]
       exact xy ([(39, .d true), (6000, .d true)] ++ kH k6) (k6.b (av h7 apn))
      ·
       apply bi h <;> intro h8 h
       ·
        rw [← sj h]
        exact xy ([(39, .d false), (48, .d true), (6000, .d true)] ++ kH k6) (k6.b (av h7 (av h8 apn)))
       ·
        rw [← sj h]
        exact rn ([(39, .d false), (48, .d false), (6000, .d true)] ++ kH k6) (k6.b (av h7 (av h8 (apc (L19_0_k a1 a2 (w6 (v1 + 1))) apn))))
   ·
    have k7 := k0.a [(14, .d false), (22, .d false)] (av h3 (av h4 apn))
    apply bi h <;> intro h5 h
    ·
     rw [← sj h]
     exact xy ([(39, .d true), (6000, .d true)] ++ kH k7) (k7.b (av h5 apn))
    ·
     apply bi h <;> intro h6 h
     ·
      rw [← sj h]
      exact xy ([(39, .d false), (48, .d true), (6000, .d true)] ++ kH k7) (k7.b (av h5 (av h6 apn)))
     ·
      rw [← sj h]
      exact rn ([(39, .d false), (48, .d false), (6000, .d true)] ++ kH k7) (k7.b (av h5 (av h6 (apc (L19_0_k a1 a2 (w6 (v1 + 1))) apn))))
 ·
  rw [← sj h]
  exact xb [(9, .d false), (6000, .d true)] (av h1 apn)
theorem L19_0_run (s0 : Int) (e : E_L19_0) (h : runL (fun s => L19_0 a1 a2 s) s0 = some e) : L19_0_x a1 e (L19_0_e a1 a2 s0) := by
  have q := @loop_sound' (Int) E_L19_0 (fun s => L19_0 a1 a2 s) (fun s => L19_0_e a1 a2 s) (L19_0_x a1) (fun s r h => L19_0_ok a1 a2 s h) s0 e h
  exact q
end
inductive E_L31_0 where
  | k0
  | k1
section
variable (a1 : ScopesD) (a2 a3 : Int)
def L31_0 (v1 : Int) : Option (E_L31_0 ⊕ (Int)) :=
  (bif (decide (v1 < a3)) then ((getI a1.decl v1).bind fun x2 => (bif (decide (x2.scp < 0)) then (some (.inl (.k0))) else (bif (decide (x2.scp ≥ a2)) then (some (.inl (.k0))) else (bif (decide (x2.frm < 0)) then (some (.inl (.k0))) else (bif (decide (x2.frm > x2.til)) then (some (.inl (.k0))) else (bif (decide (v1 > 0)) then ((getI a1.decl (IntKind.wrap .i64 (v1 - 1))).bind fun x8 => (bif (decide (x8.frm > x2.frm)) then (some (.inl (.k0))) else (some (.inr ((IntKind.wrap .i64 (v1 + 1))))))) else (some (.inr ((IntKind.wrap .i64 (v1 + 1))))))))))) else (some (.inl (.k1))))
def L31_0_s (v1 : Int) : St := ⟨fr 56 ug [(0, ls 5 eName a1.decl), (1, i6 a2), (7, ls 5 eName a1.decl), (8, i6 a3), (9, i6 v1)], []⟩
theorem L31_0_k (v1 : Int) : okT 0 (L31_0_s a1 a2 a3 v1).h = true := (okT_of rfl rfl)
abbrev L31_0_e (v1 : Int) := evH prg 0 [0, 1, 7, 8, 9] ir31_l0 (L31_0_s a1 a2 a3 v1)
def L31_0_x (e : E_L31_0) (r : Option (Out × St)) : Prop := match e with | .k0 => ∃ g y, r = some (.ret, ⟨fr 56 g [(4, vb false)], y⟩) | .k1 => ∃ g, r = some ((.brk 0), ⟨fr 56 g [(0, ls 5 eName a1.decl), (7, ls 5 eName a1.decl)], []⟩)
theorem L31_0_ok (v1 : Int) {r : E_L31_0 ⊕ (Int)} (h : L31_0 a1 a2 a3 v1 = some r) : OkR (fun e => L31_0_x a1 e (L31_0_e a1 a2 a3 v1)) (fun s => L31_0_e a1 a2 a3 v1 = L31_0_e a1 a2 a3 s) r := by
 unfold L31_0 at h
 apply bi h <;> intro h1 h
 ·
  apply bn h; intro x2 h2 h
  have k0 := ka [(10, .d true), (12, .v (.ro (eName x2)))] (av h1 (apc (ig eName 5 .i64 h2) apn))
  apply bi h <;> intro h3 h
  ·
   rw [← sj h]
   exact xy ([(16, .d true), (6000, .d true)] ++ kH k0) (k0.b (av h3 apn))
  ·
   apply bi h <;> intro h4 h
   ·
    rw [← sj h]
    exact xy ([(16, .d false), (21, .d true), (6000, .d true)] ++ kH k0) (k0.b (av h3 (av h4 apn)))
   ·
    have k1 := k0.a [(16, .d false), (21, .d false)] (av h3 (av h4 apn))
    apply bi h <;> intro h5 h
    ·
     rw [← sj h]
     exact xy ([(27, .d true), (6000, .d true)] ++ kH k1) (k1.b (av h5 apn))
    ·
     apply bi h <;> intro h6 h
     ·
      rw [← sj h]
      exact xy ([(27, .d false), (36, .d true), (6000, .d true)] ++ kH k1) (k1.b (av h5 (av h6 apn)))
     ·
      have k2 := k1.a [(27, .d false), (36, .d false)] (av h5 (av h6 apn))
      apply bi h <;> intro h7 h
      ·
       apply bn h; intro x8 h8 h
       have k3 := k2.a [(40, .d true), (45, .v (.ro (eName x8)))] (av h7 (apc (ig eName 5 .i64 h8) apn))
       apply bi h <;> intro h9 h
       ·
        rw [← sj h]
        exact xy ([(52, .d true), (6000, .d true)] ++ kH k3) (k3.b (av h9 apn))
       ·
        rw [← sj h]
        exact rn ([(52, .d false), (6000, .d true)] ++ kH k3) (k3.b (av h9 (apc (L31_0_k a1 a2 a3 (w6 (v1 + 1))) apn)))
      ·
       rw [← sj h]
       exact rn ([(40, .d false), (6000, .d true)] ++ kH k2) (k2.b (av h7 (apc (L31_0_k a1 a2 a3 (w6 (v1 + 1))) apn)))
 ·
  rw [← sj h]
  exact xb [(10, .d false), (6000, .d true)] (av h1 apn)
theorem L31_0_run (s0 : Int) (e : E_L31_0) (h : runL (fun s => L31_0 a1 a2 a3 s) s0 = some e) : L31_0_x a1 e (L31_0_e a1 a2 a3 s0) := by
  have q := @loop_sound' (Int) E_L31_0 (fun s => L31_0 a1 a2 a3 s) (fun s => L31_0_e a1 a2 a3 s) (L31_0_x a1) (fun s r h => L31_0_ok a1 a2 a3 s h) s0 e h
  exact q
end
def F31_v (a1 : ScopesD) (a2 : Int) (x0 : Bool) : AV := (vb x0)
def F31 (a1 : ScopesD) (a2 : Int) : Option Bool :=
  ((runL (fun s => L31_0 a1 a2 (a1.decl.length : Int) s) 0).bind fun r1 => match r1 with | .k0 => (some false) | .k1 => (some true))
abbrev F31_d0 (g1 : Nat → AV) (a1 : ScopesD) : St := ⟨fr 56 g1 [(0, ls 5 eName a1.decl), (7, ls 5 eName a1.decl)], []⟩
theorem F31_ok (a1 : ScopesD) (a2 : Int) {r : Bool} (h : F31 a1 a2 = some r) : PR1 prg 31 [ls 5 eName a1.decl, i6 a2] (F31_v a1 a2 r) := by
 unfold F31 at h
 have k0 := ka [(8, .v (i6 (a1.decl.length : Int)))] (apc (lg a1.decl eName 5) apn)
 apply bn h; intro r1 h1 h
 cases r1 with
 | k0 =>
  obtain ⟨g1, y1, e1⟩ := L31_0_run a1 a2 (a1.decl.length : Int) 0 _ h1
  rw [← sj h]
  exact fq ([(2000, .l .ret ⟨fr 56 g1 [(4, vb false)], y1⟩), (6000, .d true)] ++ kH k0) (k0.b (apc (L31_0_k a1 a2 (a1.decl.length : Int) 0) (apc (e1 : L31_0_e a1 a2 (a1.decl.length : Int) 0 = some (.ret, ⟨fr 56 g1 [(4, vb false)], y1⟩)) apn)))
 | k1 =>
  obtain ⟨g1, e1⟩ := L31_0_run a1 a2 (a1.decl.length : Int) 0 _ h1
  rw [← sj h]
  exact fq ([(2000, .l (.brk 0) (F31_d0 g1 a1)), (6000, .d true)] ++ kH k0) (k0.b (apc (L31_0_k a1 a2 (a1.decl.length : Int) 0) (apc (e1 : L31_0_e a1 a2 (a1.decl.length : Int) 0 = some ((.brk 0), F31_d0 g1 a1)) apn)))
inductive E_L31_0_2 where
  | k0
  | k1
section
variable (a1 : ScopesD) (a2 a3 : Int)
def L31_0_2 (v1 : Int) : Option (E_L31_0_2 ⊕ (Int)) :=
  (bif (decide (v1 < a3)) then ((getI a1.uses v1).bind fun x2 => (bif (decide (x2.scp < 0)) then (some (.inl (.k0))) else (bif (decide (x2.scp ≥ a2)) then (some (.inl (.k0))) else (bif (decide (x2.frm < 0)) then (some (.inl (.k0))) else (bif (decide (x2.frm > x2.til)) then (some (.inl (.k0))) else (bif (decide (v1 > 0)) then ((getI a1.uses (IntKind.wrap .i64 (v1 - 1))).bind fun x8 => (bif (decide (x8.frm > x2.frm)) then (some (.inl (.k0))) else (some (.inr ((IntKind.wrap .i64 (v1 + 1))))))) else (some (.inr ((IntKind.wrap .i64 (v1 + 1))))))))))) else (some (.inl (.k1))))
def L31_0_2_s (v1 : Int) : St := ⟨fr 56 ug [(0, ls 5 eName a1.uses), (1, i6 a2), (7, ls 5 eName a1.uses), (8, i6 a3), (9, i6 v1)], []⟩
theorem L31_0_2_k (v1 : Int) : okT 0 (L31_0_2_s a1 a2 a3 v1).h = true := (okT_of rfl rfl)
abbrev L31_0_2_e (v1 : Int) := evH prg 0 [0, 1, 7, 8, 9] ir31_l0 (L31_0_2_s a1 a2 a3 v1)
def L31_0_2_x (e : E_L31_0_2) (r : Option (Out × St)) : Prop := match e with | .k0 => ∃ g y, r = some (.ret, ⟨fr 56 g [(4, vb false)], y⟩) | .k1 => ∃ g, r = some ((.brk 0), ⟨fr 56 g [(0, ls 5 eName a1.uses), (7, ls 5 eName a1.uses)], []⟩)
theorem L31_0_2_ok (v1 : Int) {r : E_L31_0_2 ⊕ (Int)} (h : L31_0_2 a1 a2 a3 v1 = some r) : OkR (fun e => L31_0_2_x a1 e (L31_0_2_e a1 a2 a3 v1)) (fun s => L31_0_2_e a1 a2 a3 v1 = L31_0_2_e a1 a2 a3 s) r := by
 unfold L31_0_2 at h
 apply bi h <;> intro h1 h
 ·
  apply bn h; intro x2 h2 h
  have k0 := ka [(10, .d true), (12, .v (.ro (eName x2)))] (av h1 (apc (ig eName 5 .i64 h2) apn))
  apply bi h <;> intro h3 h
  ·
   rw [← sj h]
   exact xy ([(16, .d true), (6000, .d true)] ++ kH k0) (k0.b (av h3 apn))
  ·
   apply bi h <;> intro h4 h
   ·
    rw [← sj h]
    exact xy ([(16, .d false), (21, .d true), (6000, .d true)] ++ kH k0) (k0.b (av h3 (av h4 apn)))
   ·
    have k1 := k0.a [(16, .d false), (21, .d false)] (av h3 (av h4 apn))
    apply bi h <;> intro h5 h
    ·
     rw [← sj h]
     exact xy ([(27, .d true), (6000, .d true)] ++ kH k1) (k1.b (av h5 apn))
    ·
     apply bi h <;> intro h6 h
     ·
      rw [← sj h]
      exact xy ([(27, .d false), (36, .d true), (6000, .d true)] ++ kH k1) (k1.b (av h5 (av h6 apn)))
     ·
      have k2 := k1.a [(27, .d false), (36, .d false)] (av h5 (av h6 apn))
      apply bi h <;> intro h7 h
      ·
       apply bn h; intro x8 h8 h
       have k3 := k2.a [(40, .d true), (45, .v (.ro (eName x8)))] (av h7 (apc (ig eName 5 .i64 h8) apn))
       apply bi h <;> intro h9 h
       ·
        rw [← sj h]
        exact xy ([(52, .d true), (6000, .d true)] ++ kH k3) (k3.b (av h9 apn))
       ·
        rw [← sj h]
        exact rn ([(52, .d false), (6000, .d true)] ++ kH k3) (k3.b (av h9 (apc (L31_0_2_k a1 a2 a3 (w6 (v1 + 1))) apn)))
      ·
       rw [← sj h]
       exact rn ([(40, .d false), (6000, .d true)] ++ kH k2) (k2.b (av h7 (apc (L31_0_2_k a1 a2 a3 (w6 (v1 + 1))) apn)))
 ·
  rw [← sj h]
  exact xb [(10, .d false), (6000, .d true)] (av h1 apn)
theorem L31_0_2_run (s0 : Int) (e : E_L31_0_2) (h : runL (fun s => L31_0_2 a1 a2 a3 s) s0 = some e) : L31_0_2_x a1 e (L31_0_2_e a1 a2 a3 s0) := by
  have q := @loop_sound' (Int) E_L31_0_2 (fun s => L31_0_2 a1 a2 a3 s) (fun s => L31_0_2_e a1 a2 a3 s) (L31_0_2_x a1) (fun s r h => L31_0_2_ok a1 a2 a3 s h) s0 e h
  exact q
end
def F31_2_v (a1 : ScopesD) (a2 : Int) (x0 : Bool) : AV := (vb x0)
def F31_2 (a1 : ScopesD) (a2 : Int) : Option Bool :=
  ((runL (fun s => L31_0_2 a1 a2 (a1.uses.length : Int) s) 0).bind fun r1 => match r1 with | .k0 => (some false) | .k1 => (some true))
abbrev F31_2_d0 (g1 : Nat → AV) (a1 : ScopesD) : St := ⟨fr 56 g1 [(0, ls 5 eName a1.uses), (7, ls 5 eName a1.uses)], []⟩
theorem F31_2_ok (a1 : ScopesD) (a2 : Int) {r : Bool} (h : F31_2 a1 a2 = some r) : PR1 prg 31 [ls 5 eName a1.uses, i6 a2] (F31_2_v a1 a2 r) := by
 unfold F31_2 at h
 have k0 := ka [(8, .v (i6 (a1.uses.length : Int)))] (apc (lg a1.uses eName 5) apn)
 apply bn h; intro r1 h1 h
 cases r1 with
 | k0 =>
  obtain ⟨g1, y1, e1⟩ := L31_0_2_run a1 a2 (a1.uses.length : Int) 0 _ h1
  rw [← sj h]
  exact fq ([(2000, .l .ret ⟨fr 56 g1 [(4, vb false)], y1⟩), (6000, .d true)] ++ kH k0) (k0.b (apc (L31_0_2_k a1 a2 (a1.uses.length : Int) 0) (apc (e1 : L31_0_2_e a1 a2 (a1.uses.length : Int) 0 = some (.ret, ⟨fr 56 g1 [(4, vb false)], y1⟩)) apn)))
 | k1 =>
  obtain ⟨g1, e1⟩ := L31_0_2_run a1 a2 (a1.uses.length : Int) 0 _ h1
  rw [← sj h]
  exact fq ([(2000, .l (.brk 0) (F31_2_d0 g1 a1)), (6000, .d true)] ++ kH k0) (k0.b (apc (L31_0_2_k a1 a2 (a1.uses.length : Int) 0) (apc (e1 : L31_0_2_e a1 a2 (a1.uses.length : Int) 0 = some ((.brk 0), F31_2_d0 g1 a1)) apn)))
def F19_v (a1 : ScopesD) (x0 : Int) : AV := (i6 x0)
def F19 (a1 : ScopesD) : Option Int :=
  ((runL (fun s => L19_0 a1 (a1.all.length : Int) s) 0).bind fun r1 => match r1 with | .k0 => (some 2) | .k1 => (bif ((a1.all.length : Int) == 0) then (some 2) else ((F31 a1 (a1.all.length : Int)).bind fun x3 => (bif x3 then ((F31_2 a1 (a1.all.length : Int)).bind fun x5 => (bif x5 then (some 0) else (some 2))) else (some 2)))))
abbrev F19_d0 (g1 : Nat → AV) (a1 : ScopesD) : St := ⟨fr 73 g1 [(1, .ptr 0 0), (6, ls 3 eScope a1.all)], [.cells 25 ((eScps a1).map .p)]⟩
theorem F19_ok (a1 : ScopesD) {r : Int} (h : F19 a1 = some r) : PR1 prg 19 [(.agg ((eScps a1).map .p))] (F19_v a1 r) := by
 unfold F19 at h
 have k0 := ka [(7, .v (i6 (a1.all.length : Int)))] (apc (lg a1.all eScope 3) apn)
 apply bn h; intro r1 h1 h
 cases r1 with
 | k0 =>
  obtain ⟨g1, y1, e1⟩ := L19_0_run a1 (a1.all.length : Int) 0 _ h1
  rw [← sj h]
  exact fq ([(2000, .l .ret ⟨fr 73 g1 [(2, i6 2)], y1⟩), (6000, .d true)] ++ kH k0) (k0.b (apc (L19_0_k a1 (a1.all.length : Int) 0) (apc (e1 : L19_0_e a1 (a1.all.length : Int) 0 = some (.ret, ⟨fr 73 g1 [(2, i6 2)], y1⟩)) apn)))
 | k1 =>
  obtain ⟨g1, e1⟩ := L19_0_run a1 (a1.all.length : Int) 0 _ h1
  have q1 := (e1 : L19_0_e a1 (a1.all.length : Int) 0 = some ((.brk 0), F19_d0 g1 a1))
  have k2 := k0.a [(2000, .l (.brk 0) (F19_d0 g1 a1)), (53, .v (i6 (a1.all.length : Int)))] (apc (L19_0_k a1 (a1.all.length : Int) 0) (apc q1 (apc (lg a1.all eScope 3) apn)))
  apply bi h <;> intro h2 h
  ·
   rw [← sj h]
   exact fq ([(54, .d true), (6000, .d true)] ++ kH k2) (k2.b (av h2 apn))
  ·
   have k3 := k2.a [(54, .d false), (60, .v (i6 (a1.all.length : Int)))] (av h2 (apc (lg a1.all eScope 3) apn))
   apply bn h; intro x3 h3 h
   apply bi h <;> intro h4 h
   ·
    have q4 := ((((F31_ok a1 (a1.all.length : Int) h3).cp rfl _).trans (congrArg (fun z => some (vb z)) h4)) : CP prg 31 [ls 5 eName a1.decl, (i6 (a1.all.length : Int))] [.cells 25 ((eScps a1).map .p)] = some (vb true))
    have k5 := k3.a [(61, .v (vb true)), (69, .v (i6 (a1.all.length : Int)))] (apc q4 (apc (lg a1.all eScope 3) apn))
    apply bn h; intro x5 h5 h
    apply bi h <;> intro h6 h
    ·
     rw [← sj h]
     exact fq ([(70, .v (vb true)), (6000, .d true)] ++ kH k5) (k5.b (apc ((((F31_2_ok a1 (a1.all.length : Int) h5).cp rfl _).trans (congrArg (fun z => some (vb z)) h6)) : CP prg 31 [ls 5 eName a1.uses, (i6 (a1.all.length : Int))] [.cells 25 ((eScps a1).map .p)] = some (vb true)) apn))
    ·
     rw [← sj h]
     exact fq ([(70, .v (vb false)), (6000, .d true)] ++ kH k5) (k5.b (apc ((((F31_2_ok a1 (a1.all.length : Int) h5).cp rfl _).trans (congrArg (fun z => some (vb z)) h6)) : CP prg 31 [ls 5 eName a1.uses, (i6 (a1.all.length : Int))] [.cells 25 ((eScps a1).map .p)] = some (vb false)) apn))
   ·
    rw [← sj h]
    exact fq ([(61, .v (vb false)), (6000, .d true)] ++ kH k3) (k3.b (apc ((((F31_ok a1 (a1.all.length : Int) h3).cp rfl _).trans (congrArg (fun z => some (vb z)) h4)) : CP prg 31 [ls 5 eName a1.decl, (i6 (a1.all.length : Int))] [.cells 25 ((eScps a1).map .p)] = some (vb false)) apn))
def F27_v (a1 : ScopesD) (a2 : Int) (x0 : Int) : AV := (i6 x0)
def F27 (a1 : ScopesD) (a2 : Int) : Option Int :=
  ((F19 a1).bind fun x1 => (bif (x1 != 0) then (some 2) else (bif (decide (a2 < 0)) then (some 4) else (bif (decide (a2 ≥ (a1.all.length : Int))) then (some 4) else (some 0)))))
theorem F27_ok (a1 : ScopesD) (a2 : Int) {r : Int} (h : F27 a1 a2 = some r) : PR1 prg 27 [(.agg ((eScps a1).map .p)), i6 a2] (F27_v a1 a2 r) := by
 unfold F27 at h
 apply bn h; intro x1 h1 h
 have q0 := (((F19_ok a1 h1).cp rfl _) : CP prg 19 [(.agg ((eScps a1).map .p))] [] = some (i6 x1))
 apply bi h <;> intro h2 h
 ·
  rw [← sj h]
  exact fq [(7, .v (i6 x1)), (8, .d true)] (apc q0 (av h2 apn))
 ·
  have k1 := ka [(7, .v (i6 x1)), (8, .d false)] (apc q0 (av h2 apn))
  apply bi h <;> intro h3 h
  ·
   rw [← sj h]
   exact fq ([(11, .d true)] ++ kH k1) (k1.b (av h3 apn))
  ·
   have k2 := k1.a [(11, .d false), (16, .v (i6 (a1.all.length : Int)))] (av h3 (apc (lg a1.all eScope 3) apn))
   apply bi h <;> intro h4 h
   ·
    rw [← sj h]
    exact fq ([(17, .d true)] ++ kH k2) (k2.b (av h4 apn))
   ·
    rw [← sj h]
    exact fq ([(17, .d false)] ++ kH k2) (k2.b (av h4 apn))
inductive R_F28 where
  | k0 (x0 : List ScopeD) (x1 x2 : List NameD)
def F28_v (a1 : ScopesD) (a2 : Int) (a3 : List ((Int × ByteArray × ByteArray) × (List Int))) (r : R_F28) : AV := match r with | .k0 x0 x1 x2 => (.fn 34 [.ptr 6 0, (.ro [.lst 3 (x0.map eScope), .lst 5 (x1.map eName), .lst 5 (x2.map eName)])])
def F28_h (a1 : ScopesD) (a2 : Int) (a3 : List ((Int × ByteArray × ByteArray) × (List Int))) (r : R_F28) : List AB := match r with | .k0 x0 x1 x2 => [yI0, .map (mrow kA vL a3), .cells 59 [.mp 1], yI0, yI0, .cells 39 [.sl 4 0 1 0 0], .cells 3 [i6 a2]]
def F28 (a1 : ScopesD) : Option R_F28 :=
  (some (.k0 a1.all a1.decl a1.uses))
theorem F28_ok (a1 : ScopesD) (a2 : Int) (a3 : List ((Int × ByteArray × ByteArray) × (List Int))) {r : R_F28} (h : F28 a1 = some r) : CS prg 28 [(.agg ((eScps a1).map .p)), i6 a2] [yI0, .map (mrow kA vL a3), .cells 59 [.mp 1], yI0, yI0, .cells 39 [.sl 4 0 1 0 0]] = some (F28_v a1 a2 a3 r, F28_h a1 a2 a3 r) := by
 unfold F28 at h
 rw [← sj h]
 exact fc [] apn
inductive R_Y25_0_2 where
  | k0
  | k1
def Y25_0_2_v (a1 : Int) (a2 : List ((Int × ByteArray × ByteArray) × (List Int))) (a3 : Int) (a4 : ScopesD) (a5 a6 : ByteArray) (a7 : ScopesD) (r : R_Y25_0_2) : AV := match r with | .k0 => (vb false) | .k1 => (vb true)
def Y25_0_2_h (a1 : Int) (a2 : List ((Int × ByteArray × ByteArray) × (List Int))) (a3 : Int) (a4 : ScopesD) (a5 a6 : ByteArray) (a7 : ScopesD) (r : R_Y25_0_2) : List AB := match r with | .k0 => [yI0, .map (mrow kA vL a2), .cells 59 [.mp 1], yI0, yI0, .cells 39 [(.sl 9 (gnz (mget ([] : List Int) a2 (a1, a5, a6))) 1 0 (mget ([] : List Int) a2 (a1, a5, a6)).length)], .cells 3 [i6 a1], .loop 2 (some (some 0)) [17] [.und, .und, i6 a3, .und, .und, (.ro (eScps a4)), .ptr 2 0, .und, (.ro [.val (.string a5)]), (.ro [.val (.string a6)]), .und, .ptr 5 0, .und, .und, (.agg ((eScps a4).map .p)), i6 a3, (.fn 34 [.ptr 6 0, (.ro (eScps a7))]), .und, .und, .und, .und, .und, .und, .und, .und, .und, .und, .und, .und, .und] ir25_a0 ir25_b0, yI0, yI (gnz (mget ([] : List Int) a2 (a1, a5, a6))) (mget ([] : List Int) a2 (a1, a5, a6))] | .k1 => [yI0, .map (mrow kA vL a2), .cells 59 [.mp 1], yI0, yI0, .cells 39 [.sl 4 0 1 0 0], .cells 3 [i6 a1], .loop 0 none [17] [.und, .und, i6 a3, .und, .und, (.ro (eScps a4)), .ptr 2 0, .und, (.ro [.val (.string a5)]), (.ro [.val (.string a6)]), .und, .ptr 5 0, .und, .und, (.agg ((eScps a4).map .p)), i6 a3, (.fn 34 [.ptr 6 0, (.ro (eScps a7))]), .und, .und, .und, .und, .und, .und, .und, .und, .und, .und, .und, .und, .und] ir25_a0 ir25_b0]
def Y25_0_2 (a1 : Int) (a2 : List ((Int × ByteArray × ByteArray) × (List Int))) (a5 a6 : ByteArray) : Option R_Y25_0_2 :=
  (bif (decide (((mget ([] : List Int) a2 (a1, a5, a6)).length : Int) > 0)) then (bif (clOk (mget ([] : List Int) a2 (a1, a5, a6)).length 8) then (some (.k0)) else none) else (some (.k1)))
abbrev Y25_0_2_d0 (a2 : List ((Int × ByteArray × ByteArray) × (List Int))) (a1 a3 : Int) (a4 : ScopesD) (a5 a6 : ByteArray) (a7 : ScopesD) : List AB := [yI0, .map (mrow kA vL a2), .cells 59 [.mp 1], yI0, yI0, .cells 39 [.sl 4 0 1 0 0], .cells 3 [i6 a1], .loop 1 none [17] [.und, .und, i6 a3, .und, .und, (.ro (eScps a4)), .ptr 2 0, .und, (.ro [.val (.string a5)]), (.ro [.val (.string a6)]), .und, .ptr 5 0, .und, .und, (.agg ((eScps a4).map .p)), i6 a3, (.fn 34 [.ptr 6 0, (.ro (eScps a7))]), .und, .und, .und, .und, .und, .und, .und, .und, .und, .und, .und, .und, .und] ir25_a0 ir25_b0]
abbrev Y25_0_2_d1 (a2 : List ((Int × ByteArray × ByteArray) × (List Int))) (a1 a3 : Int) (a4 : ScopesD) (a5 a6 : ByteArray) (a7 : ScopesD) : List AB := [yI0, .map (mrow kA vL a2), .cells 59 [.mp 1], yI0, yI0, .cells 39 [.sl 4 0 1 0 0], .cells 3 [i6 a1], .loop 1 none [17] [.und, .und, i6 a3, .und, .und, (.ro (eScps a4)), .ptr 2 0, .und, (.ro [.val (.string a5)]), (.ro [.val (.string a6)]), .und, .ptr 5 0, .und, .und, (.agg ((eScps a4).map .p)), i6 a3, (.fn 34 [.ptr 6 0, (.ro (eScps a7))]), .und, .und, .und, .und, .und, .und, .und, .und, .und, .und, .und, .und, .und] ir25_a0 ir25_b0, yI0, yI (gnz (mget ([] : List Int) a2 (a1, a5, a6))) (mget ([] : List Int) a2 (a1, a5, a6))]
theorem Y25_0_2_ok (a1 : Int) (a2 : List ((Int × ByteArray × ByteArray) × (List Int))) (a3 : Int) (a4 : ScopesD) (a5 a6 : ByteArray) (a7 : ScopesD) {r : R_Y25_0_2} (h : Y25_0_2 a1 a2 a5 a6 = some r) : callY (ev prg) 7 [i6 a1] [yI0, .map (mrow kA vL a2), .cells 59 [.mp 1], yI0, yI0, .cells 39 [.sl 4 0 1 0 0], .cells 3 [i6 a1], .loop 0 none [17] [.und, .und, i6 a3, .und, .und, (.ro (eScps a4)), .ptr 2 0, .und, (.ro [.val (.string a5)]), (.ro [.val (.string a6)]), .und, .ptr 5 0, .und, .und, (.agg ((eScps a4).map .p)), i6 a3, (.fn 34 [.ptr 6 0, (.ro (eScps a7))]), .und, .und, .und, .und, .und, .und, .und, .und, .und, .und, .und, .und, .und] ir25_a0 ir25_b0] = some (Y25_0_2_v a1 a2 a3 a4 a5 a6 a7 r, Y25_0_2_h a1 a2 a3 a4 a5 a6 a7 r) := by
 unfold Y25_0_2 at h
 have q0 := ((lk_row key_iss (ve := vL) (es := a2) (k := (a1, a5, a6)) (z := ([] : List Int)) rfl rfl) : lkA (Y25_0_2_d0 a2 a1 a3 a4 a5 a6 a7) [1, 2, 2] .true .false [(.lst 1 [])] .false (.mp 1) (.agg [i6 a1, vs a5, vs a6]) = some (.p (.lst 1 ((mget ([] : List Int) a2 (a1, a5, a6)).map eI64))))
 have k1 := ka [(23, .v (.p (.lst 1 ((mget ([] : List Int) a2 (a1, a5, a6)).map eI64)))), (25, .v (i6 ((mget ([] : List Int) a2 (a1, a5, a6)).length : Int)))] (apc q0 (apc (lg (mget ([] : List Int) a2 (a1, a5, a6)) eI64 1) apn))
 apply bi h <;> intro h1 h
 ·
  apply bi h <;> intro h2 h
  ·
   rw [← sj h]
   exact fyc ([(26, .d true), (28, .r (.sl 9 (gnz (mget ([] : List Int) a2 (a1, a5, a6))) 1 0 (mget ([] : List Int) a2 (a1, a5, a6)).length) (Y25_0_2_d1 a2 a1 a3 a4 a5 a6 a7))] ++ kH k1) (k1.b (av h1 (apc ((cs_cl (e := eI64) (xs := (mget ([] : List Int) a2 (a1, a5, a6))) rfl (fun _ _ => rfl) h2 (Y25_0_2_d0 a2 a1 a3 a4 a5 a6 a7)) : CS prg 32 [(.p (.lst 1 ((mget ([] : List Int) a2 (a1, a5, a6)).map eI64)))] (Y25_0_2_d0 a2 a1 a3 a4 a5 a6 a7) = some ((.sl 9 (gnz (mget ([] : List Int) a2 (a1, a5, a6))) 1 0 (mget ([] : List Int) a2 (a1, a5, a6)).length), Y25_0_2_d1 a2 a1 a3 a4 a5 a6 a7)) apn))) (by kernel_rfl)
  ·
   cases h
 ·
  rw [← sj h]
  exact fyc ([(26, .d false)] ++ kH k1) (k1.b (av h1 apn)) (by kernel_rfl)
inductive E_L34_0 where
  | k0 (x0 x1 : Nat) (x2 : Int) (x3 : List Int)
  | k1 (x0 : Int)
section
variable (a1 : ScopesD) (a2 : List ((Int × ByteArray × ByteArray) × (List Int))) (a3 : Int) (a4 : ScopesD) (a5 a6 : ByteArray)
abbrev L34_0_p (l : List AB) : List AB := yI0 :: .map (mrow kA vL a2) :: .cells 59 [.mp 1] :: yI0 :: yI0 :: l
def L34_0 (v1 : Int) : Option (E_L34_0 ⊕ (Int)) :=
  (bif (decide (v1 ≥ 0)) then ((Y25_0_2 v1 a2 a5 a6).bind fun r2 => match r2 with | .k0 => (some (.inl (.k0 (gnz (mget ([] : List Int) a2 (v1, a5, a6))) ((mget ([] : List Int) a2 (v1, a5, a6)).length) v1 (mget ([] : List Int) a2 (v1, a5, a6))))) | .k1 => ((getI a1.all v1).bind fun x3 => (some (.inr (x3.par))))) else (some (.inl (.k1 v1))))
def L34_0_s (v1 : Int) : St := ⟨fr 16 ug [(0, .yl 7), (1, .ptr 6 0), (2, (.ro (eScps a1)))], (L34_0_p a2 [.cells 39 [.sl 4 0 1 0 0], .cells 3 [i6 v1], .loop 0 none [17] [.und, .und, i6 a3, .und, .und, (.ro (eScps a4)), .ptr 2 0, .und, (.ro [.val (.string a5)]), (.ro [.val (.string a6)]), .und, .ptr 5 0, .und, .und, (.agg ((eScps a4).map .p)), i6 a3, (.fn 34 [.ptr 6 0, (.ro (eScps a1))]), .und, .und, .und, .und, .und, .und, .und, .und, .und, .und, .und, .und, .und] ir25_a0 ir25_b0])⟩
theorem L34_0_k (v1 : Int) : okT 8 (L34_0_s a1 a2 a3 a4 a5 a6 v1).h = true := (okT_of rfl (ar (abl_cons (abl_map (fun _ => rfl) (fun _ => rfl)) (ac (ar (ar (ac (ac (ac rfl)))))))))
abbrev L34_0_e (v1 : Int) := evH prg 8 [0, 1, 2] ir34_l0 (L34_0_s a1 a2 a3 a4 a5 a6 v1)
def L34_0_x (e : E_L34_0) (r : Option (Out × St)) : Prop := match e with | .k0 x0 x1 x2 x3 => ∃ g, r = some (.ret, ⟨fr 16 g [], (L34_0_p a2 [.cells 39 [.sl 9 x0 1 0 x1], .cells 3 [i6 x2], .loop 2 (some (some 0)) [17] [.und, .und, i6 a3, .und, .und, (.ro (eScps a4)), .ptr 2 0, .und, (.ro [.val (.string a5)]), (.ro [.val (.string a6)]), .und, .ptr 5 0, .und, .und, (.agg ((eScps a4).map .p)), i6 a3, (.fn 34 [.ptr 6 0, (.ro (eScps a1))]), .und, .und, .und, .und, .und, .und, .und, .und, .und, .und, .und, .und, .und] ir25_a0 ir25_b0, yI0, yI x0 x3])⟩) | .k1 x0 => ∃ g, r = some ((.brk 0), ⟨fr 16 g [], (L34_0_p a2 [.cells 39 [.sl 4 0 1 0 0], .cells 3 [i6 x0], .loop 0 none [17] [.und, .und, i6 a3, .und, .und, (.ro (eScps a4)), .ptr 2 0, .und, (.ro [.val (.string a5)]), (.ro [.val (.string a6)]), .und, .ptr 5 0, .und, .und, (.agg ((eScps a4).map .p)), i6 a3, (.fn 34 [.ptr 6 0, (.ro (eScps a1))]), .und, .und, .und, .und, .und, .und, .und, .und, .und, .und, .und, .und, .und] ir25_a0 ir25_b0])⟩)
abbrev L34_0_d0 (v1 : Int) : List AB := (L34_0_p a2 [.cells 39 [(.sl 9 (gnz (mget ([] : List Int) a2 (v1, a5, a6))) 1 0 (mget ([] : List Int) a2 (v1, a5, a6)).length)], .cells 3 [i6 v1], .loop 2 (some (some 0)) [17] [.und, .und, i6 a3, .und, .und, (.ro (eScps a4)), .ptr 2 0, .und, (.ro [.val (.string a5)]), (.ro [.val (.string a6)]), .und, .ptr 5 0, .und, .und, (.agg ((eScps a4).map .p)), i6 a3, (.fn 34 [.ptr 6 0, (.ro (eScps a1))]), .und, .und, .und, .und, .und, .und, .und, .und, .und, .und, .und, .und, .und] ir25_a0 ir25_b0, yI0, yI (gnz (mget ([] : List Int) a2 (v1, a5, a6))) (mget ([] : List Int) a2 (v1, a5, a6))])
abbrev L34_0_d1 (v1 : Int) : List AB := (L34_0_p a2 [.cells 39 [.sl 4 0 1 0 0], .cells 3 [i6 v1], .loop 0 none [17] [.und, .und, i6 a3, .und, .und, (.ro (eScps a4)), .ptr 2 0, .und, (.ro [.val (.string a5)]), (.ro [.val (.string a6)]), .und, .ptr 5 0, .und, .und, (.agg ((eScps a4).map .p)), i6 a3, (.fn 34 [.ptr 6 0, (.ro (eScps a1))]), .und, .und, .und, .und, .und, .und, .und, .und, .und, .und, .und, .und, .und] ir25_a0 ir25_b0])
theorem L34_0_ok (v1 : Int) {r : E_L34_0 ⊕ (Int)} (h : L34_0 a1 a2 a5 a6 v1 = some r) : OkR (fun e => L34_0_x a1 a2 a3 a4 a5 a6 e (L34_0_e a1 a2 a3 a4 a5 a6 v1)) (fun s => L34_0_e a1 a2 a3 a4 a5 a6 v1 = L34_0_e a1 a2 a3 a4 a5 a6 s) r := by
 unfold L34_0 at h
 apply bi h <;> intro h1 h
 ·
  apply bn h; intro r2 h2 h
  cases r2 with
  | k0 =>
   rw [← sj h]
   exact xr [(5, .d true), (14, .r (vb false) (L34_0_d0 a1 a2 a3 a4 a5 a6 v1)), (6000, .d true)] (av h1 (apc ((Y25_0_2_ok v1 a2 a3 a4 a5 a6 a1 h2) : callY (ev prg) 7 [i6 v1] (L34_0_d1 a1 a2 a3 a4 a5 a6 v1) = some ((vb false), L34_0_d0 a1 a2 a3 a4 a5 a6 v1)) apn))
  | k1 =>
   apply bn h; intro x3 h3 h
   rw [← sj h]
   exact rn [(5, .d true), (14, .r (vb true) (L34_0_d1 a1 a2 a3 a4 a5 a6 v1)), (9, .v (.ro (eScope x3))), (6000, .d true)] (av h1 (apc ((Y25_0_2_ok v1 a2 a3 a4 a5 a6 a1 h2) : callY (ev prg) 7 [i6 v1] (L34_0_d1 a1 a2 a3 a4 a5 a6 v1) = some ((vb true), L34_0_d1 a1 a2 a3 a4 a5 a6 v1)) (apc (ig eScope 3 .i64 h3) (apc (L34_0_k a1 a2 a3 a4 a5 a6 x3.par) apn))))
 ·
  rw [← sj h]
  exact xb [(5, .d false), (6000, .d true)] (av h1 apn)
theorem L34_0_run (s0 : Int) (e : E_L34_0) (h : runL (fun s => L34_0 a1 a2 a5 a6 s) s0 = some e) : L34_0_x a1 a2 a3 a4 a5 a6 e (L34_0_e a1 a2 a3 a4 a5 a6 s0) := by
  have q := @loop_sound' (Int) E_L34_0 (fun s => L34_0 a1 a2 a5 a6 s) (fun s => L34_0_e a1 a2 a3 a4 a5 a6 s) (L34_0_x a1 a2 a3 a4 a5 a6) (fun s r h => L34_0_ok a1 a2 a3 a4 a5 a6 s h) s0 e h
  exact q
end
inductive R_F34 where
  | k0 (x0 x1 : Nat) (x2 : Int) (x3 : List Int)
  | k1 (x0 : Int)
def F34_v (a1 : ScopesD) (a2 : List ((Int × ByteArray × ByteArray) × (List Int))) (a3 : Int) (a4 : ScopesD) (a5 a6 : ByteArray) (r : R_F34) : AV := match r with | .k0 x0 x1 x2 x3 => (.tup []) | .k1 x0 => (.tup [])
def F34_h (a1 : ScopesD) (a2 : List ((Int × ByteArray × ByteArray) × (List Int))) (a3 : Int) (a4 : ScopesD) (a5 a6 : ByteArray) (r : R_F34) : List AB := match r with | .k0 x0 x1 x2 x3 => [yI0, .map (mrow kA vL a2), .cells 59 [.mp 1], yI0, yI0, .cells 39 [.sl 9 x0 1 0 x1], .cells 3 [i6 x2], .loop 2 (some (some 0)) [17] [.und, .und, i6 a3, .und, .und, (.ro (eScps a4)), .ptr 2 0, .und, (.ro [.val (.string a5)]), (.ro [.val (.string a6)]), .und, .ptr 5 0, .und, .und, (.agg ((eScps a4).map .p)), i6 a3, (.fn 34 [.ptr 6 0, (.ro (eScps a1))]), .und, .und, .und, .und, .und, .und, .und, .und, .und, .und, .und, .und, .und] ir25_a0 ir25_b0, yI0, yI x0 x3] | .k1 x0 => [yI0, .map (mrow kA vL a2), .cells 59 [.mp 1], yI0, yI0, .cells 39 [.sl 4 0 1 0 0], .cells 3 [i6 x0], .loop 0 none [17] [.und, .und, i6 a3, .und, .und, (.ro (eScps a4)), .ptr 2 0, .und, (.ro [.val (.string a5)]), (.ro [.val (.string a6)]), .und, .ptr 5 0, .und, .und, (.agg ((eScps a4).map .p)), i6 a3, (.fn 34 [.ptr 6 0, (.ro (eScps a1))]), .und, .und, .und, .und, .und, .und, .und, .und, .und, .und, .und, .und, .und] ir25_a0 ir25_b0]
def F34 (a1 : ScopesD) (a2 : List ((Int × ByteArray × ByteArray) × (List Int))) (a3 : Int) (a5 a6 : ByteArray) : Option R_F34 :=
  ((runL (fun s => L34_0 a1 a2 a5 a6 s) a3).bind fun r1 => match r1 with | .k0 x1_0 x1_1 x1_2 x1_3 => (some (.k0 x1_0 x1_1 x1_2 x1_3)) | .k1 x1_0 => (some (.k1 x1_0)))
theorem F34_ok (a1 : ScopesD) (a2 : List ((Int × ByteArray × ByteArray) × (List Int))) (a3 : Int) (a4 : ScopesD) (a5 a6 : ByteArray) {r : R_F34} (h : F34 a1 a2 a3 a5 a6 = some r) : CS prg 34 [.yl 7, .ptr 6 0, (.ro (eScps a1))] [yI0, .map (mrow kA vL a2), .cells 59 [.mp 1], yI0, yI0, .cells 39 [.sl 4 0 1 0 0], .cells 3 [i6 a3], .loop 0 none [17] [.und, .und, i6 a3, .und, .und, (.ro (eScps a4)), .ptr 2 0, .und, (.ro [.val (.string a5)]), (.ro [.val (.string a6)]), .und, .ptr 5 0, .und, .und, (.agg ((eScps a4).map .p)), i6 a3, (.fn 34 [.ptr 6 0, (.ro (eScps a1))]), .und, .und, .und, .und, .und, .und, .und, .und, .und, .und, .und, .und, .und] ir25_a0 ir25_b0] = some (F34_v a1 a2 a3 a4 a5 a6 r, F34_h a1 a2 a3 a4 a5 a6 r) := by
 unfold F34 at h
 apply bn h; intro r1 h1 h
 cases r1 with
 | k0 x1_0 x1_1 x1_2 x1_3 =>
  obtain ⟨g1, e1⟩ := L34_0_run a1 a2 a3 a4 a5 a6 a3 _ h1
  rw [← sj h]
  exact fc [(2000, .l .ret ⟨fr 16 g1 [], [yI0, .map (mrow kA vL a2), .cells 59 [.mp 1], yI0, yI0, .cells 39 [.sl 9 x1_0 1 0 x1_1], .cells 3 [i6 x1_2], .loop 2 (some (some 0)) [17] [.und, .und, i6 a3, .und, .und, (.ro (eScps a4)), .ptr 2 0, .und, (.ro [.val (.string a5)]), (.ro [.val (.string a6)]), .und, .ptr 5 0, .und, .und, (.agg ((eScps a4).map .p)), i6 a3, (.fn 34 [.ptr 6 0, (.ro (eScps a1))]), .und, .und, .und, .und, .und, .und, .und, .und, .und, .und, .und, .und, .und] ir25_a0 ir25_b0, yI0, yI x1_0 x1_3]⟩), (6000, .d true)] (apc (L34_0_k a1 a2 a3 a4 a5 a6 a3) (apc (e1 : L34_0_e a1 a2 a3 a4 a5 a6 a3 = some (.ret, ⟨fr 16 g1 [], [yI0, .map (mrow kA vL a2), .cells 59 [.mp 1], yI0, yI0, .cells 39 [.sl 9 x1_0 1 0 x1_1], .cells 3 [i6 x1_2], .loop 2 (some (some 0)) [17] [.und, .und, i6 a3, .und, .und, (.ro (eScps a4)), .ptr 2 0, .und, (.ro [.val (.string a5)]), (.ro [.val (.string a6)]), .und, .ptr 5 0, .und, .und, (.agg ((eScps a4).map .p)), i6 a3, (.fn 34 [.ptr 6 0, (.ro (eScps a1))]), .und, .und, .und, .und, .und, .und, .und, .und, .und, .und, .und, .und, .und] ir25_a0 ir25_b0, yI0, yI x1_0 x1_3]⟩)) apn))
 | k1 x1_0 =>
  obtain ⟨g1, e1⟩ := L34_0_run a1 a2 a3 a4 a5 a6 a3 _ h1
  rw [← sj h]
  exact fc [(2000, .l (.brk 0) ⟨fr 16 g1 [], [yI0, .map (mrow kA vL a2), .cells 59 [.mp 1], yI0, yI0, .cells 39 [.sl 4 0 1 0 0], .cells 3 [i6 x1_0], .loop 0 none [17] [.und, .und, i6 a3, .und, .und, (.ro (eScps a4)), .ptr 2 0, .und, (.ro [.val (.string a5)]), (.ro [.val (.string a6)]), .und, .ptr 5 0, .und, .und, (.agg ((eScps a4).map .p)), i6 a3, (.fn 34 [.ptr 6 0, (.ro (eScps a1))]), .und, .und, .und, .und, .und, .und, .und, .und, .und, .und, .und, .und, .und] ir25_a0 ir25_b0]⟩), (6000, .d true)] (apc (L34_0_k a1 a2 a3 a4 a5 a6 a3) (apc (e1 : L34_0_e a1 a2 a3 a4 a5 a6 a3 = some ((.brk 0), ⟨fr 16 g1 [], [yI0, .map (mrow kA vL a2), .cells 59 [.mp 1], yI0, yI0, .cells 39 [.sl 4 0 1 0 0], .cells 3 [i6 x1_0], .loop 0 none [17] [.und, .und, i6 a3, .und, .und, (.ro (eScps a4)), .ptr 2 0, .und, (.ro [.val (.string a5)]), (.ro [.val (.string a6)]), .und, .ptr 5 0, .und, .und, (.agg ((eScps a4).map .p)), i6 a3, (.fn 34 [.ptr 6 0, (.ro (eScps a1))]), .und, .und, .und, .und, .und, .und, .und, .und, .und, .und, .und, .und, .und] ir25_a0 ir25_b0]⟩)) apn))
inductive E_L25_1 where
  | k0 (x0 x1 : Nat) (x2 : Int) (x3 : List Int)
  | k1 (x0 : Int)
section
variable (a1 : Int) (a2 : ScopesD) (a3 a4 : ByteArray) (a5 : List ((Int × ByteArray × ByteArray) × (List Int)))
abbrev L25_1_p (l : List AB) : List AB := yI0 :: .map (mrow kA vL a5) :: .cells 59 [.mp 1] :: yI0 :: yI0 :: l
def L25_1 : Option (E_L25_1 ⊕ (Unit)) :=
  ((F28 a2).bind fun r1 => match r1 with | .k0 x1_0 x1_1 x1_2 => ((F34 (⟨x1_0, x1_1, x1_2⟩ : ScopesD) a5 a1 a3 a4).bind fun r2 => match r2 with | .k0 x2_0 x2_1 x2_2 x2_3 => (some (.inl (.k0 x2_0 x2_1 x2_2 x2_3))) | .k1 x2_0 => (some (.inl (.k1 x2_0)))))
def L25_1_s : St := ⟨fr 30 ug [(2, i6 a1), (5, (.ro (eScps a2))), (6, .ptr 2 0), (8, (.ro [.val (.string a3)])), (9, (.ro [.val (.string a4)])), (11, .ptr 5 0)], (L25_1_p a5 [.cells 39 [.sl 4 0 1 0 0]])⟩
theorem L25_1_k : okT 6 (L25_1_s a1 a2 a3 a4 a5).h = true := (okT_of rfl (ar (abl_cons (abl_map (fun _ => rfl) (fun _ => rfl)) (ac (ar (ar (ac rfl)))))))
abbrev L25_1_e := evH prg 6 [2, 5, 6, 8, 9, 11] ir25_l1 (L25_1_s a1 a2 a3 a4 a5)
def L25_1_x (e : E_L25_1) (r : Option (Out × St)) : Prop := match e with | .k0 x0 x1 x2 x3 => ∃ g, r = some (.ret, ⟨fr 30 g [(10, .sl 9 x0 1 0 x1)], (L25_1_p a5 [.cells 39 [.sl 9 x0 1 0 x1], .cells 3 [i6 x2], .dead, yI0, yI x0 x3])⟩) | .k1 x0 => ∃ g, r = some (.ret, ⟨fr 30 g [(10, .sl 4 0 1 0 0)], (L25_1_p a5 [.cells 39 [.sl 4 0 1 0 0], .cells 3 [i6 x0], .dead])⟩)
abbrev L25_1_d0 : List AB := (L25_1_p a5 [.cells 39 [.sl 4 0 1 0 0], .cells 3 [i6 a1]])
theorem L25_1_ok {r : E_L25_1 ⊕ (Unit)} (h : L25_1 a1 a2 a3 a4 a5 = some r) : OkR (fun e => L25_1_x a5 e (L25_1_e a1 a2 a3 a4 a5)) (fun s => L25_1_e a1 a2 a3 a4 a5 = L25_1_e a1 a2 a3 a4 a5) r := by
 unfold L25_1 at h
 apply bn h; intro r1 h1 h
 cases r1 with
 | k0 x1_0 x1_1 x1_2 =>
  have q0 := ((F28_ok a2 a1 a5 h1) : CS prg 28 [(.agg ((eScps a2).map .p)), i6 a1] (L25_1_p a5 [.cells 39 [.sl 4 0 1 0 0]]) = some ((.fn 34 [.ptr 6 0, (.ro [.lst 3 (x1_0.map eScope), .lst 5 (x1_1.map eName), .lst 5 (x1_2.map eName)])]), L25_1_d0 a1 a5))
  have k1 := ka [(16, .r (.fn 34 [.ptr 6 0, (.ro [.lst 3 (x1_0.map eScope), .lst 5 (x1_1.map eName), .lst 5 (x1_2.map eName)])]) (L25_1_d0 a1 a5))] (apc q0 apn)
  apply bn h; intro r2 h2 h
  cases r2 with
  | k0 x2_0 x2_1 x2_2 x2_3 =>
   rw [← sj h]
   exact xr ([(2000, .l (.brk 0) ⟨[.und, .und, i6 a1, .und, .und, (.ro (eScps a2)), .ptr 2 0, .und, (.ro [.val (.string a3)]), (.ro [.val (.string a4)]), .und, .ptr 5 0, .und, .und, (.agg ((eScps a2).map .p)), i6 a1, (.fn 34 [.ptr 6 0, (.ro [.lst 3 (x1_0.map eScope), .lst 5 (x1_1.map eName), .lst 5 (x1_2.map eName)])]), .und, .und, .und, .und, .und, .und, .und, .und, .und, .und, .und, .und, .und], (L25_1_p a5 [.cells 39 [.sl 9 x2_0 1 0 x2_1], .cells 3 [i6 x2_2], .dead, yI0, yI x2_0 x2_3])⟩), (6000, .d true)] ++ kH k1) (k1.b (apc ((ev_range rfl (F34_ok (⟨x1_0, x1_1, x1_2⟩ : ScopesD) a5 a1 a2 a3 a4 h2) rfl) : ev prg (.rangeF (.t 16) [17] ir25_a0 ir25_b0) ⟨[.und, .und, i6 a1, .und, .und, (.ro (eScps a2)), .ptr 2 0, .und, (.ro [.val (.string a3)]), (.ro [.val (.string a4)]), .und, .ptr 5 0, .und, .und, (.agg ((eScps a2).map .p)), i6 a1, (.fn 34 [.ptr 6 0, (.ro [.lst 3 (x1_0.map eScope), .lst 5 (x1_1.map eName), .lst 5 (x1_2.map eName)])]), .und, .und, .und, .und, .und, .und, .und, .und, .und, .und, .und, .und, .und], L25_1_d0 a1 a5⟩ = some ((.brk 0), ⟨[.und, .und, i6 a1, .und, .und, (.ro (eScps a2)), .ptr 2 0, .und, (.ro [.val (.string a3)]), (.ro [.val (.string a4)]), .und, .ptr 5 0, .und, .und, (.agg ((eScps a2).map .p)), i6 a1, (.fn 34 [.ptr 6 0, (.ro [.lst 3 (x1_0.map eScope), .lst 5 (x1_1.map eName), .lst 5 (x1_2.map eName)])]), .und, .und, .und, .und, .und, .und, .und, .und, .und, .und, .und, .und, .und], (L25_1_p a5 [.cells 39 [.sl 9 x2_0 1 0 x2_1], .cells 3 [i6 x2_2], .dead, yI0, yI x2_0 x2_3])⟩)) apn))
  | k1 x2_0 =>
   rw [← sj h]
   exact xr ([(2000, .l .norm ⟨[.und, .und, i6 a1, .und, .und, (.ro (eScps a2)), .ptr 2 0, .und, (.ro [.val (.string a3)]), (.ro [.val (.string a4)]), .und, .ptr 5 0, .und, .und, (.agg ((eScps a2).map .p)), i6 a1, (.fn 34 [.ptr 6 0, (.ro [.lst 3 (x1_0.map eScope), .lst 5 (x1_1.map eName), .lst 5 (x1_2.map eName)])]), .und, .und, .und, .und, .und, .und, .und, .und, .und, .und, .und, .und, .und], (L25_1_p a5 [.cells 39 [.sl 4 0 1 0 0], .cells 3 [i6 x2_0], .dead])⟩), (6000, .d true)] ++ kH k1) (k1.b (apc ((ev_range rfl (F34_ok (⟨x1_0, x1_1, x1_2⟩ : ScopesD) a5 a1 a2 a3 a4 h2) rfl) : ev prg (.rangeF (.t 16) [17] ir25_a0 ir25_b0) ⟨[.und, .und, i6 a1, .und, .und, (.ro (eScps a2)), .ptr 2 0, .und, (.ro [.val (.string a3)]), (.ro [.val (.string a4)]), .und, .ptr 5 0, .und, .und, (.agg ((eScps a2).map .p)), i6 a1, (.fn 34 [.ptr 6 0, (.ro [.lst 3 (x1_0.map eScope), .lst 5 (x1_1.map eName), .lst 5 (x1_2.map eName)])]), .und, .und, .und, .und, .und, .und, .und, .und, .und, .und, .und, .und, .und], L25_1_d0 a1 a5⟩ = some (.norm, ⟨[.und, .und, i6 a1, .und, .und, (.ro (eScps a2)), .ptr 2 0, .und, (.ro [.val (.string a3)]), (.ro [.val (.string a4)]), .und, .ptr 5 0, .und, .und, (.agg ((eScps a2).map .p)), i6 a1, (.fn 34 [.ptr 6 0, (.ro [.lst 3 (x1_0.map eScope), .lst 5 (x1_1.map eName), .lst 5 (x1_2.map eName)])]), .und, .und, .und, .und, .und, .und, .und, .und, .und, .und, .und, .und, .und], (L25_1_p a5 [.cells 39 [.sl 4 0 1 0 0], .cells 3 [i6 x2_0], .dead])⟩)) apn))
theorem L25_1_run (s0 : Unit) (e : E_L25_1) (h : runL (fun s => L25_1 a1 a2 a3 a4 a5) s0 = some e) : L25_1_x a5 e (L25_1_e a1 a2 a3 a4 a5) := by
  have q := @loop_sound' (Unit) E_L25_1 (fun s => L25_1 a1 a2 a3 a4 a5) (fun s => L25_1_e a1 a2 a3 a4 a5) (L25_1_x a5) (fun s r h => L25_1_ok a1 a2 a3 a4 a5 h) s0 e h
  exact q
end
inductive R_F25 where
  | k0 (x0 x1 : Nat) (x2 : Int) (x3 : List Int)
  | k1 (x0 : Int)
def F25_v (a1 : ScopesD) (a2 : Int) (a3 a4 : ByteArray) (a5 : List ((Int × ByteArray × ByteArray) × (List Int))) (r : R_F25) : AV := match r with | .k0 x0 x1 x2 x3 => (.sl 9 x0 1 0 x1) | .k1 x0 => (.sl 4 0 1 0 0)
def F25_h (a1 : ScopesD) (a2 : Int) (a3 a4 : ByteArray) (a5 : List ((Int × ByteArray × ByteArray) × (List Int))) (r : R_F25) : List AB := match r with | .k0 x0 x1 x2 x3 => [yI0, .map (mrow kA vL a5), .cells 59 [.mp 1], yI0, yI0, .cells 39 [.sl 9 x0 1 0 x1], .cells 3 [i6 x2], .dead, yI0, yI x0 x3] | .k1 x0 => [yI0, .map (mrow kA vL a5), .cells 59 [.mp 1], yI0, yI0, .cells 39 [.sl 4 0 1 0 0], .cells 3 [i6 x0], .dead]
def F25 (a1 : ScopesD) (a2 : Int) (a3 a4 : ByteArray) (a5 : List ((Int × ByteArray × ByteArray) × (List Int))) : Option R_F25 :=
  ((runL (fun s => L25_1 a2 a1 a3 a4 a5) ()).bind fun r1 => match r1 with | .k0 x1_0 x1_1 x1_2 x1_3 => (some (.k0 x1_0 x1_1 x1_2 x1_3)) | .k1 x1_0 => (some (.k1 x1_0)))
theorem F25_ok (a1 : ScopesD) (a2 : Int) (a3 a4 : ByteArray) (a5 : List ((Int × ByteArray × ByteArray) × (List Int))) {r : R_F25} (h : F25 a1 a2 a3 a4 a5 = some r) : CS prg 25 [(.agg ((eScps a1).map .p)), .mp 1, i6 a2, vs a3, vs a4] [yI0, .map (mrow kA vL a5)] = some (F25_v a1 a2 a3 a4 a5 r, F25_h a1 a2 a3 a4 a5 r) := by
 unfold F25 at h
 apply bn h; intro r1 h1 h
 cases r1 with
 | k0 x1_0 x1_1 x1_2 x1_3 =>
  obtain ⟨g1, e1⟩ := L25_1_run a2 a1 a3 a4 a5 () _ h1
  rw [← sj h]
  exact fc [(2002000, .l .ret ⟨fr 30 g1 [(10, .sl 9 x1_0 1 0 x1_1)], [yI0, .map (mrow kA vL a5), .cells 59 [.mp 1], yI0, yI0, .cells 39 [.sl 9 x1_0 1 0 x1_1], .cells 3 [i6 x1_2], .dead, yI0, yI x1_0 x1_3]⟩), (6000, .d true)] (apc (L25_1_k a2 a1 a3 a4 a5) (apc (e1 : L25_1_e a2 a1 a3 a4 a5 = some (.ret, ⟨fr 30 g1 [(10, .sl 9 x1_0 1 0 x1_1)], [yI0, .map (mrow kA vL a5), .cells 59 [.mp 1], yI0, yI0, .cells 39 [.sl 9 x1_0 1 0 x1_1], .cells 3 [i6 x1_2], .dead, yI0, yI x1_0 x1_3]⟩)) apn))
 | k1 x1_0 =>
  obtain ⟨g1, e1⟩ := L25_1_run a2 a1 a3 a4 a5 () _ h1
  rw [← sj h]
  exact fc [(2002000, .l .ret ⟨fr 30 g1 [(10, .sl 4 0 1 0 0)], [yI0, .map (mrow kA vL a5), .cells 59 [.mp 1], yI0, yI0, .cells 39 [.sl 4 0 1 0 0], .cells 3 [i6 x1_0], .dead]⟩), (6000, .d true)] (apc (L25_1_k a2 a1 a3 a4 a5) (apc (e1 : L25_1_e a2 a1 a3 a4 a5 = some (.ret, ⟨fr 30 g1 [(10, .sl 4 0 1 0 0)], [yI0, .map (mrow kA vL a5), .cells 59 [.mp 1], yI0, yI0, .cells 39 [.sl 4 0 1 0 0], .cells 3 [i6 x1_0], .dead]⟩)) apn))
inductive R_F16 where
  | k0 (x0 : List Int) (x1 : Int)
def F16_v (a1 : ScopesD) (a2 : Int) (a3 a4 : ByteArray) (r : R_F16) : AV := match r with | .k0 x0 x1 => (.tup [ls 1 eI64 x0, i6 x1])
def F16 (a1 : ScopesD) (a2 : Int) (a3 a4 : ByteArray) : Option R_F16 :=
  ((F27 a1 a2).bind fun x1 => (bif (x1 != 0) then (some (.k0 ([]) x1)) else (bif (decide (a1.decl.length ≤ 1000000)) then ((F25 a1 a2 a3 a4 (foundL a1.decl 0 [])).bind fun r4 => match r4 with | .k0 x4_0 x4_1 x4_2 x4_3 => (bif (decide (x4_1 ≤ x4_3.length)) then (some (.k0 (x4_3.take x4_1) 0)) else none) | .k1 x4_0 => (some (.k0 ([]) 0))) else none)))
theorem F16_ok (a1 : ScopesD) (a2 : Int) (a3 a4 : ByteArray) {r : R_F16} (h : F16 a1 a2 a3 a4 = some r) : PR2 prg 16 [(.agg ((eScps a1).map .p)), i6 a2, vs a3, vs a4] (F16_v a1 a2 a3 a4 r) := by
 unfold F16 at h
 apply bn h; intro x1 h1 h
 have q0 := (((F27_ok a1 a2 h1).cp rfl _) : CP prg 27 [(.agg ((eScps a1).map .p)), i6 a2] [yI0] = some (i6 x1))
 apply bi h <;> intro h2 h
 ·
  rw [← sj h]
  exact fpn (v := (.tup [.sl 1 0 1 0 0, i6 x1])) (h' := [yI0, yI0]) [(13, .v (i6 x1)), (15, .d true)] (apc q0 (av h2 apn)) (purA_tup (purAs_cons (purA_sl (e := eI64) (xs := []) rfl rfl) (purAs_cons rfl purAs_nil))) rfl (purA_tup (purAs_cons (purA_sl (e := eI64) (xs := []) (getq rfl (nols_ra (fun _ => rfl))) rfl) (purAs_cons rfl purAs_nil))) (by kernel_rfl)
 ·
  have k1 := ka [(13, .v (i6 x1)), (15, .d false)] (apc q0 (av h2 apn))
  apply bi h <;> intro h3 h
  ·
   have q2 := ((cs_found a1 h3 [yI0]) : CS prg 23 [(.agg ((eScps a1).map .p))] [yI0] = some ((.mp 1), [yI0, .map (mrow kA vL (foundL a1.decl 0 []))]))
   have k3 := k1.a [(19, .r (.mp 1) [yI0, .map (mrow kA vL (foundL a1.decl 0 []))])] (apc q2 apn)
   apply bn h; intro r4 h4 h
   cases r4 with
   | k0 x4_0 x4_1 x4_2 x4_3 =>
    have q4 := ((F25_ok a1 a2 a3 a4 (foundL a1.decl 0 []) h4) : CS prg 25 [(.agg ((eScps a1).map .p)), .mp 1, i6 a2, vs a3, vs a4] [yI0, .map (mrow kA vL (foundL a1.decl 0 []))] = some ((.sl 9 x4_0 1 0 x4_1), [yI0, .map (mrow kA vL (foundL a1.decl 0 [])), .cells 59 [.mp 1], yI0, yI0, .cells 39 [.sl 9 x4_0 1 0 x4_1], .cells 3 [i6 x4_2], .dead, yI0, yI x4_0 x4_3]))
    have k5 := k3.a [(23, .r (.sl 9 x4_0 1 0 x4_1) [yI0, .map (mrow kA vL (foundL a1.decl 0 [])), .cells 59 [.mp 1], yI0, yI0, .cells 39 [.sl 9 x4_0 1 0 x4_1], .cells 3 [i6 x4_2], .dead, yI0, yI x4_0 x4_3])] (apc q4 apn)
    apply bi h <;> intro h5 h
    ·
     rw [← sj h]
     exact fpn (v := (.tup [.sl 9 x4_0 1 0 x4_1, i6 0])) (h' := [yI0, .map (mrow kA vL (foundL a1.decl 0 [])), .cells 59 [.mp 1], yI0, yI0, .cells 39 [.sl 9 x4_0 1 0 x4_1], .cells 3 [i6 x4_2], .dead, yI0, yI x4_0 x4_3]) (kH k5) (k5.b apn) (purA_tup (purAs_cons (purA_sl (e := eI64) rfl h5) (purAs_cons rfl purAs_nil))) rfl (purA_tup (purAs_cons (purA_sl (e := eI64) (getq rfl (nols_ra (fun _ => rfl))) h5) (purAs_cons rfl purAs_nil))) (by kernel_rfl)
    ·
     cases h
   | k1 x4_0 =>
    rw [← sj h]
    exact fpn (v := (.tup [.sl 4 0 1 0 0, i6 0])) (h' := [yI0, .map (mrow kA vL (foundL a1.decl 0 [])), .cells 59 [.mp 1], yI0, yI0, .cells 39 [.sl 4 0 1 0 0], .cells 3 [i6 x4_0], .dead]) ([(23, .r (.sl 4 0 1 0 0) [yI0, .map (mrow kA vL (foundL a1.decl 0 [])), .cells 59 [.mp 1], yI0, yI0, .cells 39 [.sl 4 0 1 0 0], .cells 3 [i6 x4_0], .dead])] ++ kH k3) (k3.b (apc ((F25_ok a1 a2 a3 a4 (foundL a1.decl 0 []) h4) : CS prg 25 [(.agg ((eScps a1).map .p)), .mp 1, i6 a2, vs a3, vs a4] [yI0, .map (mrow kA vL (foundL a1.decl 0 []))] = some ((.sl 4 0 1 0 0), [yI0, .map (mrow kA vL (foundL a1.decl 0 [])), .cells 59 [.mp 1], yI0, yI0, .cells 39 [.sl 4 0 1 0 0], .cells 3 [i6 x4_0], .dead])) apn)) (purA_tup (purAs_cons (purA_sl (e := eI64) (xs := []) rfl rfl) (purAs_cons rfl purAs_nil))) rfl (purA_tup (purAs_cons (purA_sl (e := eI64) (xs := []) (getq rfl (nols_ra (fun _ => rfl))) rfl) (purAs_cons rfl purAs_nil))) (by kernel_rfl)
  ·
   cases h
inductive R_F28_4 where
  | k0 (x0 : List ScopeD) (x1 x2 : List NameD)
def F28_4_v (a1 : ScopesD) (a2 : Int) (r : R_F28_4) : AV := match r with | .k0 x0 x1 x2 => (.fn 34 [.ptr 3 0, (.ro [.lst 3 (x0.map eScope), .lst 5 (x1.map eName), .lst 5 (x2.map eName)])])
def F28_4_h (a1 : ScopesD) (a2 : Int) (r : R_F28_4) : List AB := match r with | .k0 x0 x1 x2 => [yS0, yS0, .cells 48 [.sl 1 0 1 0 0], .cells 3 [i6 a2]]
def F28_4 (a1 : ScopesD) : Option R_F28_4 :=
  (some (.k0 a1.all a1.decl a1.uses))
theorem F28_4_ok (a1 : ScopesD) (a2 : Int) {r : R_F28_4} (h : F28_4 a1 = some r) : CS prg 28 [(.agg ((eScps a1).map .p)), i6 a2] [yS0, yS0, .cells 48 [.sl 1 0 1 0 0]] = some (F28_4_v a1 a2 r, F28_4_h a1 a2 r) := by
 unfold F28_4 at h
 rw [← sj h]
 exact fc [] apn
inductive E_L17_0_3 where
  | k0 (x0 : Nat) (x1 : List ByteArray) (x2 : Nat)
section
variable (a1 : ScopesD) (a2 : ByteArray) (a3 a4 a8 a9 : Int) (a10 : ScopesD)
def L17_0_3 (v1 : Int) (v2 : Nat) (v3 : List ByteArray) (v4 : Nat) : Option (E_L17_0_3 ⊕ (Int × Nat × (List ByteArray) × Nat)) :=
  (bif (decide (v1 < a4)) then ((getI a1.decl v1).bind fun x2 => (bif (x2.scp == a3) then (bif (x2.spc.toList == a2.toList) then (bif (apOk v4 1 v3.length 16) then (bif (decide (v4 + 1 ≤ v3.length)) then (some (.inr ((IntKind.wrap .i64 (v1 + 1)), v2, (splice v3 v4 [x2.txt]), v4 + 1))) else (some (.inr ((IntKind.wrap .i64 (v1 + 1)), v2 + 1, (v3.take v4 ++ [x2.txt]), v4 + 1)))) else none) else (some (.inr ((IntKind.wrap .i64 (v1 + 1)), v2, v3, v4)))) else (some (.inr ((IntKind.wrap .i64 (v1 + 1)), v2, v3, v4))))) else (some (.inl (.k0 v2 v3 v4))))
def L17_0_3_s (v1 : Int) (v2 : Nat) (v3 : List ByteArray) (v4 : Nat) : St := ⟨fr 48 ug [(3, (.ro (eScps a1))), (5, (.ro [.val (.string a2)])), (9, .ptr 2 0), (10, i6 a3), (24, ls 5 eName a1.decl), (25, i6 a4), (26, i6 v1)], [yS0, yS v2 v3, .cells 48 [.sl 1 v2 1 0 v4], .cells 3 [i6 a3], .loop 1 none [22] [(.agg ((eScps a1).map .p)), i6 a8, vs a2, (.ro (eScps a1)), (.p (.val undef)), (.ro [.val (.string a2)]), .sl 0 0 1 0 0, i6 0, i6 a9, .ptr 2 0, (.p (.val undef)), (.p (.val undef)), (.p (.val undef)), (.agg ((eScps a1).map .p)), i6 a8, i6 a9, i6 a9, vb false, (.p (.val undef)), (.agg ((eScps a1).map .p)), i6 a8, (.fn 34 [.ptr 3 0, (.ro (eScps a10))]), (.p (.val undef)), (.p (.val undef)), (.p (.val undef)), (.p (.val undef)), (.p (.val undef)), (.p (.val undef)), (.p (.val undef)), (.p (.val undef)), (.p (.val undef)), (.p (.val undef)), (.p (.val undef)), (.p (.val undef)), (.p (.val undef)), (.p (.val undef)), (.p (.val undef)), (.p (.val undef)), (.p (.val undef)), (.p (.val undef)), (.p (.val undef)), (.p (.val undef)), (.p (.val undef)), (.p (.val undef)), (.p (.val undef)), (.p (.val undef)), (.p (.val undef)), (.p (.val undef))] ir17_a1 ir17_b1]⟩
theorem L17_0_3_k (v1 : Int) (v2 : Nat) (v3 : List ByteArray) (v4 : Nat) : okT 5 (L17_0_3_s a1 a2 a3 a4 a8 a9 a10 v1 v2 v3 v4).h = true := (okT_of rfl (ar (ar (ac (ac (ac rfl))))))
abbrev L17_0_3_e (v1 : Int) (v2 : Nat) (v3 : List ByteArray) (v4 : Nat) := evH prg 5 [3, 5, 9, 10, 24, 25, 26] ir17_l0 (L17_0_3_s a1 a2 a3 a4 a8 a9 a10 v1 v2 v3 v4)
def L17_0_3_x (e : E_L17_0_3) (r : Option (Out × St)) : Prop := match e with | .k0 x0 x1 x2 => ∃ g, r = some ((.brk 2), ⟨fr 48 g [(3, (.ro (eScps a1))), (9, .ptr 2 0), (24, ls 5 eName a1.decl)], [yS0, yS x0 x1, .cells 48 [.sl 1 x0 1 0 x2], .cells 3 [i6 a3], .loop 1 none [22] [(.agg ((eScps a1).map .p)), i6 a8, vs a2, (.ro (eScps a1)), (.p (.val undef)), (.ro [.val (.string a2)]), .sl 0 0 1 0 0, i6 0, i6 a9, .ptr 2 0, (.p (.val undef)), (.p (.val undef)), (.p (.val undef)), (.agg ((eScps a1).map .p)), i6 a8, i6 a9, i6 a9, vb false, (.p (.val undef)), (.agg ((eScps a1).map .p)), i6 a8, (.fn 34 [.ptr 3 0, (.ro (eScps a10))]), (.p (.val undef)), (.p (.val undef)), (.p (.val undef)), (.p (.val undef)), (.p (.val undef)), (.p (.val undef)), (.p (.val undef)), (.p (.val undef)), (.p (.val undef)), (.p (.val undef)), (.p (.val undef)), (.p (.val undef)), (.p (.val undef)), (.p (.val undef)), (.p (.val undef)), (.p (.val undef)), (.p (.val undef)), (.p (.val undef)), (.p (.val undef)), (.p (.val undef)), (.p (.val undef)), (.p (.val undef)), (.p (.val undef)), (.p (.val undef)), (.p (.val undef)), (.p (.val undef))] ir17_a1 ir17_b1]⟩)
abbrev L17_0_3_d0 (v2 : Nat) (v3 : List ByteArray) (v4 : Nat) (x2 : NameD) : List AB := [yS0, yS v2 (splice v3 v4 [x2.txt]), .cells 48 [.sl 1 v2 1 0 v4], .cells 3 [i6 a3], .loop 1 none [22] [(.agg ((eScps a1).map .p)), i6 a8, vs a2, (.ro (eScps a1)), (.p (.val undef)), (.ro [.val (.string a2)]), .sl 0 0 1 0 0, i6 0, i6 a9, .ptr 2 0, (.p (.val undef)), (.p (.val undef)), (.p (.val undef)), (.agg ((eScps a1).map .p)), i6 a8, i6 a9, i6 a9, vb false, (.p (.val undef)), (.agg ((eScps a1).map .p)), i6 a8, (.fn 34 [.ptr 3 0, (.ro (eScps a10))]), (.p (.val undef)), (.p (.val undef)), (.p (.val undef)), (.p (.val undef)), (.p (.val undef)), (.p (.val undef)), (.p (.val undef)), (.p (.val undef)), (.p (.val undef)), (.p (.val undef)), (.p (.val undef)), (.p (.val undef)), (.p (.val undef)), (.p (.val undef)), (.p (.val undef)), (.p (.val undef)), (.p (.val undef)), (.p (.val undef)), (.p (.val undef)), (.p (.val undef)), (.p (.val undef)), (.p (.val undef)), (.p (.val undef)), (.p (.val undef)), (.p (.val undef)), (.p (.val undef))] ir17_a1 ir17_b1, .cells 34 ((eName x2).map .p), .row 9 1 0 [[vs x2.txt]]]
abbrev L17_0_3_d1 (v2 : Nat) (v3 : List ByteArray) (v4 : Nat) (x2 : NameD) : List AB := [yS0, yS v2 v3, .cells 48 [.sl 1 v2 1 0 v4], .cells 3 [i6 a3], .loop 1 none [22] [(.agg ((eScps a1).map .p)), i6 a8, vs a2, (.ro (eScps a1)), (.p (.val undef)), (.ro [.val (.string a2)]), .sl 0 0 1 0 0, i6 0, i6 a9, .ptr 2 0, (.p (.val undef)), (.p (.val undef)), (.p (.val undef)), (.agg ((eScps a1).map .p)), i6 a8, i6 a9, i6 a9, vb false, (.p (.val undef)), (.agg ((eScps a1).map .p)), i6 a8, (.fn 34 [.ptr 3 0, (.ro (eScps a10))]), (.p (.val undef)), (.p (.val undef)), (.p (.val undef)), (.p (.val undef)), (.p (.val undef)), (.p (.val undef)), (.p (.val undef)), (.p (.val undef)), (.p (.val undef)), (.p (.val undef)), (.p (.val undef)), (.p (.val undef)), (.p (.val undef)), (.p (.val undef)), (.p (.val undef)), (.p (.val undef)), (.p (.val undef)), (.p (.val undef)), (.p (.val undef)), (.p (.val undef)), (.p (.val undef)), (.p (.val undef)), (.p (.val undef)), (.p (.val undef)), (.p (.val undef)), (.p (.val undef))] ir17_a1 ir17_b1, .cells 34 ((eName x2).map .p), .row 9 1 0 [[vs x2.txt]]]
abbrev L17_0_3_d2 (v2 : Nat) (v3 : List ByteArray) (v4 : Nat) (x2 : NameD) : List AB := [yS0, yS (v2 + 1) (v3.take v4 ++ [x2.txt]), .cells 48 [.sl 1 v2 1 0 v4], .cells 3 [i6 a3], .loop 1 none [22] [(.agg ((eScps a1).map .p)), i6 a8, vs a2, (.ro (eScps a1)), (.p (.val undef)), (.ro [.val (.string a2)]), .sl 0 0 1 0 0, i6 0, i6 a9, .ptr 2 0, (.p (.val undef)), (.p (.val undef)), (.p (.val undef)), (.agg ((eScps a1).map .p)), i6 a8, i6 a9, i6 a9, vb false, (.p (.val undef)), (.agg ((eScps a1).map .p)), i6 a8, (.fn 34 [.ptr 3 0, (.ro (eScps a10))]), (.p (.val undef)), (.p (.val undef)), (.p (.val undef)), (.p (.val undef)), (.p (.val undef)), (.p (.val undef)), (.p (.val undef)), (.p (.val undef)), (.p (.val undef)), (.p (.val undef)), (.p (.val undef)), (.p (.val undef)), (.p (.val undef)), (.p (.val undef)), (.p (.val undef)), (.p (.val undef)), (.p (.val undef)), (.p (.val undef)), (.p (.val undef)), (.p (.val undef)), (.p (.val undef)), (.p (.val undef)), (.p (.val undef)), (.p (.val undef)), (.p (.val undef)), (.p (.val undef))] ir17_a1 ir17_b1, .cells 34 ((eName x2).map .p), .row 9 1 0 [[vs x2.txt]]]
theorem L17_0_3_ok (v1 : Int) (v2 : Nat) (v3 : List ByteArray) (v4 : Nat) {r : E_L17_0_3 ⊕ (Int × Nat × (List ByteArray) × Nat)} (h : L17_0_3 a1 a2 a3 a4 v1 v2 v3 v4 = some r) : OkR (fun e => L17_0_3_x a1 a2 a3 a8 a9 a10 e (L17_0_3_e a1 a2 a3 a4 a8 a9 a10 v1 v2 v3 v4)) (fun s => L17_0_3_e a1 a2 a3 a4 a8 a9 a10 v1 v2 v3 v4 = L17_0_3_e a1 a2 a3 a4 a8 a9 a10 s.1 s.2.1 s.2.2.1 s.2.2.2) r := by
 unfold L17_0_3 at h
 have q0 := (L17_0_3_k a1 a2 a3 a4 a8 a9 a10 (w6 (v1 + 1)) v2 v3 v4)
 apply bi h <;> intro h1 h
 ·
  apply bn h; intro x2 h2 h
  have k1 := ka [(27, .d true), (28, .v (.ro (eName x2)))] (av h1 (apc (ig eName 5 .i64 h2) apn))
  apply bi h <;> intro h3 h
  ·
   apply bi h <;> intro h4 h
   ·
    have k2 := k1.a [(33, .d true), (38, .d true)] (av h3 (av h4 apn))
    apply bi h <;> intro h5 h
    ·
     apply bi h <;> intro h6 h
     ·
      rw [← sj h]
      exact rn ([(44, .r (.sl 1 v2 1 0 (v4 + 1)) (L17_0_3_d0 a1 a2 a3 a8 a9 a10 v2 v3 v4 x2)), (6000, .d true)] ++ kH k2) (k2.b (apc ((ap_in (e := eStr) (xs := v3) (news := [x2.txt]) rfl (rows_x (e := eStr) (xs := [x2.txt]) rfl) rfl h5 h6) : appA (L17_0_3_d1 a1 a2 a3 a8 a9 a10 v2 v3 v4 x2) 9 1 16 (.sl 1 v2 1 0 v4) (.sl 6 0 1 0 1) = some ((.sl 1 v2 1 0 (v4 + 1)), L17_0_3_d0 a1 a2 a3 a8 a9 a10 v2 v3 v4 x2)) (apc (L17_0_3_k a1 a2 a3 a4 a8 a9 a10 (w6 (v1 + 1)) v2 (splice v3 v4 [x2.txt]) (v4 + 1)) apn)))
     ·
      rw [← sj h]
      exact rn ([(44, .r (.sl 1 (v2 + 1) 1 0 (v4 + 1)) (L17_0_3_d2 a1 a2 a3 a8 a9 a10 v2 v3 v4 x2)), (6000, .d true)] ++ kH k2) (k2.b (apc ((ap_out (e := eStr) (xs := v3) (news := [x2.txt]) rfl (rows_x (e := eStr) (xs := [x2.txt]) rfl) rfl h5 h6) : appA (L17_0_3_d1 a1 a2 a3 a8 a9 a10 v2 v3 v4 x2) 9 1 16 (.sl 1 v2 1 0 v4) (.sl 6 0 1 0 1) = some ((.sl 1 (v2 + 1) 1 0 (v4 + 1)), L17_0_3_d2 a1 a2 a3 a8 a9 a10 v2 v3 v4 x2)) (apc (L17_0_3_k a1 a2 a3 a4 a8 a9 a10 (w6 (v1 + 1)) (v2 + 1) (v3.take v4 ++ [x2.txt]) (v4 + 1)) apn)))
    ·
     cases h
   ·
    rw [← sj h]
    exact rn ([(33, .d true), (38, .d false), (6000, .d true)] ++ kH k1) (k1.b (av h3 (av h4 (apc q0 apn))))
  ·
   rw [← sj h]
   exact rn ([(33, .d false), (6000, .d true)] ++ kH k1) (k1.b (av h3 (apc q0 apn)))
 ·
  rw [← sj h]
  exact xb [(27, .d false), (6000, .d true)] (av h1 apn)
theorem L17_0_3_run (s0 : Int × Nat × (List ByteArray) × Nat) (e : E_L17_0_3) (h : runL (fun s => L17_0_3 a1 a2 a3 a4 s.1 s.2.1 s.2.2.1 s.2.2.2) s0 = some e) : L17_0_3_x a1 a2 a3 a8 a9 a10 e (L17_0_3_e a1 a2 a3 a4 a8 a9 a10 s0.1 s0.2.1 s0.2.2.1 s0.2.2.2) := by
  have q := @loop_sound' (Int × Nat × (List ByteArray) × Nat) E_L17_0_3 (fun s => L17_0_3 a1 a2 a3 a4 s.1 s.2.1 s.2.2.1 s.2.2.2) (fun s => L17_0_3_e a1 a2 a3 a4 a8 a9 a10 s.1 s.2.1 s.2.2.1 s.2.2.2) (L17_0_3_x a1 a2 a3 a8 a9 a10) (fun s r h => L17_0_3_ok a1 a2 a3 a4 a8 a9 a10 s.1 s.2.1 s.2.2.1 s.2.2.2 h) s0 e h
  exact q
end
inductive R_Y17_1_3 where
  | k0 (x0 : Nat) (x1 : List ByteArray) (x2 : Nat)
def Y17_1_3_v (a1 : Int) (a2 : Nat) (a3 : List ByteArray) (a4 : Nat) (a5 : ScopesD) (a6 : Int) (a7 : ByteArray) (a8 : Int) (a9 : ScopesD) (r : R_Y17_1_3) : AV := match r with | .k0 x0 x1 x2 => (vb true)
def Y17_1_3_h (a1 : Int) (a2 : Nat) (a3 : List ByteArray) (a4 : Nat) (a5 : ScopesD) (a6 : Int) (a7 : ByteArray) (a8 : Int) (a9 : ScopesD) (r : R_Y17_1_3) : List AB := match r with | .k0 x0 x1 x2 => [yS0, yS x0 x1, .cells 48 [.sl 1 x0 1 0 x2], .cells 3 [i6 a1], .loop 0 none [22] [(.agg ((eScps a5).map .p)), i6 a6, vs a7, (.ro (eScps a5)), (.p (.val undef)), (.ro [.val (.string a7)]), .sl 0 0 1 0 0, i6 0, i6 a8, .ptr 2 0, (.p (.val undef)), (.p (.val undef)), (.p (.val undef)), (.agg ((eScps a5).map .p)), i6 a6, i6 a8, i6 a8, vb false, (.p (.val undef)), (.agg ((eScps a5).map .p)), i6 a6, (.fn 34 [.ptr 3 0, (.ro (eScps a9))]), (.p (.val undef)), (.p (.val undef)), (.p (.val undef)), (.p (.val undef)), (.p (.val undef)), (.p (.val undef)), (.p (.val undef)), (.p (.val undef)), (.p (.val undef)), (.p (.val undef)), (.p (.val undef)), (.p (.val undef)), (.p (.val undef)), (.p (.val undef)), (.p (.val undef)), (.p (.val undef)), (.p (.val undef)), (.p (.val undef)), (.p (.val undef)), (.p (.val undef)), (.p (.val undef)), (.p (.val undef)), (.p (.val undef)), (.p (.val undef)), (.p (.val undef)), (.p (.val undef))] ir17_a1 ir17_b1]
def Y17_1_3 (a1 : Int) (a2 : Nat) (a3 : List ByteArray) (a4 : Nat) (a5 : ScopesD) (a7 : ByteArray) : Option R_Y17_1_3 :=
  ((runL (fun s => L17_0_3 a5 a7 a1 (a5.decl.length : Int) s.1 s.2.1 s.2.2.1 s.2.2.2) (0, a2, a3, a4)).bind fun r1 => match r1 with | .k0 x1_0 x1_1 x1_2 => (some (.k0 x1_0 x1_1 x1_2)))
abbrev Y17_1_3_d0 (g1 : Nat → AV) (a5 : ScopesD) (x1_0 : Nat) (x1_1 : List ByteArray) (x1_2 : Nat) (a1 a6 : Int) (a7 : ByteArray) (a8 : Int) (a9 : ScopesD) : St := ⟨fr 48 g1 [(3, (.ro (eScps a5))), (9, .ptr 2 0), (24, ls 5 eName a5.decl)], [yS0, yS x1_0 x1_1, .cells 48 [.sl 1 x1_0 1 0 x1_2], .cells 3 [i6 a1], .loop 1 none [22] [(.agg ((eScps a5).map .p)), i6 a6, vs a7, (.ro (eScps a5)), (.p (.val undef)), (.ro [.val (.string a7)]), .sl 0 0 1 0 0, i6 0, i6 a8, .ptr 2 0, (.p (.val undef)), (.p (.val undef)), (.p (.val undef)), (.agg ((eScps a5).map .p)), i6 a6, i6 a8, i6 a8, vb false, (.p (.val undef)), (.agg ((eScps a5).map .p)), i6 a6, (.fn 34 [.ptr 3 0, (.ro (eScps a9))]), (.p (.val undef)), (.p (.val undef)), (.p (.val undef)), (.p (.val undef)), (.p (.val undef)), (.p (.val undef)), (.p (.val undef)), (.p (.val undef)), (.p (.val undef)), (.p (.val undef)), (.p (.val undef)), (.p (.val undef)), (.p (.val undef)), (.p (.val undef)), (.p (.val undef)), (.p (.val undef)), (.p (.val undef)), (.p (.val undef)), (.p (.val undef)), (.p (.val undef)), (.p (.val undef)), (.p (.val undef)), (.p (.val undef)), (.p (.val undef)), (.p (.val undef)), (.p (.val undef))] ir17_a1 ir17_b1]⟩
theorem Y17_1_3_ok (a1 : Int) (a2 : Nat) (a3 : List ByteArray) (a4 : Nat) (a5 : ScopesD) (a6 : Int) (a7 : ByteArray) (a8 : Int) (a9 : ScopesD) {r : R_Y17_1_3} (h : Y17_1_3 a1 a2 a3 a4 a5 a7 = some r) : callY (ev prg) 4 [i6 a1] [yS0, yS a2 a3, .cells 48 [.sl 1 a2 1 0 a4], .cells 3 [i6 a1], .loop 0 none [22] [(.agg ((eScps a5).map .p)), i6 a6, vs a7, (.ro (eScps a5)), (.p (.val undef)), (.ro [.val (.string a7)]), .sl 0 0 1 0 0, i6 0, i6 a8, .ptr 2 0, (.p (.val undef)), (.p (.val undef)), (.p (.val undef)), (.agg ((eScps a5).map .p)), i6 a6, i6 a8, i6 a8, vb false, (.p (.val undef)), (.agg ((eScps a5).map .p)), i6 a6, (.fn 34 [.ptr 3 0, (.ro (eScps a9))]), (.p (.val undef)), (.p (.val undef)), (.p (.val undef)), (.p (.val undef)), (.p (.val undef)), (.p (.val undef)), (.p (.val undef)), (.p (.val undef)), (.p (.val undef)), (.p (.val undef)), (.p (.val undef)), (.p (.val undef)), (.p (.val undef)), (.p (.val undef)), (.p (.val undef)), (.p (.val undef)), (.p (.val undef)), (.p (.val undef)), (.p (.val undef)), (.p (.val undef)), (.p (.val undef)), (.p (.val undef)), (.p (.val undef)), (.p (.val undef)), (.p (.val undef)), (.p (.val undef))] ir17_a1 ir17_b1] = some (Y17_1_3_v a1 a2 a3 a4 a5 a6 a7 a8 a9 r, Y17_1_3_h a1 a2 a3 a4 a5 a6 a7 a8 a9 r) := by
 unfold Y17_1_3 at h
 apply bn h; intro r1 h1 h
 cases r1 with
 | k0 x1_0 x1_1 x1_2 =>
  obtain ⟨g1, e1⟩ := L17_0_3_run a5 a7 a1 (a5.decl.length : Int) a6 a8 a9 (0, a2, a3, a4) _ h1
  rw [← sj h]
  exact fyc [(25, .v (i6 (a5.decl.length : Int))), (2002, .l (.brk 2) (Y17_1_3_d0 g1 a5 x1_0 x1_1 x1_2 a1 a6 a7 a8 a9)), (6000, .d true)] (apc (lg a5.decl eName 5) (apc (L17_0_3_k a5 a7 a1 (a5.decl.length : Int) a6 a8 a9 0 a2 a3 a4) (apc (e1 : L17_0_3_e a5 a7 a1 (a5.decl.length : Int) a6 a8 a9 0 a2 a3 a4 = some ((.brk 2), Y17_1_3_d0 g1 a5 x1_0 x1_1 x1_2 a1 a6 a7 a8 a9)) apn))) (by kernel_rfl)
inductive E_L34_0_4 where
  | k0 (x0 : Nat) (x1 : List ByteArray) (x2 : Nat) (x3 : Int)
section
variable (a1 : ScopesD) (a2 : Int) (a3 : ScopesD) (a4 : ByteArray) (a5 : Int)
def L34_0_4 (v1 : Nat) (v2 : List ByteArray) (v3 : Nat) (v4 : Int) : Option (E_L34_0_4 ⊕ (Nat × (List ByteArray) × Nat × Int)) :=
  (bif (decide (v4 ≥ 0)) then ((Y17_1_3 v4 v1 v2 v3 a3 a4).bind fun r2 => match r2 with | .k0 x2_0 x2_1 x2_2 => ((getI a1.all v4).bind fun x3 => (some (.inr (x2_0, x2_1, x2_2, x3.par))))) else (some (.inl (.k0 v1 v2 v3 v4))))
def L34_0_4_s (v1 : Nat) (v2 : List ByteArray) (v3 : Nat) (v4 : Int) : St := ⟨fr 16 ug [(0, .yl 4), (1, .ptr 3 0), (2, (.ro (eScps a1)))], [yS0, yS v1 v2, .cells 48 [.sl 1 v1 1 0 v3], .cells 3 [i6 v4], .loop 0 none [22] [(.agg ((eScps a3).map .p)), i6 a2, vs a4, (.ro (eScps a3)), (.p (.val undef)), (.ro [.val (.string a4)]), .sl 0 0 1 0 0, i6 0, i6 a5, .ptr 2 0, (.p (.val undef)), (.p (.val undef)), (.p (.val undef)), (.agg ((eScps a3).map .p)), i6 a2, i6 a5, i6 a5, vb false, (.p (.val undef)), (.agg ((eScps a3).map .p)), i6 a2, (.fn 34 [.ptr 3 0, (.ro (eScps a1))]), (.p (.val undef)), (.p (.val undef)), (.p (.val undef)), (.p (.val undef)), (.p (.val undef)), (.p (.val undef)), (.p (.val undef)), (.p (.val undef)), (.p (.val undef)), (.p (.val undef)), (.p (.val undef)), (.p (.val undef)), (.p (.val undef)), (.p (.val undef)), (.p (.val undef)), (.p (.val undef)), (.p (.val undef)), (.p (.val undef)), (.p (.val undef)), (.p (.val undef)), (.p (.val undef)), (.p (.val undef)), (.p (.val undef)), (.p (.val undef)), (.p (.val undef)), (.p (.val undef))] ir17_a1 ir17_b1]⟩
theorem L34_0_4_k (v1 : Nat) (v2 : List ByteArray) (v3 : Nat) (v4 : Int) : okT 5 (L34_0_4_s a1 a2 a3 a4 a5 v1 v2 v3 v4).h = true := (okT_of rfl (ar (ar (ac (ac (ac rfl))))))
abbrev L34_0_4_e (v1 : Nat) (v2 : List ByteArray) (v3 : Nat) (v4 : Int) := evH prg 5 [0, 1, 2] ir34_l0 (L34_0_4_s a1 a2 a3 a4 a5 v1 v2 v3 v4)
def L34_0_4_x (e : E_L34_0_4) (r : Option (Out × St)) : Prop := match e with | .k0 x0 x1 x2 x3 => ∃ g, r = some ((.brk 0), ⟨fr 16 g [], [yS0, yS x0 x1, .cells 48 [.sl 1 x0 1 0 x2], .cells 3 [i6 x3], .loop 0 none [22] [(.agg ((eScps a3).map .p)), i6 a2, vs a4, (.ro (eScps a3)), (.p (.val undef)), (.ro [.val (.string a4)]), .sl 0 0 1 0 0, i6 0, i6 a5, .ptr 2 0, (.p (.val undef)), (.p (.val undef)), (.p (.val undef)), (.agg ((eScps a3).map .p)), i6 a2, i6 a5, i6 a5, vb false, (.p (.val undef)), (.agg ((eScps a3).map .p)), i6 a2, (.fn 34 [.ptr 3 0, (.ro (eScps a1))]), (.p (.val undef)), (.p (.val undef)), (.p (.val undef)), (.p (.val undef)), (.p (.val undef)), (.p (.val undef)), (.p (.val undef)), (.p (.val undef)), (.p (.val undef)), (.p (.val undef)), (.p (.val undef)), (.p (.val undef)), (.p (.val undef)), (.p (.val undef)), (.p (.val undef)), (.p (.val undef)), (.p (.val undef)), (.p (.val undef)), (.p (.val undef)), (.p (.val undef)), (.p (.val undef)), (.p (.val undef)), (.p (.val undef)), (.p (.val undef)), (.p (.val undef)), (.p (.val undef))] ir17_a1 ir17_b1]⟩)
abbrev L34_0_4_d0 (x2_0 : Nat) (x2_1 : List ByteArray) (x2_2 : Nat) (v4 : Int) : List AB := [yS0, yS x2_0 x2_1, .cells 48 [.sl 1 x2_0 1 0 x2_2], .cells 3 [i6 v4], .loop 0 none [22] [(.agg ((eScps a3).map .p)), i6 a2, vs a4, (.ro (eScps a3)), (.p (.val undef)), (.ro [.val (.string a4)]), .sl 0 0 1 0 0, i6 0, i6 a5, .ptr 2 0, (.p (.val undef)), (.p (.val undef)), (.p (.val undef)), (.agg ((eScps a3).map .p)), i6 a2, i6 a5, i6 a5, vb false, (.p (.val undef)), (.agg ((eScps a3).map .p)), i6 a2, (.fn 34 [.ptr 3 0, (.ro (eScps a1))]), (.p (.val undef)), (.p (.val undef)), (.p (.val undef)), (.p (.val undef)), (.p (.val undef)), (.p (.val undef)), (.p (.val undef)), (.p (.val undef)), (.p (.val undef)), (.p (.val undef)), (.p (.val undef)), (.p (.val undef)), (.p (.val undef)), (.p (.val undef)), (.p (.val undef)), (.p (.val undef)), (.p (.val undef)), (.p (.val undef)), (.p (.val undef)), (.p (.val undef)), (.p (.val undef)), (.p (.val undef)), (.p (.val undef)), (.p (.val undef)), (.p (.val undef)), (.p (.val undef))] ir17_a1 ir17_b1]
theorem L34_0_4_ok (v1 : Nat) (v2 : List ByteArray) (v3 : Nat) (v4 : Int) {r : E_L34_0_4 ⊕ (Nat × (List ByteArray) × Nat × Int)} (h : L34_0_4 a1 a3 a4 v1 v2 v3 v4 = some r) : OkR (fun e => L34_0_4_x a1 a2 a3 a4 a5 e (L34_0_4_e a1 a2 a3 a4 a5 v1 v2 v3 v4)) (fun s => L34_0_4_e a1 a2 a3 a4 a5 v1 v2 v3 v4 = L34_0_4_e a1 a2 a3 a4 a5 s.1 s.2.1 s.2.2.1 s.2.2.2) r := by
 unfold L34_0_4 at h
 apply bi h <;> intro h1 h
 ·
  apply bn h; intro r2 h2 h
  cases r2 with
  | k0 x2_0 x2_1 x2_2 =>
   apply bn h; intro x3 h3 h
   rw [← sj h]
   exact rn [(5, .d true), (14, .r (vb true) (L34_0_4_d0 a1 a2 a3 a4 a5 x2_0 x2_1 x2_2 v4)), (9, .v (.ro (eScope x3))), (6000, .d true)] (av h1 (apc ((Y17_1_3_ok v4 v1 v2 v3 a3 a2 a4 a5 a1 h2) : callY (ev prg) 4 [i6 v4] [yS0, yS v1 v2, .cells 48 [.sl 1 v1 1 0 v3], .cells 3 [i6 v4], .loop 0 none [22] [(.agg ((eScps a3).map .p)), i6 a2, vs a4, (.ro (eScps a3)), (.p (.val undef)), (.ro [.val (.string a4)]), .sl 0 0 1 0 0, i6 0, i6 a5, .ptr 2 0, (.p (.val undef)), (.p (.val undef)), (.p (.val undef)), (.agg ((eScps a3).map .p)), i6 a2, i6 a5, i6 a5, vb false, (.p (.val undef)), (.agg ((eScps a3).map .p)), i6 a2, (.fn 34 [.ptr 3 0, (.ro (eScps a1))]), (.p (.val undef)), (.p (.val undef)), (.p (.val undef)), (.p (.val undef)), (.p (.val undef)), (.p (.val undef)), (.p (.val undef)), (.p (.val undef)), (.p (.val undef)), (.p (.val undef)), (.p (.val undef)), (.p (.val undef)), (.p (.val undef)), (.p (.val undef)), (.p (.val undef)), (.p (.val undef)), (.p (.val undef)), (.p (.val undef)), (.p (.val undef)), (.p (.val undef)), (.p (.val undef)), (.p (.val undef)), (.p (.val undef)), (.p (.val undef)), (.p (.val undef)), (.p (.val undef))] ir17_a1 ir17_b1] = some ((vb true), L34_0_4_d0 a1 a2 a3 a4 a5 x2_0 x2_1 x2_2 v4)) (apc (ig eScope 3 .i64 h3) (apc (L34_0_4_k a1 a2 a3 a4 a5 x2_0 x2_1 x2_2 x3.par) apn))))
 ·
  rw [← sj h]
  exact xb [(5, .d false), (6000, .d true)] (av h1 apn)
theorem L34_0_4_run (s0 : Nat × (List ByteArray) × Nat × Int) (e : E_L34_0_4) (h : runL (fun s => L34_0_4 a1 a3 a4 s.1 s.2.1 s.2.2.1 s.2.2.2) s0 = some e) : L34_0_4_x a1 a2 a3 a4 a5 e (L34_0_4_e a1 a2 a3 a4 a5 s0.1 s0.2.1 s0.2.2.1 s0.2.2.2) := by
  have q := @loop_sound' (Nat × (List ByteArray) × Nat × Int) E_L34_0_4 (fun s => L34_0_4 a1 a3 a4 s.1 s.2.1 s.2.2.1 s.2.2.2) (fun s => L34_0_4_e a1 a2 a3 a4 a5 s.1 s.2.1 s.2.2.1 s.2.2.2) (L34_0_4_x a1 a2 a3 a4 a5) (fun s r h => L34_0_4_ok a1 a2 a3 a4 a5 s.1 s.2.1 s.2.2.1 s.2.2.2 h) s0 e h
  exact q
end
inductive R_F34_4 where
  | k0 (x0 : Nat) (x1 : List ByteArray) (x2 : Nat) (x3 : Int)
def F34_4_v (a1 : ScopesD) (a2 : Int) (a3 : ScopesD) (a4 : ByteArray) (a5 : Int) (r : R_F34_4) : AV := match r with | .k0 x0 x1 x2 x3 => (.tup [])
def F34_4_h (a1 : ScopesD) (a2 : Int) (a3 : ScopesD) (a4 : ByteArray) (a5 : Int) (r : R_F34_4) : List AB := match r with | .k0 x0 x1 x2 x3 => [yS0, yS x0 x1, .cells 48 [.sl 1 x0 1 0 x2], .cells 3 [i6 x3], .loop 0 none [22] [(.agg ((eScps a3).map .p)), i6 a2, vs a4, (.ro (eScps a3)), (.p (.val undef)), (.ro [.val (.string a4)]), .sl 0 0 1 0 0, i6 0, i6 a5, .ptr 2 0, (.p (.val undef)), (.p (.val undef)), (.p (.val undef)), (.agg ((eScps a3).map .p)), i6 a2, i6 a5, i6 a5, vb false, (.p (.val undef)), (.agg ((eScps a3).map .p)), i6 a2, (.fn 34 [.ptr 3 0, (.ro (eScps a1))]), (.p (.val undef)), (.p (.val undef)), (.p (.val undef)), (.p (.val undef)), (.p (.val undef)), (.p (.val undef)), (.p (.val undef)), (.p (.val undef)), (.p (.val undef)), (.p (.val undef)), (.p (.val undef)), (.p (.val undef)), (.p (.val undef)), (.p (.val undef)), (.p (.val undef)), (.p (.val undef)), (.p (.val undef)), (.p (.val undef)), (.p (.val undef)), (.p (.val undef)), (.p (.val undef)), (.p (.val undef)), (.p (.val undef)), (.p (.val undef)), (.p (.val undef)), (.p (.val undef))] ir17_a1 ir17_b1]
def F34_4 (a1 : ScopesD) (a2 : Int) (a3 : ScopesD) (a4 : ByteArray) : Option R_F34_4 :=
  ((runL (fun s => L34_0_4 a1 a3 a4 s.1 s.2.1 s.2.2.1 s.2.2.2) (0, [], 0, a2)).bind fun r1 => match r1 with | .k0 x1_0 x1_1 x1_2 x1_3 => (some (.k0 x1_0 x1_1 x1_2 x1_3)))
abbrev F34_4_d0 (g1 : Nat → AV) (x1_0 : Nat) (x1_1 : List ByteArray) (x1_2 : Nat) (x1_3 : Int) (a3 : ScopesD) (a2 : Int) (a4 : ByteArray) (a5 : Int) (a1 : ScopesD) : St := ⟨fr 16 g1 [], [yS0, yS x1_0 x1_1, .cells 48 [.sl 1 x1_0 1 0 x1_2], .cells 3 [i6 x1_3], .loop 0 none [22] [(.agg ((eScps a3).map .p)), i6 a2, vs a4, (.ro (eScps a3)), (.p (.val undef)), (.ro [.val (.string a4)]), .sl 0 0 1 0 0, i6 0, i6 a5, .ptr 2 0, (.p (.val undef)), (.p (.val undef)), (.p (.val undef)), (.agg ((eScps a3).map .p)), i6 a2, i6 a5, i6 a5, vb false, (.p (.val undef)), (.agg ((eScps a3).map .p)), i6 a2, (.fn 34 [.ptr 3 0, (.ro (eScps a1))]), (.p (.val undef)), (.p (.val undef)), (.p (.val undef)), (.p (.val undef)), (.p (.val undef)), (.p (.val undef)), (.p (.val undef)), (.p (.val undef)), (.p (.val undef)), (.p (.val undef)), (.p (.val undef)), (.p (.val undef)), (.p (.val undef)), (.p (.val undef)), (.p (.val undef)), (.p (.val undef)), (.p (.val undef)), (.p (.val undef)), (.p (.val undef)), (.p (.val undef)), (.p (.val undef)), (.p (.val undef)), (.p (.val undef)), (.p (.val undef)), (.p (.val undef)), (.p (.val undef))] ir17_a1 ir17_b1]⟩
theorem F34_4_ok (a1 : ScopesD) (a2 : Int) (a3 : ScopesD) (a4 : ByteArray) (a5 : Int) {r : R_F34_4} (h : F34_4 a1 a2 a3 a4 = some r) : CS prg 34 [.yl 4, .ptr 3 0, (.ro (eScps a1))] [yS0, yS0, .cells 48 [.sl 1 0 1 0 0], .cells 3 [i6 a2], .loop 0 none [22] [(.agg ((eScps a3).map .p)), i6 a2, vs a4, (.ro (eScps a3)), (.p (.val undef)), (.ro [.val (.string a4)]), .sl 0 0 1 0 0, i6 0, i6 a5, .ptr 2 0, (.p (.val undef)), (.p (.val undef)), (.p (.val undef)), (.agg ((eScps a3).map .p)), i6 a2, i6 a5, i6 a5, vb false, (.p (.val undef)), (.agg ((eScps a3).map .p)), i6 a2, (.fn 34 [.ptr 3 0, (.ro (eScps a1))]), (.p (.val undef)), (.p (.val undef)), (.p (.val undef)), (.p (.val undef)), (.p (.val undef)), (.p (.val undef)), (.p (.val undef)), (.p (.val undef)), (.p (.val undef)), (.p (.val undef)), (.p (.val undef)), (.p (.val undef)), (.p (.val undef)), (.p (.val undef)), (.p (.val undef)), (.p (.val undef)), (.p (.val undef)), (.p (.val undef)), (.p (.val undef)), (.p (.val undef)), (.p (.val undef)), (.p (.val undef)), (.p (.val undef)), (.p (.val undef)), (.p (.val undef)), (.p (.val undef))] ir17_a1 ir17_b1] = some (F34_4_v a1 a2 a3 a4 a5 r, F34_4_h a1 a2 a3 a4 a5 r) := by
 unfold F34_4 at h
 apply bn h; intro r1 h1 h
 cases r1 with
 | k0 x1_0 x1_1 x1_2 x1_3 =>
  obtain ⟨g1, e1⟩ := L34_0_4_run a1 a2 a3 a4 a5 (0, [], 0, a2) _ h1
  rw [← sj h]
  exact fc [(2000, .l (.brk 0) (F34_4_d0 g1 x1_0 x1_1 x1_2 x1_3 a3 a2 a4 a5 a1)), (6000, .d true)] (apc (L34_0_4_k a1 a2 a3 a4 a5 0 ([]) 0 a2) (apc (e1 : L34_0_4_e a1 a2 a3 a4 a5 0 ([]) 0 a2 = some ((.brk 0), F34_4_d0 g1 x1_0 x1_1 x1_2 x1_3 a3 a2 a4 a5 a1)) apn))
def F29_2_v (a1 a2 : Nat) (a3 : List ByteArray) (a4 : Int) (x0 : Nat) : AV := (.sl 1 a1 1 0 x0)
def F29_2_h (a1 a2 : Nat) (a3 : List ByteArray) (a4 : Int) (x0 : Nat) : List AB := [yS0, yS a1 (cmpR (srtR a3 a2) a2), .cells 48 [.sl 1 a1 1 0 a2], .cells 3 [i6 a4], .dead, yS0]
def F29_2 (a2 : Nat) (a3 : List ByteArray) : Option Nat :=
  (bif (decide (a2 ≤ a3.length ∧ a3.length ≤ 1000000)) then (bif (decide (a2 ≤ (srtR a3 a2).length ∧ (srtR a3 a2).length ≤ 1000000)) then (some (cmpN (srtR a3 a2) a2)) else none) else none)
abbrev F29_2_d0 (a1 : Nat) (a3 : List ByteArray) (a2 : Nat) (a4 : Int) : List AB := [yS0, yS a1 (srtR a3 a2), .cells 48 [.sl 1 a1 1 0 a2], .cells 3 [i6 a4], .dead, yS0]
abbrev F29_2_d1 (a1 : Nat) (a3 : List ByteArray) (a2 : Nat) (a4 : Int) : List AB := [yS0, yS a1 (cmpR (srtR a3 a2) a2), .cells 48 [.sl 1 a1 1 0 a2], .cells 3 [i6 a4], .dead, yS0]
theorem F29_2_ok (a1 a2 : Nat) (a3 : List ByteArray) (a4 : Int) {r : Nat} (h : F29_2 a2 a3 = some r) : CS prg 29 [.sl 1 a1 1 0 a2] [yS0, yS a1 a3, .cells 48 [.sl 1 a1 1 0 a2], .cells 3 [i6 a4], .dead] = some (F29_2_v a1 a2 a3 a4 r, F29_2_h a1 a2 a3 a4 r) := by
 unfold F29_2 at h
 apply bi h <;> intro h1 h
 ·
  have q0 := ((cs_sort2 (xs := a3) rfl h1 rfl) : CS prg 35 [.sl 1 a1 1 0 a2] [yS0, yS a1 a3, .cells 48 [.sl 1 a1 1 0 a2], .cells 3 [i6 a4], .dead, yS0] = some ((.tup []), F29_2_d0 a1 a3 a2 a4))
  have k1 := ka [(4, .r (.tup []) (F29_2_d0 a1 a3 a2 a4))] (apc q0 apn)
  apply bi h <;> intro h2 h
  ·
   rw [← sj h]
   exact fc ([(6, .r (.sl 1 a1 1 0 (cmpN (srtR a3 a2) a2)) (F29_2_d1 a1 a3 a2 a4))] ++ kH k1) (k1.b (apc ((cs_comp (xs := (srtR a3 a2)) rfl h2 rfl) : CS prg 36 [.sl 1 a1 1 0 a2] (F29_2_d0 a1 a3 a2 a4) = some ((.sl 1 a1 1 0 (cmpN (srtR a3 a2) a2)), F29_2_d1 a1 a3 a2 a4)) apn))
  ·
   cases h
 ·
  cases h
inductive R_F17 where
  | k0 (x0 : List ByteArray) (x1 : Int)
def F17_v (a1 : ScopesD) (a2 : Int) (a3 : ByteArray) (r : R_F17) : AV := match r with | .k0 x0 x1 => (.tup [ls 1 eStr x0, i6 x1])
def F17 (a1 : ScopesD) (a2 : Int) (a3 : ByteArray) : Option R_F17 :=
  ((F27 a1 a2).bind fun x1 => (bif (x1 != 0) then (some (.k0 ([]) x1)) else ((F28_4 a1).bind fun r3 => match r3 with | .k0 x3_0 x3_1 x3_2 => ((F34_4 (⟨x3_0, x3_1, x3_2⟩ : ScopesD) a2 a1 a3).bind fun r4 => match r4 with | .k0 x4_0 x4_1 x4_2 x4_3 => ((F29_2 x4_2 x4_1).bind fun x5 => (bif (decide (x5 ≤ (cmpR (srtR x4_1 x4_2) x4_2).length)) then (some (.k0 ((cmpR (srtR x4_1 x4_2) x4_2).take x5) 0)) else none))))))
abbrev F17_d0 (a2 : Int) : List AB := [yS0, yS0, .cells 48 [.sl 1 0 1 0 0], .cells 3 [i6 a2]]
abbrev F17_d1 (x4_0 : Nat) (x4_1 : List ByteArray) (x4_2 : Nat) (x4_3 : Int) : List AB := [yS0, yS x4_0 x4_1, .cells 48 [.sl 1 x4_0 1 0 x4_2], .cells 3 [i6 x4_3], .dead]
abbrev F17_d2 (x4_0 : Nat) (x4_1 : List ByteArray) (x4_2 : Nat) (x4_3 : Int) : List AB := [yS0, yS x4_0 (cmpR (srtR x4_1 x4_2) x4_2), .cells 48 [.sl 1 x4_0 1 0 x4_2], .cells 3 [i6 x4_3], .dead, yS0]
theorem F17_ok (a1 : ScopesD) (a2 : Int) (a3 : ByteArray) {r : R_F17} (h : F17 a1 a2 a3 = some r) : PR2 prg 17 [(.agg ((eScps a1).map .p)), i6 a2, vs a3] (F17_v a1 a2 a3 r) := by
 unfold F17 at h
 apply bn h; intro x1 h1 h
 have q0 := (((F27_ok a1 a2 h1).cp rfl _) : CP prg 27 [(.agg ((eScps a1).map .p)), i6 a2] [yS0] = some (i6 x1))
 apply bi h <;> intro h2 h
 ·
  rw [← sj h]
  exact fpn (v := (.tup [.sl 1 0 1 0 0, i6 x1])) (h' := [yS0, yS0]) [(15, .v (i6 x1)), (17, .d true)] (apc q0 (av h2 apn)) (purA_tup (purAs_cons (purA_sl (e := eStr) (xs := []) rfl rfl) (purAs_cons rfl purAs_nil))) rfl (purA_tup (purAs_cons (purA_sl (e := eStr) (xs := []) (getq rfl (nols_ra (fun _ => rfl))) rfl) (purAs_cons rfl purAs_nil))) (by kernel_rfl)
 ·
  have k1 := ka [(15, .v (i6 x1)), (17, .d false)] (apc q0 (av h2 apn))
  apply bn h; intro r3 h3 h
  cases r3 with
  | k0 x3_0 x3_1 x3_2 =>
   have q2 := ((F28_4_ok a1 a2 h3) : CS prg 28 [(.agg ((eScps a1).map .p)), i6 a2] [yS0, yS0, .cells 48 [.sl 1 0 1 0 0]] = some ((.fn 34 [.ptr 3 0, (.ro [.lst 3 (x3_0.map eScope), .lst 5 (x3_1.map eName), .lst 5 (x3_2.map eName)])]), F17_d0 a2))
   have k3 := k1.a [(21, .r (.fn 34 [.ptr 3 0, (.ro [.lst 3 (x3_0.map eScope), .lst 5 (x3_1.map eName), .lst 5 (x3_2.map eName)])]) (F17_d0 a2))] (apc q2 apn)
   apply bn h; intro r4 h4 h
   cases r4 with
   | k0 x4_0 x4_1 x4_2 x4_3 =>
    have q4 := ((ev_range rfl (F34_4_ok (⟨x3_0, x3_1, x3_2⟩ : ScopesD) a2 a1 a3 x1 h4) rfl) : ev prg (.rangeF (.t 21) [22] ir17_a1 ir17_b1) ⟨[(.agg ((eScps a1).map .p)), i6 a2, vs a3, (.ro (eScps a1)), (.p (.val undef)), (.ro [.val (.string a3)]), .sl 0 0 1 0 0, i6 0, i6 x1, .ptr 2 0, (.p (.val undef)), (.p (.val undef)), (.p (.val undef)), (.agg ((eScps a1).map .p)), i6 a2, i6 x1, i6 x1, vb false, (.p (.val undef)), (.agg ((eScps a1).map .p)), i6 a2, (.fn 34 [.ptr 3 0, (.ro [.lst 3 (x3_0.map eScope), .lst 5 (x3_1.map eName), .lst 5 (x3_2.map eName)])]), (.p (.val undef)), (.p (.val undef)), (.p (.val undef)), (.p (.val undef)), (.p (.val undef)), (.p (.val undef)), (.p (.val undef)), (.p (.val undef)), (.p (.val undef)), (.p (.val undef)), (.p (.val undef)), (.p (.val undef)), (.p (.val undef)), (.p (.val undef)), (.p (.val undef)), (.p (.val undef)), (.p (.val undef)), (.p (.val undef)), (.p (.val undef)), (.p (.val undef)), (.p (.val undef)), (.p (.val undef)), (.p (.val undef)), (.p (.val undef)), (.p (.val undef)), (.p (.val undef))], F17_d0 a2⟩ = some (.norm, ⟨[(.agg ((eScps a1).map .p)), i6 a2, vs a3, (.ro (eScps a1)), (.p (.val undef)), (.ro [.val (.string a3)]), .sl 0 0 1 0 0, i6 0, i6 x1, .ptr 2 0, (.p (.val undef)), (.p (.val undef)), (.p (.val undef)), (.agg ((eScps a1).map .p)), i6 a2, i6 x1, i6 x1, vb false, (.p (.val undef)), (.agg ((eScps a1).map .p)), i6 a2, (.fn 34 [.ptr 3 0, (.ro [.lst 3 (x3_0.map eScope), .lst 5 (x3_1.map eName), .lst 5 (x3_2.map eName)])]), (.p (.val undef)), (.p (.val undef)), (.p (.val undef)), (.p (.val undef)), (.p (.val undef)), (.p (.val undef)), (.p (.val undef)), (.p (.val undef)), (.p (.val undef)), (.p (.val undef)), (.p (.val undef)), (.p (.val undef)), (.p (.val undef)), (.p (.val undef)), (.p (.val undef)), (.p (.val undef)), (.p (.val undef)), (.p (.val undef)), (.p (.val undef)), (.p (.val undef)), (.p (.val undef)), (.p (.val undef)), (.p (.val undef)), (.p (.val undef)), (.p (.val undef)), (.p (.val undef))], F17_d1 x4_0 x4_1 x4_2 x4_3⟩))
    have k5 := k3.a [(2000, .l .norm ⟨[(.agg ((eScps a1).map .p)), i6 a2, vs a3, (.ro (eScps a1)), (.p (.val undef)), (.ro [.val (.string a3)]), .sl 0 0 1 0 0, i6 0, i6 x1, .ptr 2 0, (.p (.val undef)), (.p (.val undef)), (.p (.val undef)), (.agg ((eScps a1).map .p)), i6 a2, i6 x1, i6 x1, vb false, (.p (.val undef)), (.agg ((eScps a1).map .p)), i6 a2, (.fn 34 [.ptr 3 0, (.ro [.lst 3 (x3_0.map eScope), .lst 5 (x3_1.map eName), .lst 5 (x3_2.map eName)])]), (.p (.val undef)), (.p (.val undef)), (.p (.val undef)), (.p (.val undef)), (.p (.val undef)), (.p (.val undef)), (.p (.val undef)), (.p (.val undef)), (.p (.val undef)), (.p (.val undef)), (.p (.val undef)), (.p (.val undef)), (.p (.val undef)), (.p (.val undef)), (.p (.val undef)), (.p (.val undef)), (.p (.val undef)), (.p (.val undef)), (.p (.val undef)), (.p (.val undef)), (.p (.val undef)), (.p (.val undef)), (.p (.val undef)), (.p (.val undef)), (.p (.val undef)), (.p (.val undef))], F17_d1 x4_0 x4_1 x4_2 x4_3⟩)] (apc q4 apn)
    apply bn h; intro x5 h5 h
    have q6 := ((F29_2_ok x4_0 x4_2 x4_1 x4_3 h5) : CS prg 29 [.sl 1 x4_0 1 0 x4_2] (F17_d1 x4_0 x4_1 x4_2 x4_3) = some ((.sl 1 x4_0 1 0 x5), F17_d2 x4_0 x4_1 x4_2 x4_3))
    have k7 := k5.a [(47, .r (.sl 1 x4_0 1 0 x5) (F17_d2 x4_0 x4_1 x4_2 x4_3))] (apc q6 apn)
    apply bi h <;> intro h6 h
    ·
     rw [← sj h]
     exact fpn (v := (.tup [.sl 1 x4_0 1 0 x5, i6 0])) (h' := (F17_d2 x4_0 x4_1 x4_2 x4_3)) (kH k7) (k7.b apn) (purA_tup (purAs_cons (purA_sl (e := eStr) rfl h6) (purAs_cons rfl purAs_nil))) rfl (purA_tup (purAs_cons (purA_sl (e := eStr) (getq rfl (nols_ra (fun _ => rfl))) h6) (purAs_cons rfl purAs_nil))) (by kernel_rfl)
    ·
     cases h
inductive E_L30_1 where
  | k0 (x0 : Int)
section
variable (a1 : List Names) (a2 : Int)
def L30_1 (v1 v2 : Int) : Option (E_L30_1 ⊕ (Int × Int)) :=
  (bif (decide (v2 < a2)) then ((getI a1 v2).bind fun x2 => (bif (decide ((IntKind.wrap .i64 (v1 + (x2.length : Int))) < 0)) then none else (some (.inr ((IntKind.wrap .i64 (v1 + (x2.length : Int))), (IntKind.wrap .i64 (v2 + 1))))))) else (some (.inl (.k0 v1))))
def L30_1_s (v1 v2 : Int) : St := ⟨fr 36 ug [(0, ls 1 eNames a1), (3, i6 v1), (9, ls 1 eNames a1), (10, i6 a2), (11, i6 v2)], [yN0]⟩
theorem L30_1_k (v1 v2 : Int) : okT 1 (L30_1_s a1 a2 v1 v2).h = true := (okT_of rfl (ar rfl))
abbrev L30_1_e (v1 v2 : Int) := evH prg 1 [0, 3, 9, 10, 11] ir30_l1 (L30_1_s a1 a2 v1 v2)
def L30_1_x (e : E_L30_1) (r : Option (Out × St)) : Prop := match e with | .k0 x0 => ∃ g, r = some ((.brk 0), ⟨fr 36 g [(0, ls 1 eNames a1), (3, i6 x0), (9, ls 1 eNames a1)], [yN0]⟩)
theorem L30_1_ok (v1 v2 : Int) {r : E_L30_1 ⊕ (Int × Int)} (h : L30_1 a1 a2 v1 v2 = some r) : OkR (fun e => L30_1_x a1 e (L30_1_e a1 a2 v1 v2)) (fun s => L30_1_e a1 a2 v1 v2 = L30_1_e a1 a2 s.1 s.2) r := by
 unfold L30_1 at h
 apply bi h <;> intro h1 h
 ·
  apply bn h; intro x2 h2 h
  have k0 := ka [(12, .d true), (13, .v (.ro [.lst 5 (x2.map eName)])), (17, .v (i6 (x2.length : Int)))] (av h1 (apc (ig eNames 1 .i64 h2) (apc (lg x2 eName 5) apn)))
  apply bi h <;> intro h3 h
  ·
   cases h
  ·
   rw [← sj h]
   exact rn ([(20, .d false), (6000, .d true)] ++ kH k0) (k0.b (av h3 (apc (L30_1_k a1 a2 (w6 (v1 + (x2.length : Int))) (w6 (v2 + 1))) apn)))
 ·
  rw [← sj h]
  exact xb [(12, .d false), (6000, .d true)] (av h1 apn)
theorem L30_1_run (s0 : Int × Int) (e : E_L30_1) (h : runL (fun s => L30_1 a1 a2 s.1 s.2) s0 = some e) : L30_1_x a1 e (L30_1_e a1 a2 s0.1 s0.2) := by
  have q := @loop_sound' (Int × Int) E_L30_1 (fun s => L30_1 a1 a2 s.1 s.2) (fun s => L30_1_e a1 a2 s.1 s.2) (L30_1_x a1) (fun s r h => L30_1_ok a1 a2 s.1 s.2 h) s0 e h
  exact q
end
inductive E_L30_0 where
  | k0 (x0 x1 : Nat) (x2 : List NameD)
section
variable (a1 : List Names) (a2 : Int)
def L30_0 (v1 v2 : Nat) (v3 : Int) (v4 : List NameD) : Option (E_L30_0 ⊕ (Nat × Nat × Int × (List NameD))) :=
  (bif (decide (v3 < a2)) then ((getI a1 v3).bind fun x2 => (bif (apOk v2 x2.length v4.length 56) then (bif (decide (v2 + x2.length ≤ v4.length)) then (some (.inr (v1, v2 + x2.length, (IntKind.wrap .i64 (v3 + 1)), splice v4 v2 x2))) else (some (.inr ((v1 + 1), v2 + x2.length, (IntKind.wrap .i64 (v3 + 1)), (v4.take v2 ++ x2))))) else none)) else (some (.inl (.k0 v1 v2 v4))))
def L30_0_s (v1 v2 : Nat) (v3 : Int) (v4 : List NameD) : St := ⟨fr 36 ug [(6, .sl 1 v1 5 0 v2), (25, ls 1 eNames a1), (26, i6 a2), (27, i6 v3)], [yN0, yN v1 v4]⟩
theorem L30_0_k (v1 v2 : Nat) (v3 : Int) (v4 : List NameD) : okT 2 (L30_0_s a1 a2 v1 v2 v3 v4).h = true := (okT_of rfl (ar (ar rfl)))
abbrev L30_0_e (v1 v2 : Nat) (v3 : Int) (v4 : List NameD) := evH prg 2 [6, 25, 26, 27] ir30_l0 (L30_0_s a1 a2 v1 v2 v3 v4)
def L30_0_x (e : E_L30_0) (r : Option (Out × St)) : Prop := match e with | .k0 x0 x1 x2 => ∃ g, r = some ((.brk 2), ⟨fr 36 g [(6, .sl 1 x0 5 0 x1), (25, ls 1 eNames a1)], [yN0, yN x0 x2]⟩)
abbrev L30_0_d0 (v1 : Nat) (v4 : List NameD) (v2 : Nat) (x2 : Names) : List AB := [yN0, yN (v1 + 1) (v4.take v2 ++ x2)]
theorem L30_0_ok (v1 v2 : Nat) (v3 : Int) (v4 : List NameD) {r : E_L30_0 ⊕ (Nat × Nat × Int × (List NameD))} (h : L30_0 a1 a2 v1 v2 v3 v4 = some r) : OkR (fun e => L30_0_x a1 e (L30_0_e a1 a2 v1 v2 v3 v4)) (fun s => L30_0_e a1 a2 v1 v2 v3 v4 = L30_0_e a1 a2 s.1 s.2.1 s.2.2.1 s.2.2.2) r := by
 unfold L30_0 at h
 apply bi h <;> intro h1 h
 ·
  apply bn h; intro x2 h2 h
  have k0 := ka [(28, .d true), (29, .v (.ro [.lst 5 (x2.map eName)]))] (av h1 (apc (ig eNames 1 .i64 h2) apn))
  apply bi h <;> intro h3 h
  ·
   apply bi h <;> intro h4 h
   ·
    rw [← sj h]
    exact rn ([(33, .r (.sl 1 v1 5 0 (v2 + x2.length)) [yN0, yN v1 (splice v4 v2 x2)]), (6000, .d true)] ++ kH k0) (k0.b (apc ((ap_in (e := eName) (xs := v4) (news := x2) rfl rows_l rfl h3 h4) : appA [yN0, yN v1 v4] 34 5 56 (.sl 1 v1 5 0 v2) (ls 5 eName x2) = some ((.sl 1 v1 5 0 (v2 + x2.length)), [yN0, yN v1 (splice v4 v2 x2)])) (apc (L30_0_k a1 a2 v1 (v2 + x2.length) (w6 (v3 + 1)) (splice v4 v2 x2)) apn)))
   ·
    rw [← sj h]
    exact rn ([(33, .r (.sl 1 (v1 + 1) 5 0 (v2 + x2.length)) (L30_0_d0 v1 v4 v2 x2)), (6000, .d true)] ++ kH k0) (k0.b (apc ((ap_out (e := eName) (xs := v4) (news := x2) rfl rows_l rfl h3 h4) : appA [yN0, yN v1 v4] 34 5 56 (.sl 1 v1 5 0 v2) (ls 5 eName x2) = some ((.sl 1 (v1 + 1) 5 0 (v2 + x2.length)), L30_0_d0 v1 v4 v2 x2)) (apc (L30_0_k a1 a2 (v1 + 1) (v2 + x2.length) (w6 (v3 + 1)) (v4.take v2 ++ x2)) apn)))
  ·
   cases h
 ·
  rw [← sj h]
  exact xb [(28, .d false), (6000, .d true)] (av h1 apn)
theorem L30_0_run (s0 : Nat × Nat × Int × (List NameD)) (e : E_L30_0) (h : runL (fun s => L30_0 a1 a2 s.1 s.2.1 s.2.2.1 s.2.2.2) s0 = some e) : L30_0_x a1 e (L30_0_e a1 a2 s0.1 s0.2.1 s0.2.2.1 s0.2.2.2) := by
  have q := @loop_sound' (Nat × Nat × Int × (List NameD)) E_L30_0 (fun s => L30_0 a1 a2 s.1 s.2.1 s.2.2.1 s.2.2.2) (fun s => L30_0_e a1 a2 s.1 s.2.1 s.2.2.1 s.2.2.2) (L30_0_x a1) (fun s r h => L30_0_ok a1 a2 s.1 s.2.1 s.2.2.1 s.2.2.2 h) s0 e h
  exact q
end
def F30_v (a1 : List Names) (x0 : (List NameD)) : AV := (ls 5 eName x0)
def F30 (a1 : List Names) : Option (List NameD) :=
  ((runL (fun s => L30_1 a1 (a1.length : Int) s.1 s.2) (0, 0)).bind fun r1 => match r1 with | .k0 x1_0 => (bif (decide (0 ≤ x1_0 ∧ x1_0 ≤ 1000000)) then ((runL (fun s => L30_0 a1 (a1.length : Int) s.1 s.2.1 s.2.2.1 s.2.2.2) (0, 0, 0, [])).bind fun r3 => match r3 with | .k0 x3_0 x3_1 x3_2 => (bif (decide (x3_1 ≤ x3_2.length)) then (some (x3_2.take x3_1)) else none)) else none))
abbrev F30_d0 (g1 : Nat → AV) (a1 : List Names) (x1_0 : Int) : St := ⟨fr 36 g1 [(0, ls 1 eNames a1), (3, i6 x1_0), (9, ls 1 eNames a1)], [yN0]⟩
abbrev F30_d1 (g3 : Nat → AV) (x3_0 x3_1 : Nat) (a1 : List Names) (x3_2 : List NameD) : St := ⟨fr 36 g3 [(6, .sl 1 x3_0 5 0 x3_1), (25, ls 1 eNames a1)], [yN0, yN x3_0 x3_2]⟩
theorem F30_ok (a1 : List Names) {r : (List NameD)} (h : F30 a1 = some r) : PR2 prg 30 [ls 1 eNames a1] (F30_v a1 r) := by
 unfold F30 at h
 have k0 := ka [(10, .v (i6 (a1.length : Int)))] (apc (lg a1 eNames 1) apn)
 apply bn h; intro r1 h1 h
 cases r1 with
 | k0 x1_0 =>
  obtain ⟨g1, e1⟩ := L30_1_run a1 (a1.length : Int) (0, 0) _ h1
  have q1 := (e1 : L30_1_e a1 (a1.length : Int) 0 0 = some ((.brk 0), F30_d0 g1 a1 x1_0))
  have k2 := k0.a [(2000, .l (.brk 0) (F30_d0 g1 a1 x1_0))] (apc (L30_1_k a1 (a1.length : Int) 0 0) (apc q1 apn))
  apply bi h <;> intro h2 h
  ·
   have q3 := ((cs_grow x1_0 h2 [yN0]) : CS prg 37 [n0, i6 x1_0] [yN0] = some ((.sl 1 0 5 0 0), [yN0, yN0]))
   have k4 := k2.a [(24, .r (.sl 1 0 5 0 0) [yN0, yN0]), (26, .v (i6 (a1.length : Int)))] (apc q3 (apc (lg a1 eNames 1) apn))
   apply bn h; intro r3 h3 h
   cases r3 with
   | k0 x3_0 x3_1 x3_2 =>
    obtain ⟨g3, e3⟩ := L30_0_run a1 (a1.length : Int) (0, 0, 0, []) _ h3
    have q5 := (e3 : L30_0_e a1 (a1.length : Int) 0 0 0 ([]) = some ((.brk 2), F30_d1 g3 x3_0 x3_1 a1 x3_2))
    have k6 := k4.a [(2002, .l (.brk 2) (F30_d1 g3 x3_0 x3_1 a1 x3_2))] (apc (L30_0_k a1 (a1.length : Int) 0 0 0 ([])) (apc q5 apn))
    apply bi h <;> intro h4 h
    ·
     rw [← sj h]
     exact fpn (v := (.sl 1 x3_0 5 0 x3_1)) (h' := [yN0, yN x3_0 x3_2]) ([(6000, .d true)] ++ kH k6) (k6.b apn) (purA_sl (e := eName) rfl h4) rfl (purA_sl (e := eName) (getq rfl (nols_ra (fun _ => rfl))) h4) (by kernel_rfl)
    ·
     cases h
  ·
   cases h
inductive E_L18_0 where
  | k0 (x0 x1 : Nat) (x2 : List ByteArray)
section
variable (a1 : List NameD) (a2 : Int)
def L18_0 (v1 v2 : Nat) (v3 : Int) (v4 : List ByteArray) : Option (E_L18_0 ⊕ (Nat × Nat × Int × (List ByteArray))) :=
  (bif (decide (v3 < a2)) then ((getI a1 v3).bind fun x2 => (bif (apOk v2 1 v4.length 16) then (bif (decide (v2 + 1 ≤ v4.length)) then (some (.inr (v1, v2 + 1, (IntKind.wrap .i64 (v3 + 1)), (splice v4 v2 [x2.spc])))) else (some (.inr ((v1 + 1), v2 + 1, (IntKind.wrap .i64 (v3 + 1)), (v4.take v2 ++ [x2.spc]))))) else none)) else (some (.inl (.k0 v1 v2 v4))))
def L18_0_s (v1 v2 : Nat) (v3 : Int) (v4 : List ByteArray) : St := ⟨fr 29 ug [(4, .sl 1 v1 1 0 v2), (15, ls 5 eName a1), (16, i6 a2), (17, i6 v3)], [yS0, yS v1 v4]⟩
theorem L18_0_k (v1 v2 : Nat) (v3 : Int) (v4 : List ByteArray) : okT 2 (L18_0_s a1 a2 v1 v2 v3 v4).h = true := (okT_of rfl (ar (ar rfl)))
abbrev L18_0_e (v1 v2 : Nat) (v3 : Int) (v4 : List ByteArray) := evH prg 2 [4, 15, 16, 17] ir18_l0 (L18_0_s a1 a2 v1 v2 v3 v4)
def L18_0_x (e : E_L18_0) (r : Option (Out × St)) : Prop := match e with | .k0 x0 x1 x2 => ∃ g, r = some ((.brk 0), ⟨fr 29 g [(4, .sl 1 x0 1 0 x1), (15, ls 5 eName a1)], [yS0, yS x0 x2]⟩)
abbrev L18_0_d0 (v1 : Nat) (v4 : List ByteArray) (v2 : Nat) (x2 : NameD) : List AB := [yS0, yS v1 (splice v4 v2 [x2.spc]), .cells 34 ((eName x2).map .p), .row 9 1 0 [[vs x2.spc]]]
abbrev L18_0_d1 (v1 : Nat) (v4 : List ByteArray) (x2 : NameD) : List AB := [yS0, yS v1 v4, .cells 34 ((eName x2).map .p), .row 9 1 0 [[vs x2.spc]]]
abbrev L18_0_d2 (v1 : Nat) (v4 : List ByteArray) (v2 : Nat) (x2 : NameD) : List AB := [yS0, yS (v1 + 1) (v4.take v2 ++ [x2.spc]), .cells 34 ((eName x2).map .p), .row 9 1 0 [[vs x2.spc]]]
theorem L18_0_ok (v1 v2 : Nat) (v3 : Int) (v4 : List ByteArray) {r : E_L18_0 ⊕ (Nat × Nat × Int × (List ByteArray))} (h : L18_0 a1 a2 v1 v2 v3 v4 = some r) : OkR (fun e => L18_0_x a1 e (L18_0_e a1 a2 v1 v2 v3 v4)) (fun s => L18_0_e a1 a2 v1 v2 v3 v4 = L18_0_e a1 a2 s.1 s.2.1 s.2.2.1 s.2.2.2) r := by
 unfold L18_0 at h
 apply bi h <;> intro h1 h
 ·
  apply bn h; intro x2 h2 h
  have k0 := ka [(18, .d true), (19, .v (.ro (eName x2)))] (av h1 (apc (ig eName 5 .i64 h2) apn))
  apply bi h <;> intro h3 h
  ·
   apply bi h <;> intro h4 h
   ·
    rw [← sj h]
    exact rn ([(25, .r (.sl 1 v1 1 0 (v2 + 1)) (L18_0_d0 v1 v4 v2 x2)), (6000, .d true)] ++ kH k0) (k0.b (apc ((ap_in (e := eStr) (xs := v4) (news := [x2.spc]) rfl (rows_x (e := eStr) (xs := [x2.spc]) rfl) rfl h3 h4) : appA (L18_0_d1 v1 v4 x2) 9 1 16 (.sl 1 v1 1 0 v2) (.sl 3 0 1 0 1) = some ((.sl 1 v1 1 0 (v2 + 1)), L18_0_d0 v1 v4 v2 x2)) (apc (L18_0_k a1 a2 v1 (v2 + 1) (w6 (v3 + 1)) (splice v4 v2 [x2.spc])) apn)))
   ·
    rw [← sj h]
    exact rn ([(25, .r (.sl 1 (v1 + 1) 1 0 (v2 + 1)) (L18_0_d2 v1 v4 v2 x2)), (6000, .d true)] ++ kH k0) (k0.b (apc ((ap_out (e := eStr) (xs := v4) (news := [x2.spc]) rfl (rows_x (e := eStr) (xs := [x2.spc]) rfl) rfl h3 h4) : appA (L18_0_d1 v1 v4 x2) 9 1 16 (.sl 1 v1 1 0 v2) (.sl 3 0 1 0 1) = some ((.sl 1 (v1 + 1) 1 0 (v2 + 1)), L18_0_d2 v1 v4 v2 x2)) (apc (L18_0_k a1 a2 (v1 + 1) (v2 + 1) (w6 (v3 + 1)) (v4.take v2 ++ [x2.spc])) apn)))
  ·
   cases h
 ·
  rw [← sj h]
  exact xb [(18, .d false), (6000, .d true)] (av h1 apn)
theorem L18_0_run (s0 : Nat × Nat × Int × (List ByteArray)) (e : E_L18_0) (h : runL (fun s => L18_0 a1 a2 s.1 s.2.1 s.2.2.1 s.2.2.2) s0 = some e) : L18_0_x a1 e (L18_0_e a1 a2 s0.1 s0.2.1 s0.2.2.1 s0.2.2.2) := by
  have q := @loop_sound' (Nat × Nat × Int × (List ByteArray)) E_L18_0 (fun s => L18_0 a1 a2 s.1 s.2.1 s.2.2.1 s.2.2.2) (fun s => L18_0_e a1 a2 s.1 s.2.1 s.2.2.1 s.2.2.2) (L18_0_x a1) (fun s r h => L18_0_ok a1 a2 s.1 s.2.1 s.2.2.1 s.2.2.2 h) s0 e h
  exact q
end
def F29_v (a1 a2 : Nat) (a3 : List ByteArray) (x0 : Nat) : AV := (.sl 1 a1 1 0 x0)
def F29_h (a1 a2 : Nat) (a3 : List ByteArray) (x0 : Nat) : List AB := [yS0, yS a1 (cmpR (srtR a3 a2) a2), yS0]
def F29 (a2 : Nat) (a3 : List ByteArray) : Option Nat :=
  (bif (decide (a2 ≤ a3.length ∧ a3.length ≤ 1000000)) then (bif (decide (a2 ≤ (srtR a3 a2).length ∧ (srtR a3 a2).length ≤ 1000000)) then (some (cmpN (srtR a3 a2) a2)) else none) else none)
abbrev F29_d0 (a1 : Nat) (a3 : List ByteArray) (a2 : Nat) : List AB := [yS0, yS a1 (srtR a3 a2), yS0]
abbrev F29_d1 (a1 : Nat) (a3 : List ByteArray) (a2 : Nat) : List AB := [yS0, yS a1 (cmpR (srtR a3 a2) a2), yS0]
theorem F29_ok (a1 a2 : Nat) (a3 : List ByteArray) {r : Nat} (h : F29 a2 a3 = some r) : CS prg 29 [.sl 1 a1 1 0 a2] [yS0, yS a1 a3] = some (F29_v a1 a2 a3 r, F29_h a1 a2 a3 r) := by
 unfold F29 at h
 apply bi h <;> intro h1 h
 ·
  have q0 := ((cs_sort2 (xs := a3) rfl h1 rfl) : CS prg 35 [.sl 1 a1 1 0 a2] [yS0, yS a1 a3, yS0] = some ((.tup []), F29_d0 a1 a3 a2))
  have k1 := ka [(4, .r (.tup []) (F29_d0 a1 a3 a2))] (apc q0 apn)
  apply bi h <;> intro h2 h
  ·
   rw [← sj h]
   exact fc ([(6, .r (.sl 1 a1 1 0 (cmpN (srtR a3 a2) a2)) (F29_d1 a1 a3 a2))] ++ kH k1) (k1.b (apc ((cs_comp (xs := (srtR a3 a2)) rfl h2 rfl) : CS prg 36 [.sl 1 a1 1 0 a2] (F29_d0 a1 a3 a2) = some ((.sl 1 a1 1 0 (cmpN (srtR a3 a2) a2)), F29_d1 a1 a3 a2)) apn))
  ·
   cases h
 ·
  cases h
inductive R_F18 where
  | k0 (x0 : List ByteArray) (x1 : Int)
def F18_v (a1 : ScopesD) (r : R_F18) : AV := match r with | .k0 x0 x1 => (.tup [ls 1 eStr x0, i6 x1])
def F18 (a1 : ScopesD) : Option R_F18 :=
  ((F19 a1).bind fun x1 => (bif (x1 != 0) then (some (.k0 ([]) 2)) else ((F30 ([a1.decl, a1.uses])).bind fun x3 => ((runL (fun s => L18_0 x3 (x3.length : Int) s.1 s.2.1 s.2.2.1 s.2.2.2) (0, 0, 0, [])).bind fun r4 => match r4 with | .k0 x4_0 x4_1 x4_2 => ((F29 x4_1 x4_2).bind fun x5 => (bif (decide (x5 ≤ (cmpR (srtR x4_2 x4_1) x4_1).length)) then (some (.k0 ((cmpR (srtR x4_2 x4_1) x4_1).take x5) 0)) else none))))))
abbrev F18_d0 (g4 : Nat → AV) (x4_0 x4_1 : Nat) (x3 : List NameD) (x4_2 : List ByteArray) : St := ⟨fr 29 g4 [(4, .sl 1 x4_0 1 0 x4_1), (15, ls 5 eName x3)], [yS0, yS x4_0 x4_2]⟩
abbrev F18_d1 (x4_0 : Nat) (x4_2 : List ByteArray) (x4_1 : Nat) : List AB := [yS0, yS x4_0 (cmpR (srtR x4_2 x4_1) x4_1), yS0]
theorem F18_ok (a1 : ScopesD) {r : R_F18} (h : F18 a1 = some r) : PR2 prg 18 [(.agg ((eScps a1).map .p))] (F18_v a1 r) := by
 unfold F18 at h
 apply bn h; intro x1 h1 h
 have q0 := (((F19_ok a1 h1).cp rfl _) : CP prg 19 [(.agg ((eScps a1).map .p))] [yS0] = some (i6 x1))
 apply bi h <;> intro h2 h
 ·
  rw [← sj h]
  exact fpn (v := (.tup [.sl 1 0 1 0 0, i6 2])) (h' := [yS0, yS0]) [(8, .v (i6 x1)), (9, .d true)] (apc q0 (av h2 apn)) (purA_tup (purAs_cons (purA_sl (e := eStr) (xs := []) rfl rfl) (purAs_cons rfl purAs_nil))) rfl (purA_tup (purAs_cons (purA_sl (e := eStr) (xs := []) (getq rfl (nols_ra (fun _ => rfl))) rfl) (purAs_cons rfl purAs_nil))) (by kernel_rfl)
 ·
  have k1 := ka [(8, .v (i6 x1)), (9, .d false)] (apc q0 (av h2 apn))
  apply bn h; intro x3 h3 h
  have q2 := (((F30_ok ([a1.decl, a1.uses]) h3).cp rfl _) : CP prg 30 [(.p (.lst 1 ([a1.decl, a1.uses].map eNames)))] [yS0, yS0] = some (ls 5 eName x3))
  have k3 := k1.a [(15, .v (ls 5 eName x3)), (16, .v (i6 (x3.length : Int)))] (apc q2 (apc (lg x3 eName 5) apn))
  apply bn h; intro r4 h4 h
  cases r4 with
  | k0 x4_0 x4_1 x4_2 =>
   obtain ⟨g4, e4⟩ := L18_0_run x3 (x3.length : Int) (0, 0, 0, []) _ h4
   have q4 := (e4 : L18_0_e x3 (x3.length : Int) 0 0 0 ([]) = some ((.brk 0), F18_d0 g4 x4_0 x4_1 x3 x4_2))
   have k5 := k3.a [(2000, .l (.brk 0) (F18_d0 g4 x4_0 x4_1 x3 x4_2))] (apc (L18_0_k x3 (x3.length : Int) 0 0 0 ([])) (apc q4 apn))
   apply bn h; intro x5 h5 h
   have q6 := ((F29_ok x4_0 x4_1 x4_2 h5) : CS prg 29 [.sl 1 x4_0 1 0 x4_1] [yS0, yS x4_0 x4_2] = some ((.sl 1 x4_0 1 0 x5), F18_d1 x4_0 x4_2 x4_1))
   have k7 := k5.a [(28, .r (.sl 1 x4_0 1 0 x5) (F18_d1 x4_0 x4_2 x4_1))] (apc q6 apn)
   apply bi h <;> intro h6 h
   ·
    rw [← sj h]
    exact fpn (v := (.tup [.sl 1 x4_0 1 0 x5, i6 0])) (h' := (F18_d1 x4_0 x4_2 x4_1)) ([(6000, .d true)] ++ kH k7) (k7.b apn) (purA_tup (purAs_cons (purA_sl (e := eStr) rfl h6) (purAs_cons rfl purAs_nil))) rfl (purA_tup (purAs_cons (purA_sl (e := eStr) (getq rfl (nols_ra (fun _ => rfl))) h6) (purAs_cons rfl purAs_nil))) (by kernel_rfl)
   ·
    cases h
inductive E_L10_0 where
  | k0
  | k1
section
variable (a1 : ScopesD)
def L10_0 (v1 : Int) : Option (E_L10_0 ⊕ (Int)) :=
  (bif (decide (v1 < (a1.all.length : Int))) then (bif (decide (v1 > 0)) then ((getI a1.all v1).bind fun x3 => (bif (decide (x3.par < 0)) then (some (.inl (.k0))) else (bif (decide (x3.par ≥ v1)) then (some (.inl (.k0))) else (bif (decide (x3.frm < 0)) then (some (.inl (.k0))) else (bif (decide (x3.til < x3.frm)) then (some (.inl (.k0))) else (some (.inr ((IntKind.wrap .i64 (v1 + 1)))))))))) else ((getI a1.all v1).bind fun x3 => (bif (decide (x3.frm < 0)) then (some (.inl (.k0))) else (bif (decide (x3.til < x3.frm)) then (some (.inl (.k0))) else (some (.inr ((IntKind.wrap .i64 (v1 + 1))))))))) else (some (.inl (.k1))))
def L10_0_s (v1 : Int) : St := ⟨fr 85 ug [(1, .ptr 0 0), (3, i6 v1)], [.cells 25 ((eScps a1).map .p)]⟩
theorem L10_0_k (v1 : Int) : okT 1 (L10_0_s a1 v1).h = true := (okT_of rfl (ac rfl))
abbrev L10_0_e (v1 : Int) := evH prg 1 [1, 3] ir10_l0 (L10_0_s a1 v1)
def L10_0_x (e : E_L10_0) (r : Option (Out × St)) : Prop := match e with | .k0 => ∃ g y, r = some (.ret, ⟨fr 85 g [(2, vb false)], y⟩) | .k1 => ∃ g, r = some ((.brk 0), ⟨fr 85 g [(1, .ptr 0 0)], [.cells 25 ((eScps a1).map .p)]⟩)
theorem L10_0_ok (v1 : Int) {r : E_L10_0 ⊕ (Int)} (h : L10_0 a1 v1 = some r) : OkR (fun e => L10_0_x a1 e (L10_0_e a1 v1)) (fun s => L10_0_e a1 v1 = L10_0_e a1 s) r := by
 unfold L10_0 at h
 have k0 := ka [(19, .v (i6 (a1.all.length : Int)))] (apc (lg a1.all eScope 3) apn)
 apply bi h <;> intro h1 h
 ·
  apply bi h <;> intro h2 h
  ·
   have k1 := k0.a [(20, .d true), (24, .d true)] (av h1 (av h2 apn))
   apply bn h; intro x3 h3 h
   apply bi h <;> intro h4 h
   ·
    rw [← sj h]
    exact xy ([(29, .v (.ro (eScope x3))), (32, .d true), (6000, .d true)] ++ kH k1) (k1.b (apc (ig eScope 3 .i64 h3) (av h4 apn)))
   ·
    have k2 := k1.a [(29, .v (.ro (eScope x3))), (32, .d false), (37, .v (.ro (eScope x3)))] (apc (ig eScope 3 .i64 h3) (av h4 (apc (ig eScope 3 .i64 h3) apn)))
    apply bi h <;> intro h5 h
    ·
     rw [← sj h]
     exact xy ([(41, .d true), (6000, .d true)] ++ kH k2) (k2.b (av h5 apn))
    ·
     have k3 := k2.a [(41, .d false), (48, .v (.ro (eScope x3)))] (av h5 (apc (ig eScope 3 .i64 h3) apn))
     apply bi h <;> intro h6 h
     ·
      rw [← sj h]
      exact xy ([(52, .d true), (6000, .d true)] ++ kH k3) (k3.b (av h6 apn))
     ·
      have k4 := k3.a [(52, .d false), (58, .v (.ro (eScope x3))), (65, .v (.ro (eScope x3)))] (av h6 (apc (ig eScope 3 .i64 h3) (apc (ig eScope 3 .i64 h3) apn)))
      apply bi h <;> intro h7 h
      ·
       rw [← sj h]
       exact xy ([(69, .d true), (6000, .d true)] ++ kH k4) (k4.b (av h7 apn))
      ·
       rw [← sj h]
       exact rn ([(69, .d false), (6000, .d true)] ++ kH k4) (k4.b (av h7 (apc (L10_0_k a1 (w6 (v1 + 1))) apn)))
  ·
   have k5 := k0.a [(20, .d true), (24, .d false)] (av h1 (av h2 apn))
   apply bn h; intro x3 h3 h
   apply bi h <;> intro h4 h
   ·
    rw [← sj h]
    exact xy ([(48, .v (.ro (eScope x3))), (52, .d true), (6000, .d true)] ++ kH k5) (k5.b (apc (ig eScope 3 .i64 h3) (av h4 apn)))
   ·
    have k6 := k5.a [(48, .v (.ro (eScope x3))), (52, .d false), (58, .v (.ro (eScope x3))), (65, .v (.ro (eScope x3)))] (apc (ig eScope 3 .i64 h3) (av h4 (apc (ig eScope 3 .i64 h3) (apc (ig eScope 3 .i64 h3) apn))))
    apply bi h <;> intro h5 h
    ·
     rw [← sj h]
     exact xy ([(69, .d true), (6000, .d true)] ++ kH k6) (k6.b (av h5 apn))
    ·
     rw [← sj h]
     exact rn ([(69, .d false), (6000, .d true)] ++ kH k6) (k6.b (av h5 (apc (L10_0_k a1 (w6 (v1 + 1))) apn)))
 ·
  rw [← sj h]
  exact xb ([(20, .d false), (6000, .d true)] ++ kH k0) (k0.b (av h1 apn))
theorem L10_0_run (s0 : Int) (e : E_L10_0) (h : runL (fun s => L10_0 a1 s) s0 = some e) : L10_0_x a1 e (L10_0_e a1 s0) := by
  have q := @loop_sound' (Int) E_L10_0 (fun s => L10_0 a1 s) (fun s => L10_0_e a1 s) (L10_0_x a1) (fun s r h => L10_0_ok a1 s h) s0 e h
  exact q
end
inductive E_L22_0 where
  | k0
  | k1
section
variable (a1 : ScopesD) (a2 : Int)
def L22_0 (v1 : Int) : Option (E_L22_0 ⊕ (Int)) :=
  (bif (decide (v1 < (a1.decl.length : Int))) then ((getI a1.decl v1).bind fun x2 => (bif (decide (x2.scp < 0)) then (some (.inl (.k0))) else (bif (decide (x2.scp ≥ a2)) then (some (.inl (.k0))) else (bif (decide (x2.frm < 0)) then (some (.inl (.k0))) else (bif (decide (x2.til < x2.frm)) then (some (.inl (.k0))) else (bif (decide (v1 > 0)) then ((getI a1.decl (IntKind.wrap .i64 (v1 - 1))).bind fun x8 => (bif (decide (x2.frm < x8.frm)) then (some (.inl (.k0))) else (some (.inr ((IntKind.wrap .i64 (v1 + 1))))))) else (some (.inr ((IntKind.wrap .i64 (v1 + 1))))))))))) else (some (.inl (.k1))))
def L22_0_s (v1 : Int) : St := ⟨fr 71 ug [(0, ls 5 eName a1.decl), (1, i6 a2), (5, i6 v1)], []⟩
theorem L22_0_k (v1 : Int) : okT 0 (L22_0_s a1 a2 v1).h = true := (okT_of rfl rfl)
abbrev L22_0_e (v1 : Int) := evH prg 0 [0, 1, 5] ir22_l0 (L22_0_s a1 a2 v1)
def L22_0_x (e : E_L22_0) (r : Option (Out × St)) : Prop := match e with | .k0 => ∃ g y, r = some (.ret, ⟨fr 71 g [(4, vb false)], y⟩) | .k1 => ∃ g, r = some ((.brk 0), ⟨fr 71 g [], []⟩)
theorem L22_0_ok (v1 : Int) {r : E_L22_0 ⊕ (Int)} (h : L22_0 a1 a2 v1 = some r) : OkR (fun e => L22_0_x e (L22_0_e a1 a2 v1)) (fun s => L22_0_e a1 a2 v1 = L22_0_e a1 a2 s) r := by
 unfold L22_0 at h
 have k0 := ka [(8, .v (i6 (a1.decl.length : Int)))] (apc (lg a1.decl eName 5) apn)
 apply bi h <;> intro h1 h
 ·
  apply bn h; intro x2 h2 h
  have k1 := k0.a [(9, .d true), (14, .v (.ro (eName x2)))] (av h1 (apc (ig eName 5 .i64 h2) apn))
  apply bi h <;> intro h3 h
  ·
   rw [← sj h]
   exact xy ([(17, .d true), (6000, .d true)] ++ kH k1) (k1.b (av h3 apn))
  ·
   have k2 := k1.a [(17, .d false), (21, .v (.ro (eName x2)))] (av h3 (apc (ig eName 5 .i64 h2) apn))
   apply bi h <;> intro h4 h
   ·
    rw [← sj h]
    exact xy ([(25, .d true), (6000, .d true)] ++ kH k2) (k2.b (av h4 apn))
   ·
    have k3 := k2.a [(25, .d false), (30, .v (.ro (eName x2)))] (av h4 (apc (ig eName 5 .i64 h2) apn))
    apply bi h <;> intro h5 h
    ·
     rw [← sj h]
     exact xy ([(34, .d true), (6000, .d true)] ++ kH k3) (k3.b (av h5 apn))
    ·
     have k4 := k3.a [(34, .d false), (39, .v (.ro (eName x2))), (45, .v (.ro (eName x2)))] (av h5 (apc (ig eName 5 .i64 h2) (apc (ig eName 5 .i64 h2) apn)))
     apply bi h <;> intro h6 h
     ·
      rw [← sj h]
      exact xy ([(49, .d true), (6000, .d true)] ++ kH k4) (k4.b (av h6 apn))
     ·
      apply bi h <;> intro h7 h
      ·
       have k5 := k4.a [(49, .d false), (53, .d true), (57, .v (.ro (eName x2)))] (av h6 (av h7 (apc (ig eName 5 .i64 h2) apn)))
       apply bn h; intro x8 h8 h
       apply bi h <;> intro h9 h
       ·
        rw [← sj h]
        exact xy ([(64, .v (.ro (eName x8))), (68, .d true), (6000, .d true)] ++ kH k5) (k5.b (apc (ig eName 5 .i64 h8) (av h9 apn)))
       ·
        rw [← sj h]
        exact rn ([(64, .v (.ro (eName x8))), (68, .d false), (6000, .d true)] ++ kH k5) (k5.b (apc (ig eName 5 .i64 h8) (av h9 (apc (L22_0_k a1 a2 (w6 (v1 + 1))) apn))))
      ·
       rw [← sj h]
       exact rn ([(49, .d false), (53, .d false), (6000, .d true)] ++ kH k4) (k4.b (av h6 (av h7 (apc (L22_0_k a1 a2 (w6 (v1 + 1))) apn))))
 ·
  rw [← sj h]
  exact xb ([(9, .d false), (6000, .d true)] ++ kH k0) (k0.b (av h1 apn))
theorem L22_0_run (s0 : Int) (e : E_L22_0) (h : runL (fun s => L22_0 a1 a2 s) s0 = some e) : L22_0_x e (L22_0_e a1 a2 s0) := by
  have q := @loop_sound' (Int) E_L22_0 (fun s => L22_0 a1 a2 s) (fun s => L22_0_e a1 a2 s) (L22_0_x) (fun s r h => L22_0_ok a1 a2 s h) s0 e h
  exact q
end
def F22_v (a1 : ScopesD) (a2 : Int) (x0 : Bool) : AV := (vb x0)
def F22 (a1 : ScopesD) (a2 : Int) : Option Bool :=
  ((runL (fun s => L22_0 a1 a2 s) 0).bind fun r1 => match r1 with | .k0 => (some false) | .k1 => (some true))
theorem F22_ok (a1 : ScopesD) (a2 : Int) {r : Bool} (h : F22 a1 a2 = some r) : PR1 prg 22 [ls 5 eName a1.decl, i6 a2] (F22_v a1 a2 r) := by
 unfold F22 at h
 apply bn h; intro r1 h1 h
 cases r1 with
 | k0 =>
  obtain ⟨g1, y1, e1⟩ := L22_0_run a1 a2 0 _ h1
  rw [← sj h]
  exact fq [(2000, .l .ret ⟨fr 71 g1 [(4, vb false)], y1⟩), (6000, .d true)] (apc (L22_0_k a1 a2 0) (apc (e1 : L22_0_e a1 a2 0 = some (.ret, ⟨fr 71 g1 [(4, vb false)], y1⟩)) apn))
 | k1 =>
  obtain ⟨g1, e1⟩ := L22_0_run a1 a2 0 _ h1
  rw [← sj h]
  exact fq [(2000, .l (.brk 0) ⟨fr 71 g1 [], []⟩), (6000, .d true)] (apc (L22_0_k a1 a2 0) (apc (e1 : L22_0_e a1 a2 0 = some ((.brk 0), ⟨fr 71 g1 [], []⟩)) apn))
inductive E_L22_0_2 where
  | k0
  | k1
section
variable (a1 : ScopesD) (a2 : Int)
def L22_0_2 (v1 : Int) : Option (E_L22_0_2 ⊕ (Int)) :=
  (bif (decide (v1 < (a1.uses.length : Int))) then ((getI a1.uses v1).bind fun x2 => (bif (decide (x2.scp < 0)) then (some (.inl (.k0))) else (bif (decide (x2.scp ≥ a2)) then (some (.inl (.k0))) else (bif (decide (x2.frm < 0)) then (some (.inl (.k0))) else (bif (decide (x2.til < x2.frm)) then (some (.inl (.k0))) else (bif (decide (v1 > 0)) then ((getI a1.uses (IntKind.wrap .i64 (v1 - 1))).bind fun x8 => (bif (decide (x2.frm < x8.frm)) then (some (.inl (.k0))) else (some (.inr ((IntKind.wrap .i64 (v1 + 1))))))) else (some (.inr ((IntKind.wrap .i64 (v1 + 1))))))))))) else (some (.inl (.k1))))
def L22_0_2_s (v1 : Int) : St := ⟨fr 71 ug [(0, ls 5 eName a1.uses), (1, i6 a2), (5, i6 v1)], []⟩
theorem L22_0_2_k (v1 : Int) : okT 0 (L22_0_2_s a1 a2 v1).h = true := (okT_of rfl rfl)
abbrev L22_0_2_e (v1 : Int) := evH prg 0 [0, 1, 5] ir22_l0 (L22_0_2_s a1 a2 v1)
def L22_0_2_x (e : E_L22_0_2) (r : Option (Out × St)) : Prop := match e with | .k0 => ∃ g y, r = some (.ret, ⟨fr 71 g [(4, vb false)], y⟩) | .k1 => ∃ g, r = some ((.brk 0), ⟨fr 71 g [], []⟩)
theorem L22_0_2_ok (v1 : Int) {r : E_L22_0_2 ⊕ (Int)} (h : L22_0_2 a1 a2 v1 = some r) : OkR (fun e => L22_0_2_x e (L22_0_2_e a1 a2 v1)) (fun s => L22_0_2_e a1 a2 v1 = L22_0_2_e a1 a2 s) r := by
 unfold L22_0_2 at h
 have k0 := ka [(8, .v (i6 (a1.uses.length : Int)))] (apc (lg a1.uses eName 5) apn)
 apply bi h <;> intro h1 h
 ·
  apply bn h; intro x2 h2 h
  have k1 := k0.a [(9, .d true), (14, .v (.ro (eName x2)))] (av h1 (apc (ig eName 5 .i64 h2) apn))
  apply bi h <;> intro h3 h
  ·
   rw [← sj h]
   exact xy ([(17, .d true), (6000, .d true)] ++ kH k1) (k1.b (av h3 apn))
  ·
   have k2 := k1.a [(17, .d false), (21, .v (.ro (eName x2)))] (av h3 (apc (ig eName 5 .i64 h2) apn))
   apply bi h <;> intro h4 h
   ·
    rw [← sj h]
    exact xy ([(25, .d true), (6000, .d true)] ++ kH k2) (k2.b (av h4 apn))
   ·
    have k3 := k2.a [(25, .d false), (30, .v (.ro (eName x2)))] (av h4 (apc (ig eName 5 .i64 h2) apn))
    apply bi h <;> intro h5 h
    ·
     rw [← sj h]
     exact xy ([(34, .d true), (6000, .d true)] ++ kH k3) (k3.b (av h5 apn))
    ·
     have k4 := k3.a [(34, .d false), (39, .v (.ro (eName x2))), (45, .v (.ro (eName x2)))] (av h5 (apc (ig eName 5 .i64 h2) (apc (ig eName 5 .i64 h2) apn)))
     apply bi h <;> intro h6 h
     ·
      rw [← sj h]
      exact xy ([(49, .d true), (6000, .d true)] ++ kH k4) (k4.b (av h6 apn))
     ·
      apply bi h <;> intro h7 h
      ·
       have k5 := k4.a [(49, .d false), (53, .d true), (57, .v (.ro (eName x2)))] (av h6 (av h7 (apc (ig eName 5 .i64 h2) apn)))
       apply bn h; intro x8 h8 h
       apply bi h <;> intro h9 h
       ·
        rw [← sj h]
        exact xy ([(64, .v (.ro (eName x8))), (68, .d true), (6000, .d true)] ++ kH k5) (k5.b (apc (ig eName 5 .i64 h8) (av h9 apn)))
       ·
        rw [← sj h]
        exact rn ([(64, .v (.ro (eName x8))), (68, .d false), (6000, .d true)] ++ kH k5) (k5.b (apc (ig eName 5 .i64 h8) (av h9 (apc (L22_0_2_k a1 a2 (w6 (v1 + 1))) apn))))
      ·
       rw [← sj h]
       exact rn ([(49, .d false), (53, .d false), (6000, .d true)] ++ kH k4) (k4.b (av h6 (av h7 (apc (L22_0_2_k a1 a2 (w6 (v1 + 1))) apn))))
 ·
  rw [← sj h]
  exact xb ([(9, .d false), (6000, .d true)] ++ kH k0) (k0.b (av h1 apn))
theorem L22_0_2_run (s0 : Int) (e : E_L22_0_2) (h : runL (fun s => L22_0_2 a1 a2 s) s0 = some e) : L22_0_2_x e (L22_0_2_e a1 a2 s0) := by
  have q := @loop_sound' (Int) E_L22_0_2 (fun s => L22_0_2 a1 a2 s) (fun s => L22_0_2_e a1 a2 s) (L22_0_2_x) (fun s r h => L22_0_2_ok a1 a2 s h) s0 e h
  exact q
end
def F22_2_v (a1 : ScopesD) (a2 : Int) (x0 : Bool) : AV := (vb x0)
def F22_2 (a1 : ScopesD) (a2 : Int) : Option Bool :=
  ((runL (fun s => L22_0_2 a1 a2 s) 0).bind fun r1 => match r1 with | .k0 => (some false) | .k1 => (some true))
theorem F22_2_ok (a1 : ScopesD) (a2 : Int) {r : Bool} (h : F22_2 a1 a2 = some r) : PR1 prg 22 [ls 5 eName a1.uses, i6 a2] (F22_2_v a1 a2 r) := by
 unfold F22_2 at h
 apply bn h; intro r1 h1 h
 cases r1 with
 | k0 =>
  obtain ⟨g1, y1, e1⟩ := L22_0_2_run a1 a2 0 _ h1
  rw [← sj h]
  exact fq [(2000, .l .ret ⟨fr 71 g1 [(4, vb false)], y1⟩), (6000, .d true)] (apc (L22_0_2_k a1 a2 0) (apc (e1 : L22_0_2_e a1 a2 0 = some (.ret, ⟨fr 71 g1 [(4, vb false)], y1⟩)) apn))
 | k1 =>
  obtain ⟨g1, e1⟩ := L22_0_2_run a1 a2 0 _ h1
  rw [← sj h]
  exact fq [(2000, .l (.brk 0) ⟨fr 71 g1 [], []⟩), (6000, .d true)] (apc (L22_0_2_k a1 a2 0) (apc (e1 : L22_0_2_e a1 a2 0 = some ((.brk 0), ⟨fr 71 g1 [], []⟩)) apn))
def F10_v (a1 : ScopesD) (x0 : Bool) : AV := (vb x0)
def F10 (a1 : ScopesD) : Option Bool :=
  (bif ((a1.all.length : Int) == 0) then (some false) else ((getI a1.all 0).bind fun x2 => (bif (x2.par != (-1)) then (some false) else ((runL (fun s => L10_0 a1 s) 0).bind fun r4 => match r4 with | .k0 => (some false) | .k1 => ((F22 a1 (a1.all.length : Int)).bind fun x5 => (bif x5 then ((F22_2 a1 (a1.all.length : Int)).bind fun x7 => (some x7)) else (some false)))))))
theorem F10_ok (a1 : ScopesD) {r : Bool} (h : F10 a1 = some r) : PR1 prg 10 [(.agg ((eScps a1).map .p))] (F10_v a1 r) := by
 unfold F10 at h
 have k0 := ka [(6, .v (i6 (a1.all.length : Int)))] (apc (lg a1.all eScope 3) apn)
 apply bi h <;> intro h1 h
 ·
  rw [← sj h]
  exact fq ([(7, .d true)] ++ kH k0) (k0.b (av h1 apn))
 ·
  apply bn h; intro x2 h2 h
  have k1 := k0.a [(7, .d false), (11, .v (.ro (eScope x2)))] (av h1 (apc (ig eScope 3 .i64 h2) apn))
  apply bi h <;> intro h3 h
  ·
   rw [← sj h]
   exact fq ([(14, .d true)] ++ kH k1) (k1.b (av h3 apn))
  ·
   apply bn h; intro r4 h4 h
   cases r4 with
   | k0 =>
    obtain ⟨g4, y4, e4⟩ := L10_0_run a1 0 _ h4
    rw [← sj h]
    exact fq ([(14, .d false), (2000, .l .ret ⟨fr 85 g4 [(2, vb false)], y4⟩), (6000, .d true)] ++ kH k1) (k1.b (av h3 (apc (L10_0_k a1 0) (apc (e4 : L10_0_e a1 0 = some (.ret, ⟨fr 85 g4 [(2, vb false)], y4⟩)) apn))))
   | k1 =>
    obtain ⟨g4, e4⟩ := L10_0_run a1 0 _ h4
    have q2 := (e4 : L10_0_e a1 0 = some ((.brk 0), ⟨fr 85 g4 [(1, .ptr 0 0)], [.cells 25 ((eScps a1).map .p)]⟩))
    have k3 := k1.a [(14, .d false), (2000, .l (.brk 0) ⟨fr 85 g4 [(1, .ptr 0 0)], [.cells 25 ((eScps a1).map .p)]⟩), (75, .v (i6 (a1.all.length : Int)))] (av h3 (apc (L10_0_k a1 0) (apc q2 (apc (lg a1.all eScope 3) apn))))
    apply bn h; intro x5 h5 h
    apply bi h <;> intro h6 h
    ·
     apply bn h; intro x7 h7 h
     rw [← sj h]
     exact fq ([(76, .v (vb true)), (82, .v (i6 (a1.all.length : Int))), (83, .v (vb x7)), (6000, .d true)] ++ kH k3) (k3.b (apc ((((F22_ok a1 (a1.all.length : Int) h5).cp rfl _).trans (congrArg (fun z => some (vb z)) h6)) : CP prg 22 [ls 5 eName a1.decl, (i6 (a1.all.length : Int))] [.cells 25 ((eScps a1).map .p)] = some (vb true)) (apc (lg a1.all eScope 3) (apc (((F22_2_ok a1 (a1.all.length : Int) h7).cp rfl _) : CP prg 22 [ls 5 eName a1.uses, (i6 (a1.all.length : Int))] [.cells 25 ((eScps a1).map .p)] = some (vb x7)) apn))))
    ·
     rw [← sj h]
     exact fq ([(76, .v (vb false)), (6000, .d true)] ++ kH k3) (k3.b (apc ((((F22_ok a1 (a1.all.length : Int) h5).cp rfl _).trans (congrArg (fun z => some (vb z)) h6)) : CP prg 22 [ls 5 eName a1.decl, (i6 (a1.all.length : Int))] [.cells 25 ((eScps a1).map .p)] = some (vb false)) apn))
inductive E_L15_0 where
  | k0 (x0 x1 : Nat) (x2 : List Int)
section
variable (a1 a2 : ByteArray) (a3 : ScopesD) (a4 : Int)
def L15_0 (v1 v2 : Nat) (v3 : Int) (v4 : List Int) : Option (E_L15_0 ⊕ (Nat × Nat × Int × (List Int))) :=
  (bif (decide (v3 < (a3.decl.length : Int))) then ((getI a3.decl v3).bind fun x2 => (bif (x2.scp == a4) then (bif (x2.spc.toList == a1.toList) then (bif (x2.txt.toList == a2.toList) then (bif (apOk v2 1 v4.length 8) then (bif (decide (v2 + 1 ≤ v4.length)) then (some (.inr (v1, v2 + 1, (IntKind.wrap .i64 (v3 + 1)), (splice v4 v2 [v3])))) else (some (.inr ((v1 + 1), v2 + 1, (IntKind.wrap .i64 (v3 + 1)), (v4.take v2 ++ [v3]))))) else none) else (some (.inr (v1, v2, (IntKind.wrap .i64 (v3 + 1)), v4)))) else (some (.inr (v1, v2, (IntKind.wrap .i64 (v3 + 1)), v4)))) else (some (.inr (v1, v2, (IntKind.wrap .i64 (v3 + 1)), v4))))) else (some (.inl (.k0 v1 v2 v4))))
def L15_0_s (v1 v2 : Nat) (v3 : Int) (v4 : List Int) : St := ⟨fr 58 ug [(2, vs a1), (3, vs a2), (4, (.ro (eScps a3))), (9, i6 a4), (10, .sl 1 v1 1 0 v2), (11, i6 v3)], [yI0, yI v1 v4]⟩
theorem L15_0_k (v1 v2 : Nat) (v3 : Int) (v4 : List Int) : okT 2 (L15_0_s a1 a2 a3 a4 v1 v2 v3 v4).h = true := (okT_of rfl (ar (ar rfl)))
abbrev L15_0_e (v1 v2 : Nat) (v3 : Int) (v4 : List Int) := evH prg 2 [2, 3, 4, 9, 10, 11] ir15_l0 (L15_0_s a1 a2 a3 a4 v1 v2 v3 v4)
def L15_0_x (e : E_L15_0) (r : Option (Out × St)) : Prop := match e with | .k0 x0 x1 x2 => ∃ g, r = some ((.brk 2), ⟨fr 58 g [(2, vs a1), (3, vs a2), (4, (.ro (eScps a3))), (9, i6 a4), (10, .sl 1 x0 1 0 x1)], [yI0, yI x0 x2]⟩)
abbrev L15_0_d0 (v1 : Nat) (v4 : List Int) (v2 : Nat) (v3 : Int) (x2 : NameD) : List AB := [yI0, yI v1 (splice v4 v2 [v3]), .cells 34 ((eName x2).map .p), .row 3 1 0 [[i6 v3]]]
abbrev L15_0_d1 (v1 : Nat) (v4 : List Int) (x2 : NameD) (v3 : Int) : List AB := [yI0, yI v1 v4, .cells 34 ((eName x2).map .p), .row 3 1 0 [[i6 v3]]]
abbrev L15_0_d2 (v1 : Nat) (v4 : List Int) (v2 : Nat) (v3 : Int) (x2 : NameD) : List AB := [yI0, yI (v1 + 1) (v4.take v2 ++ [v3]), .cells 34 ((eName x2).map .p), .row 3 1 0 [[i6 v3]]]
theorem L15_0_ok (v1 v2 : Nat) (v3 : Int) (v4 : List Int) {r : E_L15_0 ⊕ (Nat × Nat × Int × (List Int))} (h : L15_0 a1 a2 a3 a4 v1 v2 v3 v4 = some r) : OkR (fun e => L15_0_x a1 a2 a3 a4 e (L15_0_e a1 a2 a3 a4 v1 v2 v3 v4)) (fun s => L15_0_e a1 a2 a3 a4 v1 v2 v3 v4 = L15_0_e a1 a2 a3 a4 s.1 s.2.1 s.2.2.1 s.2.2.2) r := by
 unfold L15_0 at h
 have k0 := ka [(25, .v (i6 (a3.decl.length : Int)))] (apc (lg a3.decl eName 5) apn)
 apply bi h <;> intro h1 h
 ·
  apply bn h; intro x2 h2 h
  have k1 := k0.a [(26, .d true), (32, .v (.ro (eName x2)))] (av h1 (apc (ig eName 5 .i64 h2) apn))
  apply bi h <;> intro h3 h
  ·
   apply bi h <;> intro h4 h
   ·
    have k2 := k1.a [(37, .d true), (42, .d true)] (av h3 (av h4 apn))
    apply bi h <;> intro h5 h
    ·
     apply bi h <;> intro h6 h
     ·
      apply bi h <;> intro h7 h
      ·
       rw [← sj h]
       exact rn ([(48, .d true), (53, .r (.sl 1 v1 1 0 (v2 + 1)) (L15_0_d0 v1 v4 v2 v3 x2)), (6000, .d true)] ++ kH k2) (k2.b (av h5 (apc ((ap_in (e := eI64) (xs := v4) (news := [v3]) rfl (rows_x (e := eI64) (xs := [v3]) rfl) rfl h6 h7) : appA (L15_0_d1 v1 v4 x2 v3) 3 1 8 (.sl 1 v1 1 0 v2) (.sl 3 0 1 0 1) = some ((.sl 1 v1 1 0 (v2 + 1)), L15_0_d0 v1 v4 v2 v3 x2)) (apc (L15_0_k a1 a2 a3 a4 v1 (v2 + 1) (w6 (v3 + 1)) (splice v4 v2 [v3])) apn))))
      ·
       rw [← sj h]
       exact rn ([(48, .d true), (53, .r (.sl 1 (v1 + 1) 1 0 (v2 + 1)) (L15_0_d2 v1 v4 v2 v3 x2)), (6000, .d true)] ++ kH k2) (k2.b (av h5 (apc ((ap_out (e := eI64) (xs := v4) (news := [v3]) rfl (rows_x (e := eI64) (xs := [v3]) rfl) rfl h6 h7) : appA (L15_0_d1 v1 v4 x2 v3) 3 1 8 (.sl 1 v1 1 0 v2) (.sl 3 0 1 0 1) = some ((.sl 1 (v1 + 1) 1 0 (v2 + 1)), L15_0_d2 v1 v4 v2 v3 x2)) (apc (L15_0_k a1 a2 a3 a4 (v1 + 1) (v2 + 1) (w6 (v3 + 1)) (v4.take v2 ++ [v3])) apn))))
     ·
      cases h
    ·
     rw [← sj h]
     exact rn ([(48, .d false), (6000, .d true)] ++ kH k2) (k2.b (av h5 (apc (L15_0_k a1 a2 a3 a4 v1 v2 (w6 (v3 + 1)) v4) apn)))
   ·
    rw [← sj h]
    exact rn ([(37, .d true), (42, .d false), (6000, .d true)] ++ kH k1) (k1.b (av h3 (av h4 (apc (L15_0_k a1 a2 a3 a4 v1 v2 (w6 (v3 + 1)) v4) apn))))
  ·
   rw [← sj h]
   exact rn ([(37, .d false), (6000, .d true)] ++ kH k1) (k1.b (av h3 (apc (L15_0_k a1 a2 a3 a4 v1 v2 (w6 (v3 + 1)) v4) apn)))
 ·
  rw [← sj h]
  exact xb ([(26, .d false), (6000, .d true)] ++ kH k0) (k0.b (av h1 apn))
theorem L15_0_run (s0 : Nat × Nat × Int × (List Int)) (e : E_L15_0) (h : runL (fun s => L15_0 a1 a2 a3 a4 s.1 s.2.1 s.2.2.1 s.2.2.2) s0 = some e) : L15_0_x a1 a2 a3 a4 e (L15_0_e a1 a2 a3 a4 s0.1 s0.2.1 s0.2.2.1 s0.2.2.2) := by
  have q := @loop_sound' (Nat × Nat × Int × (List Int)) E_L15_0 (fun s => L15_0 a1 a2 a3 a4 s.1 s.2.1 s.2.2.1 s.2.2.2) (fun s => L15_0_e a1 a2 a3 a4 s.1 s.2.1 s.2.2.1 s.2.2.2) (L15_0_x a1 a2 a3 a4) (fun s r h => L15_0_ok a1 a2 a3 a4 s.1 s.2.1 s.2.2.1 s.2.2.2 h) s0 e h
  exact q
end
inductive E_L15_1_2 where
  | k0 (x0 x1 : Nat) (x2 : List Int)
  | k1
section
variable (a1 a2 : ByteArray) (a3 : ScopesD)
def L15_1_2 (v1 : Int) : Option (E_L15_1_2 ⊕ (Int)) :=
  (bif (decide (v1 ≥ 0)) then ((runL (fun s => L15_0 a1 a2 a3 v1 s.1 s.2.1 s.2.2.1 s.2.2.2) (0, 0, 0, [])).bind fun r2 => match r2 with | .k0 x2_0 x2_1 x2_2 => (bif (decide (((x2_1 : Nat) : Int) > 0)) then (some (.inl (.k0 x2_0 x2_1 x2_2))) else ((getI a3.all v1).bind fun x4 => (some (.inr (x4.par)))))) else (some (.inl (.k1))))
def L15_1_2_s (v1 : Int) : St := ⟨fr 58 ug [(2, vs a1), (3, vs a2), (4, (.ro (eScps a3))), (9, i6 v1)], [yI0]⟩
theorem L15_1_2_k (v1 : Int) : okT 1 (L15_1_2_s a1 a2 a3 v1).h = true := (okT_of rfl (ar rfl))
abbrev L15_1_2_e (v1 : Int) := evH prg 1 [2, 3, 4, 9] ir15_l1 (L15_1_2_s a1 a2 a3 v1)
def L15_1_2_x (e : E_L15_1_2) (r : Option (Out × St)) : Prop := match e with | .k0 x0 x1 x2 => ∃ g, r = some (.ret, ⟨fr 58 g [(8, .sl 1 x0 1 0 x1)], [yI0, yI x0 x2]⟩) | .k1 => ∃ g, r = some ((.brk 0), ⟨fr 58 g [], [yI0]⟩)
abbrev L15_1_2_d0 (g2 : Nat → AV) (v1 : Int) (x2_0 x2_1 : Nat) (x2_2 : List Int) : St := ⟨fr 58 g2 [(2, vs a1), (3, vs a2), (4, (.ro (eScps a3))), (9, i6 v1), (10, .sl 1 x2_0 1 0 x2_1)], [yI0, yI x2_0 x2_2]⟩
theorem L15_1_2_ok (v1 : Int) {r : E_L15_1_2 ⊕ (Int)} (h : L15_1_2 a1 a2 a3 v1 = some r) : OkR (fun e => L15_1_2_x e (L15_1_2_e a1 a2 a3 v1)) (fun s => L15_1_2_e a1 a2 a3 v1 = L15_1_2_e a1 a2 a3 s) r := by
 unfold L15_1_2 at h
 apply bi h <;> intro h1 h
 ·
  apply bn h; intro r2 h2 h
  cases r2 with
  | k0 x2_0 x2_1 x2_2 =>
   obtain ⟨g2, e2⟩ := L15_0_run a1 a2 a3 v1 (0, 0, 0, []) _ h2
   have q0 := (e2 : L15_0_e a1 a2 a3 v1 0 0 0 ([]) = some ((.brk 2), L15_1_2_d0 a1 a2 a3 g2 v1 x2_0 x2_1 x2_2))
   have k1 := ka [(15, .d true), (2002, .l (.brk 2) (L15_1_2_d0 a1 a2 a3 g2 v1 x2_0 x2_1 x2_2))] (av h1 (apc (L15_0_k a1 a2 a3 v1 0 0 0 ([])) (apc q0 apn)))
   apply bi h <;> intro h3 h
   ·
    rw [← sj h]
    exact xr ([(56, .d true), (6000, .d true)] ++ kH k1) (k1.b (av h3 apn))
   ·
    apply bn h; intro x4 h4 h
    rw [← sj h]
    exact rn ([(56, .d false), (19, .v (.ro (eScope x4))), (6000, .d true)] ++ kH k1) (k1.b (av h3 (apc (ig eScope 3 .i64 h4) (apc (L15_1_2_k a1 a2 a3 x4.par) apn))))
 ·
  rw [← sj h]
  exact xb [(15, .d false), (6000, .d true)] (av h1 apn)
theorem L15_1_2_run (s0 : Int) (e : E_L15_1_2) (h : runL (fun s => L15_1_2 a1 a2 a3 s) s0 = some e) : L15_1_2_x e (L15_1_2_e a1 a2 a3 s0) := by
  have q := @loop_sound' (Int) E_L15_1_2 (fun s => L15_1_2 a1 a2 a3 s) (fun s => L15_1_2_e a1 a2 a3 s) (L15_1_2_x) (fun s r h => L15_1_2_ok a1 a2 a3 s h) s0 e h
  exact q
end
def F15_2_v (a1 : ScopesD) (a2 : Int) (a3 a4 : ByteArray) (x0 : (List Int)) : AV := (ls 1 eI64 x0)
def F15_2 (a1 : ScopesD) (a2 : Int) (a3 a4 : ByteArray) : Option (List Int) :=
  ((runL (fun s => L15_1_2 a3 a4 a1 s) a2).bind fun r1 => match r1 with | .k0 x1_0 x1_1 x1_2 => (bif (decide (x1_1 ≤ x1_2.length)) then (some (x1_2.take x1_1)) else none) | .k1 => (some ([])))
abbrev F15_2_d0 (g1 : Nat → AV) (x1_0 x1_1 : Nat) (x1_2 : List Int) : St := ⟨fr 58 g1 [(8, .sl 1 x1_0 1 0 x1_1)], [yI0, yI x1_0 x1_2]⟩
theorem F15_2_ok (a1 : ScopesD) (a2 : Int) (a3 a4 : ByteArray) {r : (List Int)} (h : F15_2 a1 a2 a3 a4 = some r) : PR2 prg 15 [(.agg ((eScps a1).map .p)), i6 a2, vs a3, vs a4] (F15_2_v a1 a2 a3 a4 r) := by
 unfold F15_2 at h
 apply bn h; intro r1 h1 h
 cases r1 with
 | k0 x1_0 x1_1 x1_2 =>
  obtain ⟨g1, e1⟩ := L15_1_2_run a3 a4 a1 a2 _ h1
  have q0 := (e1 : L15_1_2_e a3 a4 a1 a2 = some (.ret, F15_2_d0 g1 x1_0 x1_1 x1_2))
  have k1 := ka [(2000, .l .ret (F15_2_d0 g1 x1_0 x1_1 x1_2))] (apc (L15_1_2_k a3 a4 a1 a2) (apc q0 apn))
  apply bi h <;> intro h2 h
  ·
   rw [← sj h]
   exact fpn (v := (.sl 1 x1_0 1 0 x1_1)) (h' := [yI0, yI x1_0 x1_2]) ([(6000, .d true)] ++ kH k1) (k1.b apn) (purA_sl (e := eI64) rfl h2) rfl (purA_sl (e := eI64) (getq rfl (nols_ra (fun _ => rfl))) h2) (by kernel_rfl)
  ·
   cases h
 | k1 =>
  obtain ⟨g1, e1⟩ := L15_1_2_run a3 a4 a1 a2 _ h1
  rw [← sj h]
  exact fpn (v := (.sl 1 0 1 0 0)) (h' := [yI0, yI0]) [(2000, .l (.brk 0) ⟨fr 58 g1 [], [yI0]⟩), (6000, .d true)] (apc (L15_1_2_k a3 a4 a1 a2) (apc (e1 : L15_1_2_e a3 a4 a1 a2 = some ((.brk 0), ⟨fr 58 g1 [], [yI0]⟩)) apn)) (purA_sl (e := eI64) (xs := []) rfl rfl) rfl (purA_sl (e := eI64) (xs := []) (getq rfl (nols_ra (fun _ => rfl))) rfl) (by kernel_rfl)
inductive E_L14_0 where
  | k0
  | k1
section
variable (a1 a2 : List Int)
def L14_0 (v1 : Int) : Option (E_L14_0 ⊕ (Int)) :=
  (bif (decide (v1 < (a1.length : Int))) then ((getI a1 v1).bind fun x2 => ((getI a2 v1).bind fun x3 => (bif (x2 != x3) then (some (.inl (.k0))) else (some (.inr ((IntKind.wrap .i64 (v1 + 1)))))))) else (some (.inl (.k1))))
def L14_0_s (v1 : Int) : St := ⟨fr 26 ug [(0, ls 1 eI64 a1), (1, ls 1 eI64 a2), (5, i6 v1)], []⟩
theorem L14_0_k (v1 : Int) : okT 0 (L14_0_s a1 a2 v1).h = true := (okT_of rfl rfl)
abbrev L14_0_e (v1 : Int) := evH prg 0 [0, 1, 5] ir14_l0 (L14_0_s a1 a2 v1)
def L14_0_x (e : E_L14_0) (r : Option (Out × St)) : Prop := match e with | .k0 => ∃ g y, r = some (.ret, ⟨fr 26 g [(4, vb false)], y⟩) | .k1 => ∃ g, r = some ((.brk 0), ⟨fr 26 g [(0, ls 1 eI64 a1), (1, ls 1 eI64 a2)], []⟩)
theorem L14_0_ok (v1 : Int) {r : E_L14_0 ⊕ (Int)} (h : L14_0 a1 a2 v1 = some r) : OkR (fun e => L14_0_x a1 a2 e (L14_0_e a1 a2 v1)) (fun s => L14_0_e a1 a2 v1 = L14_0_e a1 a2 s) r := by
 unfold L14_0 at h
 have k0 := ka [(13, .v (i6 (a1.length : Int)))] (apc (lg a1 eI64 1) apn)
 apply bi h <;> intro h1 h
 ·
  apply bn h; intro x2 h2 h
  have k1 := k0.a [(14, .d true), (19, .v (.ro [.val (.int .i64 x2)]))] (av h1 (apc (ig eI64 1 .i64 h2) apn))
  apply bn h; intro x3 h3 h
  have k2 := k1.a [(23, .v (.ro [.val (.int .i64 x3)]))] (apc (ig eI64 1 .i64 h3) apn)
  apply bi h <;> intro h4 h
  ·
   rw [← sj h]
   exact xy ([(25, .d true), (6000, .d true)] ++ kH k2) (k2.b (av h4 apn))
  ·
   rw [← sj h]
   exact rn ([(25, .d false), (6000, .d true)] ++ kH k2) (k2.b (av h4 (apc (L14_0_k a1 a2 (w6 (v1 + 1))) apn)))
 ·
  rw [← sj h]
  exact xb ([(14, .d false), (6000, .d true)] ++ kH k0) (k0.b (av h1 apn))
theorem L14_0_run (s0 : Int) (e : E_L14_0) (h : runL (fun s => L14_0 a1 a2 s) s0 = some e) : L14_0_x a1 a2 e (L14_0_e a1 a2 s0) := by
  have q := @loop_sound' (Int) E_L14_0 (fun s => L14_0 a1 a2 s) (fun s => L14_0_e a1 a2 s) (L14_0_x a1 a2) (fun s r h => L14_0_ok a1 a2 s h) s0 e h
  exact q
end
def F14_v (a1 a2 : List Int) (x0 : Bool) : AV := (vb x0)
def F14 (a1 a2 : List Int) : Option Bool :=
  (bif ((a1.length : Int) != (a2.length : Int)) then (some false) else ((runL (fun s => L14_0 a1 a2 s) 0).bind fun r2 => match r2 with | .k0 => (some false) | .k1 => (some true)))
abbrev F14_d0 (g2 : Nat → AV) (a1 a2 : List Int) : St := ⟨fr 26 g2 [(0, ls 1 eI64 a1), (1, ls 1 eI64 a2)], []⟩
theorem F14_ok (a1 a2 : List Int) {r : Bool} (h : F14 a1 a2 = some r) : PR1 prg 14 [ls 1 eI64 a1, ls 1 eI64 a2] (F14_v a1 a2 r) := by
 unfold F14 at h
 have k0 := ka [(7, .v (i6 (a1.length : Int))), (9, .v (i6 (a2.length : Int)))] (apc (lg a1 eI64 1) (apc (lg a2 eI64 1) apn))
 apply bi h <;> intro h1 h
 ·
  rw [← sj h]
  exact fq ([(10, .d true)] ++ kH k0) (k0.b (av h1 apn))
 ·
  apply bn h; intro r2 h2 h
  cases r2 with
  | k0 =>
   obtain ⟨g2, y2, e2⟩ := L14_0_run a1 a2 0 _ h2
   rw [← sj h]
   exact fq ([(10, .d false), (2000, .l .ret ⟨fr 26 g2 [(4, vb false)], y2⟩), (6000, .d true)] ++ kH k0) (k0.b (av h1 (apc (L14_0_k a1 a2 0) (apc (e2 : L14_0_e a1 a2 0 = some (.ret, ⟨fr 26 g2 [(4, vb false)], y2⟩)) apn))))
  | k1 =>
   obtain ⟨g2, e2⟩ := L14_0_run a1 a2 0 _ h2
   rw [← sj h]
   exact fq ([(10, .d false), (2000, .l (.brk 0) (F14_d0 g2 a1 a2)), (6000, .d true)] ++ kH k0) (k0.b (av h1 (apc (L14_0_k a1 a2 0) (apc (e2 : L14_0_e a1 a2 0 = some ((.brk 0), F14_d0 g2 a1 a2)) apn))))
inductive E_L6_6 where
  | k0
  | k1 (x0 : Bool)
section
variable (a1 : ScopesD) (a2 : Int) (a3 a4 : ByteArray) (a5 : List Int) (a6 a7 : List ByteArray)
def L6_6 (v1 : Bool) (v2 : Int) : Option (E_L6_6 ⊕ (Bool × Int)) :=
  (bif (decide (v2 < (a6.length : Int))) then ((getI a6 v2).bind fun x2 => ((F16 a1 a2 a3 x2).bind fun r3 => match r3 with | .k0 x3_0 x3_1 => (bif (decide (v2 > 0)) then ((getI a6 (IntKind.wrap .i64 (v2 - 1))).bind fun x5 => (bif (!Op.bytesLess x5.toList x2.toList) then (some (.inl (.k0))) else (bif ((x3_0.length : Int) == 0) then (some (.inl (.k0))) else (bif v1 then (some (.inr (true, (IntKind.wrap .i64 (v2 + 1))))) else (bif (x2.toList == a4.toList) then (some (.inr (true, (IntKind.wrap .i64 (v2 + 1))))) else (some (.inr (false, (IntKind.wrap .i64 (v2 + 1)))))))))) else (bif ((x3_0.length : Int) == 0) then (some (.inl (.k0))) else (bif v1 then (some (.inr (true, (IntKind.wrap .i64 (v2 + 1))))) else (bif (x2.toList == a4.toList) then (some (.inr (true, (IntKind.wrap .i64 (v2 + 1))))) else (some (.inr (false, (IntKind.wrap .i64 (v2 + 1))))))))))) else (some (.inl (.k1 v1))))
def L6_6_s (v1 : Bool) (v2 : Int) : St := ⟨fr 279 ug [(2, (.ro (eScps a1))), (3, (.ro [.val (.int .i64 a2), .val (.string a3), .val (.string a4)])), (5, ls 1 eI64 a5), (7, ls 1 eStr a6), (9, ls 1 eStr a7), (12, vb v1), (13, i6 v2)], []⟩
theorem L6_6_k (v1 : Bool) (v2 : Int) : okT 0 (L6_6_s a1 a2 a3 a4 a5 a6 a7 v1 v2).h = true := (okT_of rfl rfl)
abbrev L6_6_e (v1 : Bool) (v2 : Int) := evH prg 0 [2, 3, 5, 7, 9, 12, 13] ir6_l6 (L6_6_s a1 a2 a3 a4 a5 a6 a7 v1 v2)
def L6_6_x (e : E_L6_6) (r : Option (Out × St)) : Prop := match e with | .k0 => ∃ g y, r = some (.ret, ⟨fr 279 g [(4, vb false)], y⟩) | .k1 x0 => ∃ g, r = some ((.brk 0), ⟨fr 279 g [(2, (.ro (eScps a1))), (3, (.ro [.val (.int .i64 a2), .val (.string a3), .val (.string a4)])), (5, ls 1 eI64 a5), (7, ls 1 eStr a6), (9, ls 1 eStr a7), (12, vb x0)], []⟩)
theorem L6_6_ok (v1 : Bool) (v2 : Int) {r : E_L6_6 ⊕ (Bool × Int)} (h : L6_6 a1 a2 a3 a4 a6 v1 v2 = some r) : OkR (fun e => L6_6_x a1 a2 a3 a4 a5 a6 a7 e (L6_6_e a1 a2 a3 a4 a5 a6 a7 v1 v2)) (fun s => L6_6_e a1 a2 a3 a4 a5 a6 a7 v1 v2 = L6_6_e a1 a2 a3 a4 a5 a6 a7 s.1 s.2) r := by
 unfold L6_6 at h
 have q0 := (L6_6_k a1 a2 a3 a4 a5 a6 a7 true (w6 (v2 + 1)))
 have q1 := (L6_6_k a1 a2 a3 a4 a5 a6 a7 false (w6 (v2 + 1)))
 have k2 := ka [(124, .v (i6 (a6.length : Int)))] (apc (lg a6 eStr 1) apn)
 apply bi h <;> intro h1 h
 ·
  apply bn h; intro x2 h2 h
  have k3 := k2.a [(125, .d true), (136, .v (.ro [.val (.string x2)]))] (av h1 (apc (ig eStr 1 .i64 h2) apn))
  apply bn h; intro r3 h3 h
  cases r3 with
  | k0 x3_0 x3_1 =>
   have q4 := (((F16_ok a1 a2 a3 x2 h3).cp rfl _) : CP prg 16 [(.agg ((eScps a1).map .p)), i6 a2, vs a3, vs x2] [] = some (.tup [ls 1 eI64 x3_0, i6 x3_1]))
   have k5 := k3.a [(138, .v (.tup [ls 1 eI64 x3_0, i6 x3_1]))] (apc q4 apn)
   apply bi h <;> intro h4 h
   ·
    apply bn h; intro x5 h5 h
    have k6 := k5.a [(142, .d true), (147, .v (.ro [.val (.string x5)])), (151, .v (.ro [.val (.string x2)]))] (av h4 (apc (ig eStr 1 .i64 h5) (apc (ig eStr 1 .i64 h2) apn)))
    apply bi h <;> intro h6 h
    ·
     rw [← sj h]
     exact xy ([(153, .d true), (6000, .d true)] ++ kH k6) (k6.b (av h6 apn))
    ·
     have k7 := k6.a [(153, .d false), (157, .v (i6 (x3_0.length : Int)))] (av h6 (apc (lg x3_0 eI64 1) apn))
     apply bi h <;> intro h7 h
     ·
      rw [← sj h]
      exact xy ([(158, .d true), (6000, .d true)] ++ kH k7) (k7.b (av h7 apn))
     ·
      apply bi h <;> intro h8 h
      ·
       rw [← sj h]
       exact rn ([(158, .d false), (160, .d true), (6000, .d true)] ++ kH k7) (k7.b (av h7 (av h8 (apc q0 apn))))
      ·
       have k8 := k7.a [(158, .d false), (160, .d false), (164, .v (.ro [.val (.string x2)]))] (av h7 (av h8 (apc (ig eStr 1 .i64 h2) apn)))
       apply bi h <;> intro h9 h
       ·
        rw [← sj h]
        exact rn ([(168, .d true), (6000, .d true)] ++ kH k8) (k8.b (av h9 (apc q0 apn)))
       ·
        rw [← sj h]
        exact rn ([(168, .d false), (6000, .d true)] ++ kH k8) (k8.b (av h9 (apc q1 apn)))
   ·
    have k9 := k5.a [(142, .d false), (157, .v (i6 (x3_0.length : Int)))] (av h4 (apc (lg x3_0 eI64 1) apn))
    apply bi h <;> intro h5 h
    ·
     rw [← sj h]
     exact xy ([(158, .d true), (6000, .d true)] ++ kH k9) (k9.b (av h5 apn))
    ·
     apply bi h <;> intro h6 h
     ·
      rw [← sj h]
      exact rn ([(158, .d false), (160, .d true), (6000, .d true)] ++ kH k9) (k9.b (av h5 (av h6 (apc q0 apn))))
     ·
      have k10 := k9.a [(158, .d false), (160, .d false), (164, .v (.ro [.val (.string x2)]))] (av h5 (av h6 (apc (ig eStr 1 .i64 h2) apn)))
      apply bi h <;> intro h7 h
      ·
       rw [← sj h]
       exact rn ([(168, .d true), (6000, .d true)] ++ kH k10) (k10.b (av h7 (apc q0 apn)))
      ·
       rw [← sj h]
       exact rn ([(168, .d false), (6000, .d true)] ++ kH k10) (k10.b (av h7 (apc q1 apn)))
 ·
  rw [← sj h]
  exact xb ([(125, .d false), (6000, .d true)] ++ kH k2) (k2.b (av h1 apn))
theorem L6_6_run (s0 : Bool × Int) (e : E_L6_6) (h : runL (fun s => L6_6 a1 a2 a3 a4 a6 s.1 s.2) s0 = some e) : L6_6_x a1 a2 a3 a4 a5 a6 a7 e (L6_6_e a1 a2 a3 a4 a5 a6 a7 s0.1 s0.2) := by
  have q := @loop_sound' (Bool × Int) E_L6_6 (fun s => L6_6 a1 a2 a3 a4 a6 s.1 s.2) (fun s => L6_6_e a1 a2 a3 a4 a5 a6 a7 s.1 s.2) (L6_6_x a1 a2 a3 a4 a5 a6 a7) (fun s r h => L6_6_ok a1 a2 a3 a4 a5 a6 a7 s.1 s.2 h) s0 e h
  exact q
end
inductive E_L6_4_2 where
  | k0 (x0 : Bool)
section
variable (a1 : ScopesD) (a2 : Int) (a3 a4 : ByteArray) (a5 a6 : List ByteArray) (a7 : Int) (a8 : NameD)
def L6_4_2 (v1 : Bool) (v2 : Int) : Option (E_L6_4_2 ⊕ (Bool × Int)) :=
  (bif (decide (v2 < (a5.length : Int))) then (bif v1 then (some (.inr (true, (IntKind.wrap .i64 (v2 + 1))))) else ((getI a5 v2).bind fun x3 => (bif (x3.toList == a8.txt.toList) then (some (.inr (true, (IntKind.wrap .i64 (v2 + 1))))) else (some (.inr (false, (IntKind.wrap .i64 (v2 + 1)))))))) else (some (.inl (.k0 v1))))
def L6_4_2_s (v1 : Bool) (v2 : Int) : St := ⟨fr 279 ug [(2, (.ro (eScps a1))), (3, (.ro [.val (.int .i64 a2), .val (.string a3), .val (.string a4)])), (7, ls 1 eStr a5), (9, ls 1 eStr a6), (16, i6 a7), (17, .ptr 0 0), (18, vb v1), (19, i6 v2)], [.cells 34 ((eName a8).map .p)]⟩
theorem L6_4_2_k (v1 : Bool) (v2 : Int) : okT 1 (L6_4_2_s a1 a2 a3 a4 a5 a6 a7 a8 v1 v2).h = true := (okT_of rfl (ac rfl))
abbrev L6_4_2_e (v1 : Bool) (v2 : Int) := evH prg 1 [2, 3, 7, 9, 16, 17, 18, 19] ir6_l4 (L6_4_2_s a1 a2 a3 a4 a5 a6 a7 a8 v1 v2)
def L6_4_2_x (e : E_L6_4_2) (r : Option (Out × St)) : Prop := match e with | .k0 x0 => ∃ g, r = some ((.brk 4), ⟨fr 279 g [(2, (.ro (eScps a1))), (3, (.ro [.val (.int .i64 a2), .val (.string a3), .val (.string a4)])), (7, ls 1 eStr a5), (9, ls 1 eStr a6), (16, i6 a7), (17, .ptr 0 0), (18, vb x0)], [.cells 34 ((eName a8).map .p)]⟩)
theorem L6_4_2_ok (v1 : Bool) (v2 : Int) {r : E_L6_4_2 ⊕ (Bool × Int)} (h : L6_4_2 a5 a8 v1 v2 = some r) : OkR (fun e => L6_4_2_x a1 a2 a3 a4 a5 a6 a7 a8 e (L6_4_2_e a1 a2 a3 a4 a5 a6 a7 a8 v1 v2)) (fun s => L6_4_2_e a1 a2 a3 a4 a5 a6 a7 a8 v1 v2 = L6_4_2_e a1 a2 a3 a4 a5 a6 a7 a8 s.1 s.2) r := by
 unfold L6_4_2 at h
 have q0 := (L6_4_2_k a1 a2 a3 a4 a5 a6 a7 a8 true (w6 (v2 + 1)))
 have k1 := ka [(189, .v (i6 (a5.length : Int)))] (apc (lg a5 eStr 1) apn)
 apply bi h <;> intro h1 h
 ·
  apply bi h <;> intro h2 h
  ·
   rw [← sj h]
   exact rn ([(190, .d true), (193, .d true), (6000, .d true)] ++ kH k1) (k1.b (av h1 (av h2 (apc q0 apn))))
  ·
   have k2 := k1.a [(190, .d true), (193, .d false)] (av h1 (av h2 apn))
   apply bn h; intro x3 h3 h
   have k3 := k2.a [(197, .v (.ro [.val (.string x3)]))] (apc (ig eStr 1 .i64 h3) apn)
   apply bi h <;> intro h4 h
   ·
    rw [← sj h]
    exact rn ([(201, .d true), (6000, .d true)] ++ kH k3) (k3.b (av h4 (apc q0 apn)))
   ·
    rw [← sj h]
    exact rn ([(201, .d false), (6000, .d true)] ++ kH k3) (k3.b (av h4 (apc (L6_4_2_k a1 a2 a3 a4 a5 a6 a7 a8 false (w6 (v2 + 1))) apn)))
 ·
  rw [← sj h]
  exact xb ([(190, .d false), (6000, .d true)] ++ kH k1) (k1.b (av h1 apn))
theorem L6_4_2_run (s0 : Bool × Int) (e : E_L6_4_2) (h : runL (fun s => L6_4_2 a5 a8 s.1 s.2) s0 = some e) : L6_4_2_x a1 a2 a3 a4 a5 a6 a7 a8 e (L6_4_2_e a1 a2 a3 a4 a5 a6 a7 a8 s0.1 s0.2) := by
  have q := @loop_sound' (Bool × Int) E_L6_4_2 (fun s => L6_4_2 a5 a8 s.1 s.2) (fun s => L6_4_2_e a1 a2 a3 a4 a5 a6 a7 a8 s.1 s.2) (L6_4_2_x a1 a2 a3 a4 a5 a6 a7 a8) (fun s r h => L6_4_2_ok a1 a2 a3 a4 a5 a6 a7 a8 s.1 s.2 h) s0 e h
  exact q
end
inductive E_L15_0_3 where
  | k0 (x0 x1 : Nat) (x2 : List Int)
section
variable (a1 : ByteArray) (a2 : NameD) (a3 : ScopesD) (a4 : Int)
def L15_0_3 (v1 v2 : Nat) (v3 : Int) (v4 : List Int) : Option (E_L15_0_3 ⊕ (Nat × Nat × Int × (List Int))) :=
  (bif (decide (v3 < (a3.decl.length : Int))) then ((getI a3.decl v3).bind fun x2 => (bif (x2.scp == a4) then (bif (x2.spc.toList == a1.toList) then (bif (x2.txt.toList == a2.txt.toList) then (bif (apOk v2 1 v4.length 8) then (bif (decide (v2 + 1 ≤ v4.length)) then (some (.inr (v1, v2 + 1, (IntKind.wrap .i64 (v3 + 1)), (splice v4 v2 [v3])))) else (some (.inr ((v1 + 1), v2 + 1, (IntKind.wrap .i64 (v3 + 1)), (v4.take v2 ++ [v3]))))) else none) else (some (.inr (v1, v2, (IntKind.wrap .i64 (v3 + 1)), v4)))) else (some (.inr (v1, v2, (IntKind.wrap .i64 (v3 + 1)), v4)))) else (some (.inr (v1, v2, (IntKind.wrap .i64 (v3 + 1)), v4))))) else (some (.inl (.k0 v1 v2 v4))))
def L15_0_3_s (v1 v2 : Nat) (v3 : Int) (v4 : List Int) : St := ⟨fr 58 ug [(2, vs a1), (3, vs a2.txt), (4, (.ro (eScps a3))), (9, i6 a4), (10, .sl 1 v1 1 0 v2), (11, i6 v3)], [yI0, yI v1 v4]⟩
theorem L15_0_3_k (v1 v2 : Nat) (v3 : Int) (v4 : List Int) : okT 2 (L15_0_3_s a1 a2 a3 a4 v1 v2 v3 v4).h = true := (okT_of rfl (ar (ar rfl)))
abbrev L15_0_3_e (v1 v2 : Nat) (v3 : Int) (v4 : List Int) := evH prg 2 [2, 3, 4, 9, 10, 11] ir15_l0 (L15_0_3_s a1 a2 a3 a4 v1 v2 v3 v4)
def L15_0_3_x (e : E_L15_0_3) (r : Option (Out × St)) : Prop := match e with | .k0 x0 x1 x2 => ∃ g, r = some ((.brk 2), ⟨fr 58 g [(2, vs a1), (3, vs a2.txt), (4, (.ro (eScps a3))), (9, i6 a4), (10, .sl 1 x0 1 0 x1)], [yI0, yI x0 x2]⟩)
abbrev L15_0_3_d0 (v1 : Nat) (v4 : List Int) (v2 : Nat) (v3 : Int) (x2 : NameD) : List AB := [yI0, yI v1 (splice v4 v2 [v3]), .cells 34 ((eName x2).map .p), .row 3 1 0 [[i6 v3]]]
abbrev L15_0_3_d1 (v1 : Nat) (v4 : List Int) (x2 : NameD) (v3 : Int) : List AB := [yI0, yI v1 v4, .cells 34 ((eName x2).map .p), .row 3 1 0 [[i6 v3]]]
abbrev L15_0_3_d2 (v1 : Nat) (v4 : List Int) (v2 : Nat) (v3 : Int) (x2 : NameD) : List AB := [yI0, yI (v1 + 1) (v4.take v2 ++ [v3]), .cells 34 ((eName x2).map .p), .row 3 1 0 [[i6 v3]]]
theorem L15_0_3_ok (v1 v2 : Nat) (v3 : Int) (v4 : List Int) {r : E_L15_0_3 ⊕ (Nat × Nat × Int × (List Int))} (h : L15_0_3 a1 a2 a3 a4 v1 v2 v3 v4 = some r) : OkR (fun e => L15_0_3_x a1 a2 a3 a4 e (L15_0_3_e a1 a2 a3 a4 v1 v2 v3 v4)) (fun s => L15_0_3_e a1 a2 a3 a4 v1 v2 v3 v4 = L15_0_3_e a1 a2 a3 a4 s.1 s.2.1 s.2.2.1 s.2.2.2) r := by
 unfold L15_0_3 at h
 have q0 := (L15_0_3_k a1 a2 a3 a4 v1 v2 (w6 (v3 + 1)) v4)
 have k1 := ka [(25, .v (i6 (a3.decl.length : Int)))] (apc (lg a3.decl eName 5) apn)
 apply bi h <;> intro h1 h
 ·
  apply bn h; intro x2 h2 h
  have k2 := k1.a [(26, .d true), (32, .v (.ro (eName x2)))] (av h1 (apc (ig eName 5 .i64 h2) apn))
  apply bi h <;> intro h3 h
  ·
   apply bi h <;> intro h4 h
   ·
    have k3 := k2.a [(37, .d true), (42, .d true)] (av h3 (av h4 apn))
    apply bi h <;> intro h5 h
    ·
     apply bi h <;> intro h6 h
     ·
      apply bi h <;> intro h7 h
      ·
       rw [← sj h]
       exact rn ([(48, .d true), (53, .r (.sl 1 v1 1 0 (v2 + 1)) (L15_0_3_d0 v1 v4 v2 v3 x2)), (6000, .d true)] ++ kH k3) (k3.b (av h5 (apc ((ap_in (e := eI64) (xs := v4) (news := [v3]) rfl (rows_x (e := eI64) (xs := [v3]) rfl) rfl h6 h7) : appA (L15_0_3_d1 v1 v4 x2 v3) 3 1 8 (.sl 1 v1 1 0 v2) (.sl 3 0 1 0 1) = some ((.sl 1 v1 1 0 (v2 + 1)), L15_0_3_d0 v1 v4 v2 v3 x2)) (apc (L15_0_3_k a1 a2 a3 a4 v1 (v2 + 1) (w6 (v3 + 1)) (splice v4 v2 [v3])) apn))))
      ·
       rw [← sj h]
       exact rn ([(48, .d true), (53, .r (.sl 1 (v1 + 1) 1 0 (v2 + 1)) (L15_0_3_d2 v1 v4 v2 v3 x2)), (6000, .d true)] ++ kH k3) (k3.b (av h5 (apc ((ap_out (e := eI64) (xs := v4) (news := [v3]) rfl (rows_x (e := eI64) (xs := [v3]) rfl) rfl h6 h7) : appA (L15_0_3_d1 v1 v4 x2 v3) 3 1 8 (.sl 1 v1 1 0 v2) (.sl 3 0 1 0 1) = some ((.sl 1 (v1 + 1) 1 0 (v2 + 1)), L15_0_3_d2 v1 v4 v2 v3 x2)) (apc (L15_0_3_k a1 a2 a3 a4 (v1 + 1) (v2 + 1) (w6 (v3 + 1)) (v4.take v2 ++ [v3])) apn))))
     ·
      cases h
    ·
     rw [← sj h]
     exact rn ([(48, .d false), (6000, .d true)] ++ kH k3) (k3.b (av h5 (apc q0 apn)))
   ·
    rw [← sj h]
    exact rn ([(37, .d true), (42, .d false), (6000, .d true)] ++ kH k2) (k2.b (av h3 (av h4 (apc q0 apn))))
  ·
   rw [← sj h]
   exact rn ([(37, .d false), (6000, .d true)] ++ kH k2) (k2.b (av h3 (apc q0 apn)))
 ·
  rw [← sj h]
  exact xb ([(26, .d false), (6000, .d true)] ++ kH k1) (k1.b (av h1 apn))
theorem L15_0_3_run (s0 : Nat × Nat × Int × (List Int)) (e : E_L15_0_3) (h : runL (fun s => L15_0_3 a1 a2 a3 a4 s.1 s.2.1 s.2.2.1 s.2.2.2) s0 = some e) : L15_0_3_x a1 a2 a3 a4 e (L15_0_3_e a1 a2 a3 a4 s0.1 s0.2.1 s0.2.2.1 s0.2.2.2) := by
  have q := @loop_sound' (Nat × Nat × Int × (List Int)) E_L15_0_3 (fun s => L15_0_3 a1 a2 a3 a4 s.1 s.2.1 s.2.2.1 s.2.2.2) (fun s => L15_0_3_e a1 a2 a3 a4 s.1 s.2.1 s.2.2.1 s.2.2.2) (L15_0_3_x a1 a2 a3 a4) (fun s r h => L15_0_3_ok a1 a2 a3 a4 s.1 s.2.1 s.2.2.1 s.2.2.2 h) s0 e h
  exact q
end
inductive E_L15_1_3 where
  | k0 (x0 x1 : Nat) (x2 : List Int)
  | k1
section
variable (a1 : ByteArray) (a2 : NameD) (a3 : ScopesD)
def L15_1_3 (v1 : Int) : Option (E_L15_1_3 ⊕ (Int)) :=
  (bif (decide (v1 ≥ 0)) then ((runL (fun s => L15_0_3 a1 a2 a3 v1 s.1 s.2.1 s.2.2.1 s.2.2.2) (0, 0, 0, [])).bind fun r2 => match r2 with | .k0 x2_0 x2_1 x2_2 => (bif (decide (((x2_1 : Nat) : Int) > 0)) then (some (.inl (.k0 x2_0 x2_1 x2_2))) else ((getI a3.all v1).bind fun x4 => (some (.inr (x4.par)))))) else (some (.inl (.k1))))
def L15_1_3_s (v1 : Int) : St := ⟨fr 58 ug [(2, vs a1), (3, vs a2.txt), (4, (.ro (eScps a3))), (9, i6 v1)], [yI0]⟩
theorem L15_1_3_k (v1 : Int) : okT 1 (L15_1_3_s a1 a2 a3 v1).h = true := (okT_of rfl (ar rfl))
abbrev L15_1_3_e (v1 : Int) := evH prg 1 [2, 3, 4, 9] ir15_l1 (L15_1_3_s a1 a2 a3 v1)
def L15_1_3_x (e : E_L15_1_3) (r : Option (Out × St)) : Prop := match e with | .k0 x0 x1 x2 => ∃ g, r = some (.ret, ⟨fr 58 g [(8, .sl 1 x0 1 0 x1)], [yI0, yI x0 x2]⟩) | .k1 => ∃ g, r = some ((.brk 0), ⟨fr 58 g [], [yI0]⟩)
abbrev L15_1_3_d0 (g2 : Nat → AV) (v1 : Int) (x2_0 x2_1 : Nat) (x2_2 : List Int) : St := ⟨fr 58 g2 [(2, vs a1), (3, vs a2.txt), (4, (.ro (eScps a3))), (9, i6 v1), (10, .sl 1 x2_0 1 0 x2_1)], [yI0, yI x2_0 x2_2]⟩
theorem L15_1_3_ok (v1 : Int) {r : E_L15_1_3 ⊕ (Int)} (h : L15_1_3 a1 a2 a3 v1 = some r) : OkR (fun e => L15_1_3_x e (L15_1_3_e a1 a2 a3 v1)) (fun s => L15_1_3_e a1 a2 a3 v1 = L15_1_3_e a1 a2 a3 s) r := by
 unfold L15_1_3 at h
 apply bi h <;> intro h1 h
 ·
  apply bn h; intro r2 h2 h
  cases r2 with
  | k0 x2_0 x2_1 x2_2 =>
   obtain ⟨g2, e2⟩ := L15_0_3_run a1 a2 a3 v1 (0, 0, 0, []) _ h2
   have q0 := (e2 : L15_0_3_e a1 a2 a3 v1 0 0 0 ([]) = some ((.brk 2), L15_1_3_d0 a1 a2 a3 g2 v1 x2_0 x2_1 x2_2))
   have k1 := ka [(15, .d true), (2002, .l (.brk 2) (L15_1_3_d0 a1 a2 a3 g2 v1 x2_0 x2_1 x2_2))] (av h1 (apc (L15_0_3_k a1 a2 a3 v1 0 0 0 ([])) (apc q0 apn)))
   apply bi h <;> intro h3 h
   ·
    rw [← sj h]
    exact xr ([(56, .d true), (6000, .d true)] ++ kH k1) (k1.b (av h3 apn))
   ·
    apply bn h; intro x4 h4 h
    rw [← sj h]
    exact rn ([(56, .d false), (19, .v (.ro (eScope x4))), (6000, .d true)] ++ kH k1) (k1.b (av h3 (apc (ig eScope 3 .i64 h4) (apc (L15_1_3_k a1 a2 a3 x4.par) apn))))
 ·
  rw [← sj h]
  exact xb [(15, .d false), (6000, .d true)] (av h1 apn)
theorem L15_1_3_run (s0 : Int) (e : E_L15_1_3) (h : runL (fun s => L15_1_3 a1 a2 a3 s) s0 = some e) : L15_1_3_x e (L15_1_3_e a1 a2 a3 s0) := by
  have q := @loop_sound' (Int) E_L15_1_3 (fun s => L15_1_3 a1 a2 a3 s) (fun s => L15_1_3_e a1 a2 a3 s) (L15_1_3_x) (fun s r h => L15_1_3_ok a1 a2 a3 s h) s0 e h
  exact q
end
def F15_3_v (a1 : ScopesD) (a2 : Int) (a3 : ByteArray) (a4 : NameD) (x0 : (List Int)) : AV := (ls 1 eI64 x0)
def F15_3 (a1 : ScopesD) (a2 : Int) (a3 : ByteArray) (a4 : NameD) : Option (List Int) :=
  ((runL (fun s => L15_1_3 a3 a4 a1 s) a2).bind fun r1 => match r1 with | .k0 x1_0 x1_1 x1_2 => (bif (decide (x1_1 ≤ x1_2.length)) then (some (x1_2.take x1_1)) else none) | .k1 => (some ([])))
abbrev F15_3_d0 (g1 : Nat → AV) (x1_0 x1_1 : Nat) (x1_2 : List Int) : St := ⟨fr 58 g1 [(8, .sl 1 x1_0 1 0 x1_1)], [yI0, yI x1_0 x1_2]⟩
theorem F15_3_ok (a1 : ScopesD) (a2 : Int) (a3 : ByteArray) (a4 : NameD) {r : (List Int)} (h : F15_3 a1 a2 a3 a4 = some r) : PR2 prg 15 [(.agg ((eScps a1).map .p)), i6 a2, vs a3, vs a4.txt] (F15_3_v a1 a2 a3 a4 r) := by
 unfold F15_3 at h
 apply bn h; intro r1 h1 h
 cases r1 with
 | k0 x1_0 x1_1 x1_2 =>
  obtain ⟨g1, e1⟩ := L15_1_3_run a3 a4 a1 a2 _ h1
  have q0 := (e1 : L15_1_3_e a3 a4 a1 a2 = some (.ret, F15_3_d0 g1 x1_0 x1_1 x1_2))
  have k1 := ka [(2000, .l .ret (F15_3_d0 g1 x1_0 x1_1 x1_2))] (apc (L15_1_3_k a3 a4 a1 a2) (apc q0 apn))
  apply bi h <;> intro h2 h
  ·
   rw [← sj h]
   exact fpn (v := (.sl 1 x1_0 1 0 x1_1)) (h' := [yI0, yI x1_0 x1_2]) ([(6000, .d true)] ++ kH k1) (k1.b apn) (purA_sl (e := eI64) rfl h2) rfl (purA_sl (e := eI64) (getq rfl (nols_ra (fun _ => rfl))) h2) (by kernel_rfl)
  ·
   cases h
 | k1 =>
  obtain ⟨g1, e1⟩ := L15_1_3_run a3 a4 a1 a2 _ h1
  rw [← sj h]
  exact fpn (v := (.sl 1 0 1 0 0)) (h' := [yI0, yI0]) [(2000, .l (.brk 0) ⟨fr 58 g1 [], [yI0]⟩), (6000, .d true)] (apc (L15_1_3_k a3 a4 a1 a2) (apc (e1 : L15_1_3_e a3 a4 a1 a2 = some ((.brk 0), ⟨fr 58 g1 [], [yI0]⟩)) apn)) (purA_sl (e := eI64) (xs := []) rfl rfl) rfl (purA_sl (e := eI64) (xs := []) (getq rfl (nols_ra (fun _ => rfl))) rfl) (by kernel_rfl)
inductive E_L6_3_2 where
  | k0 (x0 : Bool)
section
variable (a1 : ScopesD) (a2 : Int) (a3 a4 : ByteArray) (a5 a6 : List ByteArray) (a7 : Int) (a8 : NameD)
def L6_3_2 (v1 : Bool) (v2 : Int) : Option (E_L6_3_2 ⊕ (Bool × Int)) :=
  (bif (decide (v2 < (a6.length : Int))) then (bif v1 then (some (.inr (true, (IntKind.wrap .i64 (v2 + 1))))) else ((getI a6 v2).bind fun x3 => (bif (x3.toList == a8.spc.toList) then (some (.inr (true, (IntKind.wrap .i64 (v2 + 1))))) else (some (.inr (false, (IntKind.wrap .i64 (v2 + 1)))))))) else (some (.inl (.k0 v1))))
def L6_3_2_s (v1 : Bool) (v2 : Int) : St := ⟨fr 279 ug [(2, (.ro (eScps a1))), (3, (.ro [.val (.int .i64 a2), .val (.string a3), .val (.string a4)])), (7, ls 1 eStr a5), (9, ls 1 eStr a6), (16, i6 a7), (17, .ptr 0 0), (20, vb v1), (21, i6 v2)], [.cells 34 ((eName a8).map .p)]⟩
theorem L6_3_2_k (v1 : Bool) (v2 : Int) : okT 1 (L6_3_2_s a1 a2 a3 a4 a5 a6 a7 a8 v1 v2).h = true := (okT_of rfl (ac rfl))
abbrev L6_3_2_e (v1 : Bool) (v2 : Int) := evH prg 1 [2, 3, 7, 9, 16, 17, 20, 21] ir6_l3 (L6_3_2_s a1 a2 a3 a4 a5 a6 a7 a8 v1 v2)
def L6_3_2_x (e : E_L6_3_2) (r : Option (Out × St)) : Prop := match e with | .k0 x0 => ∃ g, r = some ((.brk 6), ⟨fr 279 g [(2, (.ro (eScps a1))), (3, (.ro [.val (.int .i64 a2), .val (.string a3), .val (.string a4)])), (7, ls 1 eStr a5), (9, ls 1 eStr a6), (16, i6 a7), (17, .ptr 0 0), (20, vb x0)], [.cells 34 ((eName a8).map .p)]⟩)
theorem L6_3_2_ok (v1 : Bool) (v2 : Int) {r : E_L6_3_2 ⊕ (Bool × Int)} (h : L6_3_2 a6 a8 v1 v2 = some r) : OkR (fun e => L6_3_2_x a1 a2 a3 a4 a5 a6 a7 a8 e (L6_3_2_e a1 a2 a3 a4 a5 a6 a7 a8 v1 v2)) (fun s => L6_3_2_e a1 a2 a3 a4 a5 a6 a7 a8 v1 v2 = L6_3_2_e a1 a2 a3 a4 a5 a6 a7 a8 s.1 s.2) r := by
 unfold L6_3_2 at h
 have q0 := (L6_3_2_k a1 a2 a3 a4 a5 a6 a7 a8 true (w6 (v2 + 1)))
 have k1 := ka [(217, .v (i6 (a6.length : Int)))] (apc (lg a6 eStr 1) apn)
 apply bi h <;> intro h1 h
 ·
  apply bi h <;> intro h2 h
  ·
   rw [← sj h]
   exact rn ([(218, .d true), (221, .d true), (6000, .d true)] ++ kH k1) (k1.b (av h1 (av h2 (apc q0 apn))))
  ·
   have k2 := k1.a [(218, .d true), (221, .d false)] (av h1 (av h2 apn))
   apply bn h; intro x3 h3 h
   have k3 := k2.a [(225, .v (.ro [.val (.string x3)]))] (apc (ig eStr 1 .i64 h3) apn)
   apply bi h <;> intro h4 h
   ·
    rw [← sj h]
    exact rn ([(229, .d true), (6000, .d true)] ++ kH k3) (k3.b (av h4 (apc q0 apn)))
   ·
    rw [← sj h]
    exact rn ([(229, .d false), (6000, .d true)] ++ kH k3) (k3.b (av h4 (apc (L6_3_2_k a1 a2 a3 a4 a5 a6 a7 a8 false (w6 (v2 + 1))) apn)))
 ·
  rw [← sj h]
  exact xb ([(218, .d false), (6000, .d true)] ++ kH k1) (k1.b (av h1 apn))
theorem L6_3_2_run (s0 : Bool × Int) (e : E_L6_3_2) (h : runL (fun s => L6_3_2 a6 a8 s.1 s.2) s0 = some e) : L6_3_2_x a1 a2 a3 a4 a5 a6 a7 a8 e (L6_3_2_e a1 a2 a3 a4 a5 a6 a7 a8 s0.1 s0.2) := by
  have q := @loop_sound' (Bool × Int) E_L6_3_2 (fun s => L6_3_2 a6 a8 s.1 s.2) (fun s => L6_3_2_e a1 a2 a3 a4 a5 a6 a7 a8 s.1 s.2) (L6_3_2_x a1 a2 a3 a4 a5 a6 a7 a8) (fun s r h => L6_3_2_ok a1 a2 a3 a4 a5 a6 a7 a8 s.1 s.2 h) s0 e h
  exact q
end
inductive E_L6_5 where
  | k0
  | k1
section
variable (a1 : ScopesD) (a2 : Int) (a3 a4 : ByteArray) (a5 a6 : List ByteArray)
def L6_5 (v1 : Int) : Option (E_L6_5 ⊕ (Int)) :=
  (bif (decide (v1 < (a1.decl.length : Int))) then ((getI a1.decl v1).bind fun x2 => ((runL (fun s => L6_4_2 a5 x2 s.1 s.2) (false, 0)).bind fun r3 => match r3 with | .k0 x3_0 => ((F15_3 a1 a2 a3 x2).bind fun x4 => (bif (!(((decide ((x4.length : Int) > 0)) == x3_0) && true)) then (some (.inl (.k0))) else ((runL (fun s => L6_3_2 a6 x2 s.1 s.2) (false, 0)).bind fun r6 => match r6 with | .k0 x6_0 => (bif x6_0 then (some (.inr ((IntKind.wrap .i64 (v1 + 1))))) else (some (.inl (.k0))))))))) else (some (.inl (.k1))))
def L6_5_s (v1 : Int) : St := ⟨fr 279 ug [(2, (.ro (eScps a1))), (3, (.ro [.val (.int .i64 a2), .val (.string a3), .val (.string a4)])), (7, ls 1 eStr a5), (9, ls 1 eStr a6), (16, i6 v1)], []⟩
theorem L6_5_k (v1 : Int) : okT 0 (L6_5_s a1 a2 a3 a4 a5 a6 v1).h = true := (okT_of rfl rfl)
abbrev L6_5_e (v1 : Int) := evH prg 0 [2, 3, 7, 9, 16] ir6_l5 (L6_5_s a1 a2 a3 a4 a5 a6 v1)
def L6_5_x (e : E_L6_5) (r : Option (Out × St)) : Prop := match e with | .k0 => ∃ g y, r = some (.ret, ⟨fr 279 g [(4, vb false)], y⟩) | .k1 => ∃ g, r = some ((.brk 2), ⟨fr 279 g [(2, (.ro (eScps a1))), (3, (.ro [.val (.int .i64 a2), .val (.string a3), .val (.string a4)])), (7, ls 1 eStr a5), (9, ls 1 eStr a6)], []⟩)
abbrev L6_5_d0 (g3 : Nat → AV) (v1 : Int) (x3_0 : Bool) (x2 : NameD) : St := ⟨fr 279 g3 [(2, (.ro (eScps a1))), (3, (.ro [.val (.int .i64 a2), .val (.string a3), .val (.string a4)])), (7, ls 1 eStr a5), (9, ls 1 eStr a6), (16, i6 v1), (17, .ptr 0 0), (18, vb x3_0)], [.cells 34 ((eName x2).map .p)]⟩
abbrev L6_5_d1 (g6 : Nat → AV) (v1 : Int) (x6_0 : Bool) (x2 : NameD) : St := ⟨fr 279 g6 [(2, (.ro (eScps a1))), (3, (.ro [.val (.int .i64 a2), .val (.string a3), .val (.string a4)])), (7, ls 1 eStr a5), (9, ls 1 eStr a6), (16, i6 v1), (17, .ptr 0 0), (20, vb x6_0)], [.cells 34 ((eName x2).map .p)]⟩
theorem L6_5_ok (v1 : Int) {r : E_L6_5 ⊕ (Int)} (h : L6_5 a1 a2 a3 a5 a6 v1 = some r) : OkR (fun e => L6_5_x a1 a2 a3 a4 a5 a6 e (L6_5_e a1 a2 a3 a4 a5 a6 v1)) (fun s => L6_5_e a1 a2 a3 a4 a5 a6 v1 = L6_5_e a1 a2 a3 a4 a5 a6 s) r := by
 unfold L6_5 at h
 have k0 := ka [(178, .v (i6 (a1.decl.length : Int)))] (apc (lg a1.decl eName 5) apn)
 apply bi h <;> intro h1 h
 ·
  apply bn h; intro x2 h2 h
  have k1 := k0.a [(179, .d true), (185, .v (.ro (eName x2)))] (av h1 (apc (ig eName 5 .i64 h2) apn))
  apply bn h; intro r3 h3 h
  cases r3 with
  | k0 x3_0 =>
   obtain ⟨g3, e3⟩ := L6_4_2_run a1 a2 a3 a4 a5 a6 v1 x2 (false, 0) _ h3
   have q2 := (e3 : L6_4_2_e a1 a2 a3 a4 a5 a6 v1 x2 false 0 = some ((.brk 4), L6_5_d0 a1 a2 a3 a4 a5 a6 g3 v1 x3_0 x2))
   have k3 := k1.a [(2004, .l (.brk 4) (L6_5_d0 a1 a2 a3 a4 a5 a6 g3 v1 x3_0 x2))] (apc (L6_4_2_k a1 a2 a3 a4 a5 a6 v1 x2 false 0) (apc q2 apn))
   apply bn h; intro x4 h4 h
   have q4 := (((F15_3_ok a1 a2 a3 x2 h4).cp rfl _) : CP prg 15 [(.agg ((eScps a1).map .p)), i6 a2, vs a3, vs x2.txt] [.cells 34 ((eName x2).map .p)] = some (ls 1 eI64 x4))
   have k5 := k3.a [(210, .v (ls 1 eI64 x4)), (211, .v (i6 (x4.length : Int)))] (apc q4 (apc (lg x4 eI64 1) apn))
   apply bi h <;> intro h5 h
   ·
    rw [← sj h]
    exact xy ([(214, .d true), (6000, .d true)] ++ kH k5) (k5.b (av h5 apn))
   ·
    apply bn h; intro r6 h6 h
    cases r6 with
    | k0 x6_0 =>
     obtain ⟨g6, e6⟩ := L6_3_2_run a1 a2 a3 a4 a5 a6 v1 x2 (false, 0) _ h6
     have q6 := (e6 : L6_3_2_e a1 a2 a3 a4 a5 a6 v1 x2 false 0 = some ((.brk 6), L6_5_d1 a1 a2 a3 a4 a5 a6 g6 v1 x6_0 x2))
     have k7 := k5.a [(214, .d false), (2006, .l (.brk 6) (L6_5_d1 a1 a2 a3 a4 a5 a6 g6 v1 x6_0 x2))] (av h5 (apc (L6_3_2_k a1 a2 a3 a4 a5 a6 v1 x2 false 0) (apc q6 apn)))
     apply bi h <;> intro h7 h
     ·
      rw [← sj h]
      exact rn ([(231, .d true), (6000, .d true)] ++ kH k7) (k7.b (av h7 (apc (L6_5_k a1 a2 a3 a4 a5 a6 (w6 (v1 + 1))) apn)))
     ·
      rw [← sj h]
      exact xy ([(231, .d false), (6000, .d true)] ++ kH k7) (k7.b (av h7 apn))
 ·
  rw [← sj h]
  exact xb ([(179, .d false), (6000, .d true)] ++ kH k0) (k0.b (av h1 apn))
theorem L6_5_run (s0 : Int) (e : E_L6_5) (h : runL (fun s => L6_5 a1 a2 a3 a5 a6 s) s0 = some e) : L6_5_x a1 a2 a3 a4 a5 a6 e (L6_5_e a1 a2 a3 a4 a5 a6 s0) := by
  have q := @loop_sound' (Int) E_L6_5 (fun s => L6_5 a1 a2 a3 a5 a6 s) (fun s => L6_5_e a1 a2 a3 a4 a5 a6 s) (L6_5_x a1 a2 a3 a4 a5 a6) (fun s r h => L6_5_ok a1 a2 a3 a4 a5 a6 s h) s0 e h
  exact q
end
inductive E_L6_1_2 where
  | k0 (x0 : Bool)
section
variable (a1 : ScopesD) (a2 : List ByteArray) (a3 : Int)
def L6_1_2 (v1 : Bool) (v2 : Int) : Option (E_L6_1_2 ⊕ (Bool × Int)) :=
  (bif (decide (v2 < (a2.length : Int))) then (bif v1 then (some (.inr (true, (IntKind.wrap .i64 (v2 + 1))))) else ((getI a2 v2).bind fun x3 => ((getI a1.uses a3).bind fun x4 => (bif (x3.toList == x4.spc.toList) then (some (.inr (true, (IntKind.wrap .i64 (v2 + 1))))) else (some (.inr (false, (IntKind.wrap .i64 (v2 + 1))))))))) else (some (.inl (.k0 v1))))
def L6_1_2_s (v1 : Bool) (v2 : Int) : St := ⟨fr 279 ug [(2, (.ro (eScps a1))), (9, ls 1 eStr a2), (22, i6 a3), (23, vb v1), (24, i6 v2)], []⟩
theorem L6_1_2_k (v1 : Bool) (v2 : Int) : okT 0 (L6_1_2_s a1 a2 a3 v1 v2).h = true := (okT_of rfl rfl)
abbrev L6_1_2_e (v1 : Bool) (v2 : Int) := evH prg 0 [2, 9, 22, 23, 24] ir6_l1 (L6_1_2_s a1 a2 a3 v1 v2)
def L6_1_2_x (e : E_L6_1_2) (r : Option (Out × St)) : Prop := match e with | .k0 x0 => ∃ g, r = some ((.brk 10), ⟨fr 279 g [(2, (.ro (eScps a1))), (9, ls 1 eStr a2), (22, i6 a3), (23, vb x0)], []⟩)
theorem L6_1_2_ok (v1 : Bool) (v2 : Int) {r : E_L6_1_2 ⊕ (Bool × Int)} (h : L6_1_2 a1 a2 a3 v1 v2 = some r) : OkR (fun e => L6_1_2_x a1 a2 a3 e (L6_1_2_e a1 a2 a3 v1 v2)) (fun s => L6_1_2_e a1 a2 a3 v1 v2 = L6_1_2_e a1 a2 a3 s.1 s.2) r := by
 unfold L6_1_2 at h
 have k0 := ka [(242, .v (i6 (a2.length : Int)))] (apc (lg a2 eStr 1) apn)
 apply bi h <;> intro h1 h
 ·
  apply bi h <;> intro h2 h
  ·
   rw [← sj h]
   exact rn ([(243, .d true), (246, .d true), (6000, .d true)] ++ kH k0) (k0.b (av h1 (av h2 (apc (L6_1_2_k a1 a2 a3 true (w6 (v2 + 1))) apn))))
  ·
   have k1 := k0.a [(243, .d true), (246, .d false)] (av h1 (av h2 apn))
   apply bn h; intro x3 h3 h
   have k2 := k1.a [(250, .v (.ro [.val (.string x3)]))] (apc (ig eStr 1 .i64 h3) apn)
   apply bn h; intro x4 h4 h
   apply bi h <;> intro h5 h
   ·
    rw [← sj h]
    exact rn ([(255, .v (.ro (eName x4))), (258, .d true), (6000, .d true)] ++ kH k2) (k2.b (apc (ig eName 5 .i64 h4) (av h5 (apc (L6_1_2_k a1 a2 a3 true (w6 (v2 + 1))) apn))))
   ·
    rw [← sj h]
    exact rn ([(255, .v (.ro (eName x4))), (258, .d false), (6000, .d true)] ++ kH k2) (k2.b (apc (ig eName 5 .i64 h4) (av h5 (apc (L6_1_2_k a1 a2 a3 false (w6 (v2 + 1))) apn))))
 ·
  rw [← sj h]
  exact xb ([(243, .d false), (6000, .d true)] ++ kH k0) (k0.b (av h1 apn))
theorem L6_1_2_run (s0 : Bool × Int) (e : E_L6_1_2) (h : runL (fun s => L6_1_2 a1 a2 a3 s.1 s.2) s0 = some e) : L6_1_2_x a1 a2 a3 e (L6_1_2_e a1 a2 a3 s0.1 s0.2) := by
  have q := @loop_sound' (Bool × Int) E_L6_1_2 (fun s => L6_1_2 a1 a2 a3 s.1 s.2) (fun s => L6_1_2_e a1 a2 a3 s.1 s.2) (L6_1_2_x a1 a2 a3) (fun s r h => L6_1_2_ok a1 a2 a3 s.1 s.2 h) s0 e h
  exact q
end
inductive E_L6_2 where
  | k0
  | k1
section
variable (a1 : ScopesD) (a2 : List ByteArray)
def L6_2 (v1 : Int) : Option (E_L6_2 ⊕ (Int)) :=
  (bif (decide (v1 < (a1.uses.length : Int))) then ((runL (fun s => L6_1_2 a1 a2 v1 s.1 s.2) (false, 0)).bind fun r2 => match r2 with | .k0 x2_0 => (bif x2_0 then (some (.inr ((IntKind.wrap .i64 (v1 + 1))))) else (some (.inl (.k0))))) else (some (.inl (.k1))))
def L6_2_s (v1 : Int) : St := ⟨fr 279 ug [(2, (.ro (eScps a1))), (9, ls 1 eStr a2), (22, i6 v1)], []⟩
theorem L6_2_k (v1 : Int) : okT 0 (L6_2_s a1 a2 v1).h = true := (okT_of rfl rfl)
abbrev L6_2_e (v1 : Int) := evH prg 0 [2, 9, 22] ir6_l2 (L6_2_s a1 a2 v1)
def L6_2_x (e : E_L6_2) (r : Option (Out × St)) : Prop := match e with | .k0 => ∃ g y, r = some (.ret, ⟨fr 279 g [(4, vb false)], y⟩) | .k1 => ∃ g, r = some ((.brk 8), ⟨fr 279 g [(2, (.ro (eScps a1))), (9, ls 1 eStr a2)], []⟩)
abbrev L6_2_d0 (g2 : Nat → AV) (v1 : Int) (x2_0 : Bool) : St := ⟨fr 279 g2 [(2, (.ro (eScps a1))), (9, ls 1 eStr a2), (22, i6 v1), (23, vb x2_0)], []⟩
theorem L6_2_ok (v1 : Int) {r : E_L6_2 ⊕ (Int)} (h : L6_2 a1 a2 v1 = some r) : OkR (fun e => L6_2_x a1 a2 e (L6_2_e a1 a2 v1)) (fun s => L6_2_e a1 a2 v1 = L6_2_e a1 a2 s) r := by
 unfold L6_2 at h
 have k0 := ka [(236, .v (i6 (a1.uses.length : Int)))] (apc (lg a1.uses eName 5) apn)
 apply bi h <;> intro h1 h
 ·
  apply bn h; intro r2 h2 h
  cases r2 with
  | k0 x2_0 =>
   obtain ⟨g2, e2⟩ := L6_1_2_run a1 a2 v1 (false, 0) _ h2
   have q1 := (e2 : L6_1_2_e a1 a2 v1 false 0 = some ((.brk 10), L6_2_d0 a1 a2 g2 v1 x2_0))
   have k2 := k0.a [(237, .d true), (2010, .l (.brk 10) (L6_2_d0 a1 a2 g2 v1 x2_0))] (av h1 (apc (L6_1_2_k a1 a2 v1 false 0) (apc q1 apn)))
   apply bi h <;> intro h3 h
   ·
    rw [← sj h]
    exact rn ([(260, .d true), (6000, .d true)] ++ kH k2) (k2.b (av h3 (apc (L6_2_k a1 a2 (w6 (v1 + 1))) apn)))
   ·
    rw [← sj h]
    exact xy ([(260, .d false), (6000, .d true)] ++ kH k2) (k2.b (av h3 apn))
 ·
  rw [← sj h]
  exact xb ([(237, .d false), (6000, .d true)] ++ kH k0) (k0.b (av h1 apn))
theorem L6_2_run (s0 : Int) (e : E_L6_2) (h : runL (fun s => L6_2 a1 a2 s) s0 = some e) : L6_2_x a1 a2 e (L6_2_e a1 a2 s0) := by
  have q := @loop_sound' (Int) E_L6_2 (fun s => L6_2 a1 a2 s) (fun s => L6_2_e a1 a2 s) (L6_2_x a1 a2) (fun s r h => L6_2_ok a1 a2 s h) s0 e h
  exact q
end
inductive E_L6_0 where
  | k0
  | k1
section
variable (a1 : List ByteArray)
def L6_0 (v1 : Int) : Option (E_L6_0 ⊕ (Int)) :=
  (bif (decide (v1 < (a1.length : Int))) then ((getI a1 (IntKind.wrap .i64 (v1 - 1))).bind fun x2 => ((getI a1 v1).bind fun x3 => (bif (!Op.bytesLess x2.toList x3.toList) then (some (.inl (.k0))) else (some (.inr ((IntKind.wrap .i64 (v1 + 1)))))))) else (some (.inl (.k1))))
def L6_0_s (v1 : Int) : St := ⟨fr 279 ug [(9, ls 1 eStr a1), (25, i6 v1)], []⟩
theorem L6_0_k (v1 : Int) : okT 0 (L6_0_s a1 v1).h = true := (okT_of rfl rfl)
abbrev L6_0_e (v1 : Int) := evH prg 0 [9, 25] ir6_l0 (L6_0_s a1 v1)
def L6_0_x (e : E_L6_0) (r : Option (Out × St)) : Prop := match e with | .k0 => ∃ g y, r = some (.ret, ⟨fr 279 g [(4, vb false)], y⟩) | .k1 => ∃ g, r = some ((.brk 12), ⟨fr 279 g [(9, ls 1 eStr a1)], []⟩)
theorem L6_0_ok (v1 : Int) {r : E_L6_0 ⊕ (Int)} (h : L6_0 a1 v1 = some r) : OkR (fun e => L6_0_x a1 e (L6_0_e a1 v1)) (fun s => L6_0_e a1 v1 = L6_0_e a1 s) r := by
 unfold L6_0 at h
 have k0 := ka [(264, .v (i6 (a1.length : Int)))] (apc (lg a1 eStr 1) apn)
 apply bi h <;> intro h1 h
 ·
  apply bn h; intro x2 h2 h
  have k1 := k0.a [(265, .d true), (271, .v (.ro [.val (.string x2)]))] (av h1 (apc (ig eStr 1 .i64 h2) apn))
  apply bn h; intro x3 h3 h
  have k2 := k1.a [(275, .v (.ro [.val (.string x3)]))] (apc (ig eStr 1 .i64 h3) apn)
  apply bi h <;> intro h4 h
  ·
   rw [← sj h]
   exact xy ([(277, .d true), (6000, .d true)] ++ kH k2) (k2.b (av h4 apn))
  ·
   rw [← sj h]
   exact rn ([(277, .d false), (6000, .d true)] ++ kH k2) (k2.b (av h4 (apc (L6_0_k a1 (w6 (v1 + 1))) apn)))
 ·
  rw [← sj h]
  exact xb ([(265, .d false), (6000, .d true)] ++ kH k0) (k0.b (av h1 apn))
theorem L6_0_run (s0 : Int) (e : E_L6_0) (h : runL (fun s => L6_0 a1 s) s0 = some e) : L6_0_x a1 e (L6_0_e a1 s0) := by
  have q := @loop_sound' (Int) E_L6_0 (fun s => L6_0 a1 s) (fun s => L6_0_e a1 s) (L6_0_x a1) (fun s r h => L6_0_ok a1 s h) s0 e h
  exact q
end
def F6_v (a1 : ScopesD) (a2 : Int) (a3 a4 : ByteArray) (x0 : Bool) : AV := (vb x0)
def F6 (a1 : ScopesD) (a2 : Int) (a3 a4 : ByteArray) : Option Bool :=
  ((F7 a1).bind fun x1 => (bif x1 then ((F16 a1 a2 a3 a4).bind fun r3 => match r3 with | .k0 x3_0 x3_1 => ((F17 a1 a2 a3).bind fun r4 => match r4 with | .k0 x4_0 x4_1 => ((F18 a1).bind fun r5 => match r5 with | .k0 x5_0 x5_1 => ((F10 a1).bind fun x6 => (bif x6 then (bif (decide (a2 < 0)) then (bif ((x3_0.length : Int) == 0) then (bif (x3_1 == 4) then (bif ((x4_0.length : Int) == 0) then (bif (x4_1 == 4) then ((F8).bind fun x13 => (some x13)) else (some false)) else (some false)) else (some false)) else (some false)) else (bif (decide (a2 ≥ (a1.all.length : Int))) then (bif ((x3_0.length : Int) == 0) then (bif (x3_1 == 4) then (bif ((x4_0.length : Int) == 0) then (bif (x4_1 == 4) then ((F8).bind fun x14 => (some x14)) else (some false)) else (some false)) else (some false)) else (some false)) else ((F15_2 a1 a2 a3 a4).bind fun x10 => ((F14 x3_0 x10).bind fun x11 => (bif x11 then (bif (x3_1 != 0) then (some false) else (bif (x4_1 != 0) then (some false) else (bif (x5_1 != 0) then (some false) else ((runL (fun s => L6_6 a1 a2 a3 a4 x4_0 s.1 s.2) (false, 0)).bind fun r16 => match r16 with | .k0 => (some false) | .k1 x16_0 => (bif (!((x16_0 == (decide ((x3_0.length : Int) > 0))) && true)) then (some false) else ((runL (fun s => L6_5 a1 a2 a3 x4_0 x5_0 s) 0).bind fun r18 => match r18 with | .k0 => (some false) | .k1 => ((runL (fun s => L6_2 a1 x5_0 s) 0).bind fun r19 => match r19 with | .k0 => (some false) | .k1 => ((runL (fun s => L6_0 x5_0 s) 1).bind fun r20 => match r20 with | .k0 => (some false) | .k1 => ((F8).bind fun x21 => (some x21)))))))))) else (some false)))))) else (bif ((x5_0.length : Int) != 0) then (some false) else (bif (x5_1 != 2) then (some false) else (bif ((x3_0.length : Int) == 0) then (bif (x3_1 == 2) then (bif ((x4_0.length : Int) == 0) then (bif (x4_1 == 2) then ((F8).bind fun x14 => (some x14)) else (some false)) else (some false)) else (some false)) else (some false))))))))) else ((F8).bind fun x3 => (some x3))))
abbrev F6_d0 (g16 : Nat → AV) (a1 : ScopesD) (a2 : Int) (a3 a4 : ByteArray) (x3_0 : List Int) (x4_0 x5_0 : List ByteArray) (x16_0 : Bool) : St := ⟨fr 279 g16 [(2, (.ro (eScps a1))), (3, (.ro [.val (.int .i64 a2), .val (.string a3), .val (.string a4)])), (5, ls 1 eI64 x3_0), (7, ls 1 eStr x4_0), (9, ls 1 eStr x5_0), (12, vb x16_0)], []⟩
abbrev F6_d1 (g18 : Nat → AV) (a1 : ScopesD) (a2 : Int) (a3 a4 : ByteArray) (x4_0 x5_0 : List ByteArray) : St := ⟨fr 279 g18 [(2, (.ro (eScps a1))), (3, (.ro [.val (.int .i64 a2), .val (.string a3), .val (.string a4)])), (7, ls 1 eStr x4_0), (9, ls 1 eStr x5_0)], []⟩
abbrev F6_d2 (g19 : Nat → AV) (a1 : ScopesD) (x5_0 : List ByteArray) : St := ⟨fr 279 g19 [(2, (.ro (eScps a1))), (9, ls 1 eStr x5_0)], []⟩
theorem F6_ok (a1 : ScopesD) (a2 : Int) (a3 a4 : ByteArray) {r : Bool} (h : F6 a1 a2 a3 a4 = some r) : PR1 prg 6 [(.agg ((eScps a1).map .p)), (.agg [i6 a2, vs a3, vs a4])] (F6_v a1 a2 a3 a4 r) := by
 unfold F6 at h
 apply bn h; intro x1 h1 h
 apply bi h <;> intro h2 h
 ·
  have q0 := ((((F7_ok a1 h1).cp rfl _).trans (congrArg (fun z => some (vb z)) h2)) : CP prg 7 [(.agg ((eScps a1).map .p))] [] = some (vb true))
  apply bn h; intro r3 h3 h
  cases r3 with
  | k0 x3_0 x3_1 =>
   have q1 := (((F16_ok a1 a2 a3 a4 h3).cp rfl _) : CP prg 16 [(.agg ((eScps a1).map .p)), i6 a2, vs a3, vs a4] [] = some (.tup [ls 1 eI64 x3_0, i6 x3_1]))
   have k2 := ka [(27, .v (vb true)), (38, .v (.tup [ls 1 eI64 x3_0, i6 x3_1]))] (apc q0 (apc q1 apn))
   apply bn h; intro r4 h4 h
   cases r4 with
   | k0 x4_0 x4_1 =>
    have q3 := (((F17_ok a1 a2 a3 h4).cp rfl _) : CP prg 17 [(.agg ((eScps a1).map .p)), i6 a2, vs a3] [] = some (.tup [ls 1 eStr x4_0, i6 x4_1]))
    have k4 := k2.a [(47, .v (.tup [ls 1 eStr x4_0, i6 x4_1]))] (apc q3 apn)
    apply bn h; intro r5 h5 h
    cases r5 with
    | k0 x5_0 x5_1 =>
     have q5 := (((F18_ok a1 h5).cp rfl _) : CP prg 18 [(.agg ((eScps a1).map .p))] [] = some (.tup [ls 1 eStr x5_0, i6 x5_1]))
     have k6 := k4.a [(52, .v (.tup [ls 1 eStr x5_0, i6 x5_1]))] (apc q5 apn)
     apply bn h; intro x6 h6 h
     apply bi h <;> intro h7 h
     ·
      have q7 := ((((F10_ok a1 h6).cp rfl _).trans (congrArg (fun z => some (vb z)) h7)) : CP prg 10 [(.agg ((eScps a1).map .p))] [] = some (vb true))
      apply bi h <;> intro h8 h
      ·
       have k8 := k6.a [(56, .v (vb true)), (67, .d true), (79, .v (i6 (x3_0.length : Int)))] (apc q7 (av h8 (apc (lg x3_0 eI64 1) apn)))
       apply bi h <;> intro h9 h
       ·
        apply bi h <;> intro h10 h
        ·
         have k9 := k8.a [(80, .d true), (84, .d true), (88, .v (i6 (x4_0.length : Int)))] (av h9 (av h10 (apc (lg x4_0 eStr 1) apn)))
         apply bi h <;> intro h11 h
         ·
          apply bi h <;> intro h12 h
          ·
           apply bn h; intro x13 h13 h
           rw [← sj h]
           exact fq ([(89, .d true), (94, .d true), (97, .v (vb x13))] ++ kH k9) (k9.b (av h11 (av h12 (apc (((F8_ok  h13).cp rfl _) : CP prg 8 [] [] = some (vb x13)) apn))))
          ·
           rw [← sj h]
           exact fq ([(89, .d true), (94, .d false)] ++ kH k9) (k9.b (av h11 (av h12 apn)))
         ·
          rw [← sj h]
          exact fq ([(89, .d false)] ++ kH k9) (k9.b (av h11 apn))
        ·
         rw [← sj h]
         exact fq ([(80, .d true), (84, .d false)] ++ kH k8) (k8.b (av h9 (av h10 apn)))
       ·
        rw [← sj h]
        exact fq ([(80, .d false)] ++ kH k8) (k8.b (av h9 apn))
      ·
       have k10 := k6.a [(56, .v (vb true)), (67, .d false), (73, .v (i6 (a1.all.length : Int)))] (apc q7 (av h8 (apc (lg a1.all eScope 3) apn)))
       apply bi h <;> intro h9 h
       ·
        have k11 := k10.a [(74, .d true), (79, .v (i6 (x3_0.length : Int)))] (av h9 (apc (lg x3_0 eI64 1) apn))
        apply bi h <;> intro h10 h
        ·
         apply bi h <;> intro h11 h
         ·
          have k12 := k11.a [(80, .d true), (84, .d true), (88, .v (i6 (x4_0.length : Int)))] (av h10 (av h11 (apc (lg x4_0 eStr 1) apn)))
          apply bi h <;> intro h12 h
          ·
           apply bi h <;> intro h13 h
           ·
            apply bn h; intro x14 h14 h
            rw [← sj h]
            exact fq ([(89, .d true), (94, .d true), (97, .v (vb x14))] ++ kH k12) (k12.b (av h12 (av h13 (apc (((F8_ok  h14).cp rfl _) : CP prg 8 [] [] = some (vb x14)) apn))))
           ·
            rw [← sj h]
            exact fq ([(89, .d true), (94, .d false)] ++ kH k12) (k12.b (av h12 (av h13 apn)))
          ·
           rw [← sj h]
           exact fq ([(89, .d false)] ++ kH k12) (k12.b (av h12 apn))
         ·
          rw [← sj h]
          exact fq ([(80, .d true), (84, .d false)] ++ kH k11) (k11.b (av h10 (av h11 apn)))
        ·
         rw [← sj h]
         exact fq ([(80, .d false)] ++ kH k11) (k11.b (av h10 apn))
       ·
        apply bn h; intro x10 h10 h
        have q13 := (((F15_2_ok a1 a2 a3 a4 h10).cp rfl _) : CP prg 15 [(.agg ((eScps a1).map .p)), i6 a2, vs a3, vs a4] [] = some (ls 1 eI64 x10))
        have k14 := k10.a [(74, .d false), (107, .v (ls 1 eI64 x10))] (av h9 (apc q13 apn))
        apply bn h; intro x11 h11 h
        apply bi h <;> intro h12 h
        ·
         have q15 := ((((F14_ok x3_0 x10 h11).cp rfl _).trans (congrArg (fun z => some (vb z)) h12)) : CP prg 14 [ls 1 eI64 x3_0, ls 1 eI64 x10] [] = some (vb true))
         apply bi h <;> intro h13 h
         ·
          rw [← sj h]
          exact fq ([(108, .v (vb true)), (112, .d true)] ++ kH k14) (k14.b (apc q15 (av h13 apn)))
         ·
          have k16 := k14.a [(108, .v (vb true)), (112, .d false)] (apc q15 (av h13 apn))
          apply bi h <;> intro h14 h
          ·
           rw [← sj h]
           exact fq ([(116, .d true)] ++ kH k16) (k16.b (av h14 apn))
          ·
           apply bi h <;> intro h15 h
           ·
            rw [← sj h]
            exact fq ([(116, .d false), (120, .d true)] ++ kH k16) (k16.b (av h14 (av h15 apn)))
           ·
            have k17 := k16.a [(116, .d false), (120, .d false)] (av h14 (av h15 apn))
            apply bn h; intro r16 h16 h
            cases r16 with
            | k0 =>
             obtain ⟨g16, y16, e16⟩ := L6_6_run a1 a2 a3 a4 x3_0 x4_0 x5_0 (false, 0) _ h16
             rw [← sj h]
             exact fq ([(2000, .l .ret ⟨fr 279 g16 [(4, vb false)], y16⟩), (6000, .d true)] ++ kH k17) (k17.b (apc (L6_6_k a1 a2 a3 a4 x3_0 x4_0 x5_0 false 0) (apc (e16 : L6_6_e a1 a2 a3 a4 x3_0 x4_0 x5_0 false 0 = some (.ret, ⟨fr 279 g16 [(4, vb false)], y16⟩)) apn)))
            | k1 x16_0 =>
             obtain ⟨g16, e16⟩ := L6_6_run a1 a2 a3 a4 x3_0 x4_0 x5_0 (false, 0) _ h16
             have q18 := (e16 : L6_6_e a1 a2 a3 a4 x3_0 x4_0 x5_0 false 0 = some ((.brk 0), F6_d0 g16 a1 a2 a3 a4 x3_0 x4_0 x5_0 x16_0))
             have k19 := k17.a [(2000, .l (.brk 0) (F6_d0 g16 a1 a2 a3 a4 x3_0 x4_0 x5_0 x16_0)), (172, .v (i6 (x3_0.length : Int)))] (apc (L6_6_k a1 a2 a3 a4 x3_0 x4_0 x5_0 false 0) (apc q18 (apc (lg x3_0 eI64 1) apn)))
             apply bi h <;> intro h17 h
             ·
              rw [← sj h]
              exact fq ([(174, .d true), (6000, .d true)] ++ kH k19) (k19.b (av h17 apn))
             ·
              apply bn h; intro r18 h18 h
              cases r18 with
              | k0 =>
               obtain ⟨g18, y18, e18⟩ := L6_5_run a1 a2 a3 a4 x4_0 x5_0 0 _ h18
               rw [← sj h]
               exact fq ([(174, .d false), (2002, .l .ret ⟨fr 279 g18 [(4, vb false)], y18⟩), (6000, .d true)] ++ kH k19) (k19.b (av h17 (apc (L6_5_k a1 a2 a3 a4 x4_0 x5_0 0) (apc (e18 : L6_5_e a1 a2 a3 a4 x4_0 x5_0 0 = some (.ret, ⟨fr 279 g18 [(4, vb false)], y18⟩)) apn))))
              | k1 =>
               obtain ⟨g18, e18⟩ := L6_5_run a1 a2 a3 a4 x4_0 x5_0 0 _ h18
               have q20 := (e18 : L6_5_e a1 a2 a3 a4 x4_0 x5_0 0 = some ((.brk 2), F6_d1 g18 a1 a2 a3 a4 x4_0 x5_0))
               have k21 := k19.a [(174, .d false), (2002, .l (.brk 2) (F6_d1 g18 a1 a2 a3 a4 x4_0 x5_0))] (av h17 (apc (L6_5_k a1 a2 a3 a4 x4_0 x5_0 0) (apc q20 apn)))
               apply bn h; intro r19 h19 h
               cases r19 with
               | k0 =>
                obtain ⟨g19, y19, e19⟩ := L6_2_run a1 x5_0 0 _ h19
                rw [← sj h]
                exact fq ([(2008, .l .ret ⟨fr 279 g19 [(4, vb false)], y19⟩), (6000, .d true)] ++ kH k21) (k21.b (apc (L6_2_k a1 x5_0 0) (apc (e19 : L6_2_e a1 x5_0 0 = some (.ret, ⟨fr 279 g19 [(4, vb false)], y19⟩)) apn)))
               | k1 =>
                obtain ⟨g19, e19⟩ := L6_2_run a1 x5_0 0 _ h19
                have q22 := (e19 : L6_2_e a1 x5_0 0 = some ((.brk 8), F6_d2 g19 a1 x5_0))
                have k23 := k21.a [(2008, .l (.brk 8) (F6_d2 g19 a1 x5_0))] (apc (L6_2_k a1 x5_0 0) (apc q22 apn))
                apply bn h; intro r20 h20 h
                cases r20 with
                | k0 =>
                 obtain ⟨g20, y20, e20⟩ := L6_0_run x5_0 1 _ h20
                 rw [← sj h]
                 exact fq ([(2012, .l .ret ⟨fr 279 g20 [(4, vb false)], y20⟩), (6000, .d true)] ++ kH k23) (k23.b (apc (L6_0_k x5_0 1) (apc (e20 : L6_0_e x5_0 1 = some (.ret, ⟨fr 279 g20 [(4, vb false)], y20⟩)) apn)))
                | k1 =>
                 obtain ⟨g20, e20⟩ := L6_0_run x5_0 1 _ h20
                 apply bn h; intro x21 h21 h
                 rw [← sj h]
                 exact fq ([(2012, .l (.brk 12) ⟨fr 279 g20 [(9, ls 1 eStr x5_0)], []⟩), (278, .v (vb x21)), (6000, .d true)] ++ kH k23) (k23.b (apc (L6_0_k x5_0 1) (apc (e20 : L6_0_e x5_0 1 = some ((.brk 12), ⟨fr 279 g20 [(9, ls 1 eStr x5_0)], []⟩)) (apc (((F8_ok  h21).cp rfl _) : CP prg 8 [] [] = some (vb x21)) apn))))
        ·
         rw [← sj h]
         exact fq ([(108, .v (vb false))] ++ kH k14) (k14.b (apc ((((F14_ok x3_0 x10 h11).cp rfl _).trans (congrArg (fun z => some (vb z)) h12)) : CP prg 14 [ls 1 eI64 x3_0, ls 1 eI64 x10] [] = some (vb false)) apn))
     ·
      have q24 := ((((F10_ok a1 h6).cp rfl _).trans (congrArg (fun z => some (vb z)) h7)) : CP prg 10 [(.agg ((eScps a1).map .p))] [] = some (vb false))
      have k25 := k6.a [(56, .v (vb false)), (59, .v (i6 (x5_0.length : Int)))] (apc q24 (apc (lg x5_0 eStr 1) apn))
      apply bi h <;> intro h8 h
      ·
       rw [← sj h]
       exact fq ([(60, .d true)] ++ kH k25) (k25.b (av h8 apn))
      ·
       apply bi h <;> intro h9 h
       ·
        rw [← sj h]
        exact fq ([(60, .d false), (63, .d true)] ++ kH k25) (k25.b (av h8 (av h9 apn)))
       ·
        have k26 := k25.a [(60, .d false), (63, .d false), (79, .v (i6 (x3_0.length : Int)))] (av h8 (av h9 (apc (lg x3_0 eI64 1) apn)))
        apply bi h <;> intro h10 h
        ·
         apply bi h <;> intro h11 h
         ·
          have k27 := k26.a [(80, .d true), (84, .d true), (88, .v (i6 (x4_0.length : Int)))] (av h10 (av h11 (apc (lg x4_0 eStr 1) apn)))
          apply bi h <;> intro h12 h
          ·
           apply bi h <;> intro h13 h
           ·
            apply bn h; intro x14 h14 h
            rw [← sj h]
            exact fq ([(89, .d true), (94, .d true), (97, .v (vb x14))] ++ kH k27) (k27.b (av h12 (av h13 (apc (((F8_ok  h14).cp rfl _) : CP prg 8 [] [] = some (vb x14)) apn))))
           ·
            rw [← sj h]
            exact fq ([(89, .d true), (94, .d false)] ++ kH k27) (k27.b (av h12 (av h13 apn)))
          ·
           rw [← sj h]
           exact fq ([(89, .d false)] ++ kH k27) (k27.b (av h12 apn))
         ·
          rw [← sj h]
          exact fq ([(80, .d true), (84, .d false)] ++ kH k26) (k26.b (av h10 (av h11 apn)))
        ·
         rw [← sj h]
         exact fq ([(80, .d false)] ++ kH k26) (k26.b (av h10 apn))
 ·
  apply bn h; intro x3 h3 h
  rw [← sj h]
  exact fq [(27, .v (vb false)), (29, .v (vb x3))] (apc ((((F7_ok a1 h1).cp rfl _).trans (congrArg (fun z => some (vb z)) h2)) : CP prg 7 [(.agg ((eScps a1).map .p))] [] = some (vb false)) (apc (((F8_ok  h3).cp rfl _) : CP prg 8 [] [] = some (vb x3)) apn))
end
end Go.Proofs.Try
