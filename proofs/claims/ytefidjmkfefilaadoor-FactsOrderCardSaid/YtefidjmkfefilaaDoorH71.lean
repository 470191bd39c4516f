/- Decompiled by a program: functions as plain data see them, part 1. -/
import Derived.Test.YtefidjmkfefilaaDoorW7
namespace Go.Proofs.Tryd
set_option linter.unusedSimpArgs false
set_option linter.unusedVariables false
set_option maxHeartbeats 4000000
open Go Go.Vs
noncomputable section
inductive E_L10_0 where
  | k0
  | k1
section
variable (a1 : GramD)
def L10_0 (v1 : Int) : Option (E_L10_0 ⊕ (Int)) :=
  (bif (decide (v1 < (a1.prods.length : Int))) then ((getI a1.prods v1).bind fun x2 => (bif (decide ((x2.right.length : Int) > 31)) then (some (.inl (.k0))) else (bif (decide ((x2.cons.size : Int) > 200)) then (some (.inl (.k0))) else (some (.inr ((IntKind.wrap .i64 (v1 + 1)))))))) else (some (.inl (.k1))))
def L10_0_s (v1 : Int) : St := ⟨fr 51 ug [(1, .ptr 0 0), (3, i6 v1)], [bG a1]⟩
theorem L10_0_k (v1 : Int) : okT 1 (L10_0_s a1 v1).h = true := (okT_of rfl (ac rfl))
abbrev L10_0_e (v1 : Int) := evH prg 1 [1, 3] ir10_l0 (L10_0_s a1 v1)
def L10_0_x (e : E_L10_0) (r : Option (Out × St)) : Prop := match e with | .k0 => ∃ g y, r = some (.ret, ⟨fr 51 g [(2, vb true)], y⟩) | .k1 => ∃ g, r = some ((.brk 0), ⟨fr 51 g [(1, .ptr 0 0)], [bG a1]⟩)
theorem L10_0_ok (v1 : Int) {r : E_L10_0 ⊕ (Int)} (h : L10_0 a1 v1 = some r) : OkR (fun e => L10_0_x a1 e (L10_0_e a1 v1)) (fun s => L10_0_e a1 v1 = L10_0_e a1 s) r := by
 unfold L10_0 at h
 have k0 := ka [(29, .v (i6 (lP a1)))] (apc (lg a1.prods eProd 7) apn)
 apply bi h <;> intro h1 h
 ·
  apply bn h; intro x2 h2 h
  have k1 := k0.a [(30, .d true), (36, .v (.ro (eProd x2))), (39, .v (i6 (x2.right.length : Int)))] (av h1 (apc (ig eProd 7 .i64 h2) (apc (lg x2.right eSym 6) apn)))
  apply bi h <;> intro h3 h
  ·
   rw [← sj h]
   exact xy ([(40, .d true), (6000, .d true)] ++ kH k1) (k1.b (av h3 apn))
  ·
   have k2 := k1.a [(40, .d false), (45, .v (.ro (eProd x2)))] (av h3 (apc (ig eProd 7 .i64 h2) apn))
   apply bi h <;> intro h4 h
   ·
    rw [← sj h]
    exact xy ([(49, .d true), (6000, .d true)] ++ kH k2) (k2.b (av h4 apn))
   ·
    rw [← sj h]
    exact rn ([(49, .d false), (6000, .d true)] ++ kH k2) (k2.b (av h4 (apc (L10_0_k a1 (w6 (v1 + 1))) apn)))
 ·
  rw [← sj h]
  exact xb ([(30, .d false), (6000, .d true)] ++ kH k0) (k0.b (av h1 apn))
theorem L10_0_run (s0 : Int) (e : E_L10_0) (h : runL (fun s => L10_0 a1 s) s0 = some e) : L10_0_x a1 e (L10_0_e a1 s0) := by
  have q := @loop_sound' (Int) E_L10_0 (fun s => L10_0 a1 s) (fun s => L10_0_e a1 s) (L10_0_x a1) (fun s r h => L10_0_ok a1 s h) s0 e h
  exact q
end
def F10_v (a1 : GramD) (x0 : Bool) : AV := (vb x0)
def F10 (a1 : GramD) : Option Bool :=
  (bif (decide ((a1.sorts.length : Int) > 40)) then (some true) else (bif (decide ((a1.prods.length : Int) > 80)) then (some true) else (bif (decide ((a1.forbid.length : Int) > 200)) then (some true) else (bif (decide ((a1.follow.length : Int) > 200)) then (some true) else ((runL (fun s => L10_0 a1 s) 0).bind fun r5 => match r5 with | .k0 => (some true) | .k1 => (some false))))))
theorem F10_ok (a1 : GramD) {r : Bool} (h : F10 a1 = some r) : PR1 prg 10 [aG a1] (F10_v a1 r) := by
 unfold F10 at h
 have k0 := ka [(6, .v (i6 (lS a1)))] (apc (lg a1.sorts eStr 1) apn)
 apply bi h <;> intro h1 h
 ·
  rw [← sj h]
  exact fq ([(7, .d true)] ++ kH k0) (k0.b (av h1 apn))
 ·
  have k1 := k0.a [(7, .d false), (11, .v (i6 (lP a1)))] (av h1 (apc (lg a1.prods eProd 7) apn))
  apply bi h <;> intro h2 h
  ·
   rw [← sj h]
   exact fq ([(12, .d true)] ++ kH k1) (k1.b (av h2 apn))
  ·
   have k2 := k1.a [(12, .d false), (17, .v (i6 (lF a1)))] (av h2 (apc (lg a1.forbid eForb 3) apn))
   apply bi h <;> intro h3 h
   ·
    rw [← sj h]
    exact fq ([(18, .d true)] ++ kH k2) (k2.b (av h3 apn))
   ·
    have k3 := k2.a [(18, .d false), (23, .v (i6 (lW a1)))] (av h3 (apc (lg a1.follow eFoll 5) apn))
    apply bi h <;> intro h4 h
    ·
     rw [← sj h]
     exact fq ([(24, .d true)] ++ kH k3) (k3.b (av h4 apn))
    ·
     apply bn h; intro r5 h5 h
     cases r5 with
     | k0 =>
      obtain ⟨g5, y5, e5⟩ := L10_0_run a1 0 _ h5
      rw [← sj h]
      exact fq ([(24, .d false), (2000, .l .ret ⟨fr 51 g5 [(2, vb true)], y5⟩), (6000, .d true)] ++ kH k3) (k3.b (av h4 (apc (L10_0_k a1 0) (apc (e5 : L10_0_e a1 0 = some (.ret, ⟨fr 51 g5 [(2, vb true)], y5⟩)) apn))))
     | k1 =>
      obtain ⟨g5, e5⟩ := L10_0_run a1 0 _ h5
      rw [← sj h]
      exact fq ([(24, .d false), (2000, .l (.brk 0) ⟨fr 51 g5 [(1, .ptr 0 0)], [bG a1]⟩), (6000, .d true)] ++ kH k3) (k3.b (av h4 (apc (L10_0_k a1 0) (apc (e5 : L10_0_e a1 0 = some ((.brk 0), ⟨fr 51 g5 [(1, .ptr 0 0)], [bG a1]⟩)) apn))))
inductive E_L57_0 where
  | k0
  | k1 (x0 : List (ByteArray × Int))
section
variable (a1 : GramD) (a2 : Int)
def L57_0 (v1 : Int) (v2 : List (ByteArray × Int)) : Option (E_L57_0 ⊕ (Int × (List (ByteArray × Int)))) :=
  (bif (decide (v1 < a2)) then ((getI a1.sorts v1).bind fun x2 => (bif (x2.toList == (⟨([] : List UInt8).toArray⟩ : ByteArray).toList) then (some (.inl (.k0))) else (bif (decide ((x2.size : Int) > 1000)) then (some (.inl (.k0))) else (bif (decide ((mget 0 (mput x2 (IntKind.wrap .i64 ((mget 0 v2 x2) + 1)) v2) x2) > 1)) then (some (.inl (.k0))) else (some (.inr ((IntKind.wrap .i64 (v1 + 1)), (mput x2 (IntKind.wrap .i64 ((mget 0 v2 x2) + 1)) v2)))))))) else (some (.inl (.k1 v2))))
def L57_0_s (v1 : Int) (v2 : List (ByteArray × Int)) : St := ⟨fr 55 ug [(1, .ptr 0 0), (3, .mp 1), (8, ls 1 eStr a1.sorts), (9, i6 a2), (10, i6 v1)], [bG a1, mSI v2]⟩
theorem L57_0_k (v1 : Int) (v2 : List (ByteArray × Int)) : okT 2 (L57_0_s a1 a2 v1 v2).h = true := (okT_of rfl (ac (abl_cons (abl_map (fun _ => rfl) (fun _ => rfl)) rfl)))
abbrev L57_0_e (v1 : Int) (v2 : List (ByteArray × Int)) := evH prg 2 [1, 3, 8, 9, 10] ir57_l0 (L57_0_s a1 a2 v1 v2)
def L57_0_x (e : E_L57_0) (r : Option (Out × St)) : Prop := match e with | .k0 => ∃ g y, r = some (.ret, ⟨fr 55 g [(2, vb false)], y⟩) | .k1 x0 => ∃ g, r = some ((.brk 0), ⟨fr 55 g [(1, .ptr 0 0), (8, ls 1 eStr a1.sorts)], [bG a1, mSI x0]⟩)
abbrev L57_0_d0 (v2 : List (ByteArray × Int)) : List AB := [bG a1, mSI v2]
abbrev L57_0_d1 (x2 : ByteArray) (v2 : List (ByteArray × Int)) : List AB := [bG a1, mSI (mput x2 (w6 ((mget 0 v2 x2) + 1)) v2)]
theorem L57_0_ok (v1 : Int) (v2 : List (ByteArray × Int)) {r : E_L57_0 ⊕ (Int × (List (ByteArray × Int)))} (h : L57_0 a1 a2 v1 v2 = some r) : OkR (fun e => L57_0_x a1 e (L57_0_e a1 a2 v1 v2)) (fun s => L57_0_e a1 a2 v1 v2 = L57_0_e a1 a2 s.1 s.2) r := by
 unfold L57_0 at h
 apply bi h <;> intro h1 h
 ·
  apply bn h; intro x2 h2 h
  have q0 := ((lk_row key_str (es := v2) (k := x2) (z := 0) rfl rfl) : lkA (L57_0_d0 a1 v2) [2] .false .false [(.val (.int .i64 0))] .false (.mp 1) (vs x2) = some (i6 (mget 0 v2 x2)))
  have q1 := (⟨up_row key_str (es := v2) (k := x2) (v := (w6 ((mget 0 v2 x2) + 1))) rfl, rfl⟩ : upA (L57_0_d0 a1 v2) [2] .false (.mp 1) (vs x2) (i6 (w6 ((mget 0 v2 x2) + 1))) = some (L57_0_d1 a1 x2 v2) ∧ ud = ud)
  have q2 := ((lk_row key_str (es := (mput x2 (w6 ((mget 0 v2 x2) + 1)) v2)) (k := x2) (z := 0) rfl rfl) : lkA (L57_0_d1 a1 x2 v2) [2] .false .false [(.val (.int .i64 0))] .false (.mp 1) (vs x2) = some (i6 (mget 0 (mput x2 (w6 ((mget 0 v2 x2) + 1)) v2) x2)))
  have k3 := ka [(11, .d true), (12, .v (.ro [.val (.string x2)])), (16, .v (i6 (mget 0 v2 x2))), (7017, .r ud (L57_0_d1 a1 x2 v2))] (av h1 (apc (ig eStr 1 .i64 h2) (apc q0 (apc q1 apn))))
  apply bi h <;> intro h3 h
  ·
   rw [← sj h]
   exact xy ([(19, .d true), (6000, .d true)] ++ kH k3) (k3.b (av h3 apn))
  ·
   apply bi h <;> intro h4 h
   ·
    rw [← sj h]
    exact xy ([(19, .d false), (23, .d true), (6000, .d true)] ++ kH k3) (k3.b (av h3 (av h4 apn)))
   ·
    have k4 := k3.a [(19, .d false), (23, .d false), (28, .v (i6 (mget 0 (mput x2 (w6 ((mget 0 v2 x2) + 1)) v2) x2)))] (av h3 (av h4 (apc q2 apn)))
    apply bi h <;> intro h5 h
    ·
     rw [← sj h]
     exact xy ([(29, .d true), (6000, .d true)] ++ kH k4) (k4.b (av h5 apn))
    ·
     rw [← sj h]
     exact rn ([(29, .d false), (6000, .d true)] ++ kH k4) (k4.b (av h5 (apc (L57_0_k a1 a2 (w6 (v1 + 1)) (mput x2 (w6 ((mget 0 v2 x2) + 1)) v2)) apn)))
 ·
  rw [← sj h]
  exact xb [(11, .d false), (6000, .d true)] (av h1 apn)
theorem L57_0_run (s0 : Int × (List (ByteArray × Int))) (e : E_L57_0) (h : runL (fun s => L57_0 a1 a2 s.1 s.2) s0 = some e) : L57_0_x a1 e (L57_0_e a1 a2 s0.1 s0.2) := by
  have q := @loop_sound' (Int × (List (ByteArray × Int))) E_L57_0 (fun s => L57_0 a1 a2 s.1 s.2) (fun s => L57_0_e a1 a2 s.1 s.2) (L57_0_x a1) (fun s r h => L57_0_ok a1 a2 s.1 s.2 h) s0 e h
  exact q
end
def F57_v (a1 : GramD) (x0 : Bool) : AV := (vb x0)
def F57 (a1 : GramD) : Option Bool :=
  ((runL (fun s => L57_0 a1 (a1.sorts.length : Int) s.1 s.2) (0, [])).bind fun r1 => match r1 with | .k0 => (some false) | .k1 x1_0 => (bif (decide ((a1.sorts.length : Int) ≥ 1)) then (bif (decide ((a1.sorts.length : Int) ≤ 1000)) then (bif (decide (a1.start ≥ 0)) then (some (decide (a1.start < (a1.sorts.length : Int)))) else (some false)) else (some false)) else (some false)))
abbrev F57_d0 (g1 : Nat → AV) (a1 : GramD) (x1_0 : List (ByteArray × Int)) : St := ⟨fr 55 g1 [(1, .ptr 0 0), (8, ls 1 eStr a1.sorts)], [bG a1, mSI x1_0]⟩
theorem F57_ok (a1 : GramD) {r : Bool} (h : F57 a1 = some r) : PR1 prg 57 [aG a1] (F57_v a1 r) := by
 unfold F57 at h
 have k0 := ka [(9, .v (i6 (lS a1)))] (apc (lg a1.sorts eStr 1) apn)
 apply bn h; intro r1 h1 h
 cases r1 with
 | k0 =>
  obtain ⟨g1, y1, e1⟩ := L57_0_run a1 (lS a1) (0, []) _ h1
  rw [← sj h]
  exact fq ([(2000, .l .ret ⟨fr 55 g1 [(2, vb false)], y1⟩), (6000, .d true)] ++ kH k0) (k0.b (apc (L57_0_k a1 (lS a1) 0 ([])) (apc (e1 : L57_0_e a1 (lS a1) 0 ([]) = some (.ret, ⟨fr 55 g1 [(2, vb false)], y1⟩)) apn)))
 | k1 x1_0 =>
  obtain ⟨g1, e1⟩ := L57_0_run a1 (lS a1) (0, []) _ h1
  have q1 := (e1 : L57_0_e a1 (lS a1) 0 ([]) = some ((.brk 0), F57_d0 g1 a1 x1_0))
  have k2 := k0.a [(2000, .l (.brk 0) (F57_d0 g1 a1 x1_0)), (34, .v (i6 (lS a1)))] (apc (L57_0_k a1 (lS a1) 0 ([])) (apc q1 (apc (lg a1.sorts eStr 1) apn)))
  apply bi h <;> intro h2 h
  ·
   have k3 := k2.a [(35, .d true), (39, .v (i6 (lS a1)))] (av h2 (apc (lg a1.sorts eStr 1) apn))
   apply bi h <;> intro h3 h
   ·
    apply bi h <;> intro h4 h
    ·
     rw [← sj h]
     exact fq ([(40, .d true), (45, .d true), (52, .v (i6 (lS a1))), (6000, .d true)] ++ kH k3) (k3.b (av h3 (av h4 (apc (lg a1.sorts eStr 1) apn))))
    ·
     rw [← sj h]
     exact fq ([(40, .d true), (45, .d false), (6000, .d true)] ++ kH k3) (k3.b (av h3 (av h4 apn)))
   ·
    rw [← sj h]
    exact fq ([(40, .d false), (6000, .d true)] ++ kH k3) (k3.b (av h3 apn))
  ·
   rw [← sj h]
   exact fq ([(35, .d false), (6000, .d true)] ++ kH k2) (k2.b (av h2 apn))
def F73_v (a1 : ProdD) (a2 : GramD) (x0 : Bool) : AV := (vb x0)
def F73 (a1 : ProdD) (a2 : GramD) : Option Bool :=
  (bif (decide (a1.left ≥ 0)) then (some (decide (a1.left < (a2.sorts.length : Int)))) else (some false))
theorem F73_ok (a1 : ProdD) (a2 : GramD) {r : Bool} (h : F73 a1 a2 = some r) : PR1 prg 73 [i6 a1.left, (.ro (eGram a2))] (F73_v a1 a2 r) := by
 unfold F73 at h
 apply bi h <;> intro h1 h
 ·
  rw [← sj h]
  exact fq [(5, .d true), (10, .v (i6 (lS a2)))] (av h1 (apc (lg a2.sorts eStr 1) apn))
 ·
  rw [← sj h]
  exact fq [(5, .d false)] (av h1 apn)
def F73_2_v (a1 : SymD) (a2 : GramD) (x0 : Bool) : AV := (vb x0)
def F73_2 (a1 : SymD) (a2 : GramD) : Option Bool :=
  (bif (decide (a1.sort ≥ 0)) then (some (decide (a1.sort < (a2.sorts.length : Int)))) else (some false))
theorem F73_2_ok (a1 : SymD) (a2 : GramD) {r : Bool} (h : F73_2 a1 a2 = some r) : PR1 prg 73 [i6 a1.sort, (.ro (eGram a2))] (F73_2_v a1 a2 r) := by
 unfold F73_2 at h
 apply bi h <;> intro h1 h
 ·
  rw [← sj h]
  exact fq [(5, .d true), (10, .v (i6 (lS a2)))] (av h1 (apc (lg a2.sorts eStr 1) apn))
 ·
  rw [← sj h]
  exact fq [(5, .d false)] (av h1 apn)
inductive E_L58_0 where
  | k0
  | k1
section
variable (a1 : GramD) (a2 a3 : Int) (a4 : ProdD) (a5 : Int)
abbrev L58_0_p (l : List AB) : List AB := bG a1 :: yY0 :: bP a4 :: l
def L58_0 (v1 : Int) : Option (E_L58_0 ⊕ (Int)) :=
  (bif (decide (v1 < a5)) then ((getI a4.right v1).bind fun x2 => (bif (x2.kind == 0) then (bif ((x2.a == 0) && ((x2.b == 0) && ((x2.c == 0) && ((x2.d == 0) && true)))) then (some (.inl (.k0))) else (bif (x2.sort != 0) then (some (.inl (.k0))) else (some (.inr ((IntKind.wrap .i64 (v1 + 1))))))) else (bif (x2.kind == 1) then (bif (!((x2.a == 0) && ((x2.b == 0) && ((x2.c == 0) && ((x2.d == 0) && true))))) then (some (.inl (.k0))) else ((F73_2 x2 a1).bind fun x6 => (bif x6 then (bif (a4.role == 11) then (some (.inl (.k0))) else (some (.inr ((IntKind.wrap .i64 (v1 + 1)))))) else (some (.inl (.k0)))))) else (some (.inl (.k0)))))) else (some (.inl (.k1))))
def L58_0_s (v1 : Int) : St := ⟨fr 110 ug [(1, .ptr 0 0), (3, (.fn 73 [.ptr 0 0])), (5, .ptr 2 0), (10, ls 7 eProd a1.prods), (11, i6 a2), (12, i6 a3), (67, ls 6 eSym a4.right), (68, i6 a5), (69, i6 v1)], (L58_0_p a1 a4 [])⟩
theorem L58_0_k (v1 : Int) : okT 3 (L58_0_s a1 a2 a3 a4 a5 v1).h = true := (okT_of rfl (ac (ar (ac rfl))))
abbrev L58_0_e (v1 : Int) := evH prg 3 [1, 3, 5, 10, 11, 12, 67, 68, 69] ir58_l0 (L58_0_s a1 a2 a3 a4 a5 v1)
def L58_0_x (e : E_L58_0) (r : Option (Out × St)) : Prop := match e with | .k0 => ∃ g y, r = some (.ret, ⟨fr 110 g [(2, vb false)], y⟩) | .k1 => ∃ g, r = some ((.brk 2), ⟨fr 110 g [(1, .ptr 0 0), (3, (.fn 73 [.ptr 0 0])), (5, .ptr 2 0), (10, ls 7 eProd a1.prods), (11, i6 a2), (12, i6 a3), (67, ls 6 eSym a4.right)], (L58_0_p a1 a4 [])⟩)
abbrev L58_0_d0 (x2 : SymD) : List AB := (L58_0_p a1 a4 [.cells 48 ((eSym x2).map .p)])
theorem L58_0_ok (v1 : Int) {r : E_L58_0 ⊕ (Int)} (h : L58_0 a1 a4 a5 v1 = some r) : OkR (fun e => L58_0_x a1 a2 a3 a4 e (L58_0_e a1 a2 a3 a4 a5 v1)) (fun s => L58_0_e a1 a2 a3 a4 a5 v1 = L58_0_e a1 a2 a3 a4 a5 s) r := by
 unfold L58_0 at h
 apply bi h <;> intro h1 h
 ·
  apply bn h; intro x2 h2 h
  have k0 := ka [(70, .d true), (71, .v (.ro (eSym x2)))] (av h1 (apc (ig eSym 6 .i64 h2) apn))
  apply bi h <;> intro h3 h
  ·
   apply bi h <;> intro h4 h
   ·
    rw [← sj h]
    exact xy ([(76, .d true), (80, .d true), (6000, .d true)] ++ kH k0) (k0.b (av h3 (av h4 apn)))
   ·
    have k1 := k0.a [(76, .d true), (80, .d false)] (av h3 (av h4 apn))
    apply bi h <;> intro h5 h
    ·
     rw [← sj h]
     exact xy ([(84, .d true), (6000, .d true)] ++ kH k1) (k1.b (av h5 apn))
    ·
     rw [← sj h]
     exact rn ([(84, .d false), (6000, .d true)] ++ kH k1) (k1.b (av h5 (apc (L58_0_k a1 a2 a3 a4 a5 (w6 (v1 + 1))) apn)))
  ·
   apply bi h <;> intro h4 h
   ·
    have k2 := k0.a [(76, .d false), (87, .d true)] (av h3 (av h4 apn))
    apply bi h <;> intro h5 h
    ·
     rw [← sj h]
     exact xy ([(91, .d true), (6000, .d true)] ++ kH k2) (k2.b (av h5 apn))
    ·
     apply bn h; intro x6 h6 h
     apply bi h <;> intro h7 h
     ·
      have q3 := ((((F73_2_ok x2 a1 h6).own rfl (purAs_cons rfl (purAs_cons (purA_ptr rfl (mapO_con rfl (mapO_con rfl (mapO_con rfl (mapO_con rfl (mapO_con rfl rfl)))))) purAs_nil)) rfl).trans (congrArg (fun z => some (vb z)) h7)) : CP prg 73 [i6 x2.sort, .ptr 0 0] (L58_0_d0 a1 a4 x2) = some (vb true))
      have k4 := k2.a [(91, .d false), (96, .v (vb true))] (av h5 (apc q3 apn))
      apply bi h <;> intro h8 h
      ·
       rw [← sj h]
       exact xy ([(102, .d true), (6000, .d true)] ++ kH k4) (k4.b (av h8 apn))
      ·
       rw [← sj h]
       exact rn ([(102, .d false), (6000, .d true)] ++ kH k4) (k4.b (av h8 (apc (L58_0_k a1 a2 a3 a4 a5 (w6 (v1 + 1))) apn)))
     ·
      rw [← sj h]
      exact xy ([(91, .d false), (96, .v (vb false)), (6000, .d true)] ++ kH k2) (k2.b (av h5 (apc ((((F73_2_ok x2 a1 h6).own rfl (purAs_cons rfl (purAs_cons (purA_ptr rfl (mapO_con rfl (mapO_con rfl (mapO_con rfl (mapO_con rfl (mapO_con rfl rfl)))))) purAs_nil)) rfl).trans (congrArg (fun z => some (vb z)) h7)) : CP prg 73 [i6 x2.sort, .ptr 0 0] (L58_0_d0 a1 a4 x2) = some (vb false)) apn)))
   ·
    rw [← sj h]
    exact xy ([(76, .d false), (87, .d false), (6000, .d true)] ++ kH k0) (k0.b (av h3 (av h4 apn)))
 ·
  rw [← sj h]
  exact xb [(70, .d false), (6000, .d true)] (av h1 apn)
theorem L58_0_run (s0 : Int) (e : E_L58_0) (h : runL (fun s => L58_0 a1 a4 a5 s) s0 = some e) : L58_0_x a1 a2 a3 a4 e (L58_0_e a1 a2 a3 a4 a5 s0) := by
  have q := @loop_sound' (Int) E_L58_0 (fun s => L58_0 a1 a4 a5 s) (fun s => L58_0_e a1 a2 a3 a4 a5 s) (L58_0_x a1 a2 a3 a4) (fun s r h => L58_0_ok a1 a2 a3 a4 a5 s h) s0 e h
  exact q
end
inductive E_L58_1 where
  | k0
  | k1
section
variable (a1 : GramD) (a2 : Int)
abbrev L58_1_p (l : List AB) : List AB := bG a1 :: yY0 :: l
def L58_1 (v1 : Int) : Option (E_L58_1 ⊕ (Int)) :=
  (bif (decide (v1 < a2)) then ((getI a1.prods v1).bind fun x2 => ((F73 x2 a1).bind fun x3 => (bif x3 then (bif (decide ((x2.right.length : Int) > 30)) then (some (.inl (.k0))) else (bif (decide (x2.role < 0)) then (some (.inl (.k0))) else (bif (decide (x2.role > 11)) then (some (.inl (.k0))) else (bif (decide (x2.frm < (-1))) then (some (.inl (.k0))) else (bif (decide ((x2.cons.size : Int) > 64)) then (some (.inl (.k0))) else (bif (!(x2.cons.toList == (⟨([] : List UInt8).toArray⟩ : ByteArray).toList)) then (bif (x2.role != 0) then (some (.inl (.k0))) else (bif x2.prefer then (bif x2.avoid then (some (.inl (.k0))) else ((runL (fun s => L58_0 a1 x2 (x2.right.length : Int) s) 0).bind fun r14 => match r14 with | .k0 => (some (.inl (.k0))) | .k1 => (some (.inr ((IntKind.wrap .i64 (v1 + 1))))))) else ((runL (fun s => L58_0 a1 x2 (x2.right.length : Int) s) 0).bind fun r13 => match r13 with | .k0 => (some (.inl (.k0))) | .k1 => (some (.inr ((IntKind.wrap .i64 (v1 + 1)))))))) else (bif x2.prefer then (bif x2.avoid then (some (.inl (.k0))) else ((runL (fun s => L58_0 a1 x2 (x2.right.length : Int) s) 0).bind fun r13 => match r13 with | .k0 => (some (.inl (.k0))) | .k1 => (some (.inr ((IntKind.wrap .i64 (v1 + 1))))))) else ((runL (fun s => L58_0 a1 x2 (x2.right.length : Int) s) 0).bind fun r12 => match r12 with | .k0 => (some (.inl (.k0))) | .k1 => (some (.inr ((IntKind.wrap .i64 (v1 + 1))))))))))))) else (some (.inl (.k0)))))) else (some (.inl (.k1))))
def L58_1_s (v1 : Int) : St := ⟨fr 110 ug [(1, .ptr 0 0), (3, (.fn 73 [.ptr 0 0])), (10, ls 7 eProd a1.prods), (11, i6 a2), (12, i6 v1)], [bG a1]⟩
theorem L58_1_k (v1 : Int) : okT 1 (L58_1_s a1 a2 v1).h = true := (okT_of rfl (ac rfl))
abbrev L58_1_e (v1 : Int) := evH prg 1 [1, 3, 10, 11, 12] ir58_l1 (L58_1_s a1 a2 v1)
def L58_1_x (e : E_L58_1) (r : Option (Out × St)) : Prop := match e with | .k0 => ∃ g y, r = some (.ret, ⟨fr 110 g [(2, vb false)], y⟩) | .k1 => ∃ g, r = some ((.brk 0), ⟨fr 110 g [(1, .ptr 0 0), (10, ls 7 eProd a1.prods)], [bG a1]⟩)
abbrev L58_1_d0 (x2 : ProdD) : List AB := (L58_1_p a1 [bP x2])
abbrev L58_1_d1 (g14 : Nat → AV) (v1 : Int) (x2 : ProdD) : St := ⟨fr 110 g14 [(1, .ptr 0 0), (3, (.fn 73 [.ptr 0 0])), (5, .ptr 2 0), (10, ls 7 eProd a1.prods), (11, i6 a2), (12, i6 v1), (67, ls 6 eSym x2.right)], (L58_1_p a1 [bP x2])⟩
abbrev L58_1_d2 (g13 : Nat → AV) (v1 : Int) (x2 : ProdD) : St := ⟨fr 110 g13 [(1, .ptr 0 0), (3, (.fn 73 [.ptr 0 0])), (5, .ptr 2 0), (10, ls 7 eProd a1.prods), (11, i6 a2), (12, i6 v1), (67, ls 6 eSym x2.right)], (L58_1_p a1 [bP x2])⟩
abbrev L58_1_d3 (g12 : Nat → AV) (v1 : Int) (x2 : ProdD) : St := ⟨fr 110 g12 [(1, .ptr 0 0), (3, (.fn 73 [.ptr 0 0])), (5, .ptr 2 0), (10, ls 7 eProd a1.prods), (11, i6 a2), (12, i6 v1), (67, ls 6 eSym x2.right)], (L58_1_p a1 [bP x2])⟩
theorem L58_1_ok (v1 : Int) {r : E_L58_1 ⊕ (Int)} (h : L58_1 a1 a2 v1 = some r) : OkR (fun e => L58_1_x a1 e (L58_1_e a1 a2 v1)) (fun s => L58_1_e a1 a2 v1 = L58_1_e a1 a2 s) r := by
 unfold L58_1 at h
 apply bi h <;> intro h1 h
 ·
  apply bn h; intro x2 h2 h
  have k0 := ka [(13, .d true), (14, .v (.ro (eProd x2)))] (av h1 (apc (ig eProd 7 .i64 h2) apn))
  apply bn h; intro x3 h3 h
  apply bi h <;> intro h4 h
  ·
   have q1 := ((((F73_ok x2 a1 h3).own rfl (purAs_cons rfl (purAs_cons (purA_ptr rfl (mapO_con rfl (mapO_con rfl (mapO_con rfl (mapO_con rfl (mapO_con rfl rfl)))))) purAs_nil)) rfl).trans (congrArg (fun z => some (vb z)) h4)) : CP prg 73 [i6 x2.left, .ptr 0 0] (L58_1_d0 a1 x2) = some (vb true))
   have k2 := k0.a [(19, .v (vb true)), (24, .v (i6 (x2.right.length : Int)))] (apc q1 (apc (lg x2.right eSym 6) apn))
   apply bi h <;> intro h5 h
   ·
    rw [← sj h]
    exact xy ([(25, .d true), (6000, .d true)] ++ kH k2) (k2.b (av h5 apn))
   ·
    apply bi h <;> intro h6 h
    ·
     rw [← sj h]
     exact xy ([(25, .d false), (30, .d true), (6000, .d true)] ++ kH k2) (k2.b (av h5 (av h6 apn)))
    ·
     have k3 := k2.a [(25, .d false), (30, .d false)] (av h5 (av h6 apn))
     apply bi h <;> intro h7 h
     ·
      rw [← sj h]
      exact xy ([(35, .d true), (6000, .d true)] ++ kH k3) (k3.b (av h7 apn))
     ·
      apply bi h <;> intro h8 h
      ·
       rw [← sj h]
       exact xy ([(35, .d false), (40, .d true), (6000, .d true)] ++ kH k3) (k3.b (av h7 (av h8 apn)))
      ·
       have k4 := k3.a [(35, .d false), (40, .d false)] (av h7 (av h8 apn))
       apply bi h <;> intro h9 h
       ·
        rw [← sj h]
        exact xy ([(46, .d true), (6000, .d true)] ++ kH k4) (k4.b (av h9 apn))
       ·
        apply bi h <;> intro h10 h
        ·
         have k5 := k4.a [(46, .d false), (51, .d true)] (av h9 (av h10 apn))
         apply bi h <;> intro h11 h
         ·
          rw [← sj h]
          exact xy ([(55, .d true), (6000, .d true)] ++ kH k5) (k5.b (av h11 apn))
         ·
          apply bi h <;> intro h12 h
          ·
           have k6 := k5.a [(55, .d false), (60, .d true)] (av h11 (av h12 apn))
           apply bi h <;> intro h13 h
           ·
            rw [← sj h]
            exact xy ([(63, .d true), (6000, .d true)] ++ kH k6) (k6.b (av h13 apn))
           ·
            have k7 := k6.a [(63, .d false), (68, .v (i6 (x2.right.length : Int)))] (av h13 (apc (lg x2.right eSym 6) apn))
            apply bn h; intro r14 h14 h
            cases r14 with
            | k0 =>
             obtain ⟨g14, y14, e14⟩ := L58_0_run a1 a2 v1 x2 (x2.right.length : Int) 0 _ h14
             rw [← sj h]
             exact xy ([(2002, .l .ret ⟨fr 110 g14 [(2, vb false)], y14⟩), (6000, .d true)] ++ kH k7) (k7.b (apc (L58_0_k a1 a2 v1 x2 (x2.right.length : Int) 0) (apc (e14 : L58_0_e a1 a2 v1 x2 (x2.right.length : Int) 0 = some (.ret, ⟨fr 110 g14 [(2, vb false)], y14⟩)) apn)))
            | k1 =>
             obtain ⟨g14, e14⟩ := L58_0_run a1 a2 v1 x2 (x2.right.length : Int) 0 _ h14
             rw [← sj h]
             exact rn ([(2002, .l (.brk 2) (L58_1_d1 a1 a2 g14 v1 x2)), (6000, .d true)] ++ kH k7) (k7.b (apc (L58_0_k a1 a2 v1 x2 (x2.right.length : Int) 0) (apc (e14 : L58_0_e a1 a2 v1 x2 (x2.right.length : Int) 0 = some ((.brk 2), L58_1_d1 a1 a2 g14 v1 x2)) (apc (L58_1_k a1 a2 (w6 (v1 + 1))) apn))))
          ·
           have k8 := k5.a [(55, .d false), (60, .d false), (68, .v (i6 (x2.right.length : Int)))] (av h11 (av h12 (apc (lg x2.right eSym 6) apn)))
           apply bn h; intro r13 h13 h
           cases r13 with
           | k0 =>
            obtain ⟨g13, y13, e13⟩ := L58_0_run a1 a2 v1 x2 (x2.right.length : Int) 0 _ h13
            rw [← sj h]
            exact xy ([(2002, .l .ret ⟨fr 110 g13 [(2, vb false)], y13⟩), (6000, .d true)] ++ kH k8) (k8.b (apc (L58_0_k a1 a2 v1 x2 (x2.right.length : Int) 0) (apc (e13 : L58_0_e a1 a2 v1 x2 (x2.right.length : Int) 0 = some (.ret, ⟨fr 110 g13 [(2, vb false)], y13⟩)) apn)))
           | k1 =>
            obtain ⟨g13, e13⟩ := L58_0_run a1 a2 v1 x2 (x2.right.length : Int) 0 _ h13
            rw [← sj h]
            exact rn ([(2002, .l (.brk 2) (L58_1_d2 a1 a2 g13 v1 x2)), (6000, .d true)] ++ kH k8) (k8.b (apc (L58_0_k a1 a2 v1 x2 (x2.right.length : Int) 0) (apc (e13 : L58_0_e a1 a2 v1 x2 (x2.right.length : Int) 0 = some ((.brk 2), L58_1_d2 a1 a2 g13 v1 x2)) (apc (L58_1_k a1 a2 (w6 (v1 + 1))) apn))))
        ·
         have k9 := k4.a [(46, .d false), (51, .d false)] (av h9 (av h10 apn))
         apply bi h <;> intro h11 h
         ·
          apply bi h <;> intro h12 h
          ·
           rw [← sj h]
           exact xy ([(60, .d true), (63, .d true), (6000, .d true)] ++ kH k9) (k9.b (av h11 (av h12 apn)))
          ·
           have k10 := k9.a [(60, .d true), (63, .d false), (68, .v (i6 (x2.right.length : Int)))] (av h11 (av h12 (apc (lg x2.right eSym 6) apn)))
           apply bn h; intro r13 h13 h
           cases r13 with
           | k0 =>
            obtain ⟨g13, y13, e13⟩ := L58_0_run a1 a2 v1 x2 (x2.right.length : Int) 0 _ h13
            rw [← sj h]
            exact xy ([(2002, .l .ret ⟨fr 110 g13 [(2, vb false)], y13⟩), (6000, .d true)] ++ kH k10) (k10.b (apc (L58_0_k a1 a2 v1 x2 (x2.right.length : Int) 0) (apc (e13 : L58_0_e a1 a2 v1 x2 (x2.right.length : Int) 0 = some (.ret, ⟨fr 110 g13 [(2, vb false)], y13⟩)) apn)))
           | k1 =>
            obtain ⟨g13, e13⟩ := L58_0_run a1 a2 v1 x2 (x2.right.length : Int) 0 _ h13
            rw [← sj h]
            exact rn ([(2002, .l (.brk 2) (L58_1_d2 a1 a2 g13 v1 x2)), (6000, .d true)] ++ kH k10) (k10.b (apc (L58_0_k a1 a2 v1 x2 (x2.right.length : Int) 0) (apc (e13 : L58_0_e a1 a2 v1 x2 (x2.right.length : Int) 0 = some ((.brk 2), L58_1_d2 a1 a2 g13 v1 x2)) (apc (L58_1_k a1 a2 (w6 (v1 + 1))) apn))))
         ·
          have k11 := k9.a [(60, .d false), (68, .v (i6 (x2.right.length : Int)))] (av h11 (apc (lg x2.right eSym 6) apn))
          apply bn h; intro r12 h12 h
          cases r12 with
          | k0 =>
           obtain ⟨g12, y12, e12⟩ := L58_0_run a1 a2 v1 x2 (x2.right.length : Int) 0 _ h12
           rw [← sj h]
           exact xy ([(2002, .l .ret ⟨fr 110 g12 [(2, vb false)], y12⟩), (6000, .d true)] ++ kH k11) (k11.b (apc (L58_0_k a1 a2 v1 x2 (x2.right.length : Int) 0) (apc (e12 : L58_0_e a1 a2 v1 x2 (x2.right.length : Int) 0 = some (.ret, ⟨fr 110 g12 [(2, vb false)], y12⟩)) apn)))
          | k1 =>
           obtain ⟨g12, e12⟩ := L58_0_run a1 a2 v1 x2 (x2.right.length : Int) 0 _ h12
           rw [← sj h]
           exact rn ([(2002, .l (.brk 2) (L58_1_d3 a1 a2 g12 v1 x2)), (6000, .d true)] ++ kH k11) (k11.b (apc (L58_0_k a1 a2 v1 x2 (x2.right.length : Int) 0) (apc (e12 : L58_0_e a1 a2 v1 x2 (x2.right.length : Int) 0 = some ((.brk 2), L58_1_d3 a1 a2 g12 v1 x2)) (apc (L58_1_k a1 a2 (w6 (v1 + 1))) apn))))
  ·
   rw [← sj h]
   exact xy ([(19, .v (vb false)), (6000, .d true)] ++ kH k0) (k0.b (apc ((((F73_ok x2 a1 h3).own rfl (purAs_cons rfl (purAs_cons (purA_ptr rfl (mapO_con rfl (mapO_con rfl (mapO_con rfl (mapO_con rfl (mapO_con rfl rfl)))))) purAs_nil)) rfl).trans (congrArg (fun z => some (vb z)) h4)) : CP prg 73 [i6 x2.left, .ptr 0 0] (L58_1_d0 a1 x2) = some (vb false)) apn))
 ·
  rw [← sj h]
  exact xb [(13, .d false), (6000, .d true)] (av h1 apn)
theorem L58_1_run (s0 : Int) (e : E_L58_1) (h : runL (fun s => L58_1 a1 a2 s) s0 = some e) : L58_1_x a1 e (L58_1_e a1 a2 s0) := by
  have q := @loop_sound' (Int) E_L58_1 (fun s => L58_1 a1 a2 s) (fun s => L58_1_e a1 a2 s) (L58_1_x a1) (fun s r h => L58_1_ok a1 a2 s h) s0 e h
  exact q
end
def F58_v (a1 : GramD) (x0 : Bool) : AV := (vb x0)
def F58 (a1 : GramD) : Option Bool :=
  ((runL (fun s => L58_1 a1 (a1.prods.length : Int) s) 0).bind fun r1 => match r1 with | .k0 => (some false) | .k1 => (some (decide ((a1.prods.length : Int) ≤ 1000))))
abbrev F58_d0 (g1 : Nat → AV) (a1 : GramD) : St := ⟨fr 110 g1 [(1, .ptr 0 0), (10, ls 7 eProd a1.prods)], [bG a1]⟩
theorem F58_ok (a1 : GramD) {r : Bool} (h : F58 a1 = some r) : PR1 prg 58 [aG a1] (F58_v a1 r) := by
 unfold F58 at h
 have k0 := ka [(11, .v (i6 (lP a1)))] (apc (lg a1.prods eProd 7) apn)
 apply bn h; intro r1 h1 h
 cases r1 with
 | k0 =>
  obtain ⟨g1, y1, e1⟩ := L58_1_run a1 (lP a1) 0 _ h1
  rw [← sj h]
  exact fq ([(2000, .l .ret ⟨fr 110 g1 [(2, vb false)], y1⟩), (6000, .d true)] ++ kH k0) (k0.b (apc (L58_1_k a1 (lP a1) 0) (apc (e1 : L58_1_e a1 (lP a1) 0 = some (.ret, ⟨fr 110 g1 [(2, vb false)], y1⟩)) apn)))
 | k1 =>
  obtain ⟨g1, e1⟩ := L58_1_run a1 (lP a1) 0 _ h1
  rw [← sj h]
  exact fq ([(2000, .l (.brk 0) (F58_d0 g1 a1)), (108, .v (i6 (lP a1))), (6000, .d true)] ++ kH k0) (k0.b (apc (L58_1_k a1 (lP a1) 0) (apc (e1 : L58_1_e a1 (lP a1) 0 = some ((.brk 0), F58_d0 g1 a1)) (apc (lg a1.prods eProd 7) apn))))
def F74_v (a1 : ForbD) (a2 : GramD) (x0 : Bool) : AV := (vb x0)
def F74 (a1 : ForbD) (a2 : GramD) : Option Bool :=
  (bif (decide (a1.parent ≥ 0)) then (bif (decide (a1.parent < (a2.prods.length : Int))) then ((getI a2.prods a1.parent).bind fun x3 => (some (x3.role != 11))) else (some false)) else (some false))
theorem F74_ok (a1 : ForbD) (a2 : GramD) {r : Bool} (h : F74 a1 a2 = some r) : PR1 prg 74 [i6 a1.parent, (.ro (eGram a2))] (F74_v a1 a2 r) := by
 unfold F74 at h
 apply bi h <;> intro h1 h
 ·
  have k0 := ka [(5, .d true), (10, .v (i6 (lP a2)))] (av h1 (apc (lg a2.prods eProd 7) apn))
  apply bi h <;> intro h2 h
  ·
   apply bn h; intro x3 h3 h
   rw [← sj h]
   exact fq ([(11, .d true), (17, .v (.ro (eProd x3)))] ++ kH k0) (k0.b (av h2 (apc (ig eProd 7 .i64 h3) apn)))
  ·
   rw [← sj h]
   exact fq ([(11, .d false)] ++ kH k0) (k0.b (av h2 apn))
 ·
  rw [← sj h]
  exact fq [(5, .d false)] (av h1 apn)
def F74_2_v (a1 : ForbD) (a2 : GramD) (x0 : Bool) : AV := (vb x0)
def F74_2 (a1 : ForbD) (a2 : GramD) : Option Bool :=
  (bif (decide (a1.child ≥ 0)) then (bif (decide (a1.child < (a2.prods.length : Int))) then ((getI a2.prods a1.child).bind fun x3 => (some (x3.role != 11))) else (some false)) else (some false))
theorem F74_2_ok (a1 : ForbD) (a2 : GramD) {r : Bool} (h : F74_2 a1 a2 = some r) : PR1 prg 74 [i6 a1.child, (.ro (eGram a2))] (F74_2_v a1 a2 r) := by
 unfold F74_2 at h
 apply bi h <;> intro h1 h
 ·
  have k0 := ka [(5, .d true), (10, .v (i6 (lP a2)))] (av h1 (apc (lg a2.prods eProd 7) apn))
  apply bi h <;> intro h2 h
  ·
   apply bn h; intro x3 h3 h
   rw [← sj h]
   exact fq ([(11, .d true), (17, .v (.ro (eProd x3)))] ++ kH k0) (k0.b (av h2 (apc (ig eProd 7 .i64 h3) apn)))
  ·
   rw [← sj h]
   exact fq ([(11, .d false)] ++ kH k0) (k0.b (av h2 apn))
 ·
  rw [← sj h]
  exact fq [(5, .d false)] (av h1 apn)
inductive E_L59_0 where
  | k0
  | k1 (x0 : List ((Int × Int × Int) × Int))
section
variable (a1 : GramD) (a2 : Int)
def L59_0 (v1 : Int) (v2 : List ((Int × Int × Int) × Int)) : Option (E_L59_0 ⊕ (Int × (List ((Int × Int × Int) × Int)))) :=
  (bif (decide (v1 < a2)) then ((getI a1.forbid v1).bind fun x2 => (bif (decide ((mget 0 (mput (x2.parent, x2.at_, x2.child) (IntKind.wrap .i64 ((mget 0 v2 (x2.parent, x2.at_, x2.child)) + 1)) v2) (x2.parent, x2.at_, x2.child)) > 1)) then (some (.inl (.k0))) else ((F74 x2 a1).bind fun x4 => (bif x4 then ((F74_2 x2 a1).bind fun x6 => (bif x6 then (bif (decide (x2.at_ < 1)) then (some (.inl (.k0))) else ((getI a1.prods x2.parent).bind fun x9 => (bif (decide (x2.at_ > (x9.right.length : Int))) then (some (.inl (.k0))) else ((getI x9.right (IntKind.wrap .i64 (x2.at_ - 1))).bind fun x11 => (bif (x11.kind != 1) then (some (.inl (.k0))) else ((getI a1.prods x2.child).bind fun x13 => (bif (x11.sort != x13.left) then (some (.inl (.k0))) else (some (.inr ((IntKind.wrap .i64 (v1 + 1)), (mput (x2.parent, x2.at_, x2.child) (IntKind.wrap .i64 ((mget 0 v2 (x2.parent, x2.at_, x2.child)) + 1)) v2))))))))))) else (some (.inl (.k0))))) else (some (.inl (.k0))))))) else (some (.inl (.k1 v2))))
def L59_0_s (v1 : Int) (v2 : List ((Int × Int × Int) × Int)) : St := ⟨fr 87 ug [(1, .ptr 0 0), (3, .mp 1), (4, (.fn 74 [.ptr 0 0])), (11, ls 3 eForb a1.forbid), (12, i6 a2), (13, i6 v1)], [bG a1, mFI v2]⟩
theorem L59_0_k (v1 : Int) (v2 : List ((Int × Int × Int) × Int)) : okT 2 (L59_0_s a1 a2 v1 v2).h = true := (okT_of rfl (ac (abl_cons (abl_map (fun _ => rfl) (fun _ => rfl)) rfl)))
abbrev L59_0_e (v1 : Int) (v2 : List ((Int × Int × Int) × Int)) := evH prg 2 [1, 3, 4, 11, 12, 13] ir59_l0 (L59_0_s a1 a2 v1 v2)
def L59_0_x (e : E_L59_0) (r : Option (Out × St)) : Prop := match e with | .k0 => ∃ g y, r = some (.ret, ⟨fr 87 g [(2, vb false)], y⟩) | .k1 x0 => ∃ g, r = some ((.brk 0), ⟨fr 87 g [(1, .ptr 0 0), (11, ls 3 eForb a1.forbid)], [bG a1, mFI x0]⟩)
abbrev L59_0_d0 (v2 : List ((Int × Int × Int) × Int)) (x2 : ForbD) : List AB := [bG a1, mFI v2, .cells 85 ((eForb x2).map .p)]
abbrev L59_0_d1 (v2 : List ((Int × Int × Int) × Int)) (x2 : ForbD) : List AB := [bG a1, mFI (ment 0 v2 (x2.parent, x2.at_, x2.child)), .cells 85 ((eForb x2).map .p)]
abbrev L59_0_d2 (x2 : ForbD) (v2 : List ((Int × Int × Int) × Int)) : List AB := [bG a1, mFI (mput (x2.parent, x2.at_, x2.child) (w6 ((mget 0 v2 (x2.parent, x2.at_, x2.child)) + 1)) v2), .cells 85 ((eForb x2).map .p)]
theorem L59_0_ok (v1 : Int) (v2 : List ((Int × Int × Int) × Int)) {r : E_L59_0 ⊕ (Int × (List ((Int × Int × Int) × Int)))} (h : L59_0 a1 a2 v1 v2 = some r) : OkR (fun e => L59_0_x a1 e (L59_0_e a1 a2 v1 v2)) (fun s => L59_0_e a1 a2 v1 v2 = L59_0_e a1 a2 s.1 s.2) r := by
 unfold L59_0 at h
 apply bi h <;> intro h1 h
 ·
  apply bn h; intro x2 h2 h
  have q0 := ((lk_row key_int3 (es := v2) (k := (x2.parent, x2.at_, x2.child)) (z := 0) rfl rfl) : lkA (L59_0_d0 a1 v2 x2) [1, 1, 1] .true .false [(.val (.int .i64 0))] .false (.mp 1) (.agg ((eForb x2).map .p)) = some (i6 (mget 0 v2 (x2.parent, x2.at_, x2.child))))
  have q1 := ((en_row key_int3 (es := v2) (k := (x2.parent, x2.at_, x2.child)) (z := 0) rfl rfl) : enA (L59_0_d0 a1 v2 x2) [1, 1, 1] .true .false [(.val (.int .i64 0))] (.mp 1) (.agg ((eForb x2).map .p)) = some ((.tup [(i6 (mget 0 v2 (x2.parent, x2.at_, x2.child))), (i6 (midx v2 (x2.parent, x2.at_, x2.child) : Int))]), L59_0_d1 a1 v2 x2))
  have q2 := (⟨es_row key_int3 (es := v2) (k := (x2.parent, x2.at_, x2.child)) (v := (w6 ((mget 0 v2 (x2.parent, x2.at_, x2.child)) + 1))) (z := 0) rfl, rfl⟩ : esA (L59_0_d1 a1 v2 x2) (.mp 1) (i6 (midx v2 (x2.parent, x2.at_, x2.child) : Int)) (i6 (w6 ((mget 0 v2 (x2.parent, x2.at_, x2.child)) + 1))) = some (L59_0_d2 a1 x2 v2) ∧ ud = ud)
  have q3 := ((lk_row key_int3 (es := (mput (x2.parent, x2.at_, x2.child) (w6 ((mget 0 v2 (x2.parent, x2.at_, x2.child)) + 1)) v2)) (k := (x2.parent, x2.at_, x2.child)) (z := 0) rfl rfl) : lkA (L59_0_d2 a1 x2 v2) [1, 1, 1] .true .false [(.val (.int .i64 0))] .false (.mp 1) (.agg ((eForb x2).map .p)) = some (i6 (mget 0 (mput (x2.parent, x2.at_, x2.child) (w6 ((mget 0 v2 (x2.parent, x2.at_, x2.child)) + 1)) v2) (x2.parent, x2.at_, x2.child))))
  have k4 := ka [(14, .d true), (15, .v (.ro (eForb x2))), (19, .v (i6 (mget 0 v2 (x2.parent, x2.at_, x2.child)))), (21, .r (.tup [(i6 (mget 0 v2 (x2.parent, x2.at_, x2.child))), (i6 (midx v2 (x2.parent, x2.at_, x2.child) : Int))]) (L59_0_d1 a1 v2 x2)), (8020, .r ud (L59_0_d2 a1 x2 v2)), (25, .v (i6 (mget 0 (mput (x2.parent, x2.at_, x2.child) (w6 ((mget 0 v2 (x2.parent, x2.at_, x2.child)) + 1)) v2) (x2.parent, x2.at_, x2.child))))] (av h1 (apc (ig eForb 3 .i64 h2) (apc q0 (apc q1 (apc q2 (apc q3 apn))))))
  apply bi h <;> intro h3 h
  ·
   rw [← sj h]
   exact xy ([(26, .d true), (6000, .d true)] ++ kH k4) (k4.b (av h3 apn))
  ·
   apply bn h; intro x4 h4 h
   apply bi h <;> intro h5 h
   ·
    have q5 := ((((F74_ok x2 a1 h4).own rfl (purAs_cons rfl (purAs_cons (purA_ptr rfl (mapO_con rfl (mapO_con rfl (mapO_con rfl (mapO_con rfl (mapO_con rfl rfl)))))) purAs_nil)) rfl).trans (congrArg (fun z => some (vb z)) h5)) : CP prg 74 [i6 x2.parent, .ptr 0 0] (L59_0_d2 a1 x2 v2) = some (vb true))
    have k6 := k4.a [(26, .d false), (31, .v (vb true))] (av h3 (apc q5 apn))
    apply bn h; intro x6 h6 h
    apply bi h <;> intro h7 h
    ·
     have q7 := ((((F74_2_ok x2 a1 h6).own rfl (purAs_cons rfl (purAs_cons (purA_ptr rfl (mapO_con rfl (mapO_con rfl (mapO_con rfl (mapO_con rfl (mapO_con rfl rfl)))))) purAs_nil)) rfl).trans (congrArg (fun z => some (vb z)) h7)) : CP prg 74 [i6 x2.child, .ptr 0 0] (L59_0_d2 a1 x2 v2) = some (vb true))
     apply bi h <;> intro h8 h
     ·
      rw [← sj h]
      exact xy ([(38, .v (vb true)), (44, .d true), (6000, .d true)] ++ kH k6) (k6.b (apc q7 (av h8 apn)))
     ·
      have k8 := k6.a [(38, .v (vb true)), (44, .d false)] (apc q7 (av h8 apn))
      apply bn h; intro x9 h9 h
      have k9 := k8.a [(53, .v (.ro (eProd x9))), (56, .v (i6 (x9.right.length : Int)))] (apc (ig eProd 7 .i64 h9) (apc (lg x9.right eSym 6) apn))
      apply bi h <;> intro h10 h
      ·
       rw [← sj h]
       exact xy ([(57, .d true), (6000, .d true)] ++ kH k9) (k9.b (av h10 apn))
      ·
       have k10 := k9.a [(57, .d false), (63, .v (.ro (eProd x9)))] (av h10 (apc (ig eProd 7 .i64 h9) apn))
       apply bn h; intro x11 h11 h
       apply bi h <;> intro h12 h
       ·
        rw [← sj h]
        exact xy ([(69, .v (.ro (eSym x11))), (73, .d true), (6000, .d true)] ++ kH k10) (k10.b (apc (ig eSym 6 .i64 h11) (av h12 apn)))
       ·
        have k11 := k10.a [(69, .v (.ro (eSym x11))), (73, .d false)] (apc (ig eSym 6 .i64 h11) (av h12 apn))
        apply bn h; intro x13 h13 h
        apply bi h <;> intro h14 h
        ·
         rw [← sj h]
         exact xy ([(81, .v (.ro (eProd x13))), (84, .d true), (6000, .d true)] ++ kH k11) (k11.b (apc (ig eProd 7 .i64 h13) (av h14 apn)))
        ·
         rw [← sj h]
         exact rn ([(81, .v (.ro (eProd x13))), (84, .d false), (6000, .d true)] ++ kH k11) (k11.b (apc (ig eProd 7 .i64 h13) (av h14 (apc (L59_0_k a1 a2 (w6 (v1 + 1)) (mput (x2.parent, x2.at_, x2.child) (w6 ((mget 0 v2 (x2.parent, x2.at_, x2.child)) + 1)) v2)) apn))))
    ·
     rw [← sj h]
     exact xy ([(38, .v (vb false)), (6000, .d true)] ++ kH k6) (k6.b (apc ((((F74_2_ok x2 a1 h6).own rfl (purAs_cons rfl (purAs_cons (purA_ptr rfl (mapO_con rfl (mapO_con rfl (mapO_con rfl (mapO_con rfl (mapO_con rfl rfl)))))) purAs_nil)) rfl).trans (congrArg (fun z => some (vb z)) h7)) : CP prg 74 [i6 x2.child, .ptr 0 0] (L59_0_d2 a1 x2 v2) = some (vb false)) apn))
   ·
    rw [← sj h]
    exact xy ([(26, .d false), (31, .v (vb false)), (6000, .d true)] ++ kH k4) (k4.b (av h3 (apc ((((F74_ok x2 a1 h4).own rfl (purAs_cons rfl (purAs_cons (purA_ptr rfl (mapO_con rfl (mapO_con rfl (mapO_con rfl (mapO_con rfl (mapO_con rfl rfl)))))) purAs_nil)) rfl).trans (congrArg (fun z => some (vb z)) h5)) : CP prg 74 [i6 x2.parent, .ptr 0 0] (L59_0_d2 a1 x2 v2) = some (vb false)) apn)))
 ·
  rw [← sj h]
  exact xb [(14, .d false), (6000, .d true)] (av h1 apn)
theorem L59_0_run (s0 : Int × (List ((Int × Int × Int) × Int))) (e : E_L59_0) (h : runL (fun s => L59_0 a1 a2 s.1 s.2) s0 = some e) : L59_0_x a1 e (L59_0_e a1 a2 s0.1 s0.2) := by
  have q := @loop_sound' (Int × (List ((Int × Int × Int) × Int))) E_L59_0 (fun s => L59_0 a1 a2 s.1 s.2) (fun s => L59_0_e a1 a2 s.1 s.2) (L59_0_x a1) (fun s r h => L59_0_ok a1 a2 s.1 s.2 h) s0 e h
  exact q
end
def F59_v (a1 : GramD) (x0 : Bool) : AV := (vb x0)
def F59 (a1 : GramD) : Option Bool :=
  ((runL (fun s => L59_0 a1 (a1.forbid.length : Int) s.1 s.2) (0, [])).bind fun r1 => match r1 with | .k0 => (some false) | .k1 x1_0 => (some true))
abbrev F59_d0 (g1 : Nat → AV) (a1 : GramD) (x1_0 : List ((Int × Int × Int) × Int)) : St := ⟨fr 87 g1 [(1, .ptr 0 0), (11, ls 3 eForb a1.forbid)], [bG a1, mFI x1_0]⟩
theorem F59_ok (a1 : GramD) {r : Bool} (h : F59 a1 = some r) : PR1 prg 59 [aG a1] (F59_v a1 r) := by
 unfold F59 at h
 have k0 := ka [(12, .v (i6 (lF a1)))] (apc (lg a1.forbid eForb 3) apn)
 apply bn h; intro r1 h1 h
 cases r1 with
 | k0 =>
  obtain ⟨g1, y1, e1⟩ := L59_0_run a1 (lF a1) (0, []) _ h1
  rw [← sj h]
  exact fq ([(2000, .l .ret ⟨fr 87 g1 [(2, vb false)], y1⟩), (6000, .d true)] ++ kH k0) (k0.b (apc (L59_0_k a1 (lF a1) 0 ([])) (apc (e1 : L59_0_e a1 (lF a1) 0 ([]) = some (.ret, ⟨fr 87 g1 [(2, vb false)], y1⟩)) apn)))
 | k1 x1_0 =>
  obtain ⟨g1, e1⟩ := L59_0_run a1 (lF a1) (0, []) _ h1
  rw [← sj h]
  exact fq ([(2000, .l (.brk 0) (F59_d0 g1 a1 x1_0)), (6000, .d true)] ++ kH k0) (k0.b (apc (L59_0_k a1 (lF a1) 0 ([])) (apc (e1 : L59_0_e a1 (lF a1) 0 ([]) = some ((.brk 0), F59_d0 g1 a1 x1_0)) apn)))
inductive E_L60_0 where
  | k0
  | k1 (x0 : List (Int × Int))
section
variable (a1 : GramD) (a2 : Int)
def L60_0 (v1 : Int) (v2 : List (Int × Int)) : Option (E_L60_0 ⊕ (Int × (List (Int × Int)))) :=
  (bif (decide (v1 < a2)) then ((getI a1.follow v1).bind fun x2 => (bif (decide ((mget 0 (mput x2.sort (IntKind.wrap .i64 ((mget 0 v2 x2.sort) + 1)) v2) x2.sort) > 1)) then (some (.inl (.k0))) else (bif (decide (x2.sort < 0)) then (some (.inl (.k0))) else (bif (decide (x2.sort ≥ (a1.sorts.length : Int))) then (some (.inl (.k0))) else (bif ((x2.a == 0) && ((x2.b == 0) && ((x2.c == 0) && ((x2.d == 0) && true)))) then (some (.inl (.k0))) else (some (.inr ((IntKind.wrap .i64 (v1 + 1)), (mput x2.sort (IntKind.wrap .i64 ((mget 0 v2 x2.sort) + 1)) v2))))))))) else (some (.inl (.k1 v2))))
def L60_0_s (v1 : Int) (v2 : List (Int × Int)) : St := ⟨fr 44 ug [(1, .ptr 0 0), (3, .mp 1), (8, ls 5 eFoll a1.follow), (9, i6 a2), (10, i6 v1)], [bG a1, mII v2]⟩
theorem L60_0_k (v1 : Int) (v2 : List (Int × Int)) : okT 2 (L60_0_s a1 a2 v1 v2).h = true := (okT_of rfl (ac (abl_cons (abl_map (fun _ => rfl) (fun _ => rfl)) rfl)))
abbrev L60_0_e (v1 : Int) (v2 : List (Int × Int)) := evH prg 2 [1, 3, 8, 9, 10] ir60_l0 (L60_0_s a1 a2 v1 v2)
def L60_0_x (e : E_L60_0) (r : Option (Out × St)) : Prop := match e with | .k0 => ∃ g y, r = some (.ret, ⟨fr 44 g [(2, vb false)], y⟩) | .k1 x0 => ∃ g, r = some ((.brk 0), ⟨fr 44 g [(1, .ptr 0 0), (8, ls 5 eFoll a1.follow)], [bG a1, mII x0]⟩)
abbrev L60_0_d0 (v2 : List (Int × Int)) (x2 : FollD) : List AB := [bG a1, mII v2, .cells 87 ((eFoll x2).map .p)]
abbrev L60_0_d1 (x2 : FollD) (v2 : List (Int × Int)) : List AB := [bG a1, mII (mput x2.sort (w6 ((mget 0 v2 x2.sort) + 1)) v2), .cells 87 ((eFoll x2).map .p)]
theorem L60_0_ok (v1 : Int) (v2 : List (Int × Int)) {r : E_L60_0 ⊕ (Int × (List (Int × Int)))} (h : L60_0 a1 a2 v1 v2 = some r) : OkR (fun e => L60_0_x a1 e (L60_0_e a1 a2 v1 v2)) (fun s => L60_0_e a1 a2 v1 v2 = L60_0_e a1 a2 s.1 s.2) r := by
 unfold L60_0 at h
 apply bi h <;> intro h1 h
 ·
  apply bn h; intro x2 h2 h
  have q0 := ((lk_row key_int (es := v2) (k := x2.sort) (z := 0) rfl rfl) : lkA (L60_0_d0 a1 v2 x2) [1] .false .false [(.val (.int .i64 0))] .false (.mp 1) (i6 x2.sort) = some (i6 (mget 0 v2 x2.sort)))
  have q1 := (⟨up_row key_int (es := v2) (k := x2.sort) (v := (w6 ((mget 0 v2 x2.sort) + 1))) rfl, rfl⟩ : upA (L60_0_d0 a1 v2 x2) [1] .false (.mp 1) (i6 x2.sort) (i6 (w6 ((mget 0 v2 x2.sort) + 1))) = some (L60_0_d1 a1 x2 v2) ∧ ud = ud)
  have q2 := ((lk_row key_int (es := (mput x2.sort (w6 ((mget 0 v2 x2.sort) + 1)) v2)) (k := x2.sort) (z := 0) rfl rfl) : lkA (L60_0_d1 a1 x2 v2) [1] .false .false [(.val (.int .i64 0))] .false (.mp 1) (i6 x2.sort) = some (i6 (mget 0 (mput x2.sort (w6 ((mget 0 v2 x2.sort) + 1)) v2) x2.sort)))
  have k3 := ka [(11, .d true), (12, .v (.ro (eFoll x2))), (17, .v (i6 (mget 0 v2 x2.sort))), (7018, .r ud (L60_0_d1 a1 x2 v2)), (22, .v (i6 (mget 0 (mput x2.sort (w6 ((mget 0 v2 x2.sort) + 1)) v2) x2.sort)))] (av h1 (apc (ig eFoll 5 .i64 h2) (apc q0 (apc q1 (apc q2 apn)))))
  apply bi h <;> intro h3 h
  ·
   rw [← sj h]
   exact xy ([(23, .d true), (6000, .d true)] ++ kH k3) (k3.b (av h3 apn))
  ·
   apply bi h <;> intro h4 h
   ·
    rw [← sj h]
    exact xy ([(23, .d false), (27, .d true), (6000, .d true)] ++ kH k3) (k3.b (av h3 (av h4 apn)))
   ·
    have k4 := k3.a [(23, .d false), (27, .d false), (34, .v (i6 (lS a1)))] (av h3 (av h4 (apc (lg a1.sorts eStr 1) apn)))
    apply bi h <;> intro h5 h
    ·
     rw [← sj h]
     exact xy ([(35, .d true), (6000, .d true)] ++ kH k4) (k4.b (av h5 apn))
    ·
     apply bi h <;> intro h6 h
     ·
      rw [← sj h]
      exact xy ([(35, .d false), (41, .d true), (6000, .d true)] ++ kH k4) (k4.b (av h5 (av h6 apn)))
     ·
      rw [← sj h]
      exact rn ([(35, .d false), (41, .d false), (6000, .d true)] ++ kH k4) (k4.b (av h5 (av h6 (apc (L60_0_k a1 a2 (w6 (v1 + 1)) (mput x2.sort (w6 ((mget 0 v2 x2.sort) + 1)) v2)) apn))))
 ·
  rw [← sj h]
  exact xb [(11, .d false), (6000, .d true)] (av h1 apn)
theorem L60_0_run (s0 : Int × (List (Int × Int))) (e : E_L60_0) (h : runL (fun s => L60_0 a1 a2 s.1 s.2) s0 = some e) : L60_0_x a1 e (L60_0_e a1 a2 s0.1 s0.2) := by
  have q := @loop_sound' (Int × (List (Int × Int))) E_L60_0 (fun s => L60_0 a1 a2 s.1 s.2) (fun s => L60_0_e a1 a2 s.1 s.2) (L60_0_x a1) (fun s r h => L60_0_ok a1 a2 s.1 s.2 h) s0 e h
  exact q
end
def F60_v (a1 : GramD) (x0 : Bool) : AV := (vb x0)
def F60 (a1 : GramD) : Option Bool :=
  ((runL (fun s => L60_0 a1 (a1.follow.length : Int) s.1 s.2) (0, [])).bind fun r1 => match r1 with | .k0 => (some false) | .k1 x1_0 => (some true))
abbrev F60_d0 (g1 : Nat → AV) (a1 : GramD) (x1_0 : List (Int × Int)) : St := ⟨fr 44 g1 [(1, .ptr 0 0), (8, ls 5 eFoll a1.follow)], [bG a1, mII x1_0]⟩
theorem F60_ok (a1 : GramD) {r : Bool} (h : F60 a1 = some r) : PR1 prg 60 [aG a1] (F60_v a1 r) := by
 unfold F60 at h
 have k0 := ka [(9, .v (i6 (lW a1)))] (apc (lg a1.follow eFoll 5) apn)
 apply bn h; intro r1 h1 h
 cases r1 with
 | k0 =>
  obtain ⟨g1, y1, e1⟩ := L60_0_run a1 (lW a1) (0, []) _ h1
  rw [← sj h]
  exact fq ([(2000, .l .ret ⟨fr 44 g1 [(2, vb false)], y1⟩), (6000, .d true)] ++ kH k0) (k0.b (apc (L60_0_k a1 (lW a1) 0 ([])) (apc (e1 : L60_0_e a1 (lW a1) 0 ([]) = some (.ret, ⟨fr 44 g1 [(2, vb false)], y1⟩)) apn)))
 | k1 x1_0 =>
  obtain ⟨g1, e1⟩ := L60_0_run a1 (lW a1) (0, []) _ h1
  rw [← sj h]
  exact fq ([(2000, .l (.brk 0) (F60_d0 g1 a1 x1_0)), (6000, .d true)] ++ kH k0) (k0.b (apc (L60_0_k a1 (lW a1) 0 ([])) (apc (e1 : L60_0_e a1 (lW a1) 0 ([]) = some ((.brk 0), F60_d0 g1 a1 x1_0)) apn)))
inductive E_L29_0 where
  | k0
  | k1
section
variable (a1 : GramD)
def L29_0 (v1 : Int) : Option (E_L29_0 ⊕ (Int)) :=
  (bif (decide (v1 < 4)) then (bif (v1 == 0) then ((F57 a1).bind fun x3 => (bif x3 then (some (.inr ((IntKind.wrap .i64 (v1 + 1))))) else (some (.inl (.k0))))) else (bif (v1 == 1) then ((F58 a1).bind fun x4 => (bif x4 then (some (.inr ((IntKind.wrap .i64 (v1 + 1))))) else (some (.inl (.k0))))) else (bif (v1 == 2) then ((F59 a1).bind fun x5 => (bif x5 then (some (.inr ((IntKind.wrap .i64 (v1 + 1))))) else (some (.inl (.k0))))) else (bif (v1 == 3) then ((F60 a1).bind fun x6 => (bif x6 then (some (.inr ((IntKind.wrap .i64 (v1 + 1))))) else (some (.inl (.k0))))) else none)))) else (some (.inl (.k1))))
def L29_0_s (v1 : Int) : St := ⟨fr 14 ug [(1, .ptr 0 0), (5, (.agg [(.fn 57 []), (.fn 58 []), (.fn 59 []), (.fn 60 [])])), (6, i6 v1)], [bG a1]⟩
theorem L29_0_k (v1 : Int) : okT 1 (L29_0_s a1 v1).h = true := (okT_of rfl (ac rfl))
abbrev L29_0_e (v1 : Int) := evH prg 1 [1, 5, 6] ir29_l0 (L29_0_s a1 v1)
def L29_0_x (e : E_L29_0) (r : Option (Out × St)) : Prop := match e with | .k0 => ∃ g y, r = some (.ret, ⟨fr 14 g [(2, i6 160)], y⟩) | .k1 => ∃ g, r = some ((.brk 0), ⟨fr 14 g [], [bG a1]⟩)
theorem L29_0_ok (v1 : Int) {r : E_L29_0 ⊕ (Int)} (h : L29_0 a1 v1 = some r) : OkR (fun e => L29_0_x a1 e (L29_0_e a1 v1)) (fun s => L29_0_e a1 v1 = L29_0_e a1 s) r := by
 unfold L29_0 at h
 apply bi h <;> intro h1 h
 ·
  apply bi h <;> intro h2 h
  ·
   have q0 := ((ix_lit h2 (fun z => ixG false 4 1 (.agg [(.fn 57 []), (.fn 58 []), (.fn 59 []), (.fn 60 [])]) (i6 z)) rfl) : ixG false 4 1 (.agg [(.fn 57 []), (.fn 58 []), (.fn 59 []), (.fn 60 [])]) (i6 v1) = some (.fn 57 []))
   have k1 := ka [(7, .d true), (8, .v (.fn 57 []))] (av h1 (apc q0 apn))
   apply bn h; intro x3 h3 h
   apply bi h <;> intro h4 h
   ·
    rw [← sj h]
    exact rn ([(11, .v (vb true)), (6000, .d true)] ++ kH k1) (k1.b (apc ((((F57_ok a1 h3).cp rfl _).trans (congrArg (fun z => some (vb z)) h4)) : CP prg 57 [aG a1] [bG a1] = some (vb true)) (apc (L29_0_k a1 (w6 (v1 + 1))) apn)))
   ·
    rw [← sj h]
    exact xy ([(11, .v (vb false)), (6000, .d true)] ++ kH k1) (k1.b (apc ((((F57_ok a1 h3).cp rfl _).trans (congrArg (fun z => some (vb z)) h4)) : CP prg 57 [aG a1] [bG a1] = some (vb false)) apn))
  ·
   apply bi h <;> intro h3 h
   ·
    have q2 := ((ix_lit h3 (fun z => ixG false 4 1 (.agg [(.fn 57 []), (.fn 58 []), (.fn 59 []), (.fn 60 [])]) (i6 z)) rfl) : ixG false 4 1 (.agg [(.fn 57 []), (.fn 58 []), (.fn 59 []), (.fn 60 [])]) (i6 v1) = some (.fn 58 []))
    have k3 := ka [(7, .d true), (8, .v (.fn 58 []))] (av h1 (apc q2 apn))
    apply bn h; intro x4 h4 h
    apply bi h <;> intro h5 h
    ·
     rw [← sj h]
     exact rn ([(11, .v (vb true)), (6000, .d true)] ++ kH k3) (k3.b (apc ((((F58_ok a1 h4).cp rfl _).trans (congrArg (fun z => some (vb z)) h5)) : CP prg 58 [aG a1] [bG a1] = some (vb true)) (apc (L29_0_k a1 (w6 (v1 + 1))) apn)))
    ·
     rw [← sj h]
     exact xy ([(11, .v (vb false)), (6000, .d true)] ++ kH k3) (k3.b (apc ((((F58_ok a1 h4).cp rfl _).trans (congrArg (fun z => some (vb z)) h5)) : CP prg 58 [aG a1] [bG a1] = some (vb false)) apn))
   ·
    apply bi h <;> intro h4 h
    ·
     have q4 := ((ix_lit h4 (fun z => ixG false 4 1 (.agg [(.fn 57 []), (.fn 58 []), (.fn 59 []), (.fn 60 [])]) (i6 z)) rfl) : ixG false 4 1 (.agg [(.fn 57 []), (.fn 58 []), (.fn 59 []), (.fn 60 [])]) (i6 v1) = some (.fn 59 []))
     have k5 := ka [(7, .d true), (8, .v (.fn 59 []))] (av h1 (apc q4 apn))
     apply bn h; intro x5 h5 h
     apply bi h <;> intro h6 h
     ·
      rw [← sj h]
      exact rn ([(11, .v (vb true)), (6000, .d true)] ++ kH k5) (k5.b (apc ((((F59_ok a1 h5).cp rfl _).trans (congrArg (fun z => some (vb z)) h6)) : CP prg 59 [aG a1] [bG a1] = some (vb true)) (apc (L29_0_k a1 (w6 (v1 + 1))) apn)))
     ·
      rw [← sj h]
      exact xy ([(11, .v (vb false)), (6000, .d true)] ++ kH k5) (k5.b (apc ((((F59_ok a1 h5).cp rfl _).trans (congrArg (fun z => some (vb z)) h6)) : CP prg 59 [aG a1] [bG a1] = some (vb false)) apn))
    ·
     apply bi h <;> intro h5 h
     ·
      have q6 := ((ix_lit h5 (fun z => ixG false 4 1 (.agg [(.fn 57 []), (.fn 58 []), (.fn 59 []), (.fn 60 [])]) (i6 z)) rfl) : ixG false 4 1 (.agg [(.fn 57 []), (.fn 58 []), (.fn 59 []), (.fn 60 [])]) (i6 v1) = some (.fn 60 []))
      have k7 := ka [(7, .d true), (8, .v (.fn 60 []))] (av h1 (apc q6 apn))
      apply bn h; intro x6 h6 h
      apply bi h <;> intro h7 h
      ·
       rw [← sj h]
       exact rn ([(11, .v (vb true)), (6000, .d true)] ++ kH k7) (k7.b (apc ((((F60_ok a1 h6).cp rfl _).trans (congrArg (fun z => some (vb z)) h7)) : CP prg 60 [aG a1] [bG a1] = some (vb true)) (apc (L29_0_k a1 (w6 (v1 + 1))) apn)))
      ·
       rw [← sj h]
       exact xy ([(11, .v (vb false)), (6000, .d true)] ++ kH k7) (k7.b (apc ((((F60_ok a1 h6).cp rfl _).trans (congrArg (fun z => some (vb z)) h7)) : CP prg 60 [aG a1] [bG a1] = some (vb false)) apn))
     ·
      cases h
 ·
  rw [← sj h]
  exact xb [(7, .d false), (6000, .d true)] (av h1 apn)
theorem L29_0_run (s0 : Int) (e : E_L29_0) (h : runL (fun s => L29_0 a1 s) s0 = some e) : L29_0_x a1 e (L29_0_e a1 s0) := by
  have q := @loop_sound' (Int) E_L29_0 (fun s => L29_0 a1 s) (fun s => L29_0_e a1 s) (L29_0_x a1) (fun s r h => L29_0_ok a1 s h) s0 e h
  exact q
end
def F29_v (a1 : GramD) (x0 : Int) : AV := (i6 x0)
def F29 (a1 : GramD) : Option Int :=
  ((runL (fun s => L29_0 a1 s) 0).bind fun r1 => match r1 with | .k0 => (some 160) | .k1 => (some 0))
theorem F29_ok (a1 : GramD) {r : Int} (h : F29 a1 = some r) : PR1 prg 29 [aG a1] (F29_v a1 r) := by
 unfold F29 at h
 apply bn h; intro r1 h1 h
 cases r1 with
 | k0 =>
  obtain ⟨g1, y1, e1⟩ := L29_0_run a1 0 _ h1
  rw [← sj h]
  exact fq [(2000, .l .ret ⟨fr 14 g1 [(2, i6 160)], y1⟩), (6000, .d true)] (apc (L29_0_k a1 0) (apc (e1 : L29_0_e a1 0 = some (.ret, ⟨fr 14 g1 [(2, i6 160)], y1⟩)) apn))
 | k1 =>
  obtain ⟨g1, e1⟩ := L29_0_run a1 0 _ h1
  rw [← sj h]
  exact fq [(2000, .l (.brk 0) ⟨fr 14 g1 [], [bG a1]⟩), (6000, .d true)] (apc (L29_0_k a1 0) (apc (e1 : L29_0_e a1 0 = some ((.brk 0), ⟨fr 14 g1 [], [bG a1]⟩)) apn))
def F15_v (a1 : Int) (x0 : Int) : AV := (i6 x0)
def F15 (a1 : Int) : Option Int :=
  (some a1)
theorem F15_ok (a1 : Int) {r : Int} (h : F15 a1 = some r) : PR1 prg 15 [i6 a1] (F15_v a1 r) := by
 unfold F15 at h
 rw [← sj h]
 exact fq [] apn
inductive E_L7_1 where
  | k0 (x0 x1 : Nat) (x2 : List ProdD)
section
variable (a2 : GramD)
abbrev L7_1_p (l : List AB) : List AB := .cells 27 [ls 1 eStr a2.sorts, ls 7 eProd a2.prods, i6 a2.start, (.p (.lst 3 ([].map eForb))), ls 5 eFoll a2.follow] :: yS0 :: yP0 :: yF0 :: yW0 :: l
def L7_1 (v1 : Int) (v2 v3 : Nat) (v4 : List ProdD) : Option (E_L7_1 ⊕ (Int × Nat × Nat × (List ProdD))) :=
  (bif (decide (v1 ≥ 0)) then ((getI a2.prods v1).bind fun x2 => (bif (apOk v3 2 v4.length 72) then (bif (decide (v3 + 2 ≤ v4.length)) then (some (.inr ((IntKind.wrap .i64 (v1 - 1)), v2, v3 + 2, (splice v4 v3 [(⟨x2.left, x2.right, x2.cons, x2.role, x2.prefer, x2.avoid, x2.frm⟩ : ProdD), (⟨x2.left, x2.right, x2.cons, x2.role, x2.prefer, x2.avoid, x2.frm⟩ : ProdD)])))) else (some (.inr ((IntKind.wrap .i64 (v1 - 1)), v2 + 1, v3 + 2, (v4.take v3 ++ [(⟨x2.left, x2.right, x2.cons, x2.role, x2.prefer, x2.avoid, x2.frm⟩ : ProdD), (⟨x2.left, x2.right, x2.cons, x2.role, x2.prefer, x2.avoid, x2.frm⟩ : ProdD)]))))) else none)) else (some (.inl (.k0 v2 v3 v4))))
def L7_1_s (v1 : Int) (v2 v3 : Nat) (v4 : List ProdD) : St := ⟨fr 272 ug [(1, .ptr 0 0), (3, .ptr 5 0), (4, i6 v1)], (L7_1_p a2 [.cells 27 [ls 1 eStr a2.sorts, .sl 6 v2 7 0 v3, i6 a2.start, (.p (.lst 3 ([].map eForb))), ls 5 eFoll a2.follow], yP v2 v4])⟩
theorem L7_1_k (v1 : Int) (v2 v3 : Nat) (v4 : List ProdD) : okT 7 (L7_1_s a2 v1 v2 v3 v4).h = true := (okT_of rfl (ac (ar (ar (ar (ar (ac (ar rfl))))))))
abbrev L7_1_e (v1 : Int) (v2 v3 : Nat) (v4 : List ProdD) := evH prg 7 [1, 3, 4, 1000301005307, 5000003] ir7_l1 (L7_1_s a2 v1 v2 v3 v4)
def L7_1_x (e : E_L7_1) (r : Option (Out × St)) : Prop := match e with | .k0 x0 x1 x2 => ∃ g, r = some ((.brk 0), ⟨fr 272 g [(1, .ptr 0 0), (3, .ptr 5 0)], (L7_1_p a2 [.cells 27 [ls 1 eStr a2.sorts, .sl 6 x0 7 0 x1, i6 a2.start, (.p (.lst 3 ([].map eForb))), ls 5 eFoll a2.follow], yP x0 x2])⟩)
abbrev L7_1_d0 (v2 v3 : Nat) (v4 : List ProdD) (x2 : ProdD) : List AB := (L7_1_p a2 [.cells 27 [ls 1 eStr a2.sorts, .sl 6 v2 7 0 v3, i6 a2.start, (.p (.lst 3 ([].map eForb))), ls 5 eFoll a2.follow], yP v2 (splice v4 v3 [(⟨x2.left, x2.right, x2.cons, x2.role, x2.prefer, x2.avoid, x2.frm⟩ : ProdD), (⟨x2.left, x2.right, x2.cons, x2.role, x2.prefer, x2.avoid, x2.frm⟩ : ProdD)]), .row 53 7 0 [[i6 x2.left, ls 6 eSym x2.right, vs x2.cons, i6 x2.role, vb x2.prefer, vb x2.avoid, i6 x2.frm], [i6 x2.left, ls 6 eSym x2.right, vs x2.cons, i6 x2.role, vb x2.prefer, vb x2.avoid, i6 x2.frm]]])
abbrev L7_1_d1 (v2 v3 : Nat) (v4 : List ProdD) (x2 : ProdD) : List AB := (L7_1_p a2 [.cells 27 [ls 1 eStr a2.sorts, .sl 6 v2 7 0 v3, i6 a2.start, (.p (.lst 3 ([].map eForb))), ls 5 eFoll a2.follow], yP v2 v4, .row 53 7 0 [[i6 x2.left, ls 6 eSym x2.right, vs x2.cons, i6 x2.role, vb x2.prefer, vb x2.avoid, i6 x2.frm], [i6 x2.left, ls 6 eSym x2.right, vs x2.cons, i6 x2.role, vb x2.prefer, vb x2.avoid, i6 x2.frm]]])
abbrev L7_1_d2 (v2 v3 : Nat) (v4 : List ProdD) (x2 : ProdD) : List AB := (L7_1_p a2 [.cells 27 [ls 1 eStr a2.sorts, .sl 6 v2 7 0 v3, i6 a2.start, (.p (.lst 3 ([].map eForb))), ls 5 eFoll a2.follow], yP (v2 + 1) (v4.take v3 ++ [(⟨x2.left, x2.right, x2.cons, x2.role, x2.prefer, x2.avoid, x2.frm⟩ : ProdD), (⟨x2.left, x2.right, x2.cons, x2.role, x2.prefer, x2.avoid, x2.frm⟩ : ProdD)]), .row 53 7 0 [[i6 x2.left, ls 6 eSym x2.right, vs x2.cons, i6 x2.role, vb x2.prefer, vb x2.avoid, i6 x2.frm], [i6 x2.left, ls 6 eSym x2.right, vs x2.cons, i6 x2.role, vb x2.prefer, vb x2.avoid, i6 x2.frm]]])
theorem L7_1_ok (v1 : Int) (v2 v3 : Nat) (v4 : List ProdD) {r : E_L7_1 ⊕ (Int × Nat × Nat × (List ProdD))} (h : L7_1 a2 v1 v2 v3 v4 = some r) : OkR (fun e => L7_1_x a2 e (L7_1_e a2 v1 v2 v3 v4)) (fun s => L7_1_e a2 v1 v2 v3 v4 = L7_1_e a2 s.1 s.2.1 s.2.2.1 s.2.2.2) r := by
 unfold L7_1 at h
 apply bi h <;> intro h1 h
 ·
  apply bn h; intro x2 h2 h
  have k0 := ka [(49, .d true), (57, .v (.ro (eProd x2))), (62, .v (.ro (eProd x2)))] (av h1 (apc (ig eProd 7 .i64 h2) (apc (ig eProd 7 .i64 h2) apn)))
  apply bi h <;> intro h3 h
  ·
   apply bi h <;> intro h4 h
   ·
    rw [← sj h]
    exact rn ([(65, .r (.sl 6 v2 7 0 (v3 + 2)) (L7_1_d0 a2 v2 v3 v4 x2)), (6000, .d true)] ++ kH k0) (k0.b (apc ((ap_in (e := eProd) (xs := v4) (news := [(⟨x2.left, x2.right, x2.cons, x2.role, x2.prefer, x2.avoid, x2.frm⟩ : ProdD), (⟨x2.left, x2.right, x2.cons, x2.role, x2.prefer, x2.avoid, x2.frm⟩ : ProdD)]) rfl (rows_x (e := eProd) (xs := [(⟨x2.left, x2.right, x2.cons, x2.role, x2.prefer, x2.avoid, x2.frm⟩ : ProdD), (⟨x2.left, x2.right, x2.cons, x2.role, x2.prefer, x2.avoid, x2.frm⟩ : ProdD)]) rfl) rfl h3 h4) : appA (L7_1_d1 a2 v2 v3 v4 x2) 53 7 72 (.sl 6 v2 7 0 v3) (.sl 7 0 7 0 2) = some ((.sl 6 v2 7 0 (v3 + 2)), L7_1_d0 a2 v2 v3 v4 x2)) (apc (L7_1_k a2 (w6 (v1 - 1)) v2 (v3 + 2) (splice v4 v3 [(⟨x2.left, x2.right, x2.cons, x2.role, x2.prefer, x2.avoid, x2.frm⟩ : ProdD), (⟨x2.left, x2.right, x2.cons, x2.role, x2.prefer, x2.avoid, x2.frm⟩ : ProdD)])) apn)))
   ·
    rw [← sj h]
    exact rn ([(65, .r (.sl 6 (v2 + 1) 7 0 (v3 + 2)) (L7_1_d2 a2 v2 v3 v4 x2)), (6000, .d true)] ++ kH k0) (k0.b (apc ((ap_out (e := eProd) (xs := v4) (news := [(⟨x2.left, x2.right, x2.cons, x2.role, x2.prefer, x2.avoid, x2.frm⟩ : ProdD), (⟨x2.left, x2.right, x2.cons, x2.role, x2.prefer, x2.avoid, x2.frm⟩ : ProdD)]) rfl (rows_x (e := eProd) (xs := [(⟨x2.left, x2.right, x2.cons, x2.role, x2.prefer, x2.avoid, x2.frm⟩ : ProdD), (⟨x2.left, x2.right, x2.cons, x2.role, x2.prefer, x2.avoid, x2.frm⟩ : ProdD)]) rfl) rfl h3 h4) : appA (L7_1_d1 a2 v2 v3 v4 x2) 53 7 72 (.sl 6 v2 7 0 v3) (.sl 7 0 7 0 2) = some ((.sl 6 (v2 + 1) 7 0 (v3 + 2)), L7_1_d2 a2 v2 v3 v4 x2)) (apc (L7_1_k a2 (w6 (v1 - 1)) (v2 + 1) (v3 + 2) (v4.take v3 ++ [(⟨x2.left, x2.right, x2.cons, x2.role, x2.prefer, x2.avoid, x2.frm⟩ : ProdD), (⟨x2.left, x2.right, x2.cons, x2.role, x2.prefer, x2.avoid, x2.frm⟩ : ProdD)])) apn)))
  ·
   cases h
 ·
  rw [← sj h]
  exact xb [(49, .d false), (6000, .d true)] (av h1 apn)
theorem L7_1_run (s0 : Int × Nat × Nat × (List ProdD)) (e : E_L7_1) (h : runL (fun s => L7_1 a2 s.1 s.2.1 s.2.2.1 s.2.2.2) s0 = some e) : L7_1_x a2 e (L7_1_e a2 s0.1 s0.2.1 s0.2.2.1 s0.2.2.2) := by
  have q := @loop_sound' (Int × Nat × Nat × (List ProdD)) E_L7_1 (fun s => L7_1 a2 s.1 s.2.1 s.2.2.1 s.2.2.2) (fun s => L7_1_e a2 s.1 s.2.1 s.2.2.1 s.2.2.2) (L7_1_x a2) (fun s r h => L7_1_ok a2 s.1 s.2.1 s.2.2.1 s.2.2.2 h) s0 e h
  exact q
end
inductive E_L45_0 where
  | k0 (x0 : List Int)
section
variable (a1 : Int) (a2 : GramD) (a4 : List Bool) (a5 : Nat)
def L45_0 (v1 : Int) (v2 : List Int) : Option (E_L45_0 ⊕ (Int × (List Int))) :=
  (bif (decide (v1 < a1)) then ((ixN a5 v1).bind fun x2 => ((v2[x2]?).bind fun x3 => (some (.inr ((IntKind.wrap .i64 (v1 + 1)), (v2.set x2 (-1))))))) else (some (.inl (.k0 v2))))
def L45_0_s (v1 : Int) (v2 : List Int) : St := ⟨fr 42 ug [(5, .ptr 4 0), (27, i6 a1), (28, i6 v1)], [bG a2, bI v2, bB a4, .cells 93 (ap (eGram a2) [.sl 1 0 1 0 a5, .sl 2 0 1 0 a5]), .cells 89 [.ptr 3 0]]⟩
theorem L45_0_k (v1 : Int) (v2 : List Int) : okT 5 (L45_0_s a1 a2 a4 a5 v1 v2).h = true := (okT_of rfl (ac (ar (ar (ac (ac rfl))))))
abbrev L45_0_e (v1 : Int) (v2 : List Int) := evH prg 5 [5, 27, 28] ir45_l0 (L45_0_s a1 a2 a4 a5 v1 v2)
def L45_0_x (e : E_L45_0) (r : Option (Out × St)) : Prop := match e with | .k0 x0 => ∃ g, r = some ((.brk 0), ⟨fr 42 g [(5, .ptr 4 0)], [bG a2, bI x0, bB a4, .cells 93 (ap (eGram a2) [.sl 1 0 1 0 a5, .sl 2 0 1 0 a5]), .cells 89 [.ptr 3 0]]⟩)
abbrev L45_0_d0 (v2 : List Int) (x2 : Nat) : List AB := [bG a2, bI (v2.set x2 (-1)), bB a4, .cells 93 (ap (eGram a2) [.sl 1 0 1 0 a5, .sl 2 0 1 0 a5]), .cells 89 [.ptr 3 0]]
theorem L45_0_ok (v1 : Int) (v2 : List Int) {r : E_L45_0 ⊕ (Int × (List Int))} (h : L45_0 a1 a5 v1 v2 = some r) : OkR (fun e => L45_0_x a2 a4 a5 e (L45_0_e a1 a2 a4 a5 v1 v2)) (fun s => L45_0_e a1 a2 a4 a5 v1 v2 = L45_0_e a1 a2 a4 a5 s.1 s.2) r := by
 unfold L45_0 at h
 apply bi h <;> intro h1 h
 ·
  apply bn h; intro x2 h2 h
  apply bn h; intro x3 h3 h
  rw [← sj h]
  exact rn [(29, .d true), (36, .v (.rp 1 0 1 x2 0)), (1036, .r ud (L45_0_d0 a2 a4 a5 v2 x2)), (6000, .d true)] (av h1 (apc ((idx_sl h2) : idxA 1 (.sl 1 0 1 0 a5) (i6 v1) = some (.rp 1 0 1 x2 0)) (apc (⟨st_row (v' := (-1)) rfl h3 rfl rfl (Nat.le_of_ble_eq_true rfl) rfl, rfl⟩ : stA [bG a2, bI v2, bB a4, .cells 93 (ap (eGram a2) [.sl 1 0 1 0 a5, .sl 2 0 1 0 a5]), .cells 89 [.ptr 3 0]] 1 (.rp 1 0 1 x2 0) (i6 (-1)) = some (L45_0_d0 a2 a4 a5 v2 x2) ∧ ud = ud) (apc (L45_0_k a1 a2 a4 a5 (w6 (v1 + 1)) (v2.set x2 (-1))) apn))))
 ·
  rw [← sj h]
  exact xb [(29, .d false), (6000, .d true)] (av h1 apn)
theorem L45_0_run (s0 : Int × (List Int)) (e : E_L45_0) (h : runL (fun s => L45_0 a1 a5 s.1 s.2) s0 = some e) : L45_0_x a2 a4 a5 e (L45_0_e a1 a2 a4 a5 s0.1 s0.2) := by
  have q := @loop_sound' (Int × (List Int)) E_L45_0 (fun s => L45_0 a1 a5 s.1 s.2) (fun s => L45_0_e a1 a2 a4 a5 s.1 s.2) (L45_0_x a2 a4 a5) (fun s r h => L45_0_ok a1 a2 a4 a5 s.1 s.2 h) s0 e h
  exact q
end
def F54_v (a1 : ProdD) (x0 : Bool) : AV := (vb x0)
def F54 (a1 : ProdD) : Option Bool :=
  (some (a1.role != 11))
theorem F54_ok (a1 : ProdD) {r : Bool} (h : F54 a1 = some r) : PR1 prg 54 [aP a1] (F54_v a1 r) := by
 unfold F54 at h
 rw [← sj h]
 exact fq [] apn
inductive E_L48_0 where
  | k0
  | k1 (x0 : Int)
section
variable (a1 : GramD) (a2 : List Int) (a3 : List Bool) (a4 : ProdD) (a5 : Int)
def L48_0 (v1 v2 : Int) : Option (E_L48_0 ⊕ (Int × Int)) :=
  (bif (decide (v2 < a5)) then ((getI a4.right v2).bind fun x2 => (bif (x2.kind == 1) then ((getI a2 x2.sort).bind fun x4 => (bif (decide (x4 < 0)) then (some (.inl (.k0))) else (some (.inr ((if 1048577 < (IntKind.wrap .i64 (v1 + x4)) then 1048577 else (IntKind.wrap .i64 (v1 + x4))), (IntKind.wrap .i64 (v2 + 1))))))) else (some (.inr ((if 1048577 < (IntKind.wrap .i64 (v1 + 1)) then 1048577 else (IntKind.wrap .i64 (v1 + 1))), (IntKind.wrap .i64 (v2 + 1))))))) else (some (.inl (.k1 v1))))
def L48_0_s (v1 v2 : Int) : St := ⟨fr 35 ug [(0, (.ro (eOp a1 a2 a3))), (5, i6 v1), (10, ls 6 eSym a4.right), (11, i6 a5), (12, i6 v2)], [bP a4]⟩
theorem L48_0_k (v1 v2 : Int) : okT 1 (L48_0_s a1 a2 a3 a4 a5 v1 v2).h = true := (okT_of rfl (ac rfl))
abbrev L48_0_e (v1 v2 : Int) := evH prg 1 [0, 5, 10, 11, 12] ir48_l0 (L48_0_s a1 a2 a3 a4 a5 v1 v2)
def L48_0_x (e : E_L48_0) (r : Option (Out × St)) : Prop := match e with | .k0 => ∃ g y, r = some (.ret, ⟨fr 35 g [(4, (i6 (-1)))], y⟩) | .k1 x0 => ∃ g, r = some ((.brk 0), ⟨fr 35 g [(5, i6 x0), (10, ls 6 eSym a4.right)], [bP a4]⟩)
theorem L48_0_ok (v1 v2 : Int) {r : E_L48_0 ⊕ (Int × Int)} (h : L48_0 a2 a4 a5 v1 v2 = some r) : OkR (fun e => L48_0_x a4 e (L48_0_e a1 a2 a3 a4 a5 v1 v2)) (fun s => L48_0_e a1 a2 a3 a4 a5 v1 v2 = L48_0_e a1 a2 a3 a4 a5 s.1 s.2) r := by
 unfold L48_0 at h
 apply bi h <;> intro h1 h
 ·
  apply bn h; intro x2 h2 h
  have k0 := ka [(13, .d true), (14, .v (.ro (eSym x2)))] (av h1 (apc (ig eSym 6 .i64 h2) apn))
  apply bi h <;> intro h3 h
  ·
   apply bn h; intro x4 h4 h
   have k1 := k0.a [(18, .d true), (25, .v (.ro [.val (.int .i64 x4)]))] (av h3 (apc (ig eI64 1 .i64 h4) apn))
   apply bi h <;> intro h5 h
   ·
    rw [← sj h]
    exact xy ([(28, .d true), (6000, .d true)] ++ kH k1) (k1.b (av h5 apn))
   ·
    rw [← sj h]
    exact rn ([(28, .d false), (6000, .d true)] ++ kH k1) (k1.b (av h5 (apc (L48_0_k a1 a2 a3 a4 a5 (if 1048577 < (w6 (v1 + x4)) then 1048577 else (w6 (v1 + x4))) (w6 (v2 + 1))) apn)))
  ·
   rw [← sj h]
   exact rn ([(18, .d false), (6000, .d true)] ++ kH k0) (k0.b (av h3 (apc (L48_0_k a1 a2 a3 a4 a5 (if 1048577 < (w6 (v1 + 1)) then 1048577 else (w6 (v1 + 1))) (w6 (v2 + 1))) apn)))
 ·
  rw [← sj h]
  exact xb [(13, .d false), (6000, .d true)] (av h1 apn)
theorem L48_0_run (s0 : Int × Int) (e : E_L48_0) (h : runL (fun s => L48_0 a2 a4 a5 s.1 s.2) s0 = some e) : L48_0_x a4 e (L48_0_e a1 a2 a3 a4 a5 s0.1 s0.2) := by
  have q := @loop_sound' (Int × Int) E_L48_0 (fun s => L48_0 a2 a4 a5 s.1 s.2) (fun s => L48_0_e a1 a2 a3 a4 a5 s.1 s.2) (L48_0_x a4) (fun s r h => L48_0_ok a1 a2 a3 a4 a5 s.1 s.2 h) s0 e h
  exact q
end
def F48_v (a1 : GramD) (a2 : List Int) (a3 : List Bool) (a4 : ProdD) (x0 : Int) : AV := (i6 x0)
def F48 (a2 : List Int) (a4 : ProdD) : Option Int :=
  ((runL (fun s => L48_0 a2 a4 (a4.right.length : Int) s.1 s.2) (0, 0)).bind fun r1 => match r1 with | .k0 => (some (-1)) | .k1 x1_0 => (some x1_0))
abbrev F48_d0 (g1 : Nat → AV) (x1_0 : Int) (a4 : ProdD) : St := ⟨fr 35 g1 [(5, i6 x1_0), (10, ls 6 eSym a4.right)], [bP a4]⟩
theorem F48_ok (a1 : GramD) (a2 : List Int) (a3 : List Bool) (a4 : ProdD) {r : Int} (h : F48 a2 a4 = some r) : PR1 prg 48 [(.ro (eOp a1 a2 a3)), aP a4] (F48_v a1 a2 a3 a4 r) := by
 unfold F48 at h
 have k0 := ka [(11, .v (i6 (a4.right.length : Int)))] (apc (lg a4.right eSym 6) apn)
 apply bn h; intro r1 h1 h
 cases r1 with
 | k0 =>
  obtain ⟨g1, y1, e1⟩ := L48_0_run a1 a2 a3 a4 (a4.right.length : Int) (0, 0) _ h1
  rw [← sj h]
  exact fq ([(2000, .l .ret ⟨fr 35 g1 [(4, (i6 (-1)))], y1⟩), (6000, .d true)] ++ kH k0) (k0.b (apc (L48_0_k a1 a2 a3 a4 (a4.right.length : Int) 0 0) (apc (e1 : L48_0_e a1 a2 a3 a4 (a4.right.length : Int) 0 0 = some (.ret, ⟨fr 35 g1 [(4, (i6 (-1)))], y1⟩)) apn)))
 | k1 x1_0 =>
  obtain ⟨g1, e1⟩ := L48_0_run a1 a2 a3 a4 (a4.right.length : Int) (0, 0) _ h1
  rw [← sj h]
  exact fq ([(2000, .l (.brk 0) (F48_d0 g1 x1_0 a4)), (6000, .d true)] ++ kH k0) (k0.b (apc (L48_0_k a1 a2 a3 a4 (a4.right.length : Int) 0 0) (apc (e1 : L48_0_e a1 a2 a3 a4 (a4.right.length : Int) 0 0 = some ((.brk 0), F48_d0 g1 x1_0 a4)) apn)))
inductive R_F69 where
  | k0 (x0 : Bool) (x1 : List Int) (x2 : List Bool)
def F69_v (a1 : ProdD) (a2 : GramD) (a3 : List Int) (a4 : List Bool) (a5 : Nat) (r : R_F69) : AV := match r with | .k0 x0 x1 x2 => (vb x0)
def F69_h (a1 : ProdD) (a2 : GramD) (a3 : List Int) (a4 : List Bool) (a5 : Nat) (r : R_F69) : List AB := match r with | .k0 x0 x1 x2 => [bG a2, bI x1, bB x2, .cells 93 (ap (eGram a2) [.sl 1 0 1 0 a5, .sl 2 0 1 0 a5]), .cells 89 [.ptr 3 0], yY0, bP a1, bP a1]
def F69 (a1 : ProdD) (a3 : List Int) (a4 : List Bool) (a5 : Nat) : Option R_F69 :=
  (bif (decide (a5 ≤ a3.length)) then (bif (decide (a5 ≤ a4.length)) then ((F48 (a3.take a5) a1).bind fun x3 => ((ixN a5 a1.left).bind fun x4 => ((a3[x4]?).bind fun x5 => (bif (decide (x3 < 0)) then (some (.k0 false a3 a4)) else (bif (decide (x5 ≥ 0)) then (bif (decide (x5 ≤ x3)) then (some (.k0 false a3 a4)) else ((a4[x4]?).bind fun x9 => (some (.k0 true (a3.set x4 x3) (a4.set x4 (x3 == 0)))))) else ((a4[x4]?).bind fun x8 => (some (.k0 true (a3.set x4 x3) (a4.set x4 (x3 == 0)))))))))) else none) else none)
abbrev F69_d0 (a2 : GramD) (a3 : List Int) (a4 : List Bool) (a5 : Nat) (a1 : ProdD) : List AB := [bG a2, bI a3, bB a4, .cells 93 (ap (eGram a2) [.sl 1 0 1 0 a5, .sl 2 0 1 0 a5]), .cells 89 [.ptr 3 0], yY0, bP a1, bP a1]
abbrev F69_d1 (a2 : GramD) (a3 : List Int) (x4 : Nat) (x3 : Int) (a4 : List Bool) (a5 : Nat) (a1 : ProdD) : List AB := [bG a2, bI (a3.set x4 x3), bB a4, .cells 93 (ap (eGram a2) [.sl 1 0 1 0 a5, .sl 2 0 1 0 a5]), .cells 89 [.ptr 3 0], yY0, bP a1, bP a1]
abbrev F69_d2 (a2 : GramD) (a3 : List Int) (x4 : Nat) (x3 : Int) (a4 : List Bool) (a5 : Nat) (a1 : ProdD) : List AB := [bG a2, bI (a3.set x4 x3), bB (a4.set x4 (x3 == 0)), .cells 93 (ap (eGram a2) [.sl 1 0 1 0 a5, .sl 2 0 1 0 a5]), .cells 89 [.ptr 3 0], yY0, bP a1, bP a1]
theorem F69_ok (a1 : ProdD) (a2 : GramD) (a3 : List Int) (a4 : List Bool) (a5 : Nat) {r : R_F69} (h : F69 a1 a3 a4 a5 = some r) : CS prg 69 [aP a1, .ptr 4 0] [bG a2, bI a3, bB a4, .cells 93 (ap (eGram a2) [.sl 1 0 1 0 a5, .sl 2 0 1 0 a5]), .cells 89 [.ptr 3 0], yY0, bP a1] = some (F69_v a1 a2 a3 a4 a5 r, F69_h a1 a2 a3 a4 a5 r) := by
 unfold F69 at h
 apply bi h <;> intro h1 h
 ·
  apply bi h <;> intro h2 h
  ·
   apply bn h; intro x3 h3 h
   have q0 := (((F48_ok a2 (a3.take a5) (a4.take a5) a1 h3).own rfl (purAs_cons (purA_ptr rfl (mapO_con rfl (mapO_con rfl (mapO_con rfl (mapO_con rfl (mapO_con rfl (mapO_con (purP_sl (e := eI64) rfl h1) (mapO_con (purP_sl (e := eBool) rfl h2) rfl)))))))) (purAs_cons rfl purAs_nil)) rfl) : CP prg 48 [.ptr 3 0, aP a1] (F69_d0 a2 a3 a4 a5 a1) = some (i6 x3))
   apply bn h; intro x4 h4 h
   have q1 := ((idx_sl h4) : idxA 1 (.sl 1 0 1 0 a5) (i6 a1.left) = some (.rp 1 0 1 x4 0))
   have q2 := ((idx_sl h4) : idxA 1 (.sl 2 0 1 0 a5) (i6 a1.left) = some (.rp 2 0 1 x4 0))
   have k3 := ka [(8, .v (i6 x3)), (15, .v (.rp 1 0 1 x4 0))] (apc q0 (apc q1 apn))
   apply bn h; intro x5 h5 h
   have q4 := ((ld_row rfl h5 rfl) : ldA (F69_d0 a2 a3 a4 a5 a1) .false 1 (.rp 1 0 1 x4 0) = some (i6 x5))
   have q5 := (⟨st_row (v' := x3) rfl h5 rfl rfl (Nat.le_of_ble_eq_true rfl) rfl, rfl⟩ : stA (F69_d0 a2 a3 a4 a5 a1) 1 (.rp 1 0 1 x4 0) (i6 x3) = some (F69_d1 a2 a3 x4 x3 a4 a5 a1) ∧ ud = ud)
   apply bi h <;> intro h6 h
   ·
    rw [← sj h]
    exact fc ([(16, .v (i6 x5)), (18, .d true)] ++ kH k3) (k3.b (apc q4 (av h6 apn)))
   ·
    have k6 := k3.a [(16, .v (i6 x5)), (18, .d false)] (apc q4 (av h6 apn))
    apply bi h <;> intro h7 h
    ·
     apply bi h <;> intro h8 h
     ·
      rw [← sj h]
      exact fc ([(21, .d true), (25, .d true)] ++ kH k6) (k6.b (av h7 (av h8 apn)))
     ·
      apply bn h; intro x9 h9 h
      rw [← sj h]
      exact fc ([(21, .d true), (25, .d false), (35, .v (.rp 1 0 1 x4 0)), (1035, .r ud (F69_d1 a2 a3 x4 x3 a4 a5 a1)), (44, .v (.rp 2 0 1 x4 0)), (1044, .r ud (F69_d2 a2 a3 x4 x3 a4 a5 a1))] ++ kH k6) (k6.b (av h7 (av h8 (apc q1 (apc q5 (apc q2 (apc (⟨st_row (v' := (x3 == 0)) rfl h9 rfl rfl (Nat.le_of_ble_eq_true rfl) rfl, rfl⟩ : stA (F69_d1 a2 a3 x4 x3 a4 a5 a1) 1 (.rp 2 0 1 x4 0) (vb (x3 == 0)) = some (F69_d2 a2 a3 x4 x3 a4 a5 a1) ∧ ud = ud) apn)))))))
    ·
     apply bn h; intro x8 h8 h
     rw [← sj h]
     exact fc ([(21, .d false), (35, .v (.rp 1 0 1 x4 0)), (1035, .r ud (F69_d1 a2 a3 x4 x3 a4 a5 a1)), (44, .v (.rp 2 0 1 x4 0)), (1044, .r ud (F69_d2 a2 a3 x4 x3 a4 a5 a1))] ++ kH k6) (k6.b (av h7 (apc q1 (apc q5 (apc q2 (apc (⟨st_row (v' := (x3 == 0)) rfl h8 rfl rfl (Nat.le_of_ble_eq_true rfl) rfl, rfl⟩ : stA (F69_d1 a2 a3 x4 x3 a4 a5 a1) 1 (.rp 2 0 1 x4 0) (vb (x3 == 0)) = some (F69_d2 a2 a3 x4 x3 a4 a5 a1) ∧ ud = ud) apn))))))
  ·
   cases h
 ·
  cases h
inductive E_L46_0 where
  | k0 (x0 : Bool) (x1 : List Int) (x2 : List Bool)
section
variable (a1 : GramD) (a2 : Int) (a5 : Nat)
def L46_0 (v1 : Bool) (v2 : Int) (v3 : List Int) (v4 : List Bool) : Option (E_L46_0 ⊕ (Bool × Int × (List Int) × (List Bool))) :=
  (bif (decide (v2 < a2)) then ((getI a1.prods v2).bind fun x2 => ((F54 x2).bind fun x3 => (bif x3 then ((F69 x2 v3 v4 a5).bind fun r5 => match r5 with | .k0 x5_0 x5_1 x5_2 => (bif x5_0 then (some (.inr (true, (IntKind.wrap .i64 (v2 + 1)), x5_1, x5_2))) else (some (.inr (v1, (IntKind.wrap .i64 (v2 + 1)), x5_1, x5_2))))) else (some (.inr (v1, (IntKind.wrap .i64 (v2 + 1)), v3, v4)))))) else (some (.inl (.k0 v1 v3 v4))))
def L46_0_s (v1 : Bool) (v2 : Int) (v3 : List Int) (v4 : List Bool) : St := ⟨fr 27 ug [(0, .ptr 3 0), (1, (.fn 69 [.ptr 4 0])), (4, vb v1), (11, ls 7 eProd a1.prods), (12, i6 a2), (13, i6 v2)], [bG a1, bI v3, bB v4, .cells 93 (ap (eGram a1) [.sl 1 0 1 0 a5, .sl 2 0 1 0 a5]), .cells 89 [.ptr 3 0]]⟩
theorem L46_0_k (v1 : Bool) (v2 : Int) (v3 : List Int) (v4 : List Bool) : okT 5 (L46_0_s a1 a2 a5 v1 v2 v3 v4).h = true := (okT_of rfl (ac (ar (ar (ac (ac rfl))))))
abbrev L46_0_e (v1 : Bool) (v2 : Int) (v3 : List Int) (v4 : List Bool) := evH prg 5 [0, 1, 4, 11, 12, 13] ir46_l0 (L46_0_s a1 a2 a5 v1 v2 v3 v4)
def L46_0_x (e : E_L46_0) (r : Option (Out × St)) : Prop := match e with | .k0 x0 x1 x2 => ∃ g, r = some ((.brk 2), ⟨fr 27 g [(0, .ptr 3 0), (1, (.fn 69 [.ptr 4 0])), (4, vb x0), (11, ls 7 eProd a1.prods)], [bG a1, bI x1, bB x2, .cells 93 (ap (eGram a1) [.sl 1 0 1 0 a5, .sl 2 0 1 0 a5]), .cells 89 [.ptr 3 0]]⟩)
abbrev L46_0_d0 (v3 : List Int) (v4 : List Bool) (x2 : ProdD) : List AB := [bG a1, bI v3, bB v4, .cells 93 (ap (eGram a1) [.sl 1 0 1 0 a5, .sl 2 0 1 0 a5]), .cells 89 [.ptr 3 0], yY0, bP x2]
abbrev L46_0_d1 (x5_1 : List Int) (x5_2 : List Bool) (x2 : ProdD) : List AB := [bG a1, bI x5_1, bB x5_2, .cells 93 (ap (eGram a1) [.sl 1 0 1 0 a5, .sl 2 0 1 0 a5]), .cells 89 [.ptr 3 0], yY0, bP x2, bP x2]
theorem L46_0_ok (v1 : Bool) (v2 : Int) (v3 : List Int) (v4 : List Bool) {r : E_L46_0 ⊕ (Bool × Int × (List Int) × (List Bool))} (h : L46_0 a1 a2 a5 v1 v2 v3 v4 = some r) : OkR (fun e => L46_0_x a1 a5 e (L46_0_e a1 a2 a5 v1 v2 v3 v4)) (fun s => L46_0_e a1 a2 a5 v1 v2 v3 v4 = L46_0_e a1 a2 a5 s.1 s.2.1 s.2.2.1 s.2.2.2) r := by
 unfold L46_0 at h
 apply bi h <;> intro h1 h
 ·
  apply bn h; intro x2 h2 h
  have k0 := ka [(14, .d true), (15, .v (.ro (eProd x2)))] (av h1 (apc (ig eProd 7 .i64 h2) apn))
  apply bn h; intro x3 h3 h
  apply bi h <;> intro h4 h
  ·
   have q1 := ((((F54_ok x2 h3).cp rfl _).trans (congrArg (fun z => some (vb z)) h4)) : CP prg 54 [aP x2] (L46_0_d0 a1 a5 v3 v4 x2) = some (vb true))
   apply bn h; intro r5 h5 h
   cases r5 with
   | k0 x5_0 x5_1 x5_2 =>
    apply bi h <;> intro h6 h
    ·
     rw [← sj h]
     exact rn ([(18, .v (vb true)), (22, .r (vb true) (L46_0_d1 a1 a5 x5_1 x5_2 x2)), (6000, .d true)] ++ kH k0) (k0.b (apc q1 (apc (((F69_ok x2 a1 v3 v4 a5 h5).trans (congrArg (fun z => some (vb z, ((L46_0_d1 a1 a5 x5_1 x5_2 x2) : List AB))) h6)) : CS prg 69 [aP x2, .ptr 4 0] (L46_0_d0 a1 a5 v3 v4 x2) = some (vb true, L46_0_d1 a1 a5 x5_1 x5_2 x2)) (apc (L46_0_k a1 a2 a5 true (w6 (v2 + 1)) x5_1 x5_2) apn))))
    ·
     rw [← sj h]
     exact rn ([(18, .v (vb true)), (22, .r (vb false) (L46_0_d1 a1 a5 x5_1 x5_2 x2)), (6000, .d true)] ++ kH k0) (k0.b (apc q1 (apc (((F69_ok x2 a1 v3 v4 a5 h5).trans (congrArg (fun z => some (vb z, ((L46_0_d1 a1 a5 x5_1 x5_2 x2) : List AB))) h6)) : CS prg 69 [aP x2, .ptr 4 0] (L46_0_d0 a1 a5 v3 v4 x2) = some (vb false, L46_0_d1 a1 a5 x5_1 x5_2 x2)) (apc (L46_0_k a1 a2 a5 v1 (w6 (v2 + 1)) x5_1 x5_2) apn))))
  ·
   rw [← sj h]
   exact rn ([(18, .v (vb false)), (6000, .d true)] ++ kH k0) (k0.b (apc ((((F54_ok x2 h3).cp rfl _).trans (congrArg (fun z => some (vb z)) h4)) : CP prg 54 [aP x2] (L46_0_d0 a1 a5 v3 v4 x2) = some (vb false)) (apc (L46_0_k a1 a2 a5 v1 (w6 (v2 + 1)) v3 v4) apn)))
 ·
  rw [← sj h]
  exact xb [(14, .d false), (6000, .d true)] (av h1 apn)
theorem L46_0_run (s0 : Bool × Int × (List Int) × (List Bool)) (e : E_L46_0) (h : runL (fun s => L46_0 a1 a2 a5 s.1 s.2.1 s.2.2.1 s.2.2.2) s0 = some e) : L46_0_x a1 a5 e (L46_0_e a1 a2 a5 s0.1 s0.2.1 s0.2.2.1 s0.2.2.2) := by
  have q := @loop_sound' (Bool × Int × (List Int) × (List Bool)) E_L46_0 (fun s => L46_0 a1 a2 a5 s.1 s.2.1 s.2.2.1 s.2.2.2) (fun s => L46_0_e a1 a2 a5 s.1 s.2.1 s.2.2.1 s.2.2.2) (L46_0_x a1 a5) (fun s r h => L46_0_ok a1 a2 a5 s.1 s.2.1 s.2.2.1 s.2.2.2 h) s0 e h
  exact q
end
inductive E_L46_1 where
  | k0 (x0 : List Int) (x1 : List Bool)
section
variable (a1 : GramD) (a4 : Nat)
def L46_1 (v1 : List Int) (v2 : List Bool) : Option (E_L46_1 ⊕ ((List Int) × (List Bool))) :=
  ((runL (fun s => L46_0 a1 (a1.prods.length : Int) a4 s.1 s.2.1 s.2.2.1 s.2.2.2) (false, 0, v1, v2)).bind fun r1 => match r1 with | .k0 x1_0 x1_1 x1_2 => (bif x1_0 then (some (.inr (x1_1, x1_2))) else (some (.inl (.k0 x1_1 x1_2)))))
def L46_1_s (v1 : List Int) (v2 : List Bool) : St := ⟨fr 27 ug [(0, .ptr 3 0), (1, (.fn 69 [.ptr 4 0]))], [bG a1, bI v1, bB v2, .cells 93 (ap (eGram a1) [.sl 1 0 1 0 a4, .sl 2 0 1 0 a4]), .cells 89 [.ptr 3 0]]⟩
theorem L46_1_k (v1 : List Int) (v2 : List Bool) : okT 5 (L46_1_s a1 a4 v1 v2).h = true := (okT_of rfl (ac (ar (ar (ac (ac rfl))))))
abbrev L46_1_e (v1 : List Int) (v2 : List Bool) := evH prg 5 [0, 1] ir46_l1 (L46_1_s a1 a4 v1 v2)
def L46_1_x (e : E_L46_1) (r : Option (Out × St)) : Prop := match e with | .k0 x0 x1 => ∃ g, r = some ((.brk 0), ⟨fr 27 g [(0, .ptr 3 0), (1, (.fn 69 [.ptr 4 0]))], [bG a1, bI x0, bB x1, .cells 93 (ap (eGram a1) [.sl 1 0 1 0 a4, .sl 2 0 1 0 a4]), .cells 89 [.ptr 3 0]]⟩)
abbrev L46_1_d0 (g1 : Nat → AV) (x1_0 : Bool) (x1_1 : List Int) (x1_2 : List Bool) : St := ⟨fr 27 g1 [(0, .ptr 3 0), (1, (.fn 69 [.ptr 4 0])), (4, vb x1_0), (11, ls 7 eProd a1.prods)], [bG a1, bI x1_1, bB x1_2, .cells 93 (ap (eGram a1) [.sl 1 0 1 0 a4, .sl 2 0 1 0 a4]), .cells 89 [.ptr 3 0]]⟩
theorem L46_1_ok (v1 : List Int) (v2 : List Bool) {r : E_L46_1 ⊕ ((List Int) × (List Bool))} (h : L46_1 a1 a4 v1 v2 = some r) : OkR (fun e => L46_1_x a1 a4 e (L46_1_e a1 a4 v1 v2)) (fun s => L46_1_e a1 a4 v1 v2 = L46_1_e a1 a4 s.1 s.2) r := by
 unfold L46_1 at h
 have k0 := ka [(12, .v (i6 (lP a1)))] (apc (lg a1.prods eProd 7) apn)
 apply bn h; intro r1 h1 h
 cases r1 with
 | k0 x1_0 x1_1 x1_2 =>
  obtain ⟨g1, e1⟩ := L46_0_run a1 (lP a1) a4 (false, 0, v1, v2) _ h1
  have q1 := (e1 : L46_0_e a1 (lP a1) a4 false 0 v1 v2 = some ((.brk 2), L46_1_d0 a1 a4 g1 x1_0 x1_1 x1_2))
  have k2 := k0.a [(2002, .l (.brk 2) (L46_1_d0 a1 a4 g1 x1_0 x1_1 x1_2))] (apc (L46_0_k a1 (lP a1) a4 false 0 v1 v2) (apc q1 apn))
  apply bi h <;> intro h2 h
  ·
   rw [← sj h]
   exact rn ([(25, .d true), (6000, .d true)] ++ kH k2) (k2.b (av h2 (apc (L46_1_k a1 a4 x1_1 x1_2) apn)))
  ·
   rw [← sj h]
   exact xb ([(25, .d false), (6000, .d true)] ++ kH k2) (k2.b (av h2 apn))
theorem L46_1_run (s0 : (List Int) × (List Bool)) (e : E_L46_1) (h : runL (fun s => L46_1 a1 a4 s.1 s.2) s0 = some e) : L46_1_x a1 a4 e (L46_1_e a1 a4 s0.1 s0.2) := by
  have q := @loop_sound' ((List Int) × (List Bool)) E_L46_1 (fun s => L46_1 a1 a4 s.1 s.2) (fun s => L46_1_e a1 a4 s.1 s.2) (L46_1_x a1 a4) (fun s r h => L46_1_ok a1 a4 s.1 s.2 h) s0 e h
  exact q
end
inductive E_L46_2 where
  | k0 (x0 : List Int) (x1 : List Bool)
section
variable (a1 : GramD) (a2 : List Int) (a3 : List Bool) (a4 : Nat)
def L46_2 : Option (E_L46_2 ⊕ (Unit)) :=
  ((runL (fun s => L46_1 a1 a4 s.1 s.2) (a2, a3)).bind fun r1 => match r1 with | .k0 x1_0 x1_1 => (some (.inl (.k0 x1_0 x1_1))))
def L46_2_s : St := ⟨fr 27 ug [(0, .ptr 3 0), (1, (.fn 69 [.ptr 4 0]))], [bG a1, bI a2, bB a3, .cells 93 (ap (eGram a1) [.sl 1 0 1 0 a4, .sl 2 0 1 0 a4]), .cells 89 [.ptr 3 0]]⟩
theorem L46_2_k : okT 5 (L46_2_s a1 a2 a3 a4).h = true := (okT_of rfl (ac (ar (ar (ac (ac rfl))))))
abbrev L46_2_e := evH prg 5 [0, 1] ir46_l2 (L46_2_s a1 a2 a3 a4)
def L46_2_x (e : E_L46_2) (r : Option (Out × St)) : Prop := match e with | .k0 x0 x1 => ∃ g, r = some ((.brk 2000000), ⟨fr 27 g [], [bG a1, bI x0, bB x1, .cells 93 (ap (eGram a1) [.sl 1 0 1 0 a4, .sl 2 0 1 0 a4]), .cells 89 [.ptr 3 0]]⟩)
abbrev L46_2_d0 (g1 : Nat → AV) (x1_0 : List Int) (x1_1 : List Bool) : St := ⟨fr 27 g1 [(0, .ptr 3 0), (1, (.fn 69 [.ptr 4 0]))], [bG a1, bI x1_0, bB x1_1, .cells 93 (ap (eGram a1) [.sl 1 0 1 0 a4, .sl 2 0 1 0 a4]), .cells 89 [.ptr 3 0]]⟩
theorem L46_2_ok {r : E_L46_2 ⊕ (Unit)} (h : L46_2 a1 a2 a3 a4 = some r) : OkR (fun e => L46_2_x a1 a4 e (L46_2_e a1 a2 a3 a4)) (fun s => L46_2_e a1 a2 a3 a4 = L46_2_e a1 a2 a3 a4) r := by
 unfold L46_2 at h
 apply bn h; intro r1 h1 h
 cases r1 with
 | k0 x1_0 x1_1 =>
  obtain ⟨g1, e1⟩ := L46_1_run a1 a4 (a2, a3) _ h1
  rw [← sj h]
  exact xb [(2000, .l (.brk 0) (L46_2_d0 a1 a4 g1 x1_0 x1_1)), (6000, .d true)] (apc (L46_1_k a1 a4 a2 a3) (apc (e1 : L46_1_e a1 a4 a2 a3 = some ((.brk 0), L46_2_d0 a1 a4 g1 x1_0 x1_1)) apn))
theorem L46_2_run (s0 : Unit) (e : E_L46_2) (h : runL (fun s => L46_2 a1 a2 a3 a4) s0 = some e) : L46_2_x a1 a4 e (L46_2_e a1 a2 a3 a4) := by
  have q := @loop_sound' (Unit) E_L46_2 (fun s => L46_2 a1 a2 a3 a4) (fun s => L46_2_e a1 a2 a3 a4) (L46_2_x a1 a4) (fun s r h => L46_2_ok a1 a2 a3 a4 h) s0 e h
  exact q
end
inductive R_F46 where
  | k0 (x0 : List Int) (x1 : List Bool)
def F46_v (a1 : GramD) (a2 : List Int) (a3 : List Bool) (a4 : Nat) (r : R_F46) : AV := match r with | .k0 x0 x1 => (.tup [])
def F46_h (a1 : GramD) (a2 : List Int) (a3 : List Bool) (a4 : Nat) (r : R_F46) : List AB := match r with | .k0 x0 x1 => [bG a1, bI x0, bB x1, .cells 93 (ap (eGram a1) [.sl 1 0 1 0 a4, .sl 2 0 1 0 a4]), .cells 89 [.ptr 3 0]]
def F46 (a1 : GramD) (a2 : List Int) (a3 : List Bool) (a4 : Nat) : Option R_F46 :=
  ((runL (fun s => L46_2 a1 a2 a3 a4) ()).bind fun r1 => match r1 with | .k0 x1_0 x1_1 => (some (.k0 x1_0 x1_1)))
abbrev F46_d0 (g1 : Nat → AV) (a1 : GramD) (x1_0 : List Int) (x1_1 : List Bool) (a4 : Nat) : St := ⟨fr 27 g1 [], [bG a1, bI x1_0, bB x1_1, .cells 93 (ap (eGram a1) [.sl 1 0 1 0 a4, .sl 2 0 1 0 a4]), .cells 89 [.ptr 3 0]]⟩
theorem F46_ok (a1 : GramD) (a2 : List Int) (a3 : List Bool) (a4 : Nat) {r : R_F46} (h : F46 a1 a2 a3 a4 = some r) : CS prg 46 [.ptr 3 0, (.fn 69 [.ptr 4 0])] [bG a1, bI a2, bB a3, .cells 93 (ap (eGram a1) [.sl 1 0 1 0 a4, .sl 2 0 1 0 a4]), .cells 89 [.ptr 3 0]] = some (F46_v a1 a2 a3 a4 r, F46_h a1 a2 a3 a4 r) := by
 unfold F46 at h
 apply bn h; intro r1 h1 h
 cases r1 with
 | k0 x1_0 x1_1 =>
  obtain ⟨g1, e1⟩ := L46_2_run a1 a2 a3 a4 () _ h1
  rw [← sj h]
  exact fc [(2002000, .l (.brk 2000000) (F46_d0 g1 a1 x1_0 x1_1 a4)), (6000, .d true)] (apc (L46_2_k a1 a2 a3 a4) (apc (e1 : L46_2_e a1 a2 a3 a4 = some ((.brk 2000000), F46_d0 g1 a1 x1_0 x1_1 a4)) apn))
inductive R_F45 where
  | k0 (x0 : Int)
  | k1 (x0 : List ByteArray) (x1 : List ProdD) (x2 : Int) (x3 : List ForbD) (x4 : List FollD) (x5 : List Int) (x6 : List Bool)
def F45_v (a1 : GramD) (r : R_F45) : AV := match r with | .k0 x0 => (.tup [(.p (.val (.pointer .none))), i6 x0]) | .k1 x0 x1 x2 x3 x4 x5 x6 => (.tup [(.ro [.lst 1 (x0.map eStr), .lst 7 (x1.map eProd), .val (.int .i64 x2), .lst 3 (x3.map eForb), .lst 5 (x4.map eFoll), .lst 1 (x5.map eI64), .lst 1 (x6.map eBool)]), i6 0])
def F45 (a1 : GramD) : Option R_F45 :=
  ((F29 a1).bind fun x1 => (bif (x1 != 0) then (some (.k0 x1)) else (bif (mkOk (a1.sorts.length : Int) 8) then (bif (mkOk (a1.sorts.length : Int) 1) then ((runL (fun s => L45_0 (((Int.toNat (a1.sorts.length : Int)) : Nat) : Int) (Int.toNat (a1.sorts.length : Int)) s.1 s.2) (0, (List.replicate (Int.toNat (a1.sorts.length : Int)) 0))).bind fun r5 => match r5 with | .k0 x5_0 => ((F46 a1 x5_0 (List.replicate (Int.toNat (a1.sorts.length : Int)) false) (Int.toNat (a1.sorts.length : Int))).bind fun r6 => match r6 with | .k0 x6_0 x6_1 => (bif (decide ((Int.toNat (a1.sorts.length : Int)) ≤ x6_0.length)) then (bif (decide ((Int.toNat (a1.sorts.length : Int)) ≤ x6_1.length)) then (some (.k1 a1.sorts a1.prods a1.start a1.forbid a1.follow (x6_0.take (Int.toNat (a1.sorts.length : Int))) (x6_1.take (Int.toNat (a1.sorts.length : Int))))) else none) else none))) else none) else none)))
abbrev F45_d0 (g5 : Nat → AV) (a1 : GramD) (x5_0 : List Int) : St := ⟨fr 42 g5 [(5, .ptr 4 0)], [bG a1, bI x5_0, bB (List.replicate (tS a1) false), .cells 93 (ap (eGram a1) [(.sl 1 0 1 0 (tS a1)), (.sl 2 0 1 0 (tS a1))]), .cells 89 [.ptr 3 0]]⟩
abbrev F45_d1 (a1 : GramD) (x6_0 : List Int) (x6_1 : List Bool) : List AB := [bG a1, bI x6_0, bB x6_1, .cells 93 (ap (eGram a1) [(.sl 1 0 1 0 (tS a1)), (.sl 2 0 1 0 (tS a1))]), .cells 89 [.ptr 3 0]]
theorem F45_ok (a1 : GramD) {r : R_F45} (h : F45 a1 = some r) : PR1 prg 45 [aG a1] (F45_v a1 r) := by
 unfold F45 at h
 have q0 := (L45_0_k (((tS a1) : Nat) : Int) a1 (List.replicate (tS a1) false) (tS a1) 0 (List.replicate (tS a1) 0))
 apply bn h; intro x1 h1 h
 have q1 := (((F29_ok a1 h1).cp rfl _) : CP prg 29 [aG a1] [bG a1] = some (i6 x1))
 apply bi h <;> intro h2 h
 ·
  rw [← sj h]
  exact fq [(8, .v (i6 x1)), (10, .d true)] (apc q1 (av h2 apn))
 ·
  have k2 := ka [(8, .v (i6 x1)), (10, .d false), (15, .v (i6 (lS a1)))] (apc q1 (av h2 (apc (lg a1.sorts eStr 1) apn)))
  apply bi h <;> intro h3 h
  ·
   have q3 := ((mk_row (e := eI64) (z := 0) h3 rfl) : mkA 3 1 8 [.val (.int .i64 0)] (i6 (lS a1)) (i6 (lS a1)) 1 = some ((.sl 1 0 1 0 (tS a1)), bI (List.replicate (tS a1) 0)))
   have k4 := k2.a [(16, .r (.sl 1 0 1 0 (tS a1)) [bI (List.replicate (tS a1) 0)]), (19, .v (i6 (lS a1)))] (apc q3 (apc (lg a1.sorts eStr 1) apn))
   apply bi h <;> intro h4 h
   ·
    have q5 := ((mk_row (e := eBool) (z := false) h4 rfl) : mkA 4 1 1 [.val (.bool false)] (i6 (lS a1)) (i6 (lS a1)) 2 = some ((.sl 2 0 1 0 (tS a1)), bB (List.replicate (tS a1) false)))
    have k6 := k4.a [(20, .r (.sl 2 0 1 0 (tS a1)) [bB (List.replicate (tS a1) false)])] (apc q5 apn)
    apply bn h; intro r5 h5 h
    cases r5 with
    | k0 x5_0 =>
     obtain ⟨g5, e5⟩ := L45_0_run (((tS a1) : Nat) : Int) a1 (List.replicate (tS a1) false) (tS a1) (0, (List.replicate (tS a1) 0)) _ h5
     have q7 := (e5 : L45_0_e (((tS a1) : Nat) : Int) a1 (List.replicate (tS a1) false) (tS a1) 0 (List.replicate (tS a1) 0) = some ((.brk 0), F45_d0 g5 a1 x5_0))
     have k8 := k6.a [(2000, .l (.brk 0) (F45_d0 g5 a1 x5_0))] (apc q0 (apc q7 apn))
     apply bn h; intro r6 h6 h
     cases r6 with
     | k0 x6_0 x6_1 =>
      have q9 := ((F46_ok a1 x5_0 (List.replicate (tS a1) false) (tS a1) h6) : CS prg 46 [.ptr 3 0, (.fn 69 [.ptr 4 0])] [bG a1, bI x5_0, bB (List.replicate (tS a1) false), .cells 93 (ap (eGram a1) [(.sl 1 0 1 0 (tS a1)), (.sl 2 0 1 0 (tS a1))]), .cells 89 [.ptr 3 0]] = some ((.tup []), F45_d1 a1 x6_0 x6_1))
      have k10 := k8.a [(40, .r (.tup []) (F45_d1 a1 x6_0 x6_1))] (apc q9 apn)
      apply bi h <;> intro h7 h
      ·
       apply bi h <;> intro h8 h
       ·
        rw [← sj h]
        exact fpo (v := (.tup [.ptr 3 0, i6 0])) (h' := (F45_d1 a1 x6_0 x6_1)) ([(6000, .d true)] ++ kH k10) (k10.b apn) (purA_tup (purAs_cons (purA_ptr rfl (mapO_con rfl (mapO_con rfl (mapO_con rfl (mapO_con rfl (mapO_con rfl (mapO_con (purP_sl (e := eI64) rfl h7) (mapO_con (purP_sl (e := eBool) rfl h8) rfl)))))))) (purAs_cons rfl purAs_nil))) (by kernel_rfl)
       ·
        cases h
      ·
       cases h
   ·
    cases h
  ·
   cases h
inductive E_L76_0 where
  | k0 (x0 x1 x2 x3 : Int)
section
variable (a1 : List SetD) (a2 a3 : Int) (a8 : SetD)
def L76_0 (v1 v2 v3 v4 v5 : Int) : Option (E_L76_0 ⊕ (Int × Int × Int × Int × Int)) :=
  (bif (decide (v1 < 4)) then (bif (v1 == 0) then (some (.inr ((IntKind.wrap .i64 (v1 + 1)), (IntKind.wrap .u64 ((BitVec.ofInt (IntKind.bits .u64) v2 ||| BitVec.ofInt (IntKind.bits .u64) a8.a).toNat : Int)), v3, v4, v5))) else (bif (v1 == 1) then (some (.inr ((IntKind.wrap .i64 (v1 + 1)), v2, (IntKind.wrap .u64 ((BitVec.ofInt (IntKind.bits .u64) v3 ||| BitVec.ofInt (IntKind.bits .u64) a8.b).toNat : Int)), v4, v5))) else (bif (v1 == 2) then (some (.inr ((IntKind.wrap .i64 (v1 + 1)), v2, v3, (IntKind.wrap .u64 ((BitVec.ofInt (IntKind.bits .u64) v4 ||| BitVec.ofInt (IntKind.bits .u64) a8.c).toNat : Int)), v5))) else (bif (v1 == 3) then (some (.inr ((IntKind.wrap .i64 (v1 + 1)), v2, v3, v4, (IntKind.wrap .u64 ((BitVec.ofInt (IntKind.bits .u64) v5 ||| BitVec.ofInt (IntKind.bits .u64) a8.d).toNat : Int))))) else none)))) else (some (.inl (.k0 v2 v3 v4 v5))))
def L76_0_s (v1 v2 v3 v4 v5 : Int) : St := ⟨fr 27 ug [(2, .ptr 0 0), (3, .ptr 1 0), (5, .ptr 2 0), (7, ls 4 eSet a1), (8, i6 a2), (9, i6 a3), (13, i6 v1)], [.cells 46 [vi .u64 0, vi .u64 0, vi .u64 0, vi .u64 0], .cells 46 [vi .u64 v2, vi .u64 v3, vi .u64 v4, vi .u64 v5], .cells 46 ((eSet a8).map .p)]⟩
theorem L76_0_k (v1 v2 v3 v4 v5 : Int) : okT 3 (L76_0_s a1 a2 a3 a8 v1 v2 v3 v4 v5).h = true := (okT_of rfl (ac (ac (ac rfl))))
abbrev L76_0_e (v1 v2 v3 v4 v5 : Int) := evH prg 3 [2, 3, 5, 7, 8, 9, 13] ir76_l0 (L76_0_s a1 a2 a3 a8 v1 v2 v3 v4 v5)
def L76_0_x (e : E_L76_0) (r : Option (Out × St)) : Prop := match e with | .k0 x0 x1 x2 x3 => ∃ g, r = some ((.brk 2), ⟨fr 27 g [(2, .ptr 0 0), (3, .ptr 1 0), (5, .ptr 2 0), (7, ls 4 eSet a1), (8, i6 a2), (9, i6 a3)], [.cells 46 [vi .u64 0, vi .u64 0, vi .u64 0, vi .u64 0], .cells 46 [vi .u64 x0, vi .u64 x1, vi .u64 x2, vi .u64 x3], .cells 46 ((eSet a8).map .p)]⟩)
theorem L76_0_ok (v1 v2 v3 v4 v5 : Int) {r : E_L76_0 ⊕ (Int × Int × Int × Int × Int)} (h : L76_0 a8 v1 v2 v3 v4 v5 = some r) : OkR (fun e => L76_0_x a1 a2 a3 a8 e (L76_0_e a1 a2 a3 a8 v1 v2 v3 v4 v5)) (fun s => L76_0_e a1 a2 a3 a8 v1 v2 v3 v4 v5 = L76_0_e a1 a2 a3 a8 s.1 s.2.1 s.2.2.1 s.2.2.2.1 s.2.2.2.2) r := by
 unfold L76_0 at h
 apply bi h <;> intro h1 h
 ·
  apply bi h <;> intro h2 h
  ·
   have q0 := ((ix_lit h2 (fun z => ixP 4 1 (.ptr 1 0) (i6 z)) rfl) : ixP 4 1 (.ptr 1 0) (i6 v1) = some (.ptr 1 0))
   rw [← sj h]
   exact rn [(14, .d true), (17, .v (.ptr 1 0)), (20, .v (.ptr 2 0)), (23, .v (.ptr 1 0)), (6000, .d true)] (av h1 (apc q0 (apc ((ix_lit h2 (fun z => ixP 4 1 (.ptr 2 0) (i6 z)) rfl) : ixP 4 1 (.ptr 2 0) (i6 v1) = some (.ptr 2 0)) (apc q0 (apc (L76_0_k a1 a2 a3 a8 (w6 (v1 + 1)) (IntKind.wrap .u64 ((BitVec.ofInt (IntKind.bits .u64) v2 ||| BitVec.ofInt (IntKind.bits .u64) a8.a).toNat : Int)) v3 v4 v5) apn)))))
  ·
   apply bi h <;> intro h3 h
   ·
    have q1 := ((ix_lit h3 (fun z => ixP 4 1 (.ptr 1 0) (i6 z)) rfl) : ixP 4 1 (.ptr 1 0) (i6 v1) = some (.ptr 1 1))
    rw [← sj h]
    exact rn [(14, .d true), (17, .v (.ptr 1 1)), (20, .v (.ptr 2 1)), (23, .v (.ptr 1 1)), (6000, .d true)] (av h1 (apc q1 (apc ((ix_lit h3 (fun z => ixP 4 1 (.ptr 2 0) (i6 z)) rfl) : ixP 4 1 (.ptr 2 0) (i6 v1) = some (.ptr 2 1)) (apc q1 (apc (L76_0_k a1 a2 a3 a8 (w6 (v1 + 1)) v2 (IntKind.wrap .u64 ((BitVec.ofInt (IntKind.bits .u64) v3 ||| BitVec.ofInt (IntKind.bits .u64) a8.b).toNat : Int)) v4 v5) apn)))))
   ·
    apply bi h <;> intro h4 h
    ·
     have q2 := ((ix_lit h4 (fun z => ixP 4 1 (.ptr 1 0) (i6 z)) rfl) : ixP 4 1 (.ptr 1 0) (i6 v1) = some (.ptr 1 2))
     rw [← sj h]
     exact rn [(14, .d true), (17, .v (.ptr 1 2)), (20, .v (.ptr 2 2)), (23, .v (.ptr 1 2)), (6000, .d true)] (av h1 (apc q2 (apc ((ix_lit h4 (fun z => ixP 4 1 (.ptr 2 0) (i6 z)) rfl) : ixP 4 1 (.ptr 2 0) (i6 v1) = some (.ptr 2 2)) (apc q2 (apc (L76_0_k a1 a2 a3 a8 (w6 (v1 + 1)) v2 v3 (IntKind.wrap .u64 ((BitVec.ofInt (IntKind.bits .u64) v4 ||| BitVec.ofInt (IntKind.bits .u64) a8.c).toNat : Int)) v5) apn)))))
    ·
     apply bi h <;> intro h5 h
     ·
      have q3 := ((ix_lit h5 (fun z => ixP 4 1 (.ptr 1 0) (i6 z)) rfl) : ixP 4 1 (.ptr 1 0) (i6 v1) = some (.ptr 1 3))
      rw [← sj h]
      exact rn [(14, .d true), (17, .v (.ptr 1 3)), (20, .v (.ptr 2 3)), (23, .v (.ptr 1 3)), (6000, .d true)] (av h1 (apc q3 (apc ((ix_lit h5 (fun z => ixP 4 1 (.ptr 2 0) (i6 z)) rfl) : ixP 4 1 (.ptr 2 0) (i6 v1) = some (.ptr 2 3)) (apc q3 (apc (L76_0_k a1 a2 a3 a8 (w6 (v1 + 1)) v2 v3 v4 (IntKind.wrap .u64 ((BitVec.ofInt (IntKind.bits .u64) v5 ||| BitVec.ofInt (IntKind.bits .u64) a8.d).toNat : Int))) apn)))))
     ·
      cases h
 ·
  rw [← sj h]
  exact xb [(14, .d false), (6000, .d true)] (av h1 apn)
theorem L76_0_run (s0 : Int × Int × Int × Int × Int) (e : E_L76_0) (h : runL (fun s => L76_0 a8 s.1 s.2.1 s.2.2.1 s.2.2.2.1 s.2.2.2.2) s0 = some e) : L76_0_x a1 a2 a3 a8 e (L76_0_e a1 a2 a3 a8 s0.1 s0.2.1 s0.2.2.1 s0.2.2.2.1 s0.2.2.2.2) := by
  have q := @loop_sound' (Int × Int × Int × Int × Int) E_L76_0 (fun s => L76_0 a8 s.1 s.2.1 s.2.2.1 s.2.2.2.1 s.2.2.2.2) (fun s => L76_0_e a1 a2 a3 a8 s.1 s.2.1 s.2.2.1 s.2.2.2.1 s.2.2.2.2) (L76_0_x a1 a2 a3 a8) (fun s r h => L76_0_ok a1 a2 a3 a8 s.1 s.2.1 s.2.2.1 s.2.2.2.1 s.2.2.2.2 h) s0 e h
  exact q
end
inductive E_L76_1 where
  | k0 (x0 x1 x2 x3 : Int)
section
variable (a1 : List SetD) (a2 : Int)
def L76_1 (v1 v2 v3 v4 v5 : Int) : Option (E_L76_1 ⊕ (Int × Int × Int × Int × Int)) :=
  (bif (decide (v1 < a2)) then ((getI a1 v1).bind fun x2 => ((runL (fun s => L76_0 x2 s.1 s.2.1 s.2.2.1 s.2.2.2.1 s.2.2.2.2) (0, v2, v3, v4, v5)).bind fun r3 => match r3 with | .k0 x3_0 x3_1 x3_2 x3_3 => (some (.inr ((IntKind.wrap .i64 (v1 + 1)), x3_0, x3_1, x3_2, x3_3))))) else (some (.inl (.k0 v2 v3 v4 v5))))
def L76_1_s (v1 v2 v3 v4 v5 : Int) : St := ⟨fr 27 ug [(2, .ptr 0 0), (3, .ptr 1 0), (7, ls 4 eSet a1), (8, i6 a2), (9, i6 v1)], [.cells 46 [vi .u64 0, vi .u64 0, vi .u64 0, vi .u64 0], .cells 46 [vi .u64 v2, vi .u64 v3, vi .u64 v4, vi .u64 v5]]⟩
theorem L76_1_k (v1 v2 v3 v4 v5 : Int) : okT 2 (L76_1_s a1 a2 v1 v2 v3 v4 v5).h = true := (okT_of rfl (ac (ac rfl)))
abbrev L76_1_e (v1 v2 v3 v4 v5 : Int) := evH prg 2 [2, 3, 7, 8, 9] ir76_l1 (L76_1_s a1 a2 v1 v2 v3 v4 v5)
def L76_1_x (e : E_L76_1) (r : Option (Out × St)) : Prop := match e with | .k0 x0 x1 x2 x3 => ∃ g, r = some ((.brk 0), ⟨fr 27 g [(2, .ptr 0 0), (3, .ptr 1 0), (7, ls 4 eSet a1)], [.cells 46 [vi .u64 0, vi .u64 0, vi .u64 0, vi .u64 0], .cells 46 [vi .u64 x0, vi .u64 x1, vi .u64 x2, vi .u64 x3]]⟩)
abbrev L76_1_d0 (g3 : Nat → AV) (v1 x3_0 x3_1 x3_2 x3_3 : Int) (x2 : SetD) : St := ⟨fr 27 g3 [(2, .ptr 0 0), (3, .ptr 1 0), (5, .ptr 2 0), (7, ls 4 eSet a1), (8, i6 a2), (9, i6 v1)], [.cells 46 [vi .u64 0, vi .u64 0, vi .u64 0, vi .u64 0], .cells 46 [vi .u64 x3_0, vi .u64 x3_1, vi .u64 x3_2, vi .u64 x3_3], .cells 46 ((eSet x2).map .p)]⟩
theorem L76_1_ok (v1 v2 v3 v4 v5 : Int) {r : E_L76_1 ⊕ (Int × Int × Int × Int × Int)} (h : L76_1 a1 a2 v1 v2 v3 v4 v5 = some r) : OkR (fun e => L76_1_x a1 e (L76_1_e a1 a2 v1 v2 v3 v4 v5)) (fun s => L76_1_e a1 a2 v1 v2 v3 v4 v5 = L76_1_e a1 a2 s.1 s.2.1 s.2.2.1 s.2.2.2.1 s.2.2.2.2) r := by
 unfold L76_1 at h
 apply bi h <;> intro h1 h
 ·
  apply bn h; intro x2 h2 h
  apply bn h; intro r3 h3 h
  cases r3 with
  | k0 x3_0 x3_1 x3_2 x3_3 =>
   obtain ⟨g3, e3⟩ := L76_0_run a1 a2 v1 x2 (0, v2, v3, v4, v5) _ h3
   rw [← sj h]
   exact rn [(10, .d true), (11, .v (.ro (eSet x2))), (2002, .l (.brk 2) (L76_1_d0 a1 a2 g3 v1 x3_0 x3_1 x3_2 x3_3 x2)), (6000, .d true)] (av h1 (apc (ig eSet 4 .i64 h2) (apc (L76_0_k a1 a2 v1 x2 0 v2 v3 v4 v5) (apc (e3 : L76_0_e a1 a2 v1 x2 0 v2 v3 v4 v5 = some ((.brk 2), L76_1_d0 a1 a2 g3 v1 x3_0 x3_1 x3_2 x3_3 x2)) (apc (L76_1_k a1 a2 (w6 (v1 + 1)) x3_0 x3_1 x3_2 x3_3) apn)))))
 ·
  rw [← sj h]
  exact xb [(10, .d false), (6000, .d true)] (av h1 apn)
theorem L76_1_run (s0 : Int × Int × Int × Int × Int) (e : E_L76_1) (h : runL (fun s => L76_1 a1 a2 s.1 s.2.1 s.2.2.1 s.2.2.2.1 s.2.2.2.2) s0 = some e) : L76_1_x a1 e (L76_1_e a1 a2 s0.1 s0.2.1 s0.2.2.1 s0.2.2.2.1 s0.2.2.2.2) := by
  have q := @loop_sound' (Int × Int × Int × Int × Int) E_L76_1 (fun s => L76_1 a1 a2 s.1 s.2.1 s.2.2.1 s.2.2.2.1 s.2.2.2.2) (fun s => L76_1_e a1 a2 s.1 s.2.1 s.2.2.1 s.2.2.2.1 s.2.2.2.2) (L76_1_x a1) (fun s r h => L76_1_ok a1 a2 s.1 s.2.1 s.2.2.1 s.2.2.2.1 s.2.2.2.2 h) s0 e h
  exact q
end
inductive R_F76 where
  | k0 (x0 x1 x2 x3 : Int)
def F76_v (a1 : List SetD) (r : R_F76) : AV := match r with | .k0 x0 x1 x2 x3 => (.agg [vi .u64 x0, vi .u64 x1, vi .u64 x2, vi .u64 x3])
def F76 (a1 : List SetD) : Option R_F76 :=
  ((runL (fun s => L76_1 a1 (a1.length : Int) s.1 s.2.1 s.2.2.1 s.2.2.2.1 s.2.2.2.2) (0, 0, 0, 0, 0)).bind fun r1 => match r1 with | .k0 x1_0 x1_1 x1_2 x1_3 => (some (.k0 x1_0 x1_1 x1_2 x1_3)))
abbrev F76_d0 (g1 : Nat → AV) (a1 : List SetD) (x1_0 x1_1 x1_2 x1_3 : Int) : St := ⟨fr 27 g1 [(2, .ptr 0 0), (3, .ptr 1 0), (7, ls 4 eSet a1)], [.cells 46 [vi .u64 0, vi .u64 0, vi .u64 0, vi .u64 0], .cells 46 [vi .u64 x1_0, vi .u64 x1_1, vi .u64 x1_2, vi .u64 x1_3]]⟩
theorem F76_ok (a1 : List SetD) {r : R_F76} (h : F76 a1 = some r) : PR1 prg 76 [ls 4 eSet a1] (F76_v a1 r) := by
 unfold F76 at h
 apply bn h; intro r1 h1 h
 cases r1 with
 | k0 x1_0 x1_1 x1_2 x1_3 =>
  obtain ⟨g1, e1⟩ := L76_1_run a1 (a1.length : Int) (0, 0, 0, 0, 0) _ h1
  rw [← sj h]
  exact fq [(8, .v (i6 (a1.length : Int))), (2000, .l (.brk 0) (F76_d0 g1 a1 x1_0 x1_1 x1_2 x1_3)), (6000, .d true)] (apc (lg a1 eSet 4) (apc (L76_1_k a1 (a1.length : Int) 0 0 0 0 0) (apc (e1 : L76_1_e a1 (a1.length : Int) 0 0 0 0 0 = some ((.brk 0), F76_d0 g1 a1 x1_0 x1_1 x1_2 x1_3)) apn)))
def F55_v (a1 : GramD) (a2 : List Int) (a3 : List Bool) (a4 : SymD) (x0 : Bool) : AV := (vb x0)
def F55 (a3 : List Bool) (a4 : SymD) : Option Bool :=
  (bif (a4.kind == 1) then ((getI a3 a4.sort).bind fun x2 => (some x2)) else (some false))
theorem F55_ok (a1 : GramD) (a2 : List Int) (a3 : List Bool) (a4 : SymD) {r : Bool} (h : F55 a3 a4 = some r) : PR1 prg 55 [(.ro (eOp a1 a2 a3)), (.agg ((eSym a4).map .p))] (F55_v a1 a2 a3 a4 r) := by
 unfold F55 at h
 apply bi h <;> intro h1 h
 ·
  apply bn h; intro x2 h2 h
  rw [← sj h]
  exact fq [(7, .d true), (15, .v (.ro [.val (.bool x2)]))] (av h1 (apc (ig eBool 1 .i64 h2) apn))
 ·
  rw [← sj h]
  exact fq [(7, .d false)] (av h1 apn)
inductive E_L75_0 where
  | k0 (x0 : List SetD) (x1 x2 x3 x4 x5 x6 x7 x8 x9 x10 x11 x12 x13 x14 : Int)
  | k1 (x0 : List SetD)
section
variable (a1 : ProdD) (a2 : Int) (a3 : GramD) (a4 : List Int) (a5 : List Bool) (a7 : Nat) (a8 : SetD)
abbrev L75_0_p (l : List AB) : List AB := .cells 89 [(.ro (eOp a3 a4 a5))] :: bS [] :: l
def L75_0 (v1 : Int) (v2 : List SetD) : Option (E_L75_0 ⊕ (Int × (List SetD))) :=
  (bif (decide (v1 < a2)) then ((getI a1.right v1).bind fun x2 => (bif (x2.kind == 0) then ((ixN a7 a1.left).bind fun x4 => ((v2[x4]?).bind fun x5 => ((F76 ([(⟨x5.a, x5.b, x5.c, x5.d⟩ : SetD), (⟨x2.a, x2.b, x2.c, x2.d⟩ : SetD)])).bind fun r6 => match r6 with | .k0 x6_0 x6_1 x6_2 x6_3 => (some (.inl (.k0 (v2.set x4 (⟨x6_0, x6_1, x6_2, x6_3⟩ : SetD)) x2.kind x2.a x2.b x2.c x2.d x2.sort x5.a x5.b x5.c x5.d x2.a x2.b x2.c x2.d)))))) else ((ixN a7 a1.left).bind fun x4 => ((v2[x4]?).bind fun x5 => ((ixN a7 x2.sort).bind fun x6 => ((v2[x6]?).bind fun x7 => ((F76 ([(⟨x5.a, x5.b, x5.c, x5.d⟩ : SetD), (⟨x7.a, x7.b, x7.c, x7.d⟩ : SetD)])).bind fun r8 => match r8 with | .k0 x8_0 x8_1 x8_2 x8_3 => ((F55 a5 x2).bind fun x9 => (bif x9 then (some (.inr ((IntKind.wrap .i64 (v1 + 1)), (v2.set x4 (⟨x8_0, x8_1, x8_2, x8_3⟩ : SetD))))) else (some (.inl (.k0 (v2.set x4 (⟨x8_0, x8_1, x8_2, x8_3⟩ : SetD)) x2.kind x2.a x2.b x2.c x2.d x2.sort x5.a x5.b x5.c x5.d x7.a x7.b x7.c x7.d)))))))))))) else (some (.inl (.k1 v2))))
def L75_0_s (v1 : Int) (v2 : List SetD) : St := ⟨fr 68 ug [(1, .ptr 0 0), (2, .ptr 4 0), (3, .ptr 7 0), (5, .ptr 8 0), (18, ls 6 eSym a1.right), (19, i6 a2), (20, i6 v1)], (L75_0_p a3 a4 a5 [bS v2, bS [], .cells 63 [.sl 2 0 4 0 a7], yY0, bP a1, bP a1, .cells 46 ((eSet a8).map .p)])⟩
theorem L75_0_k (v1 : Int) (v2 : List SetD) : okT 9 (L75_0_s a1 a2 a3 a4 a5 a7 a8 v1 v2).h = true := (okT_of rfl (ac (ar (ar (ar (ac (ar (ac (ac (ac rfl))))))))))
abbrev L75_0_e (v1 : Int) (v2 : List SetD) := evH prg 9 [1, 2, 3, 5, 18, 19, 20] ir75_l0 (L75_0_s a1 a2 a3 a4 a5 a7 a8 v1 v2)
def L75_0_x (e : E_L75_0) (r : Option (Out × St)) : Prop := match e with | .k0 x0 x1 x2 x3 x4 x5 x6 x7 x8 x9 x10 x11 x12 x13 x14 => ∃ g, r = some ((.brk 0), ⟨fr 68 g [(1, .ptr 0 0), (2, .ptr 4 0), (3, .ptr 7 0), (5, .ptr 8 0), (18, ls 6 eSym a1.right)], (L75_0_p a3 a4 a5 [bS x0, bS [], .cells 63 [.sl 2 0 4 0 a7], yY0, bP a1, bP a1, .cells 46 ((eSet a8).map .p), .cells 48 [i6 x1, vi .u64 x2, vi .u64 x3, vi .u64 x4, vi .u64 x5, i6 x6], .row 46 4 0 [[vi .u64 x7, vi .u64 x8, vi .u64 x9, vi .u64 x10], [vi .u64 x11, vi .u64 x12, vi .u64 x13, vi .u64 x14]]])⟩) | .k1 x0 => ∃ g, r = some ((.brk 0), ⟨fr 68 g [(1, .ptr 0 0), (2, .ptr 4 0), (3, .ptr 7 0), (5, .ptr 8 0), (18, ls 6 eSym a1.right)], (L75_0_p a3 a4 a5 [bS x0, bS [], .cells 63 [.sl 2 0 4 0 a7], yY0, bP a1, bP a1, .cells 46 ((eSet a8).map .p)])⟩)
abbrev L75_0_d0 (v2 : List SetD) (x4 : Nat) (x6_0 x6_1 x6_2 x6_3 : Int) (x2 : SymD) (x5 : SetD) : List AB := (L75_0_p a3 a4 a5 [bS (v2.set x4 (⟨x6_0, x6_1, x6_2, x6_3⟩ : SetD)), bS [], .cells 63 [.sl 2 0 4 0 a7], yY0, bP a1, bP a1, .cells 46 ((eSet a8).map .p), .cells 48 ((eSym x2).map .p), .row 46 4 0 [[vi .u64 x5.a, vi .u64 x5.b, vi .u64 x5.c, vi .u64 x5.d], [vi .u64 x2.a, vi .u64 x2.b, vi .u64 x2.c, vi .u64 x2.d]]])
abbrev L75_0_d1 (v2 : List SetD) (x2 : SymD) : List AB := (L75_0_p a3 a4 a5 [bS v2, bS [], .cells 63 [.sl 2 0 4 0 a7], yY0, bP a1, bP a1, .cells 46 ((eSet a8).map .p), .cells 48 ((eSym x2).map .p)])
abbrev L75_0_d2 (v2 : List SetD) (x2 : SymD) (x5 : SetD) : List AB := (L75_0_p a3 a4 a5 [bS v2, bS [], .cells 63 [.sl 2 0 4 0 a7], yY0, bP a1, bP a1, .cells 46 ((eSet a8).map .p), .cells 48 ((eSym x2).map .p), .row 46 4 0 [[vi .u64 x5.a, vi .u64 x5.b, vi .u64 x5.c, vi .u64 x5.d], [vi .u64 x2.a, vi .u64 x2.b, vi .u64 x2.c, vi .u64 x2.d]]])
abbrev L75_0_d3 (v2 : List SetD) (x2 : SymD) (x5 x7 : SetD) : List AB := (L75_0_p a3 a4 a5 [bS v2, bS [], .cells 63 [.sl 2 0 4 0 a7], yY0, bP a1, bP a1, .cells 46 ((eSet a8).map .p), .cells 48 ((eSym x2).map .p), .row 46 4 0 [[vi .u64 x5.a, vi .u64 x5.b, vi .u64 x5.c, vi .u64 x5.d], [vi .u64 x7.a, vi .u64 x7.b, vi .u64 x7.c, vi .u64 x7.d]]])
abbrev L75_0_d4 (v2 : List SetD) (x4 : Nat) (x8_0 x8_1 x8_2 x8_3 : Int) (x2 : SymD) (x5 x7 : SetD) : List AB := (L75_0_p a3 a4 a5 [bS (v2.set x4 (⟨x8_0, x8_1, x8_2, x8_3⟩ : SetD)), bS [], .cells 63 [.sl 2 0 4 0 a7], yY0, bP a1, bP a1, .cells 46 ((eSet a8).map .p), .cells 48 ((eSym x2).map .p), .row 46 4 0 [[vi .u64 x5.a, vi .u64 x5.b, vi .u64 x5.c, vi .u64 x5.d], [vi .u64 x7.a, vi .u64 x7.b, vi .u64 x7.c, vi .u64 x7.d]]])
theorem L75_0_ok (v1 : Int) (v2 : List SetD) {r : E_L75_0 ⊕ (Int × (List SetD))} (h : L75_0 a1 a2 a5 a7 v1 v2 = some r) : OkR (fun e => L75_0_x a1 a3 a4 a5 a7 a8 e (L75_0_e a1 a2 a3 a4 a5 a7 a8 v1 v2)) (fun s => L75_0_e a1 a2 a3 a4 a5 a7 a8 v1 v2 = L75_0_e a1 a2 a3 a4 a5 a7 a8 s.1 s.2) r := by
 unfold L75_0 at h
 apply bi h <;> intro h1 h
 ·
  apply bn h; intro x2 h2 h
  have k0 := ka [(21, .d true), (22, .v (.ro (eSym x2)))] (av h1 (apc (ig eSym 6 .i64 h2) apn))
  apply bi h <;> intro h3 h
  ·
   apply bn h; intro x4 h4 h
   have q1 := ((idx_sl h4) : idxA 4 (.sl 2 0 4 0 a7) (i6 a1.left) = some (.rp 2 0 4 x4 0))
   apply bn h; intro x5 h5 h
   apply bn h; intro r6 h6 h
   cases r6 with
   | k0 x6_0 x6_1 x6_2 x6_3 =>
    rw [← sj h]
    exact xb ([(26, .d true), (33, .v (.rp 2 0 4 x4 0)), (34, .v (.agg ((eSet x5).map .p))), (38, .v (.agg [vi .u64 x6_0, vi .u64 x6_1, vi .u64 x6_2, vi .u64 x6_3])), (39, .v (.rp 2 0 4 x4 0)), (1039, .r ud (L75_0_d0 a1 a3 a4 a5 a7 a8 v2 x4 x6_0 x6_1 x6_2 x6_3 x2 x5)), (6000, .d true)] ++ kH k0) (k0.b (av h3 (apc q1 (apc ((ld_row rfl h5 rfl) : ldA (L75_0_d1 a1 a3 a4 a5 a7 a8 v2 x2) .true 4 (.rp 2 0 4 x4 0) = some (.agg ((eSet x5).map .p))) (apc (((F76_ok ([(⟨x5.a, x5.b, x5.c, x5.d⟩ : SetD), (⟨x2.a, x2.b, x2.c, x2.d⟩ : SetD)]) h6).own rfl (purAs_cons (purA_sl (e := eSet) (xs := [(⟨x5.a, x5.b, x5.c, x5.d⟩ : SetD), (⟨x2.a, x2.b, x2.c, x2.d⟩ : SetD)]) rfl rfl) purAs_nil) rfl) : CP prg 76 [.sl 10 0 4 0 2] (L75_0_d2 a1 a3 a4 a5 a7 a8 v2 x2 x5) = some (.agg [vi .u64 x6_0, vi .u64 x6_1, vi .u64 x6_2, vi .u64 x6_3])) (apc q1 (apc (⟨st_row (v' := (⟨x6_0, x6_1, x6_2, x6_3⟩ : SetD)) rfl h5 rfl rfl (Nat.le_of_ble_eq_true rfl) rfl, rfl⟩ : stA (L75_0_d2 a1 a3 a4 a5 a7 a8 v2 x2 x5) 4 (.rp 2 0 4 x4 0) (.agg [vi .u64 x6_0, vi .u64 x6_1, vi .u64 x6_2, vi .u64 x6_3]) = some (L75_0_d0 a1 a3 a4 a5 a7 a8 v2 x4 x6_0 x6_1 x6_2 x6_3 x2 x5) ∧ ud = ud) apn)))))))
  ·
   apply bn h; intro x4 h4 h
   have q2 := ((idx_sl h4) : idxA 4 (.sl 2 0 4 0 a7) (i6 a1.left) = some (.rp 2 0 4 x4 0))
   have k3 := k0.a [(26, .d false), (46, .v (.rp 2 0 4 x4 0))] (av h3 (apc q2 apn))
   apply bn h; intro x5 h5 h
   have q4 := ((ld_row rfl h5 rfl) : ldA (L75_0_d1 a1 a3 a4 a5 a7 a8 v2 x2) .true 4 (.rp 2 0 4 x4 0) = some (.agg ((eSet x5).map .p)))
   apply bn h; intro x6 h6 h
   have q5 := ((idx_sl h6) : idxA 4 (.sl 2 0 4 0 a7) (i6 x2.sort) = some (.rp 2 0 4 x6 0))
   have k6 := k3.a [(47, .v (.agg ((eSet x5).map .p))), (51, .v (.rp 2 0 4 x6 0))] (apc q4 (apc q5 apn))
   apply bn h; intro x7 h7 h
   have q7 := ((ld_row rfl h7 rfl) : ldA (L75_0_d1 a1 a3 a4 a5 a7 a8 v2 x2) .true 4 (.rp 2 0 4 x6 0) = some (.agg ((eSet x7).map .p)))
   apply bn h; intro r8 h8 h
   cases r8 with
   | k0 x8_0 x8_1 x8_2 x8_3 =>
    have q8 := (((F76_ok ([(⟨x5.a, x5.b, x5.c, x5.d⟩ : SetD), (⟨x7.a, x7.b, x7.c, x7.d⟩ : SetD)]) h8).own rfl (purAs_cons (purA_sl (e := eSet) (xs := [(⟨x5.a, x5.b, x5.c, x5.d⟩ : SetD), (⟨x7.a, x7.b, x7.c, x7.d⟩ : SetD)]) rfl rfl) purAs_nil) rfl) : CP prg 76 [.sl 10 0 4 0 2] (L75_0_d3 a1 a3 a4 a5 a7 a8 v2 x2 x5 x7) = some (.agg [vi .u64 x8_0, vi .u64 x8_1, vi .u64 x8_2, vi .u64 x8_3]))
    have q9 := (⟨st_row (v' := (⟨x8_0, x8_1, x8_2, x8_3⟩ : SetD)) rfl h5 rfl rfl (Nat.le_of_ble_eq_true rfl) rfl, rfl⟩ : stA (L75_0_d3 a1 a3 a4 a5 a7 a8 v2 x2 x5 x7) 4 (.rp 2 0 4 x4 0) (.agg [vi .u64 x8_0, vi .u64 x8_1, vi .u64 x8_2, vi .u64 x8_3]) = some (L75_0_d4 a1 a3 a4 a5 a7 a8 v2 x4 x8_0 x8_1 x8_2 x8_3 x2 x5 x7) ∧ ud = ud)
    have k10 := k6.a [(52, .v (.agg ((eSet x7).map .p))), (54, .v (.agg [vi .u64 x8_0, vi .u64 x8_1, vi .u64 x8_2, vi .u64 x8_3])), (55, .v (.rp 2 0 4 x4 0)), (1055, .r ud (L75_0_d4 a1 a3 a4 a5 a7 a8 v2 x4 x8_0 x8_1 x8_2 x8_3 x2 x5 x7))] (apc q7 (apc q8 (apc q2 (apc q9 apn))))
    apply bn h; intro x9 h9 h
    apply bi h <;> intro h10 h
    ·
     rw [← sj h]
     exact rn ([(58, .v (vb true)), (6000, .d true)] ++ kH k10) (k10.b (apc ((((F55_ok a3 a4 a5 x2 h9).cp rfl _).trans (congrArg (fun z => some (vb z)) h10)) : CP prg 55 [(.ro (eOp a3 a4 a5)), (.agg ((eSym x2).map .p))] (L75_0_d4 a1 a3 a4 a5 a7 a8 v2 x4 x8_0 x8_1 x8_2 x8_3 x2 x5 x7) = some (vb true)) (apc (L75_0_k a1 a2 a3 a4 a5 a7 a8 (w6 (v1 + 1)) (v2.set x4 (⟨x8_0, x8_1, x8_2, x8_3⟩ : SetD))) apn)))
    ·
     rw [← sj h]
     exact xb ([(58, .v (vb false)), (6000, .d true)] ++ kH k10) (k10.b (apc ((((F55_ok a3 a4 a5 x2 h9).cp rfl _).trans (congrArg (fun z => some (vb z)) h10)) : CP prg 55 [(.ro (eOp a3 a4 a5)), (.agg ((eSym x2).map .p))] (L75_0_d4 a1 a3 a4 a5 a7 a8 v2 x4 x8_0 x8_1 x8_2 x8_3 x2 x5 x7) = some (vb false)) apn))
 ·
  rw [← sj h]
  exact xb [(21, .d false), (6000, .d true)] (av h1 apn)
theorem L75_0_run (s0 : Int × (List SetD)) (e : E_L75_0) (h : runL (fun s => L75_0 a1 a2 a5 a7 s.1 s.2) s0 = some e) : L75_0_x a1 a3 a4 a5 a7 a8 e (L75_0_e a1 a2 a3 a4 a5 a7 a8 s0.1 s0.2) := by
  have q := @loop_sound' (Int × (List SetD)) E_L75_0 (fun s => L75_0 a1 a2 a5 a7 s.1 s.2) (fun s => L75_0_e a1 a2 a3 a4 a5 a7 a8 s.1 s.2) (L75_0_x a1 a3 a4 a5 a7 a8) (fun s r h => L75_0_ok a1 a2 a3 a4 a5 a7 a8 s.1 s.2 h) s0 e h
  exact q
end
inductive R_F75 where
  | k0
  | k1 (x0 : Bool) (x1 : List SetD) (x2 x3 x4 x5 x6 x7 x8 x9 x10 x11 x12 x13 x14 x15 x16 x17 x18 x19 : Int)
  | k2 (x0 : Bool) (x1 : List SetD) (x2 x3 x4 x5 : Int)
def F75_v (a1 : ProdD) (a2 : GramD) (a3 : List Int) (a4 : List Bool) (a5 : List SetD) (a6 : Nat) (r : R_F75) : AV := match r with | .k0 => (vb false) | .k1 x0 x1 x2 x3 x4 x5 x6 x7 x8 x9 x10 x11 x12 x13 x14 x15 x16 x17 x18 x19 => (vb x0) | .k2 x0 x1 x2 x3 x4 x5 => (vb x0)
def F75_h (a1 : ProdD) (a2 : GramD) (a3 : List Int) (a4 : List Bool) (a5 : List SetD) (a6 : Nat) (r : R_F75) : List AB := match r with | .k0 => [.cells 89 [(.ro (eOp a2 a3 a4))], bS [], bS a5, bS [], .cells 63 [.sl 2 0 4 0 a6], yY0, bP a1, bP a1] | .k1 x0 x1 x2 x3 x4 x5 x6 x7 x8 x9 x10 x11 x12 x13 x14 x15 x16 x17 x18 x19 => [.cells 89 [(.ro (eOp a2 a3 a4))], bS [], bS x1, bS [], .cells 63 [.sl 2 0 4 0 a6], yY0, bP a1, bP a1, .cells 46 [vi .u64 x2, vi .u64 x3, vi .u64 x4, vi .u64 x5], .cells 48 [i6 x6, vi .u64 x7, vi .u64 x8, vi .u64 x9, vi .u64 x10, i6 x11], .row 46 4 0 [[vi .u64 x12, vi .u64 x13, vi .u64 x14, vi .u64 x15], [vi .u64 x16, vi .u64 x17, vi .u64 x18, vi .u64 x19]]] | .k2 x0 x1 x2 x3 x4 x5 => [.cells 89 [(.ro (eOp a2 a3 a4))], bS [], bS x1, bS [], .cells 63 [.sl 2 0 4 0 a6], yY0, bP a1, bP a1, .cells 46 [vi .u64 x2, vi .u64 x3, vi .u64 x4, vi .u64 x5]]
def F75 (a1 : ProdD) (a3 : List Int) (a4 : List Bool) (a5 : List SetD) (a6 : Nat) : Option R_F75 :=
  ((F48 a3 a1).bind fun x1 => (bif (decide (x1 < 0)) then (some (.k0)) else ((ixN a6 a1.left).bind fun x3 => ((a5[x3]?).bind fun x4 => ((runL (fun s => L75_0 a1 (a1.right.length : Int) a4 a6 s.1 s.2) (0, a5)).bind fun r5 => match r5 with | .k0 x5_0 x5_1 x5_2 x5_3 x5_4 x5_5 x5_6 x5_7 x5_8 x5_9 x5_10 x5_11 x5_12 x5_13 x5_14 => ((x5_0[x3]?).bind fun x6 => (some (.k1 (!((x6.a == x4.a) && ((x6.b == x4.b) && ((x6.c == x4.c) && ((x6.d == x4.d) && true))))) x5_0 x4.a x4.b x4.c x4.d x5_1 x5_2 x5_3 x5_4 x5_5 x5_6 x5_7 x5_8 x5_9 x5_10 x5_11 x5_12 x5_13 x5_14))) | .k1 x5_0 => ((x5_0[x3]?).bind fun x6 => (some (.k2 (!((x6.a == x4.a) && ((x6.b == x4.b) && ((x6.c == x4.c) && ((x6.d == x4.d) && true))))) x5_0 x4.a x4.b x4.c x4.d))))))))
abbrev F75_d0 (a2 : GramD) (a3 : List Int) (a4 : List Bool) (a5 : List SetD) (a6 : Nat) (a1 : ProdD) : List AB := [.cells 89 [(.ro (eOp a2 a3 a4))], bS [], bS a5, bS [], .cells 63 [.sl 2 0 4 0 a6], yY0, bP a1, bP a1]
abbrev F75_d1 (g5 : Nat → AV) (a1 : ProdD) (a2 : GramD) (a3 : List Int) (a4 : List Bool) (x5_0 : List SetD) (a6 : Nat) (x4 : SetD) (x5_1 x5_2 x5_3 x5_4 x5_5 x5_6 x5_7 x5_8 x5_9 x5_10 x5_11 x5_12 x5_13 x5_14 : Int) : St := ⟨fr 68 g5 [(1, .ptr 0 0), (2, .ptr 4 0), (3, .ptr 7 0), (5, .ptr 8 0), (18, ls 6 eSym a1.right)], [.cells 89 [(.ro (eOp a2 a3 a4))], bS [], bS x5_0, bS [], .cells 63 [.sl 2 0 4 0 a6], yY0, bP a1, bP a1, .cells 46 ((eSet x4).map .p), .cells 48 [i6 x5_1, vi .u64 x5_2, vi .u64 x5_3, vi .u64 x5_4, vi .u64 x5_5, i6 x5_6], .row 46 4 0 [[vi .u64 x5_7, vi .u64 x5_8, vi .u64 x5_9, vi .u64 x5_10], [vi .u64 x5_11, vi .u64 x5_12, vi .u64 x5_13, vi .u64 x5_14]]]⟩
abbrev F75_d2 (g5 : Nat → AV) (a1 : ProdD) (a2 : GramD) (a3 : List Int) (a4 : List Bool) (x5_0 : List SetD) (a6 : Nat) (x4 : SetD) : St := ⟨fr 68 g5 [(1, .ptr 0 0), (2, .ptr 4 0), (3, .ptr 7 0), (5, .ptr 8 0), (18, ls 6 eSym a1.right)], [.cells 89 [(.ro (eOp a2 a3 a4))], bS [], bS x5_0, bS [], .cells 63 [.sl 2 0 4 0 a6], yY0, bP a1, bP a1, .cells 46 ((eSet x4).map .p)]⟩
theorem F75_ok (a1 : ProdD) (a2 : GramD) (a3 : List Int) (a4 : List Bool) (a5 : List SetD) (a6 : Nat) {r : R_F75} (h : F75 a1 a3 a4 a5 a6 = some r) : CS prg 75 [aP a1, .ptr 0 0, .ptr 4 0] [.cells 89 [(.ro (eOp a2 a3 a4))], bS [], bS a5, bS [], .cells 63 [.sl 2 0 4 0 a6], yY0, bP a1] = some (F75_v a1 a2 a3 a4 a5 a6 r, F75_h a1 a2 a3 a4 a5 a6 r) := by
 unfold F75 at h
 apply bn h; intro x1 h1 h
 have q0 := (((F48_ok a2 a3 a4 a1 h1).cp rfl _) : CP prg 48 [(.ro (eOp a2 a3 a4)), aP a1] (F75_d0 a2 a3 a4 a5 a6 a1) = some (i6 x1))
 apply bi h <;> intro h2 h
 ·
  rw [← sj h]
  exact fc [(10, .v (i6 x1)), (11, .d true)] (apc q0 (av h2 apn))
 ·
  have k1 := ka [(10, .v (i6 x1)), (11, .d false)] (apc q0 (av h2 apn))
  apply bn h; intro x3 h3 h
  have q2 := ((idx_sl h3) : idxA 4 (.sl 2 0 4 0 a6) (i6 a1.left) = some (.rp 2 0 4 x3 0))
  apply bn h; intro x4 h4 h
  have q3 := ((ld_row rfl h4 rfl) : ldA (F75_d0 a2 a3 a4 a5 a6 a1) .true 4 (.rp 2 0 4 x3 0) = some (.agg ((eSet x4).map .p)))
  have k4 := k1.a [(15, .v (.rp 2 0 4 x3 0)), (16, .v (.agg ((eSet x4).map .p))), (19, .v (i6 (a1.right.length : Int)))] (apc q2 (apc q3 (apc (lg a1.right eSym 6) apn)))
  apply bn h; intro r5 h5 h
  cases r5 with
  | k0 x5_0 x5_1 x5_2 x5_3 x5_4 x5_5 x5_6 x5_7 x5_8 x5_9 x5_10 x5_11 x5_12 x5_13 x5_14 =>
   obtain ⟨g5, e5⟩ := L75_0_run a1 (a1.right.length : Int) a2 a3 a4 a6 x4 (0, a5) _ h5
   apply bn h; intro x6 h6 h
   rw [← sj h]
   exact fc ([(2000, .l (.brk 0) (F75_d1 g5 a1 a2 a3 a4 x5_0 a6 x4 x5_1 x5_2 x5_3 x5_4 x5_5 x5_6 x5_7 x5_8 x5_9 x5_10 x5_11 x5_12 x5_13 x5_14)), (64, .v (.rp 2 0 4 x3 0)), (65, .v (.agg ((eSet x6).map .p))), (6000, .d true)] ++ kH k4) (k4.b (apc (L75_0_k a1 (a1.right.length : Int) a2 a3 a4 a6 x4 0 a5) (apc (e5 : L75_0_e a1 (a1.right.length : Int) a2 a3 a4 a6 x4 0 a5 = some ((.brk 0), F75_d1 g5 a1 a2 a3 a4 x5_0 a6 x4 x5_1 x5_2 x5_3 x5_4 x5_5 x5_6 x5_7 x5_8 x5_9 x5_10 x5_11 x5_12 x5_13 x5_14)) (apc q2 (apc ((ld_row rfl h6 rfl) : ldA [.cells 89 [(.ro (eOp a2 a3 a4))], bS [], bS x5_0, bS [], .cells 63 [.sl 2 0 4 0 a6], yY0, bP a1, bP a1, .cells 46 ((eSet x4).map .p), .cells 48 [i6 x5_1, vi .u64 x5_2, vi .u64 x5_3, vi .u64 x5_4, vi .u64 x5_5, i6 x5_6], .row 46 4 0 [[vi .u64 x5_7, vi .u64 x5_8, vi .u64 x5_9, vi .u64 x5_10], [vi .u64 x5_11, vi .u64 x5_12, vi .u64 x5_13, vi .u64 x5_14]]] .true 4 (.rp 2 0 4 x3 0) = some (.agg ((eSet x6).map .p))) apn)))))
  | k1 x5_0 =>
   obtain ⟨g5, e5⟩ := L75_0_run a1 (a1.right.length : Int) a2 a3 a4 a6 x4 (0, a5) _ h5
   apply bn h; intro x6 h6 h
   rw [← sj h]
   exact fc ([(2000, .l (.brk 0) (F75_d2 g5 a1 a2 a3 a4 x5_0 a6 x4)), (64, .v (.rp 2 0 4 x3 0)), (65, .v (.agg ((eSet x6).map .p))), (6000, .d true)] ++ kH k4) (k4.b (apc (L75_0_k a1 (a1.right.length : Int) a2 a3 a4 a6 x4 0 a5) (apc (e5 : L75_0_e a1 (a1.right.length : Int) a2 a3 a4 a6 x4 0 a5 = some ((.brk 0), F75_d2 g5 a1 a2 a3 a4 x5_0 a6 x4)) (apc q2 (apc ((ld_row rfl h6 rfl) : ldA [.cells 89 [(.ro (eOp a2 a3 a4))], bS [], bS x5_0, bS [], .cells 63 [.sl 2 0 4 0 a6], yY0, bP a1, bP a1, .cells 46 ((eSet x4).map .p)] .true 4 (.rp 2 0 4 x3 0) = some (.agg ((eSet x6).map .p))) apn)))))
inductive E_L46_0_3 where
  | k0 (x0 : Bool) (x1 : List SetD)
section
variable (a1 : GramD) (a2 : List Int) (a3 : List Bool) (a4 : Int) (a6 : Nat)
abbrev L46_0_3_p (l : List AB) : List AB := .cells 89 [(.ro (eOp a1 a2 a3))] :: bS [] :: l
def L46_0_3 (v1 : Bool) (v2 : Int) (v3 : List SetD) : Option (E_L46_0_3 ⊕ (Bool × Int × (List SetD))) :=
  (bif (decide (v2 < a4)) then ((getI a1.prods v2).bind fun x2 => ((F54 x2).bind fun x3 => (bif x3 then ((F75 x2 a2 a3 v3 a6).bind fun r5 => match r5 with | .k0 => (some (.inr (v1, (IntKind.wrap .i64 (v2 + 1)), v3))) | .k1 x5_0 x5_1 x5_2 x5_3 x5_4 x5_5 x5_6 x5_7 x5_8 x5_9 x5_10 x5_11 x5_12 x5_13 x5_14 x5_15 x5_16 x5_17 x5_18 x5_19 => (bif x5_0 then (some (.inr (true, (IntKind.wrap .i64 (v2 + 1)), x5_1))) else (some (.inr (v1, (IntKind.wrap .i64 (v2 + 1)), x5_1)))) | .k2 x5_0 x5_1 x5_2 x5_3 x5_4 x5_5 => (bif x5_0 then (some (.inr (true, (IntKind.wrap .i64 (v2 + 1)), x5_1))) else (some (.inr (v1, (IntKind.wrap .i64 (v2 + 1)), x5_1))))) else (some (.inr (v1, (IntKind.wrap .i64 (v2 + 1)), v3)))))) else (some (.inl (.k0 v1 v3))))
def L46_0_3_s (v1 : Bool) (v2 : Int) (v3 : List SetD) : St := ⟨fr 27 ug [(0, (.ro (eOp a1 a2 a3))), (1, (.fn 75 [.ptr 0 0, .ptr 4 0])), (4, vb v1), (11, ls 7 eProd a1.prods), (12, i6 a4), (13, i6 v2)], (L46_0_3_p a1 a2 a3 [bS v3, bS [], .cells 63 [.sl 2 0 4 0 a6]])⟩
theorem L46_0_3_k (v1 : Bool) (v2 : Int) (v3 : List SetD) : okT 5 (L46_0_3_s a1 a2 a3 a4 a6 v1 v2 v3).h = true := (okT_of rfl (ac (ar (ar (ar (ac rfl))))))
abbrev L46_0_3_e (v1 : Bool) (v2 : Int) (v3 : List SetD) := evH prg 5 [0, 1, 4, 11, 12, 13] ir46_l0 (L46_0_3_s a1 a2 a3 a4 a6 v1 v2 v3)
def L46_0_3_x (e : E_L46_0_3) (r : Option (Out × St)) : Prop := match e with | .k0 x0 x1 => ∃ g, r = some ((.brk 2), ⟨fr 27 g [(0, (.ro (eOp a1 a2 a3))), (1, (.fn 75 [.ptr 0 0, .ptr 4 0])), (4, vb x0), (11, ls 7 eProd a1.prods)], (L46_0_3_p a1 a2 a3 [bS x1, bS [], .cells 63 [.sl 2 0 4 0 a6]])⟩)
abbrev L46_0_3_d0 (v3 : List SetD) (x2 : ProdD) : List AB := (L46_0_3_p a1 a2 a3 [bS v3, bS [], .cells 63 [.sl 2 0 4 0 a6], yY0, bP x2])
abbrev L46_0_3_d1 (v3 : List SetD) (x2 : ProdD) : List AB := (L46_0_3_p a1 a2 a3 [bS v3, bS [], .cells 63 [.sl 2 0 4 0 a6], yY0, bP x2, bP x2])
abbrev L46_0_3_d2 (x5_1 : List SetD) (x2 : ProdD) (x5_2 x5_3 x5_4 x5_5 x5_6 x5_7 x5_8 x5_9 x5_10 x5_11 x5_12 x5_13 x5_14 x5_15 x5_16 x5_17 x5_18 x5_19 : Int) : List AB := (L46_0_3_p a1 a2 a3 [bS x5_1, bS [], .cells 63 [.sl 2 0 4 0 a6], yY0, bP x2, bP x2, .cells 46 [vi .u64 x5_2, vi .u64 x5_3, vi .u64 x5_4, vi .u64 x5_5], .cells 48 [i6 x5_6, vi .u64 x5_7, vi .u64 x5_8, vi .u64 x5_9, vi .u64 x5_10, i6 x5_11], .row 46 4 0 [[vi .u64 x5_12, vi .u64 x5_13, vi .u64 x5_14, vi .u64 x5_15], [vi .u64 x5_16, vi .u64 x5_17, vi .u64 x5_18, vi .u64 x5_19]]])
abbrev L46_0_3_d3 (x5_1 : List SetD) (x2 : ProdD) (x5_2 x5_3 x5_4 x5_5 : Int) : List AB := (L46_0_3_p a1 a2 a3 [bS x5_1, bS [], .cells 63 [.sl 2 0 4 0 a6], yY0, bP x2, bP x2, .cells 46 [vi .u64 x5_2, vi .u64 x5_3, vi .u64 x5_4, vi .u64 x5_5]])
theorem L46_0_3_ok (v1 : Bool) (v2 : Int) (v3 : List SetD) {r : E_L46_0_3 ⊕ (Bool × Int × (List SetD))} (h : L46_0_3 a1 a2 a3 a4 a6 v1 v2 v3 = some r) : OkR (fun e => L46_0_3_x a1 a2 a3 a6 e (L46_0_3_e a1 a2 a3 a4 a6 v1 v2 v3)) (fun s => L46_0_3_e a1 a2 a3 a4 a6 v1 v2 v3 = L46_0_3_e a1 a2 a3 a4 a6 s.1 s.2.1 s.2.2) r := by
 unfold L46_0_3 at h
 have q0 := (L46_0_3_k a1 a2 a3 a4 a6 v1 (w6 (v2 + 1)) v3)
 apply bi h <;> intro h1 h
 ·
  apply bn h; intro x2 h2 h
  have k1 := ka [(14, .d true), (15, .v (.ro (eProd x2)))] (av h1 (apc (ig eProd 7 .i64 h2) apn))
  apply bn h; intro x3 h3 h
  apply bi h <;> intro h4 h
  ·
   have q2 := ((((F54_ok x2 h3).cp rfl _).trans (congrArg (fun z => some (vb z)) h4)) : CP prg 54 [aP x2] (L46_0_3_d0 a1 a2 a3 a6 v3 x2) = some (vb true))
   apply bn h; intro r5 h5 h
   cases r5 with
   | k0 =>
    rw [← sj h]
    exact rn ([(18, .v (vb true)), (22, .r (vb false) (L46_0_3_d1 a1 a2 a3 a6 v3 x2)), (6000, .d true)] ++ kH k1) (k1.b (apc q2 (apc ((F75_ok x2 a1 a2 a3 v3 a6 h5) : CS prg 75 [aP x2, .ptr 0 0, .ptr 4 0] (L46_0_3_d0 a1 a2 a3 a6 v3 x2) = some ((vb false), L46_0_3_d1 a1 a2 a3 a6 v3 x2)) (apc q0 apn))))
   | k1 x5_0 x5_1 x5_2 x5_3 x5_4 x5_5 x5_6 x5_7 x5_8 x5_9 x5_10 x5_11 x5_12 x5_13 x5_14 x5_15 x5_16 x5_17 x5_18 x5_19 =>
    apply bi h <;> intro h6 h
    ·
     rw [← sj h]
     exact rn ([(18, .v (vb true)), (22, .r (vb true) (L46_0_3_d2 a1 a2 a3 a6 x5_1 x2 x5_2 x5_3 x5_4 x5_5 x5_6 x5_7 x5_8 x5_9 x5_10 x5_11 x5_12 x5_13 x5_14 x5_15 x5_16 x5_17 x5_18 x5_19)), (6000, .d true)] ++ kH k1) (k1.b (apc q2 (apc (((F75_ok x2 a1 a2 a3 v3 a6 h5).trans (congrArg (fun z => some (vb z, ((L46_0_3_d2 a1 a2 a3 a6 x5_1 x2 x5_2 x5_3 x5_4 x5_5 x5_6 x5_7 x5_8 x5_9 x5_10 x5_11 x5_12 x5_13 x5_14 x5_15 x5_16 x5_17 x5_18 x5_19) : List AB))) h6)) : CS prg 75 [aP x2, .ptr 0 0, .ptr 4 0] (L46_0_3_d0 a1 a2 a3 a6 v3 x2) = some (vb true, L46_0_3_d2 a1 a2 a3 a6 x5_1 x2 x5_2 x5_3 x5_4 x5_5 x5_6 x5_7 x5_8 x5_9 x5_10 x5_11 x5_12 x5_13 x5_14 x5_15 x5_16 x5_17 x5_18 x5_19)) (apc (L46_0_3_k a1 a2 a3 a4 a6 true (w6 (v2 + 1)) x5_1) apn))))
    ·
     rw [← sj h]
     exact rn ([(18, .v (vb true)), (22, .r (vb false) (L46_0_3_d2 a1 a2 a3 a6 x5_1 x2 x5_2 x5_3 x5_4 x5_5 x5_6 x5_7 x5_8 x5_9 x5_10 x5_11 x5_12 x5_13 x5_14 x5_15 x5_16 x5_17 x5_18 x5_19)), (6000, .d true)] ++ kH k1) (k1.b (apc q2 (apc (((F75_ok x2 a1 a2 a3 v3 a6 h5).trans (congrArg (fun z => some (vb z, ((L46_0_3_d2 a1 a2 a3 a6 x5_1 x2 x5_2 x5_3 x5_4 x5_5 x5_6 x5_7 x5_8 x5_9 x5_10 x5_11 x5_12 x5_13 x5_14 x5_15 x5_16 x5_17 x5_18 x5_19) : List AB))) h6)) : CS prg 75 [aP x2, .ptr 0 0, .ptr 4 0] (L46_0_3_d0 a1 a2 a3 a6 v3 x2) = some (vb false, L46_0_3_d2 a1 a2 a3 a6 x5_1 x2 x5_2 x5_3 x5_4 x5_5 x5_6 x5_7 x5_8 x5_9 x5_10 x5_11 x5_12 x5_13 x5_14 x5_15 x5_16 x5_17 x5_18 x5_19)) (apc (L46_0_3_k a1 a2 a3 a4 a6 v1 (w6 (v2 + 1)) x5_1) apn))))
   | k2 x5_0 x5_1 x5_2 x5_3 x5_4 x5_5 =>
    apply bi h <;> intro h6 h
    ·
     rw [← sj h]
     exact rn ([(18, .v (vb true)), (22, .r (vb true) (L46_0_3_d3 a1 a2 a3 a6 x5_1 x2 x5_2 x5_3 x5_4 x5_5)), (6000, .d true)] ++ kH k1) (k1.b (apc q2 (apc (((F75_ok x2 a1 a2 a3 v3 a6 h5).trans (congrArg (fun z => some (vb z, ((L46_0_3_d3 a1 a2 a3 a6 x5_1 x2 x5_2 x5_3 x5_4 x5_5) : List AB))) h6)) : CS prg 75 [aP x2, .ptr 0 0, .ptr 4 0] (L46_0_3_d0 a1 a2 a3 a6 v3 x2) = some (vb true, L46_0_3_d3 a1 a2 a3 a6 x5_1 x2 x5_2 x5_3 x5_4 x5_5)) (apc (L46_0_3_k a1 a2 a3 a4 a6 true (w6 (v2 + 1)) x5_1) apn))))
    ·
     rw [← sj h]
     exact rn ([(18, .v (vb true)), (22, .r (vb false) (L46_0_3_d3 a1 a2 a3 a6 x5_1 x2 x5_2 x5_3 x5_4 x5_5)), (6000, .d true)] ++ kH k1) (k1.b (apc q2 (apc (((F75_ok x2 a1 a2 a3 v3 a6 h5).trans (congrArg (fun z => some (vb z, ((L46_0_3_d3 a1 a2 a3 a6 x5_1 x2 x5_2 x5_3 x5_4 x5_5) : List AB))) h6)) : CS prg 75 [aP x2, .ptr 0 0, .ptr 4 0] (L46_0_3_d0 a1 a2 a3 a6 v3 x2) = some (vb false, L46_0_3_d3 a1 a2 a3 a6 x5_1 x2 x5_2 x5_3 x5_4 x5_5)) (apc (L46_0_3_k a1 a2 a3 a4 a6 v1 (w6 (v2 + 1)) x5_1) apn))))
  ·
   rw [← sj h]
   exact rn ([(18, .v (vb false)), (6000, .d true)] ++ kH k1) (k1.b (apc ((((F54_ok x2 h3).cp rfl _).trans (congrArg (fun z => some (vb z)) h4)) : CP prg 54 [aP x2] (L46_0_3_d0 a1 a2 a3 a6 v3 x2) = some (vb false)) (apc q0 apn)))
 ·
  rw [← sj h]
  exact xb [(14, .d false), (6000, .d true)] (av h1 apn)
theorem L46_0_3_run (s0 : Bool × Int × (List SetD)) (e : E_L46_0_3) (h : runL (fun s => L46_0_3 a1 a2 a3 a4 a6 s.1 s.2.1 s.2.2) s0 = some e) : L46_0_3_x a1 a2 a3 a6 e (L46_0_3_e a1 a2 a3 a4 a6 s0.1 s0.2.1 s0.2.2) := by
  have q := @loop_sound' (Bool × Int × (List SetD)) E_L46_0_3 (fun s => L46_0_3 a1 a2 a3 a4 a6 s.1 s.2.1 s.2.2) (fun s => L46_0_3_e a1 a2 a3 a4 a6 s.1 s.2.1 s.2.2) (L46_0_3_x a1 a2 a3 a6) (fun s r h => L46_0_3_ok a1 a2 a3 a4 a6 s.1 s.2.1 s.2.2 h) s0 e h
  exact q
end
inductive E_L46_1_4 where
  | k0 (x0 : List SetD)
section
variable (a1 : GramD) (a2 : List Int) (a3 : List Bool) (a5 : Nat)
abbrev L46_1_4_p (l : List AB) : List AB := .cells 89 [(.ro (eOp a1 a2 a3))] :: bS [] :: l
def L46_1_4 (v1 : List SetD) : Option (E_L46_1_4 ⊕ ((List SetD))) :=
  ((runL (fun s => L46_0_3 a1 a2 a3 (a1.prods.length : Int) a5 s.1 s.2.1 s.2.2) (false, 0, v1)).bind fun r1 => match r1 with | .k0 x1_0 x1_1 => (bif x1_0 then (some (.inr (x1_1))) else (some (.inl (.k0 x1_1)))))
def L46_1_4_s (v1 : List SetD) : St := ⟨fr 27 ug [(0, (.ro (eOp a1 a2 a3))), (1, (.fn 75 [.ptr 0 0, .ptr 4 0]))], (L46_1_4_p a1 a2 a3 [bS v1, bS [], .cells 63 [.sl 2 0 4 0 a5]])⟩
theorem L46_1_4_k (v1 : List SetD) : okT 5 (L46_1_4_s a1 a2 a3 a5 v1).h = true := (okT_of rfl (ac (ar (ar (ar (ac rfl))))))
abbrev L46_1_4_e (v1 : List SetD) := evH prg 5 [0, 1] ir46_l1 (L46_1_4_s a1 a2 a3 a5 v1)
def L46_1_4_x (e : E_L46_1_4) (r : Option (Out × St)) : Prop := match e with | .k0 x0 => ∃ g, r = some ((.brk 0), ⟨fr 27 g [(0, (.ro (eOp a1 a2 a3))), (1, (.fn 75 [.ptr 0 0, .ptr 4 0]))], (L46_1_4_p a1 a2 a3 [bS x0, bS [], .cells 63 [.sl 2 0 4 0 a5]])⟩)
abbrev L46_1_4_d0 (g1 : Nat → AV) (x1_0 : Bool) (x1_1 : List SetD) : St := ⟨fr 27 g1 [(0, (.ro (eOp a1 a2 a3))), (1, (.fn 75 [.ptr 0 0, .ptr 4 0])), (4, vb x1_0), (11, ls 7 eProd a1.prods)], (L46_1_4_p a1 a2 a3 [bS x1_1, bS [], .cells 63 [.sl 2 0 4 0 a5]])⟩
theorem L46_1_4_ok (v1 : List SetD) {r : E_L46_1_4 ⊕ ((List SetD))} (h : L46_1_4 a1 a2 a3 a5 v1 = some r) : OkR (fun e => L46_1_4_x a1 a2 a3 a5 e (L46_1_4_e a1 a2 a3 a5 v1)) (fun s => L46_1_4_e a1 a2 a3 a5 v1 = L46_1_4_e a1 a2 a3 a5 s) r := by
 unfold L46_1_4 at h
 have k0 := ka [(12, .v (i6 (lP a1)))] (apc (lg a1.prods eProd 7) apn)
 apply bn h; intro r1 h1 h
 cases r1 with
 | k0 x1_0 x1_1 =>
  obtain ⟨g1, e1⟩ := L46_0_3_run a1 a2 a3 (lP a1) a5 (false, 0, v1) _ h1
  have q1 := (e1 : L46_0_3_e a1 a2 a3 (lP a1) a5 false 0 v1 = some ((.brk 2), L46_1_4_d0 a1 a2 a3 a5 g1 x1_0 x1_1))
  have k2 := k0.a [(2002, .l (.brk 2) (L46_1_4_d0 a1 a2 a3 a5 g1 x1_0 x1_1))] (apc (L46_0_3_k a1 a2 a3 (lP a1) a5 false 0 v1) (apc q1 apn))
  apply bi h <;> intro h2 h
  ·
   rw [← sj h]
   exact rn ([(25, .d true), (6000, .d true)] ++ kH k2) (k2.b (av h2 (apc (L46_1_4_k a1 a2 a3 a5 x1_1) apn)))
  ·
   rw [← sj h]
   exact xb ([(25, .d false), (6000, .d true)] ++ kH k2) (k2.b (av h2 apn))
theorem L46_1_4_run (s0 : (List SetD)) (e : E_L46_1_4) (h : runL (fun s => L46_1_4 a1 a2 a3 a5 s) s0 = some e) : L46_1_4_x a1 a2 a3 a5 e (L46_1_4_e a1 a2 a3 a5 s0) := by
  have q := @loop_sound' ((List SetD)) E_L46_1_4 (fun s => L46_1_4 a1 a2 a3 a5 s) (fun s => L46_1_4_e a1 a2 a3 a5 s) (L46_1_4_x a1 a2 a3 a5) (fun s r h => L46_1_4_ok a1 a2 a3 a5 s h) s0 e h
  exact q
end
inductive E_L46_2_2 where
  | k0 (x0 : List SetD)
section
variable (a1 : GramD) (a2 : List Int) (a3 : List Bool) (a4 : List SetD) (a5 : Nat)
abbrev L46_2_2_p (l : List AB) : List AB := .cells 89 [(.ro (eOp a1 a2 a3))] :: bS [] :: l
def L46_2_2 : Option (E_L46_2_2 ⊕ (Unit)) :=
  ((runL (fun s => L46_1_4 a1 a2 a3 a5 s) a4).bind fun r1 => match r1 with | .k0 x1_0 => (some (.inl (.k0 x1_0))))
def L46_2_2_s : St := ⟨fr 27 ug [(0, (.ro (eOp a1 a2 a3))), (1, (.fn 75 [.ptr 0 0, .ptr 4 0]))], (L46_2_2_p a1 a2 a3 [bS a4, bS [], .cells 63 [.sl 2 0 4 0 a5]])⟩
theorem L46_2_2_k : okT 5 (L46_2_2_s a1 a2 a3 a4 a5).h = true := (okT_of rfl (ac (ar (ar (ar (ac rfl))))))
abbrev L46_2_2_e := evH prg 5 [0, 1] ir46_l2 (L46_2_2_s a1 a2 a3 a4 a5)
def L46_2_2_x (e : E_L46_2_2) (r : Option (Out × St)) : Prop := match e with | .k0 x0 => ∃ g, r = some ((.brk 2000000), ⟨fr 27 g [], (L46_2_2_p a1 a2 a3 [bS x0, bS [], .cells 63 [.sl 2 0 4 0 a5]])⟩)
abbrev L46_2_2_d0 (g1 : Nat → AV) (x1_0 : List SetD) : St := ⟨fr 27 g1 [(0, (.ro (eOp a1 a2 a3))), (1, (.fn 75 [.ptr 0 0, .ptr 4 0]))], (L46_2_2_p a1 a2 a3 [bS x1_0, bS [], .cells 63 [.sl 2 0 4 0 a5]])⟩
theorem L46_2_2_ok {r : E_L46_2_2 ⊕ (Unit)} (h : L46_2_2 a1 a2 a3 a4 a5 = some r) : OkR (fun e => L46_2_2_x a1 a2 a3 a5 e (L46_2_2_e a1 a2 a3 a4 a5)) (fun s => L46_2_2_e a1 a2 a3 a4 a5 = L46_2_2_e a1 a2 a3 a4 a5) r := by
 unfold L46_2_2 at h
 apply bn h; intro r1 h1 h
 cases r1 with
 | k0 x1_0 =>
  obtain ⟨g1, e1⟩ := L46_1_4_run a1 a2 a3 a5 a4 _ h1
  rw [← sj h]
  exact xb [(2000, .l (.brk 0) (L46_2_2_d0 a1 a2 a3 a5 g1 x1_0)), (6000, .d true)] (apc (L46_1_4_k a1 a2 a3 a5 a4) (apc (e1 : L46_1_4_e a1 a2 a3 a5 a4 = some ((.brk 0), L46_2_2_d0 a1 a2 a3 a5 g1 x1_0)) apn))
theorem L46_2_2_run (s0 : Unit) (e : E_L46_2_2) (h : runL (fun s => L46_2_2 a1 a2 a3 a4 a5) s0 = some e) : L46_2_2_x a1 a2 a3 a5 e (L46_2_2_e a1 a2 a3 a4 a5) := by
  have q := @loop_sound' (Unit) E_L46_2_2 (fun s => L46_2_2 a1 a2 a3 a4 a5) (fun s => L46_2_2_e a1 a2 a3 a4 a5) (L46_2_2_x a1 a2 a3 a5) (fun s r h => L46_2_2_ok a1 a2 a3 a4 a5 h) s0 e h
  exact q
end
def F46_4_v (a1 : GramD) (a2 : List Int) (a3 : List Bool) (a4 : List SetD) (a5 : Nat) (x0 : (List SetD)) : AV := (.tup [])
def F46_4_h (a1 : GramD) (a2 : List Int) (a3 : List Bool) (a4 : List SetD) (a5 : Nat) (x0 : (List SetD)) : List AB := [.cells 89 [(.ro (eOp a1 a2 a3))], bS [], bS x0, bS [], .cells 63 [.sl 2 0 4 0 a5]]
def F46_4 (a1 : GramD) (a2 : List Int) (a3 : List Bool) (a4 : List SetD) (a5 : Nat) : Option (List SetD) :=
  ((runL (fun s => L46_2_2 a1 a2 a3 a4 a5) ()).bind fun r1 => match r1 with | .k0 x1_0 => (some x1_0))
abbrev F46_4_d0 (g1 : Nat → AV) (a1 : GramD) (a2 : List Int) (a3 : List Bool) (x1_0 : List SetD) (a5 : Nat) : St := ⟨fr 27 g1 [], [.cells 89 [(.ro (eOp a1 a2 a3))], bS [], bS x1_0, bS [], .cells 63 [.sl 2 0 4 0 a5]]⟩
theorem F46_4_ok (a1 : GramD) (a2 : List Int) (a3 : List Bool) (a4 : List SetD) (a5 : Nat) {r : (List SetD)} (h : F46_4 a1 a2 a3 a4 a5 = some r) : CS prg 46 [(.ro (eOp a1 a2 a3)), (.fn 75 [.ptr 0 0, .ptr 4 0])] [.cells 89 [(.ro (eOp a1 a2 a3))], bS [], bS a4, bS [], .cells 63 [.sl 2 0 4 0 a5]] = some (F46_4_v a1 a2 a3 a4 a5 r, F46_4_h a1 a2 a3 a4 a5 r) := by
 unfold F46_4 at h
 apply bn h; intro r1 h1 h
 cases r1 with
 | k0 x1_0 =>
  obtain ⟨g1, e1⟩ := L46_2_2_run a1 a2 a3 a4 a5 () _ h1
  rw [← sj h]
  exact fc [(2002000, .l (.brk 2000000) (F46_4_d0 g1 a1 a2 a3 x1_0 a5)), (6000, .d true)] (apc (L46_2_2_k a1 a2 a3 a4 a5) (apc (e1 : L46_2_2_e a1 a2 a3 a4 a5 = some ((.brk 2000000), F46_4_d0 g1 a1 a2 a3 x1_0 a5)) apn))
def F61_2_v (a1 : GramD) (a2 : List Int) (a3 : List Bool) (x0 : (List SetD)) : AV := (ls 4 eSet x0)
def F61_2 (a1 : GramD) (a2 : List Int) (a3 : List Bool) : Option (List SetD) :=
  (bif (mkOk (a1.sorts.length : Int) 32) then ((F46_4 a1 a2 a3 (List.replicate (Int.toNat (a1.sorts.length : Int)) (⟨0, 0, 0, 0⟩ : SetD)) (Int.toNat (a1.sorts.length : Int))).bind fun x2 => (bif (decide ((Int.toNat (a1.sorts.length : Int)) ≤ x2.length)) then (some (x2.take (Int.toNat (a1.sorts.length : Int)))) else none)) else none)
abbrev F61_2_d0 (a1 : GramD) (a2 : List Int) (a3 : List Bool) : List AB := [.cells 89 [(.ro (eOp a1 a2 a3))], bS []]
abbrev F61_2_d1 (a1 : GramD) (a2 : List Int) (a3 : List Bool) : List AB := [.cells 89 [(.ro (eOp a1 a2 a3))], bS [], bS (List.replicate (tS a1) (⟨0, 0, 0, 0⟩ : SetD))]
abbrev F61_2_d2 (a1 : GramD) (a2 : List Int) (a3 : List Bool) (x2 : List SetD) : List AB := [.cells 89 [(.ro (eOp a1 a2 a3))], bS [], bS x2, bS [], .cells 63 [(.sl 2 0 4 0 (tS a1))]]
theorem F61_2_ok (a1 : GramD) (a2 : List Int) (a3 : List Bool) {r : (List SetD)} (h : F61_2 a1 a2 a3 = some r) : PR2 prg 61 [(.ro (eOp a1 a2 a3))] (F61_2_v a1 a2 a3 r) := by
 unfold F61_2 at h
 have k0 := ka [(9, .v (i6 (lS a1)))] (apc (lg a1.sorts eStr 1) apn)
 apply bi h <;> intro h1 h
 ·
  have q1 := ((mk_row' (h := (F61_2_d0 a1 a2 a3)) (e := eSet) (z := (⟨0, 0, 0, 0⟩ : SetD)) h1 rfl) : (mkA 46 4 32 [.val (.int .u64 0), .val (.int .u64 0), .val (.int .u64 0), .val (.int .u64 0)] (i6 (lS a1)) (i6 (lS a1)) 2).map (fun x => (x.1, (F61_2_d0 a1 a2 a3) ++ [x.2])) = some ((.sl 2 0 4 0 (tS a1)), F61_2_d1 a1 a2 a3))
  have k2 := k0.a [(10, .r (.sl 2 0 4 0 (tS a1)) (F61_2_d1 a1 a2 a3))] (apc q1 apn)
  apply bn h; intro x2 h2 h
  have q3 := ((F46_4_ok a1 a2 a3 (List.replicate (tS a1) (⟨0, 0, 0, 0⟩ : SetD)) (tS a1) h2) : CS prg 46 [(.ro (eOp a1 a2 a3)), (.fn 75 [.ptr 0 0, .ptr 4 0])] [.cells 89 [(.ro (eOp a1 a2 a3))], bS [], bS (List.replicate (tS a1) (⟨0, 0, 0, 0⟩ : SetD)), bS [], .cells 63 [(.sl 2 0 4 0 (tS a1))]] = some ((.tup []), F61_2_d2 a1 a2 a3 x2))
  have k4 := k2.a [(13, .r (.tup []) (F61_2_d2 a1 a2 a3 x2))] (apc q3 apn)
  apply bi h <;> intro h3 h
  ·
   rw [← sj h]
   exact fpn (v := (.sl 2 0 4 0 (tS a1))) (h' := (F61_2_d2 a1 a2 a3 x2)) (kH k4) (k4.b apn) (purA_sl (e := eSet) rfl h3) rfl (purA_sl (e := eSet) (getq rfl (nols_ra (fun _ => rfl))) h3) (by kernel_rfl)
  ·
   cases h
 ·
  cases h
inductive R_F30 where
  | k0 (x0 : List SetD) (x1 : Int)
def F30_v (a1 : GramD) (r : R_F30) : AV := match r with | .k0 x0 x1 => (.tup [ls 4 eSet x0, i6 x1])
def F30 (a1 : GramD) : Option R_F30 :=
  ((F45 a1).bind fun r1 => match r1 with | .k0 x1_0 => (bif (x1_0 != 0) then (some (.k0 ([]) x1_0)) else none) | .k1 x1_0 x1_1 x1_2 x1_3 x1_4 x1_5 x1_6 => ((F61_2 (⟨x1_0, x1_1, x1_2, x1_3, x1_4⟩ : GramD) x1_5 x1_6).bind fun x2 => (some (.k0 x2 0))))
theorem F30_ok (a1 : GramD) {r : R_F30} (h : F30 a1 = some r) : PR1 prg 30 [aG a1] (F30_v a1 r) := by
 unfold F30 at h
 apply bn h; intro r1 h1 h
 cases r1 with
 | k0 x1_0 =>
  have q0 := (((F45_ok a1 h1).cp rfl _) : CP prg 45 [aG a1] [bG a1, bS []] = some (.tup [(.p (.val (.pointer .none))), i6 x1_0]))
  have k1 := ka [(8, .v (.tup [(.p (.val (.pointer .none))), i6 x1_0]))] (apc q0 apn)
  apply bi h <;> intro h2 h
  ·
   rw [← sj h]
   exact fpo (v := (.tup [.sl 2 0 4 0 0, i6 x1_0])) (h' := [bG a1, bS [], bS []]) ([(12, .d true)] ++ kH k1) (k1.b (av h2 apn)) (purA_tup (purAs_cons (purA_sl (e := eSet) (xs := []) rfl rfl) (purAs_cons rfl purAs_nil))) (by kernel_rfl)
  ·
   cases h
 | k1 x1_0 x1_1 x1_2 x1_3 x1_4 x1_5 x1_6 =>
  apply bn h; intro x2 h2 h
  rw [← sj h]
  exact fq [(8, .v (.tup [(.ro [.lst 1 (x1_0.map eStr), .lst 7 (x1_1.map eProd), .val (.int .i64 x1_2), .lst 3 (x1_3.map eForb), .lst 5 (x1_4.map eFoll), .lst 1 (x1_5.map eI64), .lst 1 (x1_6.map eBool)]), i6 0])), (15, .v (ls 4 eSet x2))] (apc (((F45_ok a1 h1).cp rfl _) : CP prg 45 [aG a1] [bG a1, bS []] = some (.tup [(.ro [.lst 1 (x1_0.map eStr), .lst 7 (x1_1.map eProd), .val (.int .i64 x1_2), .lst 3 (x1_3.map eForb), .lst 5 (x1_4.map eFoll), .lst 1 (x1_5.map eI64), .lst 1 (x1_6.map eBool)]), i6 0])) (apc (((F61_2_ok (⟨x1_0, x1_1, x1_2, x1_3, x1_4⟩ : GramD) x1_5 x1_6 h2).cp rfl _) : CP prg 61 [(.ro [.lst 1 (x1_0.map eStr), .lst 7 (x1_1.map eProd), .val (.int .i64 x1_2), .lst 3 (x1_3.map eForb), .lst 5 (x1_4.map eFoll), .lst 1 (x1_5.map eI64), .lst 1 (x1_6.map eBool)])] [bG a1, bS []] = some (ls 4 eSet x2)) apn))
def F77_v (a1 : ProdD) (a2 : GramD) (a3 : List Int) (a4 : List Bool) (a5 : List SetD) (a6 : List Bool) (a7 : Nat) (a8 : SymD) (x0 : Bool) : AV := (vb x0)
def F77_h (a1 : ProdD) (a2 : GramD) (a3 : List Int) (a4 : List Bool) (a5 : List SetD) (a6 : List Bool) (a7 : Nat) (a8 : SymD) (x0 : Bool) : List AB := [.cells 89 [(.ro (eOp a2 a3 a4))], bS [], bB [], bS [], .cells 63 [ls 4 eSet a5], .cells 100 [(.fn 77 [.ptr 0 0])], .cells 100 [(.fn 77 [.ptr 0 0])], bB [], bB a6, bB [], .cells 56 [.sl 8 0 1 0 a7], yY0, bP a1, bP a1, .cells 48 ((eSym a8).map .p), bP a1]
def F77 (a1 : ProdD) (a3 : List Int) : Option Bool :=
  ((F48 a3 a1).bind fun x1 => (some (decide (x1 ≥ 0))))
theorem F77_ok (a1 : ProdD) (a2 : GramD) (a3 : List Int) (a4 : List Bool) (a5 : List SetD) (a6 : List Bool) (a7 : Nat) (a8 : SymD) {r : Bool} (h : F77 a1 a3 = some r) : CS prg 77 [aP a1, .ptr 0 0] [.cells 89 [(.ro (eOp a2 a3 a4))], bS [], bB [], bS [], .cells 63 [ls 4 eSet a5], .cells 100 [(.fn 77 [.ptr 0 0])], .cells 100 [(.fn 77 [.ptr 0 0])], bB [], bB a6, bB [], .cells 56 [.sl 8 0 1 0 a7], yY0, bP a1, bP a1, .cells 48 ((eSym a8).map .p)] = some (F77_v a1 a2 a3 a4 a5 a6 a7 a8 r, F77_h a1 a2 a3 a4 a5 a6 a7 a8 r) := by
 unfold F77 at h
 apply bn h; intro x1 h1 h
 rw [← sj h]
 exact fc [(6, .v (i6 x1))] (apc (((F48_ok a2 a3 a4 a1 h1).cp rfl _) : CP prg 48 [(.ro (eOp a2 a3 a4)), aP a1] [.cells 89 [(.ro (eOp a2 a3 a4))], bS [], bB [], bS [], .cells 63 [ls 4 eSet a5], .cells 100 [(.fn 77 [.ptr 0 0])], .cells 100 [(.fn 77 [.ptr 0 0])], bB [], bB a6, bB [], .cells 56 [.sl 8 0 1 0 a7], yY0, bP a1, bP a1, .cells 48 ((eSym a8).map .p), bP a1] = some (i6 x1)) apn)
inductive E_L72_0_2 where
  | k0 (x0 : Bool) (x1 : List Bool)
section
variable (a1 : ProdD) (a2 : Int) (a3 : GramD) (a4 : List Int) (a5 : List Bool) (a6 : List SetD) (a8 : Nat)
abbrev L72_0_2_p (l : List AB) : List AB := .cells 89 [(.ro (eOp a3 a4 a5))] :: bS [] :: bB [] :: bS [] :: .cells 63 [ls 4 eSet a6] :: .cells 100 [(.fn 77 [.ptr 0 0])] :: .cells 100 [(.fn 77 [.ptr 0 0])] :: bB [] :: l
def L72_0_2 (v1 : Bool) (v2 : Int) (v3 : List Bool) : Option (E_L72_0_2 ⊕ (Bool × Int × (List Bool))) :=
  (bif (decide (v2 < a2)) then ((getI a1.right v2).bind fun x2 => (bif (x2.kind == 1) then ((ixN a8 a1.left).bind fun x4 => ((v3[x4]?).bind fun x5 => (bif x5 then ((F77 a1 a4).bind fun x7 => (bif x7 then ((ixN a8 x2.sort).bind fun x9 => ((v3[x9]?).bind fun x10 => (bif x10 then (some (.inr (v1, (IntKind.wrap .i64 (v2 + 1)), v3))) else (some (.inr (true, (IntKind.wrap .i64 (v2 + 1)), v3.set x9 true)))))) else (some (.inr (v1, (IntKind.wrap .i64 (v2 + 1)), v3))))) else (some (.inr (v1, (IntKind.wrap .i64 (v2 + 1)), v3)))))) else (some (.inr (v1, (IntKind.wrap .i64 (v2 + 1)), v3))))) else (some (.inl (.k0 v1 v3))))
def L72_0_2_s (v1 : Bool) (v2 : Int) (v3 : List Bool) : St := ⟨fr 44 ug [(1, .ptr 10 0), (2, .ptr 6 0), (3, .ptr 13 0), (5, vb v1), (9, ls 6 eSym a1.right), (10, i6 a2), (11, i6 v2)], (L72_0_2_p a3 a4 a5 a6 [bB v3, bB [], .cells 56 [.sl 8 0 1 0 a8], yY0, bP a1, bP a1])⟩
theorem L72_0_2_k (v1 : Bool) (v2 : Int) (v3 : List Bool) : okT 14 (L72_0_2_s a1 a2 a3 a4 a5 a6 a8 v1 v2 v3).h = true := (okT_of rfl (ac (ar (ar (ar (ac (ac (ac (ar (ar (ar (ac (ar (ac (ac rfl)))))))))))))))
abbrev L72_0_2_e (v1 : Bool) (v2 : Int) (v3 : List Bool) := evH prg 14 [1, 2, 3, 5, 9, 10, 11] ir72_l0 (L72_0_2_s a1 a2 a3 a4 a5 a6 a8 v1 v2 v3)
def L72_0_2_x (e : E_L72_0_2) (r : Option (Out × St)) : Prop := match e with | .k0 x0 x1 => ∃ g, r = some ((.brk 0), ⟨fr 44 g [(3, .ptr 13 0), (5, vb x0), (9, ls 6 eSym a1.right)], (L72_0_2_p a3 a4 a5 a6 [bB x1, bB [], .cells 56 [.sl 8 0 1 0 a8], yY0, bP a1, bP a1])⟩)
abbrev L72_0_2_d0 (v3 : List Bool) (x2 : SymD) : List AB := (L72_0_2_p a3 a4 a5 a6 [bB v3, bB [], .cells 56 [.sl 8 0 1 0 a8], yY0, bP a1, bP a1, .cells 48 ((eSym x2).map .p)])
abbrev L72_0_2_d1 (v3 : List Bool) (x2 : SymD) : List AB := (L72_0_2_p a3 a4 a5 a6 [bB v3, bB [], .cells 56 [.sl 8 0 1 0 a8], yY0, bP a1, bP a1, .cells 48 ((eSym x2).map .p), bP a1])
abbrev L72_0_2_d2 (v3 : List Bool) (x9 : Nat) (x2 : SymD) : List AB := (L72_0_2_p a3 a4 a5 a6 [bB (v3.set x9 true), bB [], .cells 56 [.sl 8 0 1 0 a8], yY0, bP a1, bP a1, .cells 48 ((eSym x2).map .p), bP a1])
theorem L72_0_2_ok (v1 : Bool) (v2 : Int) (v3 : List Bool) {r : E_L72_0_2 ⊕ (Bool × Int × (List Bool))} (h : L72_0_2 a1 a2 a4 a8 v1 v2 v3 = some r) : OkR (fun e => L72_0_2_x a1 a3 a4 a5 a6 a8 e (L72_0_2_e a1 a2 a3 a4 a5 a6 a8 v1 v2 v3)) (fun s => L72_0_2_e a1 a2 a3 a4 a5 a6 a8 v1 v2 v3 = L72_0_2_e a1 a2 a3 a4 a5 a6 a8 s.1 s.2.1 s.2.2) r := by
 unfold L72_0_2 at h
 have q0 := (L72_0_2_k a1 a2 a3 a4 a5 a6 a8 v1 (w6 (v2 + 1)) v3)
 apply bi h <;> intro h1 h
 ·
  apply bn h; intro x2 h2 h
  have k1 := ka [(12, .d true), (13, .v (.ro (eSym x2)))] (av h1 (apc (ig eSym 6 .i64 h2) apn))
  apply bi h <;> intro h3 h
  ·
   apply bn h; intro x4 h4 h
   have q2 := ((idx_sl h4) : idxA 1 (.sl 8 0 1 0 a8) (i6 a1.left) = some (.rp 8 0 1 x4 0))
   have k3 := k1.a [(17, .d true), (22, .v (.rp 8 0 1 x4 0))] (av h3 (apc q2 apn))
   apply bn h; intro x5 h5 h
   apply bi h <;> intro h6 h
   ·
    have q4 := (((ld_row (V := vb x5) rfl h5 rfl).trans (congrArg (fun z => some (vb z)) h6)) : ldA (L72_0_2_d0 a1 a3 a4 a5 a6 a8 v3 x2) .false 1 (.rp 8 0 1 x4 0) = some (vb true))
    apply bn h; intro x7 h7 h
    apply bi h <;> intro h8 h
    ·
     have q5 := (((F77_ok a1 a3 a4 a5 a6 v3 a8 x2 h7).trans (congrArg (fun z => some (vb z, ((L72_0_2_d1 a1 a3 a4 a5 a6 a8 v3 x2) : List AB))) h8)) : CS prg 77 [aP a1, .ptr 0 0] (L72_0_2_d0 a1 a3 a4 a5 a6 a8 v3 x2) = some (vb true, L72_0_2_d1 a1 a3 a4 a5 a6 a8 v3 x2))
     have k6 := k3.a [(23, .v (vb true)), (28, .r (vb true) (L72_0_2_d1 a1 a3 a4 a5 a6 a8 v3 x2))] (apc q4 (apc q5 apn))
     apply bn h; intro x9 h9 h
     have q7 := ((idx_sl h9) : idxA 1 (.sl 8 0 1 0 a8) (i6 x2.sort) = some (.rp 8 0 1 x9 0))
     apply bn h; intro x10 h10 h
     apply bi h <;> intro h11 h
     ·
      rw [← sj h]
      exact rn ([(34, .v (.rp 8 0 1 x9 0)), (35, .v (vb true)), (6000, .d true)] ++ kH k6) (k6.b (apc q7 (apc (((ld_row (V := vb x10) rfl h10 rfl).trans (congrArg (fun z => some (vb z)) h11)) : ldA (L72_0_2_d1 a1 a3 a4 a5 a6 a8 v3 x2) .false 1 (.rp 8 0 1 x9 0) = some (vb true)) (apc q0 apn))))
     ·
      rw [← sj h]
      exact rn ([(34, .v (.rp 8 0 1 x9 0)), (35, .v (vb false)), (41, .v (.rp 8 0 1 x9 0)), (1041, .r ud (L72_0_2_d2 a1 a3 a4 a5 a6 a8 v3 x9 x2)), (6000, .d true)] ++ kH k6) (k6.b (apc q7 (apc (((ld_row (V := vb x10) rfl h10 rfl).trans (congrArg (fun z => some (vb z)) h11)) : ldA (L72_0_2_d1 a1 a3 a4 a5 a6 a8 v3 x2) .false 1 (.rp 8 0 1 x9 0) = some (vb false)) (apc q7 (apc (⟨st_row (v' := true) rfl h10 rfl rfl (Nat.le_of_ble_eq_true rfl) rfl, rfl⟩ : stA (L72_0_2_d1 a1 a3 a4 a5 a6 a8 v3 x2) 1 (.rp 8 0 1 x9 0) (vb true) = some (L72_0_2_d2 a1 a3 a4 a5 a6 a8 v3 x9 x2) ∧ ud = ud) (apc (L72_0_2_k a1 a2 a3 a4 a5 a6 a8 true (w6 (v2 + 1)) (v3.set x9 true)) apn))))))
    ·
     rw [← sj h]
     exact rn ([(23, .v (vb true)), (28, .r (vb false) (L72_0_2_d1 a1 a3 a4 a5 a6 a8 v3 x2)), (6000, .d true)] ++ kH k3) (k3.b (apc q4 (apc (((F77_ok a1 a3 a4 a5 a6 v3 a8 x2 h7).trans (congrArg (fun z => some (vb z, ((L72_0_2_d1 a1 a3 a4 a5 a6 a8 v3 x2) : List AB))) h8)) : CS prg 77 [aP a1, .ptr 0 0] (L72_0_2_d0 a1 a3 a4 a5 a6 a8 v3 x2) = some (vb false, L72_0_2_d1 a1 a3 a4 a5 a6 a8 v3 x2)) (apc q0 apn))))
   ·
    rw [← sj h]
    exact rn ([(23, .v (vb false)), (6000, .d true)] ++ kH k3) (k3.b (apc (((ld_row (V := vb x5) rfl h5 rfl).trans (congrArg (fun z => some (vb z)) h6)) : ldA (L72_0_2_d0 a1 a3 a4 a5 a6 a8 v3 x2) .false 1 (.rp 8 0 1 x4 0) = some (vb false)) (apc q0 apn)))
  ·
   rw [← sj h]
   exact rn ([(17, .d false), (6000, .d true)] ++ kH k1) (k1.b (av h3 (apc q0 apn)))
 ·
  rw [← sj h]
  exact xb [(12, .d false), (6000, .d true)] (av h1 apn)
theorem L72_0_2_run (s0 : Bool × Int × (List Bool)) (e : E_L72_0_2) (h : runL (fun s => L72_0_2 a1 a2 a4 a8 s.1 s.2.1 s.2.2) s0 = some e) : L72_0_2_x a1 a3 a4 a5 a6 a8 e (L72_0_2_e a1 a2 a3 a4 a5 a6 a8 s0.1 s0.2.1 s0.2.2) := by
  have q := @loop_sound' (Bool × Int × (List Bool)) E_L72_0_2 (fun s => L72_0_2 a1 a2 a4 a8 s.1 s.2.1 s.2.2) (fun s => L72_0_2_e a1 a2 a3 a4 a5 a6 a8 s.1 s.2.1 s.2.2) (L72_0_2_x a1 a3 a4 a5 a6 a8) (fun s r h => L72_0_2_ok a1 a2 a3 a4 a5 a6 a8 s.1 s.2.1 s.2.2 h) s0 e h
  exact q
end
inductive R_F72_2 where
  | k0 (x0 : Bool) (x1 : List Bool)
def F72_2_v (a1 : ProdD) (a2 : GramD) (a3 : List Int) (a4 : List Bool) (a5 : List SetD) (a6 : List Bool) (a7 : Nat) (r : R_F72_2) : AV := match r with | .k0 x0 x1 => (vb x0)
def F72_2_h (a1 : ProdD) (a2 : GramD) (a3 : List Int) (a4 : List Bool) (a5 : List SetD) (a6 : List Bool) (a7 : Nat) (r : R_F72_2) : List AB := match r with | .k0 x0 x1 => [.cells 89 [(.ro (eOp a2 a3 a4))], bS [], bB [], bS [], .cells 63 [ls 4 eSet a5], .cells 100 [(.fn 77 [.ptr 0 0])], .cells 100 [(.fn 77 [.ptr 0 0])], bB [], bB x1, bB [], .cells 56 [.sl 8 0 1 0 a7], yY0, bP a1, bP a1]
def F72_2 (a1 : ProdD) (a3 : List Int) (a6 : List Bool) (a7 : Nat) : Option R_F72_2 :=
  ((runL (fun s => L72_0_2 a1 (a1.right.length : Int) a3 a7 s.1 s.2.1 s.2.2) (false, 0, a6)).bind fun r1 => match r1 with | .k0 x1_0 x1_1 => (some (.k0 x1_0 x1_1)))
abbrev F72_2_d0 (g1 : Nat → AV) (x1_0 : Bool) (a1 : ProdD) (a2 : GramD) (a3 : List Int) (a4 : List Bool) (a5 : List SetD) (x1_1 : List Bool) (a7 : Nat) : St := ⟨fr 44 g1 [(3, .ptr 13 0), (5, vb x1_0), (9, ls 6 eSym a1.right)], [.cells 89 [(.ro (eOp a2 a3 a4))], bS [], bB [], bS [], .cells 63 [ls 4 eSet a5], .cells 100 [(.fn 77 [.ptr 0 0])], .cells 100 [(.fn 77 [.ptr 0 0])], bB [], bB x1_1, bB [], .cells 56 [.sl 8 0 1 0 a7], yY0, bP a1, bP a1]⟩
theorem F72_2_ok (a1 : ProdD) (a2 : GramD) (a3 : List Int) (a4 : List Bool) (a5 : List SetD) (a6 : List Bool) (a7 : Nat) {r : R_F72_2} (h : F72_2 a1 a3 a6 a7 = some r) : CS prg 72 [aP a1, .ptr 10 0, .ptr 6 0] [.cells 89 [(.ro (eOp a2 a3 a4))], bS [], bB [], bS [], .cells 63 [ls 4 eSet a5], .cells 100 [(.fn 77 [.ptr 0 0])], .cells 100 [(.fn 77 [.ptr 0 0])], bB [], bB a6, bB [], .cells 56 [.sl 8 0 1 0 a7], yY0, bP a1] = some (F72_2_v a1 a2 a3 a4 a5 a6 a7 r, F72_2_h a1 a2 a3 a4 a5 a6 a7 r) := by
 unfold F72_2 at h
 apply bn h; intro r1 h1 h
 cases r1 with
 | k0 x1_0 x1_1 =>
  obtain ⟨g1, e1⟩ := L72_0_2_run a1 (a1.right.length : Int) a2 a3 a4 a5 a7 (false, 0, a6) _ h1
  rw [← sj h]
  exact fc [(10, .v (i6 (a1.right.length : Int))), (2000, .l (.brk 0) (F72_2_d0 g1 x1_0 a1 a2 a3 a4 a5 x1_1 a7)), (6000, .d true)] (apc (lg a1.right eSym 6) (apc (L72_0_2_k a1 (a1.right.length : Int) a2 a3 a4 a5 a7 false 0 a6) (apc (e1 : L72_0_2_e a1 (a1.right.length : Int) a2 a3 a4 a5 a7 false 0 a6 = some ((.brk 0), F72_2_d0 g1 x1_0 a1 a2 a3 a4 a5 x1_1 a7)) apn)))
inductive E_L46_0_10 where
  | k0 (x0 : Bool) (x1 : List Bool)
section
variable (a1 : GramD) (a2 : List Int) (a3 : List Bool) (a4 : Int) (a5 : List SetD) (a7 : Nat)
abbrev L46_0_10_p (l : List AB) : List AB := .cells 89 [(.ro (eOp a1 a2 a3))] :: bS [] :: bB [] :: bS [] :: .cells 63 [ls 4 eSet a5] :: .cells 100 [(.fn 77 [.ptr 0 0])] :: .cells 100 [(.fn 77 [.ptr 0 0])] :: bB [] :: l
def L46_0_10 (v1 : Bool) (v2 : Int) (v3 : List Bool) : Option (E_L46_0_10 ⊕ (Bool × Int × (List Bool))) :=
  (bif (decide (v2 < a4)) then ((getI a1.prods v2).bind fun x2 => ((F54 x2).bind fun x3 => (bif x3 then ((F72_2 x2 a2 v3 a7).bind fun r5 => match r5 with | .k0 x5_0 x5_1 => (bif x5_0 then (some (.inr (true, (IntKind.wrap .i64 (v2 + 1)), x5_1))) else (some (.inr (v1, (IntKind.wrap .i64 (v2 + 1)), x5_1))))) else (some (.inr (v1, (IntKind.wrap .i64 (v2 + 1)), v3)))))) else (some (.inl (.k0 v1 v3))))
def L46_0_10_s (v1 : Bool) (v2 : Int) (v3 : List Bool) : St := ⟨fr 27 ug [(0, (.ro (eOp a1 a2 a3))), (1, (.fn 72 [.ptr 10 0, .ptr 6 0])), (4, vb v1), (11, ls 7 eProd a1.prods), (12, i6 a4), (13, i6 v2)], (L46_0_10_p a1 a2 a3 a5 [bB v3, bB [], .cells 56 [.sl 8 0 1 0 a7]])⟩
theorem L46_0_10_k (v1 : Bool) (v2 : Int) (v3 : List Bool) : okT 11 (L46_0_10_s a1 a2 a3 a4 a5 a7 v1 v2 v3).h = true := (okT_of rfl (ac (ar (ar (ar (ac (ac (ac (ar (ar (ar (ac rfl))))))))))))
abbrev L46_0_10_e (v1 : Bool) (v2 : Int) (v3 : List Bool) := evH prg 11 [0, 1, 4, 11, 12, 13] ir46_l0 (L46_0_10_s a1 a2 a3 a4 a5 a7 v1 v2 v3)
def L46_0_10_x (e : E_L46_0_10) (r : Option (Out × St)) : Prop := match e with | .k0 x0 x1 => ∃ g, r = some ((.brk 2), ⟨fr 27 g [(0, (.ro (eOp a1 a2 a3))), (1, (.fn 72 [.ptr 10 0, .ptr 6 0])), (4, vb x0), (11, ls 7 eProd a1.prods)], (L46_0_10_p a1 a2 a3 a5 [bB x1, bB [], .cells 56 [.sl 8 0 1 0 a7]])⟩)
abbrev L46_0_10_d0 (v3 : List Bool) (x2 : ProdD) : List AB := (L46_0_10_p a1 a2 a3 a5 [bB v3, bB [], .cells 56 [.sl 8 0 1 0 a7], yY0, bP x2])
abbrev L46_0_10_d1 (x5_1 : List Bool) (x2 : ProdD) : List AB := (L46_0_10_p a1 a2 a3 a5 [bB x5_1, bB [], .cells 56 [.sl 8 0 1 0 a7], yY0, bP x2, bP x2])
theorem L46_0_10_ok (v1 : Bool) (v2 : Int) (v3 : List Bool) {r : E_L46_0_10 ⊕ (Bool × Int × (List Bool))} (h : L46_0_10 a1 a2 a4 a7 v1 v2 v3 = some r) : OkR (fun e => L46_0_10_x a1 a2 a3 a5 a7 e (L46_0_10_e a1 a2 a3 a4 a5 a7 v1 v2 v3)) (fun s => L46_0_10_e a1 a2 a3 a4 a5 a7 v1 v2 v3 = L46_0_10_e a1 a2 a3 a4 a5 a7 s.1 s.2.1 s.2.2) r := by
 unfold L46_0_10 at h
 apply bi h <;> intro h1 h
 ·
  apply bn h; intro x2 h2 h
  have k0 := ka [(14, .d true), (15, .v (.ro (eProd x2)))] (av h1 (apc (ig eProd 7 .i64 h2) apn))
  apply bn h; intro x3 h3 h
  apply bi h <;> intro h4 h
  ·
   have q1 := ((((F54_ok x2 h3).cp rfl _).trans (congrArg (fun z => some (vb z)) h4)) : CP prg 54 [aP x2] (L46_0_10_d0 a1 a2 a3 a5 a7 v3 x2) = some (vb true))
   apply bn h; intro r5 h5 h
   cases r5 with
   | k0 x5_0 x5_1 =>
    apply bi h <;> intro h6 h
    ·
     rw [← sj h]
     exact rn ([(18, .v (vb true)), (22, .r (vb true) (L46_0_10_d1 a1 a2 a3 a5 a7 x5_1 x2)), (6000, .d true)] ++ kH k0) (k0.b (apc q1 (apc (((F72_2_ok x2 a1 a2 a3 a5 v3 a7 h5).trans (congrArg (fun z => some (vb z, ((L46_0_10_d1 a1 a2 a3 a5 a7 x5_1 x2) : List AB))) h6)) : CS prg 72 [aP x2, .ptr 10 0, .ptr 6 0] (L46_0_10_d0 a1 a2 a3 a5 a7 v3 x2) = some (vb true, L46_0_10_d1 a1 a2 a3 a5 a7 x5_1 x2)) (apc (L46_0_10_k a1 a2 a3 a4 a5 a7 true (w6 (v2 + 1)) x5_1) apn))))
    ·
     rw [← sj h]
     exact rn ([(18, .v (vb true)), (22, .r (vb false) (L46_0_10_d1 a1 a2 a3 a5 a7 x5_1 x2)), (6000, .d true)] ++ kH k0) (k0.b (apc q1 (apc (((F72_2_ok x2 a1 a2 a3 a5 v3 a7 h5).trans (congrArg (fun z => some (vb z, ((L46_0_10_d1 a1 a2 a3 a5 a7 x5_1 x2) : List AB))) h6)) : CS prg 72 [aP x2, .ptr 10 0, .ptr 6 0] (L46_0_10_d0 a1 a2 a3 a5 a7 v3 x2) = some (vb false, L46_0_10_d1 a1 a2 a3 a5 a7 x5_1 x2)) (apc (L46_0_10_k a1 a2 a3 a4 a5 a7 v1 (w6 (v2 + 1)) x5_1) apn))))
  ·
   rw [← sj h]
   exact rn ([(18, .v (vb false)), (6000, .d true)] ++ kH k0) (k0.b (apc ((((F54_ok x2 h3).cp rfl _).trans (congrArg (fun z => some (vb z)) h4)) : CP prg 54 [aP x2] (L46_0_10_d0 a1 a2 a3 a5 a7 v3 x2) = some (vb false)) (apc (L46_0_10_k a1 a2 a3 a4 a5 a7 v1 (w6 (v2 + 1)) v3) apn)))
 ·
  rw [← sj h]
  exact xb [(14, .d false), (6000, .d true)] (av h1 apn)
theorem L46_0_10_run (s0 : Bool × Int × (List Bool)) (e : E_L46_0_10) (h : runL (fun s => L46_0_10 a1 a2 a4 a7 s.1 s.2.1 s.2.2) s0 = some e) : L46_0_10_x a1 a2 a3 a5 a7 e (L46_0_10_e a1 a2 a3 a4 a5 a7 s0.1 s0.2.1 s0.2.2) := by
  have q := @loop_sound' (Bool × Int × (List Bool)) E_L46_0_10 (fun s => L46_0_10 a1 a2 a4 a7 s.1 s.2.1 s.2.2) (fun s => L46_0_10_e a1 a2 a3 a4 a5 a7 s.1 s.2.1 s.2.2) (L46_0_10_x a1 a2 a3 a5 a7) (fun s r h => L46_0_10_ok a1 a2 a3 a4 a5 a7 s.1 s.2.1 s.2.2 h) s0 e h
  exact q
end
inductive E_L46_1_6 where
  | k0 (x0 : List Bool)
section
variable (a1 : GramD) (a2 : List Int) (a3 : List Bool) (a4 : List SetD) (a6 : Nat)
abbrev L46_1_6_p (l : List AB) : List AB := .cells 89 [(.ro (eOp a1 a2 a3))] :: bS [] :: bB [] :: bS [] :: .cells 63 [ls 4 eSet a4] :: .cells 100 [(.fn 77 [.ptr 0 0])] :: .cells 100 [(.fn 77 [.ptr 0 0])] :: bB [] :: l
def L46_1_6 (v1 : List Bool) : Option (E_L46_1_6 ⊕ ((List Bool))) :=
  ((runL (fun s => L46_0_10 a1 a2 (a1.prods.length : Int) a6 s.1 s.2.1 s.2.2) (false, 0, v1)).bind fun r1 => match r1 with | .k0 x1_0 x1_1 => (bif x1_0 then (some (.inr (x1_1))) else (some (.inl (.k0 x1_1)))))
def L46_1_6_s (v1 : List Bool) : St := ⟨fr 27 ug [(0, (.ro (eOp a1 a2 a3))), (1, (.fn 72 [.ptr 10 0, .ptr 6 0]))], (L46_1_6_p a1 a2 a3 a4 [bB v1, bB [], .cells 56 [.sl 8 0 1 0 a6]])⟩
theorem L46_1_6_k (v1 : List Bool) : okT 11 (L46_1_6_s a1 a2 a3 a4 a6 v1).h = true := (okT_of rfl (ac (ar (ar (ar (ac (ac (ac (ar (ar (ar (ac rfl))))))))))))
abbrev L46_1_6_e (v1 : List Bool) := evH prg 11 [0, 1] ir46_l1 (L46_1_6_s a1 a2 a3 a4 a6 v1)
def L46_1_6_x (e : E_L46_1_6) (r : Option (Out × St)) : Prop := match e with | .k0 x0 => ∃ g, r = some ((.brk 0), ⟨fr 27 g [(0, (.ro (eOp a1 a2 a3))), (1, (.fn 72 [.ptr 10 0, .ptr 6 0]))], (L46_1_6_p a1 a2 a3 a4 [bB x0, bB [], .cells 56 [.sl 8 0 1 0 a6]])⟩)
abbrev L46_1_6_d0 (g1 : Nat → AV) (x1_0 : Bool) (x1_1 : List Bool) : St := ⟨fr 27 g1 [(0, (.ro (eOp a1 a2 a3))), (1, (.fn 72 [.ptr 10 0, .ptr 6 0])), (4, vb x1_0), (11, ls 7 eProd a1.prods)], (L46_1_6_p a1 a2 a3 a4 [bB x1_1, bB [], .cells 56 [.sl 8 0 1 0 a6]])⟩
theorem L46_1_6_ok (v1 : List Bool) {r : E_L46_1_6 ⊕ ((List Bool))} (h : L46_1_6 a1 a2 a6 v1 = some r) : OkR (fun e => L46_1_6_x a1 a2 a3 a4 a6 e (L46_1_6_e a1 a2 a3 a4 a6 v1)) (fun s => L46_1_6_e a1 a2 a3 a4 a6 v1 = L46_1_6_e a1 a2 a3 a4 a6 s) r := by
 unfold L46_1_6 at h
 have q0 := (L46_0_10_k a1 a2 a3 (lP a1) a4 a6 false 0 v1)
 have k1 := ka [(12, .v (i6 (lP a1)))] (apc (lg a1.prods eProd 7) apn)
 apply bn h; intro r1 h1 h
 cases r1 with
 | k0 x1_0 x1_1 =>
  obtain ⟨g1, e1⟩ := L46_0_10_run a1 a2 a3 (lP a1) a4 a6 (false, 0, v1) _ h1
  have q2 := (e1 : L46_0_10_e a1 a2 a3 (lP a1) a4 a6 false 0 v1 = some ((.brk 2), L46_1_6_d0 a1 a2 a3 a4 a6 g1 x1_0 x1_1))
  have k3 := k1.a [(2002, .l (.brk 2) (L46_1_6_d0 a1 a2 a3 a4 a6 g1 x1_0 x1_1))] (apc q0 (apc q2 apn))
  apply bi h <;> intro h2 h
  ·
   rw [← sj h]
   exact rn ([(25, .d true), (6000, .d true)] ++ kH k3) (k3.b (av h2 (apc (L46_1_6_k a1 a2 a3 a4 a6 x1_1) apn)))
  ·
   rw [← sj h]
   exact xb ([(25, .d false), (6000, .d true)] ++ kH k3) (k3.b (av h2 apn))
theorem L46_1_6_run (s0 : (List Bool)) (e : E_L46_1_6) (h : runL (fun s => L46_1_6 a1 a2 a6 s) s0 = some e) : L46_1_6_x a1 a2 a3 a4 a6 e (L46_1_6_e a1 a2 a3 a4 a6 s0) := by
  have q := @loop_sound' ((List Bool)) E_L46_1_6 (fun s => L46_1_6 a1 a2 a6 s) (fun s => L46_1_6_e a1 a2 a3 a4 a6 s) (L46_1_6_x a1 a2 a3 a4 a6) (fun s r h => L46_1_6_ok a1 a2 a3 a4 a6 s h) s0 e h
  exact q
end
inductive E_L46_2_5 where
  | k0 (x0 : List Bool)
section
variable (a1 : GramD) (a2 : List Int) (a3 : List Bool) (a4 : List SetD) (a5 : List Bool) (a6 : Nat)
abbrev L46_2_5_p (l : List AB) : List AB := .cells 89 [(.ro (eOp a1 a2 a3))] :: bS [] :: bB [] :: bS [] :: .cells 63 [ls 4 eSet a4] :: .cells 100 [(.fn 77 [.ptr 0 0])] :: .cells 100 [(.fn 77 [.ptr 0 0])] :: bB [] :: l
def L46_2_5 : Option (E_L46_2_5 ⊕ (Unit)) :=
  ((runL (fun s => L46_1_6 a1 a2 a6 s) a5).bind fun r1 => match r1 with | .k0 x1_0 => (some (.inl (.k0 x1_0))))
def L46_2_5_s : St := ⟨fr 27 ug [(0, (.ro (eOp a1 a2 a3))), (1, (.fn 72 [.ptr 10 0, .ptr 6 0]))], (L46_2_5_p a1 a2 a3 a4 [bB a5, bB [], .cells 56 [.sl 8 0 1 0 a6]])⟩
theorem L46_2_5_k : okT 11 (L46_2_5_s a1 a2 a3 a4 a5 a6).h = true := (okT_of rfl (ac (ar (ar (ar (ac (ac (ac (ar (ar (ar (ac rfl))))))))))))
abbrev L46_2_5_e := evH prg 11 [0, 1] ir46_l2 (L46_2_5_s a1 a2 a3 a4 a5 a6)
def L46_2_5_x (e : E_L46_2_5) (r : Option (Out × St)) : Prop := match e with | .k0 x0 => ∃ g, r = some ((.brk 2000000), ⟨fr 27 g [], (L46_2_5_p a1 a2 a3 a4 [bB x0, bB [], .cells 56 [.sl 8 0 1 0 a6]])⟩)
abbrev L46_2_5_d0 (g1 : Nat → AV) (x1_0 : List Bool) : St := ⟨fr 27 g1 [(0, (.ro (eOp a1 a2 a3))), (1, (.fn 72 [.ptr 10 0, .ptr 6 0]))], (L46_2_5_p a1 a2 a3 a4 [bB x1_0, bB [], .cells 56 [.sl 8 0 1 0 a6]])⟩
theorem L46_2_5_ok {r : E_L46_2_5 ⊕ (Unit)} (h : L46_2_5 a1 a2 a5 a6 = some r) : OkR (fun e => L46_2_5_x a1 a2 a3 a4 a6 e (L46_2_5_e a1 a2 a3 a4 a5 a6)) (fun s => L46_2_5_e a1 a2 a3 a4 a5 a6 = L46_2_5_e a1 a2 a3 a4 a5 a6) r := by
 unfold L46_2_5 at h
 apply bn h; intro r1 h1 h
 cases r1 with
 | k0 x1_0 =>
  obtain ⟨g1, e1⟩ := L46_1_6_run a1 a2 a3 a4 a6 a5 _ h1
  rw [← sj h]
  exact xb [(2000, .l (.brk 0) (L46_2_5_d0 a1 a2 a3 a4 a6 g1 x1_0)), (6000, .d true)] (apc (L46_1_6_k a1 a2 a3 a4 a6 a5) (apc (e1 : L46_1_6_e a1 a2 a3 a4 a6 a5 = some ((.brk 0), L46_2_5_d0 a1 a2 a3 a4 a6 g1 x1_0)) apn))
theorem L46_2_5_run (s0 : Unit) (e : E_L46_2_5) (h : runL (fun s => L46_2_5 a1 a2 a5 a6) s0 = some e) : L46_2_5_x a1 a2 a3 a4 a6 e (L46_2_5_e a1 a2 a3 a4 a5 a6) := by
  have q := @loop_sound' (Unit) E_L46_2_5 (fun s => L46_2_5 a1 a2 a5 a6) (fun s => L46_2_5_e a1 a2 a3 a4 a5 a6) (L46_2_5_x a1 a2 a3 a4 a6) (fun s r h => L46_2_5_ok a1 a2 a3 a4 a5 a6 h) s0 e h
  exact q
end
def F46_6_v (a1 : GramD) (a2 : List Int) (a3 : List Bool) (a4 : List SetD) (a5 : List Bool) (a6 : Nat) (x0 : (List Bool)) : AV := (.tup [])
def F46_6_h (a1 : GramD) (a2 : List Int) (a3 : List Bool) (a4 : List SetD) (a5 : List Bool) (a6 : Nat) (x0 : (List Bool)) : List AB := [.cells 89 [(.ro (eOp a1 a2 a3))], bS [], bB [], bS [], .cells 63 [ls 4 eSet a4], .cells 100 [(.fn 77 [.ptr 0 0])], .cells 100 [(.fn 77 [.ptr 0 0])], bB [], bB x0, bB [], .cells 56 [.sl 8 0 1 0 a6]]
def F46_6 (a1 : GramD) (a2 : List Int) (a5 : List Bool) (a6 : Nat) : Option (List Bool) :=
  ((runL (fun s => L46_2_5 a1 a2 a5 a6) ()).bind fun r1 => match r1 with | .k0 x1_0 => (some x1_0))
abbrev F46_6_d0 (g1 : Nat → AV) (a1 : GramD) (a2 : List Int) (a3 : List Bool) (a4 : List SetD) (x1_0 : List Bool) (a6 : Nat) : St := ⟨fr 27 g1 [], [.cells 89 [(.ro (eOp a1 a2 a3))], bS [], bB [], bS [], .cells 63 [ls 4 eSet a4], .cells 100 [(.fn 77 [.ptr 0 0])], .cells 100 [(.fn 77 [.ptr 0 0])], bB [], bB x1_0, bB [], .cells 56 [.sl 8 0 1 0 a6]]⟩
theorem F46_6_ok (a1 : GramD) (a2 : List Int) (a3 : List Bool) (a4 : List SetD) (a5 : List Bool) (a6 : Nat) {r : (List Bool)} (h : F46_6 a1 a2 a5 a6 = some r) : CS prg 46 [(.ro (eOp a1 a2 a3)), (.fn 72 [.ptr 10 0, .ptr 6 0])] [.cells 89 [(.ro (eOp a1 a2 a3))], bS [], bB [], bS [], .cells 63 [ls 4 eSet a4], .cells 100 [(.fn 77 [.ptr 0 0])], .cells 100 [(.fn 77 [.ptr 0 0])], bB [], bB a5, bB [], .cells 56 [.sl 8 0 1 0 a6]] = some (F46_6_v a1 a2 a3 a4 a5 a6 r, F46_6_h a1 a2 a3 a4 a5 a6 r) := by
 unfold F46_6 at h
 apply bn h; intro r1 h1 h
 cases r1 with
 | k0 x1_0 =>
  obtain ⟨g1, e1⟩ := L46_2_5_run a1 a2 a3 a4 a5 a6 () _ h1
  rw [← sj h]
  exact fc [(2002000, .l (.brk 2000000) (F46_6_d0 g1 a1 a2 a3 a4 x1_0 a6)), (6000, .d true)] (apc (L46_2_5_k a1 a2 a3 a4 a5 a6) (apc (e1 : L46_2_5_e a1 a2 a3 a4 a5 a6 = some ((.brk 2000000), F46_6_d0 g1 a1 a2 a3 a4 x1_0 a6)) apn))
inductive R_F53_3 where
  | k0 (x0 : Nat) (x1 : List Bool)
def F53_3_v (a1 : GramD) (a2 : List Int) (a3 : List Bool) (a4 : List SetD) (r : R_F53_3) : AV := match r with | .k0 x0 x1 => (.sl 8 0 1 0 x0)
def F53_3_h (a1 : GramD) (a2 : List Int) (a3 : List Bool) (a4 : List SetD) (r : R_F53_3) : List AB := match r with | .k0 x0 x1 => [.cells 89 [(.ro (eOp a1 a2 a3))], bS [], bB [], bS [], .cells 63 [ls 4 eSet a4], .cells 100 [(.fn 77 [.ptr 0 0])], .cells 100 [(.fn 77 [.ptr 0 0])], bB [], bB x1, bB [], .cells 56 [(.sl 8 0 1 0 (tS a1))]]
def F53_3 (a1 : GramD) (a2 : List Int) : Option R_F53_3 :=
  (bif (mkOk (a1.sorts.length : Int) 1) then ((ixN (Int.toNat (a1.sorts.length : Int)) a1.start).bind fun x2 => (((List.replicate (Int.toNat (a1.sorts.length : Int)) false)[x2]?).bind fun x3 => ((F46_6 a1 a2 ((List.replicate (Int.toNat (a1.sorts.length : Int)) false).set x2 true) (Int.toNat (a1.sorts.length : Int))).bind fun x4 => (some (.k0 (Int.toNat (a1.sorts.length : Int)) x4))))) else none)
abbrev F53_3_d0 (a1 : GramD) (a2 : List Int) (a3 : List Bool) (a4 : List SetD) : List AB := [.cells 89 [(.ro (eOp a1 a2 a3))], bS [], bB [], bS [], .cells 63 [ls 4 eSet a4], .cells 100 [(.fn 77 [.ptr 0 0])], .cells 100 [(.fn 77 [.ptr 0 0])], bB [], bB (List.replicate (tS a1) false)]
abbrev F53_3_d1 (a1 : GramD) (a2 : List Int) (a3 : List Bool) (a4 : List SetD) (x2 : Nat) : List AB := [.cells 89 [(.ro (eOp a1 a2 a3))], bS [], bB [], bS [], .cells 63 [ls 4 eSet a4], .cells 100 [(.fn 77 [.ptr 0 0])], .cells 100 [(.fn 77 [.ptr 0 0])], bB [], bB ((List.replicate (tS a1) false).set x2 true), bB [], .cells 56 [(.sl 8 0 1 0 (tS a1))]]
abbrev F53_3_d2 (a1 : GramD) (a2 : List Int) (a3 : List Bool) (a4 : List SetD) (x4 : List Bool) : List AB := [.cells 89 [(.ro (eOp a1 a2 a3))], bS [], bB [], bS [], .cells 63 [ls 4 eSet a4], .cells 100 [(.fn 77 [.ptr 0 0])], .cells 100 [(.fn 77 [.ptr 0 0])], bB [], bB x4, bB [], .cells 56 [(.sl 8 0 1 0 (tS a1))]]
abbrev F53_3_d3 (a1 : GramD) (a2 : List Int) (a3 : List Bool) (a4 : List SetD) : List AB := [.cells 89 [(.ro (eOp a1 a2 a3))], bS [], bB [], bS [], .cells 63 [ls 4 eSet a4], .cells 100 [(.fn 77 [.ptr 0 0])], .cells 100 [(.fn 77 [.ptr 0 0])], bB []]
theorem F53_3_ok (a1 : GramD) (a2 : List Int) (a3 : List Bool) (a4 : List SetD) {r : R_F53_3} (h : F53_3 a1 a2 = some r) : CS prg 53 [(.ro (eOp a1 a2 a3)), (.fn 77 [.ptr 0 0])] [.cells 89 [(.ro (eOp a1 a2 a3))], bS [], bB [], bS [], .cells 63 [ls 4 eSet a4], .cells 100 [(.fn 77 [.ptr 0 0])]] = some (F53_3_v a1 a2 a3 a4 r, F53_3_h a1 a2 a3 a4 r) := by
 unfold F53_3 at h
 have k0 := ka [(11, .v (i6 (lS a1)))] (apc (lg a1.sorts eStr 1) apn)
 apply bi h <;> intro h1 h
 ·
  apply bn h; intro x2 h2 h
  apply bn h; intro x3 h3 h
  apply bn h; intro x4 h4 h
  rw [← sj h]
  exact fc ([(12, .r (.sl 8 0 1 0 (tS a1)) (F53_3_d0 a1 a2 a3 a4)), (19, .v (.rp 8 0 1 x2 0)), (1019, .r ud (F53_3_d1 a1 a2 a3 a4 x2)), (22, .r (.tup []) (F53_3_d2 a1 a2 a3 a4 x4))] ++ kH k0) (k0.b (apc ((mk_row' (h := (F53_3_d3 a1 a2 a3 a4)) (e := eBool) (z := false) h1 rfl) : (mkA 4 1 1 [.val (.bool false)] (i6 (lS a1)) (i6 (lS a1)) 8).map (fun x => (x.1, (F53_3_d3 a1 a2 a3 a4) ++ [x.2])) = some ((.sl 8 0 1 0 (tS a1)), F53_3_d0 a1 a2 a3 a4)) (apc ((idx_sl h2) : idxA 1 (.sl 8 0 1 0 (tS a1)) (i6 a1.start) = some (.rp 8 0 1 x2 0)) (apc (⟨st_row (v' := true) rfl h3 rfl rfl (Nat.le_of_ble_eq_true rfl) rfl, rfl⟩ : stA [.cells 89 [(.ro (eOp a1 a2 a3))], bS [], bB [], bS [], .cells 63 [ls 4 eSet a4], .cells 100 [(.fn 77 [.ptr 0 0])], .cells 100 [(.fn 77 [.ptr 0 0])], bB [], bB (List.replicate (tS a1) false), bB [], .cells 56 [(.sl 8 0 1 0 (tS a1))]] 1 (.rp 8 0 1 x2 0) (vb true) = some (F53_3_d1 a1 a2 a3 a4 x2) ∧ ud = ud) (apc ((F46_6_ok a1 a2 a3 a4 ((List.replicate (tS a1) false).set x2 true) (tS a1) h4) : CS prg 46 [(.ro (eOp a1 a2 a3)), (.fn 72 [.ptr 10 0, .ptr 6 0])] (F53_3_d1 a1 a2 a3 a4 x2) = some ((.tup []), F53_3_d2 a1 a2 a3 a4 x4)) apn)))))
 ·
  cases h
def F77_2_v (a1 : ProdD) (a2 : GramD) (a3 : List Int) (a4 : List Bool) (a5 : List SetD) (a6 : List Bool) (a7 a8 : Nat) (a9 : List SetD) (a10 : List Bool) (x0 : Bool) : AV := (vb x0)
def F77_2_h (a1 : ProdD) (a2 : GramD) (a3 : List Int) (a4 : List Bool) (a5 : List SetD) (a6 : List Bool) (a7 a8 : Nat) (a9 : List SetD) (a10 : List Bool) (x0 : Bool) : List AB := [.cells 89 [(.ro (eOp a2 a3 a4))], bS [], bB [], bS [], .cells 63 [ls 4 eSet a5], .cells 100 [(.fn 77 [.ptr 0 0])], .cells 100 [(.fn 77 [.ptr 0 0])], bB [], bB a6, bB [], .cells 56 [.sl 8 0 1 0 a7], bB [], .cells 56 [.sl 8 0 1 0 a8], bS a9, bB a10, bS [], .cells 63 [.sl 13 0 4 0 a7], bB [], .cells 56 [.sl 14 0 1 0 a7], yY0, bP a1, bP a1, bP a1]
def F77_2 (a1 : ProdD) (a3 : List Int) : Option Bool :=
  ((F48 a3 a1).bind fun x1 => (some (decide (x1 ≥ 0))))
theorem F77_2_ok (a1 : ProdD) (a2 : GramD) (a3 : List Int) (a4 : List Bool) (a5 : List SetD) (a6 : List Bool) (a7 a8 : Nat) (a9 : List SetD) (a10 : List Bool) {r : Bool} (h : F77_2 a1 a3 = some r) : CS prg 77 [aP a1, .ptr 0 0] [.cells 89 [(.ro (eOp a2 a3 a4))], bS [], bB [], bS [], .cells 63 [ls 4 eSet a5], .cells 100 [(.fn 77 [.ptr 0 0])], .cells 100 [(.fn 77 [.ptr 0 0])], bB [], bB a6, bB [], .cells 56 [.sl 8 0 1 0 a7], bB [], .cells 56 [.sl 8 0 1 0 a8], bS a9, bB a10, bS [], .cells 63 [.sl 13 0 4 0 a7], bB [], .cells 56 [.sl 14 0 1 0 a7], yY0, bP a1, bP a1] = some (F77_2_v a1 a2 a3 a4 a5 a6 a7 a8 a9 a10 r, F77_2_h a1 a2 a3 a4 a5 a6 a7 a8 a9 a10 r) := by
 unfold F77_2 at h
 apply bn h; intro x1 h1 h
 rw [← sj h]
 exact fc [(6, .v (i6 x1))] (apc (((F48_ok a2 a3 a4 a1 h1).cp rfl _) : CP prg 48 [(.ro (eOp a2 a3 a4)), aP a1] [.cells 89 [(.ro (eOp a2 a3 a4))], bS [], bB [], bS [], .cells 63 [ls 4 eSet a5], .cells 100 [(.fn 77 [.ptr 0 0])], .cells 100 [(.fn 77 [.ptr 0 0])], bB [], bB a6, bB [], .cells 56 [.sl 8 0 1 0 a7], bB [], .cells 56 [.sl 8 0 1 0 a8], bS a9, bB a10, bS [], .cells 63 [.sl 13 0 4 0 a7], bB [], .cells 56 [.sl 14 0 1 0 a7], yY0, bP a1, bP a1, bP a1] = some (i6 x1)) apn)
inductive E_L78_0 where
  | k0 (x0 : Bool) (x1 : List SetD) (x2 : List Bool) (x3 x4 x5 x6 : Int)
section
variable (a4 : GramD) (a5 : List Int) (a6 : List Bool) (a7 : List SetD) (a8 : List Bool) (a9 a10 : Nat) (a13 : ProdD)
abbrev L78_0_p (l : List AB) : List AB := .cells 89 [(.ro (eOp a4 a5 a6))] :: bS [] :: bB [] :: bS [] :: .cells 63 [ls 4 eSet a7] :: .cells 100 [(.fn 77 [.ptr 0 0])] :: .cells 100 [(.fn 77 [.ptr 0 0])] :: bB [] :: bB a8 :: bB [] :: .cells 56 [.sl 8 0 1 0 a9] :: bB [] :: .cells 56 [.sl 8 0 1 0 a10] :: l
def L78_0 (v1 v2 : Bool) (v3 : Int) (v4 : List SetD) (v5 : List Bool) (v6 v7 v8 v9 : Int) : Option (E_L78_0 ⊕ (Bool × Bool × Int × (List SetD) × (List Bool) × Int × Int × Int × Int)) :=
  (bif (decide (v3 ≥ 0)) then ((getI a13.right v3).bind fun x2 => (bif (x2.kind == 0) then (some (.inr (v1, false, (IntKind.wrap .i64 (v3 - 1)), v4, v5, x2.a, x2.b, x2.c, x2.d))) else ((ixN a9 x2.sort).bind fun x4 => ((v4[x4]?).bind fun x5 => ((F76 ([(⟨x5.a, x5.b, x5.c, x5.d⟩ : SetD), (⟨v6, v7, v8, v9⟩ : SetD)])).bind fun r6 => match r6 with | .k0 x6_0 x6_1 x6_2 x6_3 => (bif v1 then ((v5[x4]?).bind fun x8 => (bif x8 then ((F55 a6 x2).bind fun x10 => (bif x10 then ((getI a7 x2.sort).bind fun x12 => ((F76 ([(⟨v6, v7, v8, v9⟩ : SetD), (⟨x12.a, x12.b, x12.c, x12.d⟩ : SetD)])).bind fun r13 => match r13 with | .k0 x13_0 x13_1 x13_2 x13_3 => (some (.inr (true, v2, (IntKind.wrap .i64 (v3 - 1)), (v4.set x4 (⟨x6_0, x6_1, x6_2, x6_3⟩ : SetD)), v5.set x4 true, x13_0, x13_1, x13_2, x13_3))))) else ((getI a7 x2.sort).bind fun x12 => (some (.inr (true, false, (IntKind.wrap .i64 (v3 - 1)), (v4.set x4 (⟨x6_0, x6_1, x6_2, x6_3⟩ : SetD)), v5.set x4 true, x12.a, x12.b, x12.c, x12.d)))))) else ((F55 a6 x2).bind fun x10 => (bif x10 then ((getI a7 x2.sort).bind fun x12 => ((F76 ([(⟨v6, v7, v8, v9⟩ : SetD), (⟨x12.a, x12.b, x12.c, x12.d⟩ : SetD)])).bind fun r13 => match r13 with | .k0 x13_0 x13_1 x13_2 x13_3 => (some (.inr (true, v2, (IntKind.wrap .i64 (v3 - 1)), (v4.set x4 (⟨x6_0, x6_1, x6_2, x6_3⟩ : SetD)), v5.set x4 v2, x13_0, x13_1, x13_2, x13_3))))) else ((getI a7 x2.sort).bind fun x12 => (some (.inr (true, false, (IntKind.wrap .i64 (v3 - 1)), (v4.set x4 (⟨x6_0, x6_1, x6_2, x6_3⟩ : SetD)), v5.set x4 v2, x12.a, x12.b, x12.c, x12.d)))))))) else (bif (!((x6_0 == x5.a) && ((x6_1 == x5.b) && ((x6_2 == x5.c) && ((x6_3 == x5.d) && true))))) then ((v5[x4]?).bind fun x9 => (bif x9 then ((F55 a6 x2).bind fun x11 => (bif x11 then ((getI a7 x2.sort).bind fun x13 => ((F76 ([(⟨v6, v7, v8, v9⟩ : SetD), (⟨x13.a, x13.b, x13.c, x13.d⟩ : SetD)])).bind fun r14 => match r14 with | .k0 x14_0 x14_1 x14_2 x14_3 => (some (.inr (true, v2, (IntKind.wrap .i64 (v3 - 1)), (v4.set x4 (⟨x6_0, x6_1, x6_2, x6_3⟩ : SetD)), v5.set x4 true, x14_0, x14_1, x14_2, x14_3))))) else ((getI a7 x2.sort).bind fun x13 => (some (.inr (true, false, (IntKind.wrap .i64 (v3 - 1)), (v4.set x4 (⟨x6_0, x6_1, x6_2, x6_3⟩ : SetD)), v5.set x4 true, x13.a, x13.b, x13.c, x13.d)))))) else ((F55 a6 x2).bind fun x11 => (bif x11 then ((getI a7 x2.sort).bind fun x13 => ((F76 ([(⟨v6, v7, v8, v9⟩ : SetD), (⟨x13.a, x13.b, x13.c, x13.d⟩ : SetD)])).bind fun r14 => match r14 with | .k0 x14_0 x14_1 x14_2 x14_3 => (some (.inr (true, v2, (IntKind.wrap .i64 (v3 - 1)), (v4.set x4 (⟨x6_0, x6_1, x6_2, x6_3⟩ : SetD)), v5.set x4 v2, x14_0, x14_1, x14_2, x14_3))))) else ((getI a7 x2.sort).bind fun x13 => (some (.inr (true, false, (IntKind.wrap .i64 (v3 - 1)), (v4.set x4 (⟨x6_0, x6_1, x6_2, x6_3⟩ : SetD)), v5.set x4 v2, x13.a, x13.b, x13.c, x13.d)))))))) else (bif v2 then ((v5[x4]?).bind fun x10 => (bif x10 then ((F55 a6 x2).bind fun x12 => (bif x12 then ((getI a7 x2.sort).bind fun x14 => ((F76 ([(⟨v6, v7, v8, v9⟩ : SetD), (⟨x14.a, x14.b, x14.c, x14.d⟩ : SetD)])).bind fun r15 => match r15 with | .k0 x15_0 x15_1 x15_2 x15_3 => (some (.inr (false, v2, (IntKind.wrap .i64 (v3 - 1)), (v4.set x4 (⟨x6_0, x6_1, x6_2, x6_3⟩ : SetD)), v5.set x4 true, x15_0, x15_1, x15_2, x15_3))))) else ((getI a7 x2.sort).bind fun x14 => (some (.inr (false, false, (IntKind.wrap .i64 (v3 - 1)), (v4.set x4 (⟨x6_0, x6_1, x6_2, x6_3⟩ : SetD)), v5.set x4 true, x14.a, x14.b, x14.c, x14.d)))))) else ((F55 a6 x2).bind fun x12 => (bif x12 then ((getI a7 x2.sort).bind fun x14 => ((F76 ([(⟨v6, v7, v8, v9⟩ : SetD), (⟨x14.a, x14.b, x14.c, x14.d⟩ : SetD)])).bind fun r15 => match r15 with | .k0 x15_0 x15_1 x15_2 x15_3 => (some (.inr (true, v2, (IntKind.wrap .i64 (v3 - 1)), (v4.set x4 (⟨x6_0, x6_1, x6_2, x6_3⟩ : SetD)), v5.set x4 v2, x15_0, x15_1, x15_2, x15_3))))) else ((getI a7 x2.sort).bind fun x14 => (some (.inr (true, false, (IntKind.wrap .i64 (v3 - 1)), (v4.set x4 (⟨x6_0, x6_1, x6_2, x6_3⟩ : SetD)), v5.set x4 v2, x14.a, x14.b, x14.c, x14.d)))))))) else ((v5[x4]?).bind fun x10 => (bif x10 then ((F55 a6 x2).bind fun x12 => (bif x12 then ((getI a7 x2.sort).bind fun x14 => ((F76 ([(⟨v6, v7, v8, v9⟩ : SetD), (⟨x14.a, x14.b, x14.c, x14.d⟩ : SetD)])).bind fun r15 => match r15 with | .k0 x15_0 x15_1 x15_2 x15_3 => (some (.inr (false, v2, (IntKind.wrap .i64 (v3 - 1)), (v4.set x4 (⟨x6_0, x6_1, x6_2, x6_3⟩ : SetD)), v5.set x4 true, x15_0, x15_1, x15_2, x15_3))))) else ((getI a7 x2.sort).bind fun x14 => (some (.inr (false, false, (IntKind.wrap .i64 (v3 - 1)), (v4.set x4 (⟨x6_0, x6_1, x6_2, x6_3⟩ : SetD)), v5.set x4 true, x14.a, x14.b, x14.c, x14.d)))))) else ((F55 a6 x2).bind fun x12 => (bif x12 then ((getI a7 x2.sort).bind fun x14 => ((F76 ([(⟨v6, v7, v8, v9⟩ : SetD), (⟨x14.a, x14.b, x14.c, x14.d⟩ : SetD)])).bind fun r15 => match r15 with | .k0 x15_0 x15_1 x15_2 x15_3 => (some (.inr (false, v2, (IntKind.wrap .i64 (v3 - 1)), (v4.set x4 (⟨x6_0, x6_1, x6_2, x6_3⟩ : SetD)), v5.set x4 v2, x15_0, x15_1, x15_2, x15_3))))) else ((getI a7 x2.sort).bind fun x14 => (some (.inr (false, false, (IntKind.wrap .i64 (v3 - 1)), (v4.set x4 (⟨x6_0, x6_1, x6_2, x6_3⟩ : SetD)), v5.set x4 v2, x14.a, x14.b, x14.c, x14.d)))))))))))))))) else (some (.inl (.k0 v1 v4 v5 v6 v7 v8 v9))))
def L78_0_s (v1 v2 : Bool) (v3 : Int) (v4 : List SetD) (v5 : List Bool) (v6 v7 v8 v9 : Int) : St := ⟨fr 132 ug [(3, .ptr 0 0), (4, .ptr 16 0), (5, .ptr 18 0), (6, .ptr 4 0), (7, .ptr 21 0), (9, vb v1), (10, .ptr 23 0), (11, vb v2), (12, i6 v3)], (L78_0_p a4 a5 a6 a7 a8 a9 a10 [bS v4, bB v5, bS [], .cells 63 [.sl 13 0 4 0 a9], bB [], .cells 56 [.sl 14 0 1 0 a9], yY0, bP a13, bP a13, bP a13, .cells 46 [vi .u64 v6, vi .u64 v7, vi .u64 v8, vi .u64 v9]])⟩
theorem L78_0_k (v1 v2 : Bool) (v3 : Int) (v4 : List SetD) (v5 : List Bool) (v6 v7 v8 v9 : Int) : okT 24 (L78_0_s a4 a5 a6 a7 a8 a9 a10 a13 v1 v2 v3 v4 v5 v6 v7 v8 v9).h = true := (okT_of rfl (ac (ar (ar (ar (ac (ac (ac (ar (ar (ar (ac (ar (ac (ar (ar (ar (ac (ar (ac (ar (ac (ac (ac (ac rfl)))))))))))))))))))))))))
abbrev L78_0_e (v1 v2 : Bool) (v3 : Int) (v4 : List SetD) (v5 : List Bool) (v6 v7 v8 v9 : Int) := evH prg 24 [3, 4, 5, 6, 7, 9, 10, 11, 12] ir78_l0 (L78_0_s a4 a5 a6 a7 a8 a9 a10 a13 v1 v2 v3 v4 v5 v6 v7 v8 v9)
def L78_0_x (e : E_L78_0) (r : Option (Out × St)) : Prop := match e with | .k0 x0 x1 x2 x3 x4 x5 x6 => ∃ g, r = some ((.brk 0), ⟨fr 132 g [(3, .ptr 0 0), (4, .ptr 16 0), (5, .ptr 18 0), (7, .ptr 21 0), (9, vb x0), (10, .ptr 23 0)], (L78_0_p a4 a5 a6 a7 a8 a9 a10 [bS x1, bB x2, bS [], .cells 63 [.sl 13 0 4 0 a9], bB [], .cells 56 [.sl 14 0 1 0 a9], yY0, bP a13, bP a13, bP a13, .cells 46 [vi .u64 x3, vi .u64 x4, vi .u64 x5, vi .u64 x6]])⟩)
abbrev L78_0_d0 (v4 : List SetD) (v5 : List Bool) (v6 v7 v8 v9 : Int) (x2 : SymD) : List AB := (L78_0_p a4 a5 a6 a7 a8 a9 a10 [bS v4, bB v5, bS [], .cells 63 [.sl 13 0 4 0 a9], bB [], .cells 56 [.sl 14 0 1 0 a9], yY0, bP a13, bP a13, bP a13, .cells 46 [vi .u64 v6, vi .u64 v7, vi .u64 v8, vi .u64 v9], .cells 48 ((eSym x2).map .p), .hole])
abbrev L78_0_d1 (v4 : List SetD) (v5 : List Bool) (v6 v7 v8 v9 : Int) (x2 : SymD) (x6_0 x6_1 x6_2 x6_3 : Int) : List AB := (L78_0_p a4 a5 a6 a7 a8 a9 a10 [bS v4, bB v5, bS [], .cells 63 [.sl 13 0 4 0 a9], bB [], .cells 56 [.sl 14 0 1 0 a9], yY0, bP a13, bP a13, bP a13, .cells 46 [vi .u64 v6, vi .u64 v7, vi .u64 v8, vi .u64 v9], .cells 48 ((eSym x2).map .p), .cells 46 [vi .u64 x6_0, vi .u64 x6_1, vi .u64 x6_2, vi .u64 x6_3]])
abbrev L78_0_d2 (v4 : List SetD) (x4 : Nat) (x6_0 x6_1 x6_2 x6_3 : Int) (v5 : List Bool) (v6 v7 v8 v9 : Int) (x2 : SymD) : List AB := (L78_0_p a4 a5 a6 a7 a8 a9 a10 [bS (v4.set x4 (⟨x6_0, x6_1, x6_2, x6_3⟩ : SetD)), bB v5, bS [], .cells 63 [.sl 13 0 4 0 a9], bB [], .cells 56 [.sl 14 0 1 0 a9], yY0, bP a13, bP a13, bP a13, .cells 46 [vi .u64 v6, vi .u64 v7, vi .u64 v8, vi .u64 v9], .cells 48 ((eSym x2).map .p), .cells 46 [vi .u64 x6_0, vi .u64 x6_1, vi .u64 x6_2, vi .u64 x6_3]])
abbrev L78_0_d3 (v4 : List SetD) (x4 : Nat) (x6_0 x6_1 x6_2 x6_3 : Int) (v5 : List Bool) (v6 v7 v8 v9 : Int) (x2 : SymD) : List AB := (L78_0_p a4 a5 a6 a7 a8 a9 a10 [bS (v4.set x4 (⟨x6_0, x6_1, x6_2, x6_3⟩ : SetD)), bB (v5.set x4 true), bS [], .cells 63 [.sl 13 0 4 0 a9], bB [], .cells 56 [.sl 14 0 1 0 a9], yY0, bP a13, bP a13, bP a13, .cells 46 [vi .u64 v6, vi .u64 v7, vi .u64 v8, vi .u64 v9], .cells 48 ((eSym x2).map .p), .cells 46 [vi .u64 x6_0, vi .u64 x6_1, vi .u64 x6_2, vi .u64 x6_3]])
abbrev L78_0_d4 (v4 : List SetD) (x4 : Nat) (x6_0 x6_1 x6_2 x6_3 : Int) (v5 : List Bool) (v2 : Bool) (v6 v7 v8 v9 : Int) (x2 : SymD) : List AB := (L78_0_p a4 a5 a6 a7 a8 a9 a10 [bS (v4.set x4 (⟨x6_0, x6_1, x6_2, x6_3⟩ : SetD)), bB (v5.set x4 v2), bS [], .cells 63 [.sl 13 0 4 0 a9], bB [], .cells 56 [.sl 14 0 1 0 a9], yY0, bP a13, bP a13, bP a13, .cells 46 [vi .u64 v6, vi .u64 v7, vi .u64 v8, vi .u64 v9], .cells 48 ((eSym x2).map .p), .cells 46 [vi .u64 x6_0, vi .u64 x6_1, vi .u64 x6_2, vi .u64 x6_3]])
theorem L78_0_ok (v1 v2 : Bool) (v3 : Int) (v4 : List SetD) (v5 : List Bool) (v6 v7 v8 v9 : Int) {r : E_L78_0 ⊕ (Bool × Bool × Int × (List SetD) × (List Bool) × Int × Int × Int × Int)} (h : L78_0 a6 a7 a9 a13 v1 v2 v3 v4 v5 v6 v7 v8 v9 = some r) : OkR (fun e => L78_0_x a4 a5 a6 a7 a8 a9 a10 a13 e (L78_0_e a4 a5 a6 a7 a8 a9 a10 a13 v1 v2 v3 v4 v5 v6 v7 v8 v9)) (fun s => L78_0_e a4 a5 a6 a7 a8 a9 a10 a13 v1 v2 v3 v4 v5 v6 v7 v8 v9 = L78_0_e a4 a5 a6 a7 a8 a9 a10 a13 s.1 s.2.1 s.2.2.1 s.2.2.2.1 s.2.2.2.2.1 s.2.2.2.2.2.1 s.2.2.2.2.2.2.1 s.2.2.2.2.2.2.2.1 s.2.2.2.2.2.2.2.2) r := by
 unfold L78_0 at h
 apply bi h <;> intro h1 h
 ·
  apply bn h; intro x2 h2 h
  have k0 := ka [(56, .d true), (62, .v (.ro (eSym x2)))] (av h1 (apc (ig eSym 6 .i64 h2) apn))
  apply bi h <;> intro h3 h
  ·
   rw [← sj h]
   exact rn ([(66, .d true), (6000, .d true)] ++ kH k0) (k0.b (av h3 (apc (L78_0_k a4 a5 a6 a7 a8 a9 a10 a13 v1 false (w6 (v3 - 1)) v4 v5 x2.a x2.b x2.c x2.d) apn)))
  ·
   apply bn h; intro x4 h4 h
   have q1 := ((idx_sl h4) : idxA 4 (.sl 13 0 4 0 a9) (i6 x2.sort) = some (.rp 13 0 4 x4 0))
   have q2 := ((idx_sl h4) : idxA 1 (.sl 14 0 1 0 a9) (i6 x2.sort) = some (.rp 14 0 1 x4 0))
   have k3 := k0.a [(66, .d false), (72, .v (.rp 13 0 4 x4 0))] (av h3 (apc q1 apn))
   apply bn h; intro x5 h5 h
   have q4 := ((ld_row rfl h5 rfl) : ldA (L78_0_d0 a4 a5 a6 a7 a8 a9 a10 a13 v4 v5 v6 v7 v8 v9 x2) .true 4 (.rp 13 0 4 x4 0) = some (.agg ((eSet x5).map .p)))
   apply bn h; intro r6 h6 h
   cases r6 with
   | k0 x6_0 x6_1 x6_2 x6_3 =>
    have q5 := (((F76_ok ([(⟨x5.a, x5.b, x5.c, x5.d⟩ : SetD), (⟨v6, v7, v8, v9⟩ : SetD)]) h6).cp rfl _) : CP prg 76 [(.p (.lst 4 ([(⟨x5.a, x5.b, x5.c, x5.d⟩ : SetD), (⟨v6, v7, v8, v9⟩ : SetD)].map eSet)))] (L78_0_d0 a4 a5 a6 a7 a8 a9 a10 a13 v4 v5 v6 v7 v8 v9 x2) = some (.agg [vi .u64 x6_0, vi .u64 x6_1, vi .u64 x6_2, vi .u64 x6_3]))
    have q6 := (⟨st_row (v' := (⟨x6_0, x6_1, x6_2, x6_3⟩ : SetD)) rfl h5 rfl rfl (Nat.le_of_ble_eq_true rfl) rfl, rfl⟩ : stA (L78_0_d1 a4 a5 a6 a7 a8 a9 a10 a13 v4 v5 v6 v7 v8 v9 x2 x6_0 x6_1 x6_2 x6_3) 4 (.rp 13 0 4 x4 0) (.agg [vi .u64 x6_0, vi .u64 x6_1, vi .u64 x6_2, vi .u64 x6_3]) = some (L78_0_d2 a4 a5 a6 a7 a8 a9 a10 a13 v4 x4 x6_0 x6_1 x6_2 x6_3 v5 v6 v7 v8 v9 x2) ∧ ud = ud)
    have q7 := ((ld_row rfl h5 rfl) : ldA (L78_0_d1 a4 a5 a6 a7 a8 a9 a10 a13 v4 v5 v6 v7 v8 v9 x2 x6_0 x6_1 x6_2 x6_3) .true 4 (.rp 13 0 4 x4 0) = some (.agg ((eSet x5).map .p)))
    have k8 := k3.a [(73, .v (.agg ((eSet x5).map .p))), (76, .v (.agg [vi .u64 x6_0, vi .u64 x6_1, vi .u64 x6_2, vi .u64 x6_3]))] (apc q4 (apc q5 apn))
    apply bi h <;> intro h7 h
    ·
     have k9 := k8.a [(77, .d true), (102, .v (.rp 13 0 4 x4 0)), (1102, .r ud (L78_0_d2 a4 a5 a6 a7 a8 a9 a10 a13 v4 x4 x6_0 x6_1 x6_2 x6_3 v5 v6 v7 v8 v9 x2)), (109, .v (.rp 14 0 1 x4 0))] (av h7 (apc q1 (apc q6 (apc q2 apn))))
     apply bn h; intro x8 h8 h
     have q10 := (⟨st_row (v' := true) rfl h8 rfl rfl (Nat.le_of_ble_eq_true rfl) rfl, rfl⟩ : stA (L78_0_d2 a4 a5 a6 a7 a8 a9 a10 a13 v4 x4 x6_0 x6_1 x6_2 x6_3 v5 v6 v7 v8 v9 x2) 1 (.rp 14 0 1 x4 0) (vb true) = some (L78_0_d3 a4 a5 a6 a7 a8 a9 a10 a13 v4 x4 x6_0 x6_1 x6_2 x6_3 v5 v6 v7 v8 v9 x2) ∧ ud = ud)
     have q11 := (⟨st_row (v' := v2) rfl h8 rfl rfl (Nat.le_of_ble_eq_true rfl) rfl, rfl⟩ : stA (L78_0_d2 a4 a5 a6 a7 a8 a9 a10 a13 v4 x4 x6_0 x6_1 x6_2 x6_3 v5 v6 v7 v8 v9 x2) 1 (.rp 14 0 1 x4 0) (vb v2) = some (L78_0_d4 a4 a5 a6 a7 a8 a9 a10 a13 v4 x4 x6_0 x6_1 x6_2 x6_3 v5 v2 v6 v7 v8 v9 x2) ∧ ud = ud)
     apply bi h <;> intro h9 h
     ·
      have q12 := (((ld_row (V := vb x8) rfl h8 rfl).trans (congrArg (fun z => some (vb z)) h9)) : ldA (L78_0_d2 a4 a5 a6 a7 a8 a9 a10 a13 v4 x4 x6_0 x6_1 x6_2 x6_3 v5 v6 v7 v8 v9 x2) .false 1 (.rp 14 0 1 x4 0) = some (vb true))
      have k13 := k9.a [(110, .v (vb true)), (114, .v (.rp 14 0 1 x4 0)), (1114, .r ud (L78_0_d3 a4 a5 a6 a7 a8 a9 a10 a13 v4 x4 x6_0 x6_1 x6_2 x6_3 v5 v6 v7 v8 v9 x2))] (apc q12 (apc q2 (apc q10 apn)))
      apply bn h; intro x10 h10 h
      apply bi h <;> intro h11 h
      ·
       apply bn h; intro x12 h12 h
       apply bn h; intro r13 h13 h
       cases r13 with
       | k0 x13_0 x13_1 x13_2 x13_3 =>
        rw [← sj h]
        exact rn ([(117, .v (vb true)), (122, .v (.ro (eSet x12))), (125, .v (.agg [vi .u64 x13_0, vi .u64 x13_1, vi .u64 x13_2, vi .u64 x13_3])), (6000, .d true)] ++ kH k13) (k13.b (apc ((((F55_ok a4 a5 a6 x2 h10).cp rfl _).trans (congrArg (fun z => some (vb z)) h11)) : CP prg 55 [(.ro (eOp a4 a5 a6)), (.agg ((eSym x2).map .p))] (L78_0_d3 a4 a5 a6 a7 a8 a9 a10 a13 v4 x4 x6_0 x6_1 x6_2 x6_3 v5 v6 v7 v8 v9 x2) = some (vb true)) (apc (ig eSet 4 .i64 h12) (apc (((F76_ok ([(⟨v6, v7, v8, v9⟩ : SetD), (⟨x12.a, x12.b, x12.c, x12.d⟩ : SetD)]) h13).cp rfl _) : CP prg 76 [(.p (.lst 4 ([(⟨v6, v7, v8, v9⟩ : SetD), (⟨x12.a, x12.b, x12.c, x12.d⟩ : SetD)].map eSet)))] (L78_0_d3 a4 a5 a6 a7 a8 a9 a10 a13 v4 x4 x6_0 x6_1 x6_2 x6_3 v5 v6 v7 v8 v9 x2) = some (.agg [vi .u64 x13_0, vi .u64 x13_1, vi .u64 x13_2, vi .u64 x13_3])) (apc (L78_0_k a4 a5 a6 a7 a8 a9 a10 a13 true v2 (w6 (v3 - 1)) (v4.set x4 (⟨x6_0, x6_1, x6_2, x6_3⟩ : SetD)) (v5.set x4 true) x13_0 x13_1 x13_2 x13_3) apn)))))
      ·
       apply bn h; intro x12 h12 h
       rw [← sj h]
       exact rn ([(117, .v (vb false)), (129, .v (.ro (eSet x12))), (6000, .d true)] ++ kH k13) (k13.b (apc ((((F55_ok a4 a5 a6 x2 h10).cp rfl _).trans (congrArg (fun z => some (vb z)) h11)) : CP prg 55 [(.ro (eOp a4 a5 a6)), (.agg ((eSym x2).map .p))] (L78_0_d3 a4 a5 a6 a7 a8 a9 a10 a13 v4 x4 x6_0 x6_1 x6_2 x6_3 v5 v6 v7 v8 v9 x2) = some (vb false)) (apc (ig eSet 4 .i64 h12) (apc (L78_0_k a4 a5 a6 a7 a8 a9 a10 a13 true false (w6 (v3 - 1)) (v4.set x4 (⟨x6_0, x6_1, x6_2, x6_3⟩ : SetD)) (v5.set x4 true) x12.a x12.b x12.c x12.d) apn))))
     ·
      have q14 := (((ld_row (V := vb x8) rfl h8 rfl).trans (congrArg (fun z => some (vb z)) h9)) : ldA (L78_0_d2 a4 a5 a6 a7 a8 a9 a10 a13 v4 x4 x6_0 x6_1 x6_2 x6_3 v5 v6 v7 v8 v9 x2) .false 1 (.rp 14 0 1 x4 0) = some (vb false))
      have k15 := k9.a [(110, .v (vb false)), (114, .v (.rp 14 0 1 x4 0)), (1114, .r ud (L78_0_d4 a4 a5 a6 a7 a8 a9 a10 a13 v4 x4 x6_0 x6_1 x6_2 x6_3 v5 v2 v6 v7 v8 v9 x2))] (apc q14 (apc q2 (apc q11 apn)))
      apply bn h; intro x10 h10 h
      apply bi h <;> intro h11 h
      ·
       apply bn h; intro x12 h12 h
       apply bn h; intro r13 h13 h
       cases r13 with
       | k0 x13_0 x13_1 x13_2 x13_3 =>
        rw [← sj h]
        exact rn ([(117, .v (vb true)), (122, .v (.ro (eSet x12))), (125, .v (.agg [vi .u64 x13_0, vi .u64 x13_1, vi .u64 x13_2, vi .u64 x13_3])), (6000, .d true)] ++ kH k15) (k15.b (apc ((((F55_ok a4 a5 a6 x2 h10).cp rfl _).trans (congrArg (fun z => some (vb z)) h11)) : CP prg 55 [(.ro (eOp a4 a5 a6)), (.agg ((eSym x2).map .p))] (L78_0_d4 a4 a5 a6 a7 a8 a9 a10 a13 v4 x4 x6_0 x6_1 x6_2 x6_3 v5 v2 v6 v7 v8 v9 x2) = some (vb true)) (apc (ig eSet 4 .i64 h12) (apc (((F76_ok ([(⟨v6, v7, v8, v9⟩ : SetD), (⟨x12.a, x12.b, x12.c, x12.d⟩ : SetD)]) h13).cp rfl _) : CP prg 76 [(.p (.lst 4 ([(⟨v6, v7, v8, v9⟩ : SetD), (⟨x12.a, x12.b, x12.c, x12.d⟩ : SetD)].map eSet)))] (L78_0_d4 a4 a5 a6 a7 a8 a9 a10 a13 v4 x4 x6_0 x6_1 x6_2 x6_3 v5 v2 v6 v7 v8 v9 x2) = some (.agg [vi .u64 x13_0, vi .u64 x13_1, vi .u64 x13_2, vi .u64 x13_3])) (apc (L78_0_k a4 a5 a6 a7 a8 a9 a10 a13 true v2 (w6 (v3 - 1)) (v4.set x4 (⟨x6_0, x6_1, x6_2, x6_3⟩ : SetD)) (v5.set x4 v2) x13_0 x13_1 x13_2 x13_3) apn)))))
      ·
       apply bn h; intro x12 h12 h
       rw [← sj h]
       exact rn ([(117, .v (vb false)), (129, .v (.ro (eSet x12))), (6000, .d true)] ++ kH k15) (k15.b (apc ((((F55_ok a4 a5 a6 x2 h10).cp rfl _).trans (congrArg (fun z => some (vb z)) h11)) : CP prg 55 [(.ro (eOp a4 a5 a6)), (.agg ((eSym x2).map .p))] (L78_0_d4 a4 a5 a6 a7 a8 a9 a10 a13 v4 x4 x6_0 x6_1 x6_2 x6_3 v5 v2 v6 v7 v8 v9 x2) = some (vb false)) (apc (ig eSet 4 .i64 h12) (apc (L78_0_k a4 a5 a6 a7 a8 a9 a10 a13 true false (w6 (v3 - 1)) (v4.set x4 (⟨x6_0, x6_1, x6_2, x6_3⟩ : SetD)) (v5.set x4 v2) x12.a x12.b x12.c x12.d) apn))))
    ·
     have k16 := k8.a [(77, .d false), (83, .v (.rp 13 0 4 x4 0)), (84, .v (.agg ((eSet x5).map .p)))] (av h7 (apc q1 (apc q7 apn)))
     apply bi h <;> intro h8 h
     ·
      have k17 := k16.a [(85, .d true), (102, .v (.rp 13 0 4 x4 0)), (1102, .r ud (L78_0_d2 a4 a5 a6 a7 a8 a9 a10 a13 v4 x4 x6_0 x6_1 x6_2 x6_3 v5 v6 v7 v8 v9 x2)), (109, .v (.rp 14 0 1 x4 0))] (av h8 (apc q1 (apc q6 (apc q2 apn))))
      apply bn h; intro x9 h9 h
      have q18 := (⟨st_row (v' := true) rfl h9 rfl rfl (Nat.le_of_ble_eq_true rfl) rfl, rfl⟩ : stA (L78_0_d2 a4 a5 a6 a7 a8 a9 a10 a13 v4 x4 x6_0 x6_1 x6_2 x6_3 v5 v6 v7 v8 v9 x2) 1 (.rp 14 0 1 x4 0) (vb true) = some (L78_0_d3 a4 a5 a6 a7 a8 a9 a10 a13 v4 x4 x6_0 x6_1 x6_2 x6_3 v5 v6 v7 v8 v9 x2) ∧ ud = ud)
      have q19 := (⟨st_row (v' := v2) rfl h9 rfl rfl (Nat.le_of_ble_eq_true rfl) rfl, rfl⟩ : stA (L78_0_d2 a4 a5 a6 a7 a8 a9 a10 a13 v4 x4 x6_0 x6_1 x6_2 x6_3 v5 v6 v7 v8 v9 x2) 1 (.rp 14 0 1 x4 0) (vb v2) = some (L78_0_d4 a4 a5 a6 a7 a8 a9 a10 a13 v4 x4 x6_0 x6_1 x6_2 x6_3 v5 v2 v6 v7 v8 v9 x2) ∧ ud = ud)
      apply bi h <;> intro h10 h
      ·
       have q20 := (((ld_row (V := vb x9) rfl h9 rfl).trans (congrArg (fun z => some (vb z)) h10)) : ldA (L78_0_d2 a4 a5 a6 a7 a8 a9 a10 a13 v4 x4 x6_0 x6_1 x6_2 x6_3 v5 v6 v7 v8 v9 x2) .false 1 (.rp 14 0 1 x4 0) = some (vb true))
       have k21 := k17.a [(110, .v (vb true)), (114, .v (.rp 14 0 1 x4 0)), (1114, .r ud (L78_0_d3 a4 a5 a6 a7 a8 a9 a10 a13 v4 x4 x6_0 x6_1 x6_2 x6_3 v5 v6 v7 v8 v9 x2))] (apc q20 (apc q2 (apc q18 apn)))
       apply bn h; intro x11 h11 h
       apply bi h <;> intro h12 h
       ·
        apply bn h; intro x13 h13 h
        apply bn h; intro r14 h14 h
        cases r14 with
        | k0 x14_0 x14_1 x14_2 x14_3 =>
         rw [← sj h]
         exact rn ([(117, .v (vb true)), (122, .v (.ro (eSet x13))), (125, .v (.agg [vi .u64 x14_0, vi .u64 x14_1, vi .u64 x14_2, vi .u64 x14_3])), (6000, .d true)] ++ kH k21) (k21.b (apc ((((F55_ok a4 a5 a6 x2 h11).cp rfl _).trans (congrArg (fun z => some (vb z)) h12)) : CP prg 55 [(.ro (eOp a4 a5 a6)), (.agg ((eSym x2).map .p))] (L78_0_d3 a4 a5 a6 a7 a8 a9 a10 a13 v4 x4 x6_0 x6_1 x6_2 x6_3 v5 v6 v7 v8 v9 x2) = some (vb true)) (apc (ig eSet 4 .i64 h13) (apc (((F76_ok ([(⟨v6, v7, v8, v9⟩ : SetD), (⟨x13.a, x13.b, x13.c, x13.d⟩ : SetD)]) h14).cp rfl _) : CP prg 76 [(.p (.lst 4 ([(⟨v6, v7, v8, v9⟩ : SetD), (⟨x13.a, x13.b, x13.c, x13.d⟩ : SetD)].map eSet)))] (L78_0_d3 a4 a5 a6 a7 a8 a9 a10 a13 v4 x4 x6_0 x6_1 x6_2 x6_3 v5 v6 v7 v8 v9 x2) = some (.agg [vi .u64 x14_0, vi .u64 x14_1, vi .u64 x14_2, vi .u64 x14_3])) (apc (L78_0_k a4 a5 a6 a7 a8 a9 a10 a13 true v2 (w6 (v3 - 1)) (v4.set x4 (⟨x6_0, x6_1, x6_2, x6_3⟩ : SetD)) (v5.set x4 true) x14_0 x14_1 x14_2 x14_3) apn)))))
       ·
        apply bn h; intro x13 h13 h
        rw [← sj h]
        exact rn ([(117, .v (vb false)), (129, .v (.ro (eSet x13))), (6000, .d true)] ++ kH k21) (k21.b (apc ((((F55_ok a4 a5 a6 x2 h11).cp rfl _).trans (congrArg (fun z => some (vb z)) h12)) : CP prg 55 [(.ro (eOp a4 a5 a6)), (.agg ((eSym x2).map .p))] (L78_0_d3 a4 a5 a6 a7 a8 a9 a10 a13 v4 x4 x6_0 x6_1 x6_2 x6_3 v5 v6 v7 v8 v9 x2) = some (vb false)) (apc (ig eSet 4 .i64 h13) (apc (L78_0_k a4 a5 a6 a7 a8 a9 a10 a13 true false (w6 (v3 - 1)) (v4.set x4 (⟨x6_0, x6_1, x6_2, x6_3⟩ : SetD)) (v5.set x4 true) x13.a x13.b x13.c x13.d) apn))))
      ·
       have q22 := (((ld_row (V := vb x9) rfl h9 rfl).trans (congrArg (fun z => some (vb z)) h10)) : ldA (L78_0_d2 a4 a5 a6 a7 a8 a9 a10 a13 v4 x4 x6_0 x6_1 x6_2 x6_3 v5 v6 v7 v8 v9 x2) .false 1 (.rp 14 0 1 x4 0) = some (vb false))
       have k23 := k17.a [(110, .v (vb false)), (114, .v (.rp 14 0 1 x4 0)), (1114, .r ud (L78_0_d4 a4 a5 a6 a7 a8 a9 a10 a13 v4 x4 x6_0 x6_1 x6_2 x6_3 v5 v2 v6 v7 v8 v9 x2))] (apc q22 (apc q2 (apc q19 apn)))
       apply bn h; intro x11 h11 h
       apply bi h <;> intro h12 h
       ·
        apply bn h; intro x13 h13 h
        apply bn h; intro r14 h14 h
        cases r14 with
        | k0 x14_0 x14_1 x14_2 x14_3 =>
         rw [← sj h]
         exact rn ([(117, .v (vb true)), (122, .v (.ro (eSet x13))), (125, .v (.agg [vi .u64 x14_0, vi .u64 x14_1, vi .u64 x14_2, vi .u64 x14_3])), (6000, .d true)] ++ kH k23) (k23.b (apc ((((F55_ok a4 a5 a6 x2 h11).cp rfl _).trans (congrArg (fun z => some (vb z)) h12)) : CP prg 55 [(.ro (eOp a4 a5 a6)), (.agg ((eSym x2).map .p))] (L78_0_d4 a4 a5 a6 a7 a8 a9 a10 a13 v4 x4 x6_0 x6_1 x6_2 x6_3 v5 v2 v6 v7 v8 v9 x2) = some (vb true)) (apc (ig eSet 4 .i64 h13) (apc (((F76_ok ([(⟨v6, v7, v8, v9⟩ : SetD), (⟨x13.a, x13.b, x13.c, x13.d⟩ : SetD)]) h14).cp rfl _) : CP prg 76 [(.p (.lst 4 ([(⟨v6, v7, v8, v9⟩ : SetD), (⟨x13.a, x13.b, x13.c, x13.d⟩ : SetD)].map eSet)))] (L78_0_d4 a4 a5 a6 a7 a8 a9 a10 a13 v4 x4 x6_0 x6_1 x6_2 x6_3 v5 v2 v6 v7 v8 v9 x2) = some (.agg [vi .u64 x14_0, vi .u64 x14_1, vi .u64 x14_2, vi .u64 x14_3])) (apc (L78_0_k a4 a5 a6 a7 a8 a9 a10 a13 true v2 (w6 (v3 - 1)) (v4.set x4 (⟨x6_0, x6_1, x6_2, x6_3⟩ : SetD)) (v5.set x4 v2) x14_0 x14_1 x14_2 x14_3) apn)))))
       ·
        apply bn h; intro x13 h13 h
        rw [← sj h]
        exact rn ([(117, .v (vb false)), (129, .v (.ro (eSet x13))), (6000, .d true)] ++ kH k23) (k23.b (apc ((((F55_ok a4 a5 a6 x2 h11).cp rfl _).trans (congrArg (fun z => some (vb z)) h12)) : CP prg 55 [(.ro (eOp a4 a5 a6)), (.agg ((eSym x2).map .p))] (L78_0_d4 a4 a5 a6 a7 a8 a9 a10 a13 v4 x4 x6_0 x6_1 x6_2 x6_3 v5 v2 v6 v7 v8 v9 x2) = some (vb false)) (apc (ig eSet 4 .i64 h13) (apc (L78_0_k a4 a5 a6 a7 a8 a9 a10 a13 true false (w6 (v3 - 1)) (v4.set x4 (⟨x6_0, x6_1, x6_2, x6_3⟩ : SetD)) (v5.set x4 v2) x13.a x13.b x13.c x13.d) apn))))
     ·
      apply bi h <;> intro h9 h
      ·
       have k24 := k16.a [(85, .d false), (88, .d true), (93, .v (.rp 14 0 1 x4 0))] (av h8 (av h9 (apc q2 apn)))
       apply bn h; intro x10 h10 h
       have q25 := (⟨st_row (v' := true) rfl h10 rfl rfl (Nat.le_of_ble_eq_true rfl) rfl, rfl⟩ : stA (L78_0_d2 a4 a5 a6 a7 a8 a9 a10 a13 v4 x4 x6_0 x6_1 x6_2 x6_3 v5 v6 v7 v8 v9 x2) 1 (.rp 14 0 1 x4 0) (vb true) = some (L78_0_d3 a4 a5 a6 a7 a8 a9 a10 a13 v4 x4 x6_0 x6_1 x6_2 x6_3 v5 v6 v7 v8 v9 x2) ∧ ud = ud)
       have q26 := (⟨st_row (v' := v2) rfl h10 rfl rfl (Nat.le_of_ble_eq_true rfl) rfl, rfl⟩ : stA (L78_0_d2 a4 a5 a6 a7 a8 a9 a10 a13 v4 x4 x6_0 x6_1 x6_2 x6_3 v5 v6 v7 v8 v9 x2) 1 (.rp 14 0 1 x4 0) (vb v2) = some (L78_0_d4 a4 a5 a6 a7 a8 a9 a10 a13 v4 x4 x6_0 x6_1 x6_2 x6_3 v5 v2 v6 v7 v8 v9 x2) ∧ ud = ud)
       apply bi h <;> intro h11 h
       ·
        have q27 := (((ld_row (V := vb x10) rfl h10 rfl).trans (congrArg (fun z => some (vb z)) h11)) : ldA (L78_0_d1 a4 a5 a6 a7 a8 a9 a10 a13 v4 v5 v6 v7 v8 v9 x2 x6_0 x6_1 x6_2 x6_3) .false 1 (.rp 14 0 1 x4 0) = some (vb true))
        have q28 := (((ld_row (V := vb x10) rfl h10 rfl).trans (congrArg (fun z => some (vb z)) h11)) : ldA (L78_0_d2 a4 a5 a6 a7 a8 a9 a10 a13 v4 x4 x6_0 x6_1 x6_2 x6_3 v5 v6 v7 v8 v9 x2) .false 1 (.rp 14 0 1 x4 0) = some (vb true))
        have k29 := k24.a [(94, .v (vb true)), (102, .v (.rp 13 0 4 x4 0)), (1102, .r ud (L78_0_d2 a4 a5 a6 a7 a8 a9 a10 a13 v4 x4 x6_0 x6_1 x6_2 x6_3 v5 v6 v7 v8 v9 x2)), (109, .v (.rp 14 0 1 x4 0)), (110, .v (vb true)), (114, .v (.rp 14 0 1 x4 0)), (1114, .r ud (L78_0_d3 a4 a5 a6 a7 a8 a9 a10 a13 v4 x4 x6_0 x6_1 x6_2 x6_3 v5 v6 v7 v8 v9 x2))] (apc q27 (apc q1 (apc q6 (apc q2 (apc q28 (apc q2 (apc q25 apn)))))))
        apply bn h; intro x12 h12 h
        apply bi h <;> intro h13 h
        ·
         apply bn h; intro x14 h14 h
         apply bn h; intro r15 h15 h
         cases r15 with
         | k0 x15_0 x15_1 x15_2 x15_3 =>
          rw [← sj h]
          exact rn ([(117, .v (vb true)), (122, .v (.ro (eSet x14))), (125, .v (.agg [vi .u64 x15_0, vi .u64 x15_1, vi .u64 x15_2, vi .u64 x15_3])), (6000, .d true)] ++ kH k29) (k29.b (apc ((((F55_ok a4 a5 a6 x2 h12).cp rfl _).trans (congrArg (fun z => some (vb z)) h13)) : CP prg 55 [(.ro (eOp a4 a5 a6)), (.agg ((eSym x2).map .p))] (L78_0_d3 a4 a5 a6 a7 a8 a9 a10 a13 v4 x4 x6_0 x6_1 x6_2 x6_3 v5 v6 v7 v8 v9 x2) = some (vb true)) (apc (ig eSet 4 .i64 h14) (apc (((F76_ok ([(⟨v6, v7, v8, v9⟩ : SetD), (⟨x14.a, x14.b, x14.c, x14.d⟩ : SetD)]) h15).cp rfl _) : CP prg 76 [(.p (.lst 4 ([(⟨v6, v7, v8, v9⟩ : SetD), (⟨x14.a, x14.b, x14.c, x14.d⟩ : SetD)].map eSet)))] (L78_0_d3 a4 a5 a6 a7 a8 a9 a10 a13 v4 x4 x6_0 x6_1 x6_2 x6_3 v5 v6 v7 v8 v9 x2) = some (.agg [vi .u64 x15_0, vi .u64 x15_1, vi .u64 x15_2, vi .u64 x15_3])) (apc (L78_0_k a4 a5 a6 a7 a8 a9 a10 a13 false v2 (w6 (v3 - 1)) (v4.set x4 (⟨x6_0, x6_1, x6_2, x6_3⟩ : SetD)) (v5.set x4 true) x15_0 x15_1 x15_2 x15_3) apn)))))
        ·
         apply bn h; intro x14 h14 h
         rw [← sj h]
         exact rn ([(117, .v (vb false)), (129, .v (.ro (eSet x14))), (6000, .d true)] ++ kH k29) (k29.b (apc ((((F55_ok a4 a5 a6 x2 h12).cp rfl _).trans (congrArg (fun z => some (vb z)) h13)) : CP prg 55 [(.ro (eOp a4 a5 a6)), (.agg ((eSym x2).map .p))] (L78_0_d3 a4 a5 a6 a7 a8 a9 a10 a13 v4 x4 x6_0 x6_1 x6_2 x6_3 v5 v6 v7 v8 v9 x2) = some (vb false)) (apc (ig eSet 4 .i64 h14) (apc (L78_0_k a4 a5 a6 a7 a8 a9 a10 a13 false false (w6 (v3 - 1)) (v4.set x4 (⟨x6_0, x6_1, x6_2, x6_3⟩ : SetD)) (v5.set x4 true) x14.a x14.b x14.c x14.d) apn))))
       ·
        have q30 := (((ld_row (V := vb x10) rfl h10 rfl).trans (congrArg (fun z => some (vb z)) h11)) : ldA (L78_0_d1 a4 a5 a6 a7 a8 a9 a10 a13 v4 v5 v6 v7 v8 v9 x2 x6_0 x6_1 x6_2 x6_3) .false 1 (.rp 14 0 1 x4 0) = some (vb false))
        have q31 := (((ld_row (V := vb x10) rfl h10 rfl).trans (congrArg (fun z => some (vb z)) h11)) : ldA (L78_0_d2 a4 a5 a6 a7 a8 a9 a10 a13 v4 x4 x6_0 x6_1 x6_2 x6_3 v5 v6 v7 v8 v9 x2) .false 1 (.rp 14 0 1 x4 0) = some (vb false))
        have k32 := k24.a [(94, .v (vb false)), (102, .v (.rp 13 0 4 x4 0)), (1102, .r ud (L78_0_d2 a4 a5 a6 a7 a8 a9 a10 a13 v4 x4 x6_0 x6_1 x6_2 x6_3 v5 v6 v7 v8 v9 x2)), (109, .v (.rp 14 0 1 x4 0)), (110, .v (vb false)), (114, .v (.rp 14 0 1 x4 0)), (1114, .r ud (L78_0_d4 a4 a5 a6 a7 a8 a9 a10 a13 v4 x4 x6_0 x6_1 x6_2 x6_3 v5 v2 v6 v7 v8 v9 x2))] (apc q30 (apc q1 (apc q6 (apc q2 (apc q31 (apc q2 (apc q26 apn)))))))
        apply bn h; intro x12 h12 h
        apply bi h <;> intro h13 h
        ·
         apply bn h; intro x14 h14 h
         apply bn h; intro r15 h15 h
         cases r15 with
         | k0 x15_0 x15_1 x15_2 x15_3 =>
          rw [← sj h]
          exact rn ([(117, .v (vb true)), (122, .v (.ro (eSet x14))), (125, .v (.agg [vi .u64 x15_0, vi .u64 x15_1, vi .u64 x15_2, vi .u64 x15_3])), (6000, .d true)] ++ kH k32) (k32.b (apc ((((F55_ok a4 a5 a6 x2 h12).cp rfl _).trans (congrArg (fun z => some (vb z)) h13)) : CP prg 55 [(.ro (eOp a4 a5 a6)), (.agg ((eSym x2).map .p))] (L78_0_d4 a4 a5 a6 a7 a8 a9 a10 a13 v4 x4 x6_0 x6_1 x6_2 x6_3 v5 v2 v6 v7 v8 v9 x2) = some (vb true)) (apc (ig eSet 4 .i64 h14) (apc (((F76_ok ([(⟨v6, v7, v8, v9⟩ : SetD), (⟨x14.a, x14.b, x14.c, x14.d⟩ : SetD)]) h15).cp rfl _) : CP prg 76 [(.p (.lst 4 ([(⟨v6, v7, v8, v9⟩ : SetD), (⟨x14.a, x14.b, x14.c, x14.d⟩ : SetD)].map eSet)))] (L78_0_d4 a4 a5 a6 a7 a8 a9 a10 a13 v4 x4 x6_0 x6_1 x6_2 x6_3 v5 v2 v6 v7 v8 v9 x2) = some (.agg [vi .u64 x15_0, vi .u64 x15_1, vi .u64 x15_2, vi .u64 x15_3])) (apc (L78_0_k a4 a5 a6 a7 a8 a9 a10 a13 true v2 (w6 (v3 - 1)) (v4.set x4 (⟨x6_0, x6_1, x6_2, x6_3⟩ : SetD)) (v5.set x4 v2) x15_0 x15_1 x15_2 x15_3) apn)))))
        ·
         apply bn h; intro x14 h14 h
         rw [← sj h]
         exact rn ([(117, .v (vb false)), (129, .v (.ro (eSet x14))), (6000, .d true)] ++ kH k32) (k32.b (apc ((((F55_ok a4 a5 a6 x2 h12).cp rfl _).trans (congrArg (fun z => some (vb z)) h13)) : CP prg 55 [(.ro (eOp a4 a5 a6)), (.agg ((eSym x2).map .p))] (L78_0_d4 a4 a5 a6 a7 a8 a9 a10 a13 v4 x4 x6_0 x6_1 x6_2 x6_3 v5 v2 v6 v7 v8 v9 x2) = some (vb false)) (apc (ig eSet 4 .i64 h14) (apc (L78_0_k a4 a5 a6 a7 a8 a9 a10 a13 true false (w6 (v3 - 1)) (v4.set x4 (⟨x6_0, x6_1, x6_2, x6_3⟩ : SetD)) (v5.set x4 v2) x14.a x14.b x14.c x14.d) apn))))
      ·
       have k33 := k16.a [(85, .d false), (88, .d false), (102, .v (.rp 13 0 4 x4 0)), (1102, .r ud (L78_0_d2 a4 a5 a6 a7 a8 a9 a10 a13 v4 x4 x6_0 x6_1 x6_2 x6_3 v5 v6 v7 v8 v9 x2)), (109, .v (.rp 14 0 1 x4 0))] (av h8 (av h9 (apc q1 (apc q6 (apc q2 apn)))))
       apply bn h; intro x10 h10 h
       have q34 := (⟨st_row (v' := true) rfl h10 rfl rfl (Nat.le_of_ble_eq_true rfl) rfl, rfl⟩ : stA (L78_0_d2 a4 a5 a6 a7 a8 a9 a10 a13 v4 x4 x6_0 x6_1 x6_2 x6_3 v5 v6 v7 v8 v9 x2) 1 (.rp 14 0 1 x4 0) (vb true) = some (L78_0_d3 a4 a5 a6 a7 a8 a9 a10 a13 v4 x4 x6_0 x6_1 x6_2 x6_3 v5 v6 v7 v8 v9 x2) ∧ ud = ud)
       have q35 := (⟨st_row (v' := v2) rfl h10 rfl rfl (Nat.le_of_ble_eq_true rfl) rfl, rfl⟩ : stA (L78_0_d2 a4 a5 a6 a7 a8 a9 a10 a13 v4 x4 x6_0 x6_1 x6_2 x6_3 v5 v6 v7 v8 v9 x2) 1 (.rp 14 0 1 x4 0) (vb v2) = some (L78_0_d4 a4 a5 a6 a7 a8 a9 a10 a13 v4 x4 x6_0 x6_1 x6_2 x6_3 v5 v2 v6 v7 v8 v9 x2) ∧ ud = ud)
       apply bi h <;> intro h11 h
       ·
        have q36 := (((ld_row (V := vb x10) rfl h10 rfl).trans (congrArg (fun z => some (vb z)) h11)) : ldA (L78_0_d2 a4 a5 a6 a7 a8 a9 a10 a13 v4 x4 x6_0 x6_1 x6_2 x6_3 v5 v6 v7 v8 v9 x2) .false 1 (.rp 14 0 1 x4 0) = some (vb true))
        have k37 := k33.a [(110, .v (vb true)), (114, .v (.rp 14 0 1 x4 0)), (1114, .r ud (L78_0_d3 a4 a5 a6 a7 a8 a9 a10 a13 v4 x4 x6_0 x6_1 x6_2 x6_3 v5 v6 v7 v8 v9 x2))] (apc q36 (apc q2 (apc q34 apn)))
        apply bn h; intro x12 h12 h
        apply bi h <;> intro h13 h
        ·
         apply bn h; intro x14 h14 h
         apply bn h; intro r15 h15 h
         cases r15 with
         | k0 x15_0 x15_1 x15_2 x15_3 =>
          rw [← sj h]
          exact rn ([(117, .v (vb true)), (122, .v (.ro (eSet x14))), (125, .v (.agg [vi .u64 x15_0, vi .u64 x15_1, vi .u64 x15_2, vi .u64 x15_3])), (6000, .d true)] ++ kH k37) (k37.b (apc ((((F55_ok a4 a5 a6 x2 h12).cp rfl _).trans (congrArg (fun z => some (vb z)) h13)) : CP prg 55 [(.ro (eOp a4 a5 a6)), (.agg ((eSym x2).map .p))] (L78_0_d3 a4 a5 a6 a7 a8 a9 a10 a13 v4 x4 x6_0 x6_1 x6_2 x6_3 v5 v6 v7 v8 v9 x2) = some (vb true)) (apc (ig eSet 4 .i64 h14) (apc (((F76_ok ([(⟨v6, v7, v8, v9⟩ : SetD), (⟨x14.a, x14.b, x14.c, x14.d⟩ : SetD)]) h15).cp rfl _) : CP prg 76 [(.p (.lst 4 ([(⟨v6, v7, v8, v9⟩ : SetD), (⟨x14.a, x14.b, x14.c, x14.d⟩ : SetD)].map eSet)))] (L78_0_d3 a4 a5 a6 a7 a8 a9 a10 a13 v4 x4 x6_0 x6_1 x6_2 x6_3 v5 v6 v7 v8 v9 x2) = some (.agg [vi .u64 x15_0, vi .u64 x15_1, vi .u64 x15_2, vi .u64 x15_3])) (apc (L78_0_k a4 a5 a6 a7 a8 a9 a10 a13 false v2 (w6 (v3 - 1)) (v4.set x4 (⟨x6_0, x6_1, x6_2, x6_3⟩ : SetD)) (v5.set x4 true) x15_0 x15_1 x15_2 x15_3) apn)))))
        ·
         apply bn h; intro x14 h14 h
         rw [← sj h]
         exact rn ([(117, .v (vb false)), (129, .v (.ro (eSet x14))), (6000, .d true)] ++ kH k37) (k37.b (apc ((((F55_ok a4 a5 a6 x2 h12).cp rfl _).trans (congrArg (fun z => some (vb z)) h13)) : CP prg 55 [(.ro (eOp a4 a5 a6)), (.agg ((eSym x2).map .p))] (L78_0_d3 a4 a5 a6 a7 a8 a9 a10 a13 v4 x4 x6_0 x6_1 x6_2 x6_3 v5 v6 v7 v8 v9 x2) = some (vb false)) (apc (ig eSet 4 .i64 h14) (apc (L78_0_k a4 a5 a6 a7 a8 a9 a10 a13 false false (w6 (v3 - 1)) (v4.set x4 (⟨x6_0, x6_1, x6_2, x6_3⟩ : SetD)) (v5.set x4 true) x14.a x14.b x14.c x14.d) apn))))
       ·
        have q38 := (((ld_row (V := vb x10) rfl h10 rfl).trans (congrArg (fun z => some (vb z)) h11)) : ldA (L78_0_d2 a4 a5 a6 a7 a8 a9 a10 a13 v4 x4 x6_0 x6_1 x6_2 x6_3 v5 v6 v7 v8 v9 x2) .false 1 (.rp 14 0 1 x4 0) = some (vb false))
        have k39 := k33.a [(110, .v (vb false)), (114, .v (.rp 14 0 1 x4 0)), (1114, .r ud (L78_0_d4 a4 a5 a6 a7 a8 a9 a10 a13 v4 x4 x6_0 x6_1 x6_2 x6_3 v5 v2 v6 v7 v8 v9 x2))] (apc q38 (apc q2 (apc q35 apn)))
        apply bn h; intro x12 h12 h
        apply bi h <;> intro h13 h
        ·
         apply bn h; intro x14 h14 h
         apply bn h; intro r15 h15 h
         cases r15 with
         | k0 x15_0 x15_1 x15_2 x15_3 =>
          rw [← sj h]
          exact rn ([(117, .v (vb true)), (122, .v (.ro (eSet x14))), (125, .v (.agg [vi .u64 x15_0, vi .u64 x15_1, vi .u64 x15_2, vi .u64 x15_3])), (6000, .d true)] ++ kH k39) (k39.b (apc ((((F55_ok a4 a5 a6 x2 h12).cp rfl _).trans (congrArg (fun z => some (vb z)) h13)) : CP prg 55 [(.ro (eOp a4 a5 a6)), (.agg ((eSym x2).map .p))] (L78_0_d4 a4 a5 a6 a7 a8 a9 a10 a13 v4 x4 x6_0 x6_1 x6_2 x6_3 v5 v2 v6 v7 v8 v9 x2) = some (vb true)) (apc (ig eSet 4 .i64 h14) (apc (((F76_ok ([(⟨v6, v7, v8, v9⟩ : SetD), (⟨x14.a, x14.b, x14.c, x14.d⟩ : SetD)]) h15).cp rfl _) : CP prg 76 [(.p (.lst 4 ([(⟨v6, v7, v8, v9⟩ : SetD), (⟨x14.a, x14.b, x14.c, x14.d⟩ : SetD)].map eSet)))] (L78_0_d4 a4 a5 a6 a7 a8 a9 a10 a13 v4 x4 x6_0 x6_1 x6_2 x6_3 v5 v2 v6 v7 v8 v9 x2) = some (.agg [vi .u64 x15_0, vi .u64 x15_1, vi .u64 x15_2, vi .u64 x15_3])) (apc (L78_0_k a4 a5 a6 a7 a8 a9 a10 a13 false v2 (w6 (v3 - 1)) (v4.set x4 (⟨x6_0, x6_1, x6_2, x6_3⟩ : SetD)) (v5.set x4 v2) x15_0 x15_1 x15_2 x15_3) apn)))))
        ·
         apply bn h; intro x14 h14 h
         rw [← sj h]
         exact rn ([(117, .v (vb false)), (129, .v (.ro (eSet x14))), (6000, .d true)] ++ kH k39) (k39.b (apc ((((F55_ok a4 a5 a6 x2 h12).cp rfl _).trans (congrArg (fun z => some (vb z)) h13)) : CP prg 55 [(.ro (eOp a4 a5 a6)), (.agg ((eSym x2).map .p))] (L78_0_d4 a4 a5 a6 a7 a8 a9 a10 a13 v4 x4 x6_0 x6_1 x6_2 x6_3 v5 v2 v6 v7 v8 v9 x2) = some (vb false)) (apc (ig eSet 4 .i64 h14) (apc (L78_0_k a4 a5 a6 a7 a8 a9 a10 a13 false false (w6 (v3 - 1)) (v4.set x4 (⟨x6_0, x6_1, x6_2, x6_3⟩ : SetD)) (v5.set x4 v2) x14.a x14.b x14.c x14.d) apn))))
 ·
  rw [← sj h]
  exact xb [(56, .d false), (6000, .d true)] (av h1 apn)
theorem L78_0_run (s0 : Bool × Bool × Int × (List SetD) × (List Bool) × Int × Int × Int × Int) (e : E_L78_0) (h : runL (fun s => L78_0 a6 a7 a9 a13 s.1 s.2.1 s.2.2.1 s.2.2.2.1 s.2.2.2.2.1 s.2.2.2.2.2.1 s.2.2.2.2.2.2.1 s.2.2.2.2.2.2.2.1 s.2.2.2.2.2.2.2.2) s0 = some e) : L78_0_x a4 a5 a6 a7 a8 a9 a10 a13 e (L78_0_e a4 a5 a6 a7 a8 a9 a10 a13 s0.1 s0.2.1 s0.2.2.1 s0.2.2.2.1 s0.2.2.2.2.1 s0.2.2.2.2.2.1 s0.2.2.2.2.2.2.1 s0.2.2.2.2.2.2.2.1 s0.2.2.2.2.2.2.2.2) := by
  have q := @loop_sound' (Bool × Bool × Int × (List SetD) × (List Bool) × Int × Int × Int × Int) E_L78_0 (fun s => L78_0 a6 a7 a9 a13 s.1 s.2.1 s.2.2.1 s.2.2.2.1 s.2.2.2.2.1 s.2.2.2.2.2.1 s.2.2.2.2.2.2.1 s.2.2.2.2.2.2.2.1 s.2.2.2.2.2.2.2.2) (fun s => L78_0_e a4 a5 a6 a7 a8 a9 a10 a13 s.1 s.2.1 s.2.2.1 s.2.2.2.1 s.2.2.2.2.1 s.2.2.2.2.2.1 s.2.2.2.2.2.2.1 s.2.2.2.2.2.2.2.1 s.2.2.2.2.2.2.2.2) (L78_0_x a4 a5 a6 a7 a8 a9 a10 a13) (fun s r h => L78_0_ok a4 a5 a6 a7 a8 a9 a10 a13 s.1 s.2.1 s.2.2.1 s.2.2.2.1 s.2.2.2.2.1 s.2.2.2.2.2.1 s.2.2.2.2.2.2.1 s.2.2.2.2.2.2.2.1 s.2.2.2.2.2.2.2.2 h) s0 e h
  exact q
end
end
end Go.Proofs.Tryd
