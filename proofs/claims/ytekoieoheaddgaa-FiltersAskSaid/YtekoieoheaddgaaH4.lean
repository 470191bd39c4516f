/- Decompiled by a program: functions as plain data see them, part 1. -/
import Derived.Test.YtekoieoheaddgaaW4
namespace Go.Proofs.Try
set_option linter.unusedSimpArgs false
set_option linter.unusedVariables false
open Go Go.Vs
noncomputable section
inductive E_L4_0 where
  | k0 (x0 : Bool)
  | k1
section
variable (a1 : Int) (a2 : GramD) (a3 : ByteArray) (a4 : Int)
def L4_0 (v1 : Int) : Option (E_L4_0 ⊕ (Int)) :=
  (bif (decide (v1 < (a2.prods.length : Int))) then ((getI a2.prods v1).bind fun x2 => (bif (decide ((x2.right.length : Int) > 200)) then ((F10).bind fun x4 => (some (.inl (.k0 x4)))) else (some (.inr ((IntKind.wrap .i64 (v1 + 1))))))) else (some (.inl (.k1))))
def L4_0_s (v1 : Int) : St := ⟨fr 159 ug [(1, i6 a1), (3, .ptr 0 0), (5, .ptr 1 0), (7, i6 v1)], [bG a2, .cells 48 [vs a3, i6 a4]]⟩
theorem L4_0_k (v1 : Int) : okT 2 (L4_0_s a1 a2 a3 a4 v1).h = true := (okT_of rfl (ac (ac rfl)))
abbrev L4_0_e (v1 : Int) := evH prg 2 [1, 3, 5, 7] ir4_l0 (L4_0_s a1 a2 a3 a4 v1)
def L4_0_x (e : E_L4_0) (r : Option (Out × St)) : Prop := match e with | .k0 x0 => ∃ g y, r = some (.ret, ⟨fr 159 g [(6, vb x0)], y⟩) | .k1 => ∃ g, r = some ((.brk 0), ⟨fr 159 g [(1, i6 a1), (3, .ptr 0 0), (5, .ptr 1 0)], [bG a2, .cells 48 [vs a3, i6 a4]]⟩)
theorem L4_0_ok (v1 : Int) {r : E_L4_0 ⊕ (Int)} (h : L4_0 a2 v1 = some r) : OkR (fun e => L4_0_x a1 a2 a3 a4 e (L4_0_e a1 a2 a3 a4 v1)) (fun s => L4_0_e a1 a2 a3 a4 v1 = L4_0_e a1 a2 a3 a4 s) r := by
 unfold L4_0 at h
 have k0 := ka [(45, .v (i6 (lP a2)))] (apc (lg a2.prods eProd 7) apn)
 apply bi h <;> intro h1 h
 ·
  apply bn h; intro x2 h2 h
  have k1 := k0.a [(46, .d true), (52, .v (.ro (eProd x2))), (55, .v (i6 (x2.right.length : Int)))] (av h1 (apc (ig eProd 7 .i64 h2) (apc (lg x2.right eSym 6) apn)))
  apply bi h <;> intro h3 h
  ·
   apply bn h; intro x4 h4 h
   rw [← sj h]
   exact xy ([(56, .d true), (57, .v (vb x4)), (6000, .d true)] ++ kH k1) (k1.b (av h3 (apc (((F10_ok  h4).cp rfl _) : CP prg 10 [] [bG a2, .cells 48 [vs a3, i6 a4]] = some (vb x4)) apn)))
  ·
   rw [← sj h]
   exact rn ([(56, .d false), (6000, .d true)] ++ kH k1) (k1.b (av h3 (apc (L4_0_k a1 a2 a3 a4 (w6 (v1 + 1))) apn)))
 ·
  rw [← sj h]
  exact xb ([(46, .d false), (6000, .d true)] ++ kH k0) (k0.b (av h1 apn))
theorem L4_0_run (s0 : Int) (e : E_L4_0) (h : runL (fun s => L4_0 a2 s) s0 = some e) : L4_0_x a1 a2 a3 a4 e (L4_0_e a1 a2 a3 a4 s0) := by
  have q := @loop_sound' (Int) E_L4_0 (fun s => L4_0 a2 s) (fun s => L4_0_e a1 a2 a3 a4 s) (L4_0_x a1 a2 a3 a4) (fun s r h => L4_0_ok a1 a2 a3 a4 s h) s0 e h
  exact q
end
inductive E_L63_0 where
  | k0
  | k1 (x0 : List (ByteArray × Int))
section
variable (a1 : GramD) (a2 : Int)
def L63_0 (v1 : Int) (v2 : List (ByteArray × Int)) : Option (E_L63_0 ⊕ (Int × (List (ByteArray × Int)))) :=
  (bif (decide (v1 < a2)) then ((getI a1.sorts v1).bind fun x2 => (bif (x2.toList == (⟨([] : List UInt8).toArray⟩ : ByteArray).toList) then (some (.inl (.k0))) else (bif (decide ((x2.size : Int) > 1000)) then (some (.inl (.k0))) else (bif (decide ((mget 0 (mput x2 (IntKind.wrap .i64 ((mget 0 v2 x2) + 1)) v2) x2) > 1)) then (some (.inl (.k0))) else (some (.inr ((IntKind.wrap .i64 (v1 + 1)), (mput x2 (IntKind.wrap .i64 ((mget 0 v2 x2) + 1)) v2)))))))) else (some (.inl (.k1 v2))))
def L63_0_s (v1 : Int) (v2 : List (ByteArray × Int)) : St := ⟨fr 55 ug [(1, .ptr 0 0), (3, .mp 1), (8, ls 1 eStr a1.sorts), (9, i6 a2), (10, i6 v1)], [bG a1, .map 0 (mrow (fun s => vs s) (fun n => vi .i64 n) v2)]⟩
theorem L63_0_k (v1 : Int) (v2 : List (ByteArray × Int)) : okT 2 (L63_0_s a1 a2 v1 v2).h = true := (okT_of rfl (ac (abl_cons (abl_map (fun _ => rfl) (fun _ => rfl)) rfl)))
abbrev L63_0_e (v1 : Int) (v2 : List (ByteArray × Int)) := evH prg 2 [1, 3, 8, 9, 10] ir63_l0 (L63_0_s a1 a2 v1 v2)
def L63_0_x (e : E_L63_0) (r : Option (Out × St)) : Prop := match e with | .k0 => ∃ g y, r = some (.ret, ⟨fr 55 g [(2, vb false)], y⟩) | .k1 x0 => ∃ g, r = some ((.brk 0), ⟨fr 55 g [(1, .ptr 0 0), (8, ls 1 eStr a1.sorts)], [bG a1, .map 0 (mrow (fun s => vs s) (fun n => vi .i64 n) x0)]⟩)
abbrev L63_0_d0 (v2 : List (ByteArray × Int)) : List AB := [bG a1, .map 0 (mrow (fun s => vs s) (fun n => vi .i64 n) v2)]
abbrev L63_0_d1 (x2 : ByteArray) (v2 : List (ByteArray × Int)) : List AB := [bG a1, .map 0 (mrow (fun s => vs s) (fun n => vi .i64 n) (mput x2 (w6 ((mget 0 v2 x2) + 1)) v2))]
theorem L63_0_ok (v1 : Int) (v2 : List (ByteArray × Int)) {r : E_L63_0 ⊕ (Int × (List (ByteArray × Int)))} (h : L63_0 a1 a2 v1 v2 = some r) : OkR (fun e => L63_0_x a1 e (L63_0_e a1 a2 v1 v2)) (fun s => L63_0_e a1 a2 v1 v2 = L63_0_e a1 a2 s.1 s.2) r := by
 unfold L63_0 at h
 apply bi h <;> intro h1 h
 ·
  apply bn h; intro x2 h2 h
  have q0 := ((lk_row key_str (es := v2) (k := x2) (z := 0) rfl rfl) : lkA (L63_0_d0 a1 v2) [2] .false .false [(.val (.int .i64 0))] .false (.mp 1) (vs x2) = some (i6 (mget 0 v2 x2)))
  have q1 := (⟨up_row key_str (es := v2) (k := x2) (v := (w6 ((mget 0 v2 x2) + 1))) rfl, rfl⟩ : upA (L63_0_d0 a1 v2) [2] .false (.mp 1) (vs x2) (i6 (w6 ((mget 0 v2 x2) + 1))) = some (L63_0_d1 a1 x2 v2) ∧ ud = ud)
  have q2 := ((lk_row key_str (es := (mput x2 (w6 ((mget 0 v2 x2) + 1)) v2)) (k := x2) (z := 0) rfl rfl) : lkA (L63_0_d1 a1 x2 v2) [2] .false .false [(.val (.int .i64 0))] .false (.mp 1) (vs x2) = some (i6 (mget 0 (mput x2 (w6 ((mget 0 v2 x2) + 1)) v2) x2)))
  have k3 := ka [(11, .d true), (12, .v (.ro [.val (.string x2)])), (16, .v (i6 (mget 0 v2 x2))), (7017, .r ud (L63_0_d1 a1 x2 v2))] (av h1 (apc (ig eStr 1 .i64 h2) (apc q0 (apc q1 apn))))
  apply bi h <;> intro h3 h
  ·
   rw [← sj h]
   exact xy ([(19, .d true), (6000, .d true)] ++ kH k3) (k3.b (av h3 apn))
  ·
   apply bi h <;> intro h4 h
   ·
    rw [← sj h]
    exact xy ([(19, .d false), (23, .d true), (6000, .d true)] ++ kH k3) (k3.b (av h3 (av h4 apn)))
   ·
    have k4 := k3.a [(19, .d false), (23, .d false), (28, .v (i6 (mget 0 (mput x2 (w6 ((mget 0 v2 x2) + 1)) v2) x2)))] (av h3 (av h4 (apc q2 apn)))
    apply bi h <;> intro h5 h
    ·
     rw [← sj h]
     exact xy ([(29, .d true), (6000, .d true)] ++ kH k4) (k4.b (av h5 apn))
    ·
     rw [← sj h]
     exact rn ([(29, .d false), (6000, .d true)] ++ kH k4) (k4.b (av h5 (apc (L63_0_k a1 a2 (w6 (v1 + 1)) (mput x2 (w6 ((mget 0 v2 x2) + 1)) v2)) apn)))
 ·
  rw [← sj h]
  exact xb [(11, .d false), (6000, .d true)] (av h1 apn)
theorem L63_0_run (s0 : Int × (List (ByteArray × Int))) (e : E_L63_0) (h : runL (fun s => L63_0 a1 a2 s.1 s.2) s0 = some e) : L63_0_x a1 e (L63_0_e a1 a2 s0.1 s0.2) := by
  have q := @loop_sound' (Int × (List (ByteArray × Int))) E_L63_0 (fun s => L63_0 a1 a2 s.1 s.2) (fun s => L63_0_e a1 a2 s.1 s.2) (L63_0_x a1) (fun s r h => L63_0_ok a1 a2 s.1 s.2 h) s0 e h
  exact q
end
def F63_v (a1 : GramD) (x0 : Bool) : AV := (vb x0)
def F63 (a1 : GramD) : Option Bool :=
  ((runL (fun s => L63_0 a1 (a1.sorts.length : Int) s.1 s.2) (0, [])).bind fun r1 => match r1 with | .k0 => (some false) | .k1 x1_0 => (bif (decide ((a1.sorts.length : Int) ≥ 1)) then (bif (decide ((a1.sorts.length : Int) ≤ 1000)) then (bif (decide (a1.start ≥ 0)) then (some (decide (a1.start < (a1.sorts.length : Int)))) else (some false)) else (some false)) else (some false)))
abbrev F63_d0 (g1 : Nat → AV) (a1 : GramD) (x1_0 : List (ByteArray × Int)) : St := ⟨fr 55 g1 [(1, .ptr 0 0), (8, ls 1 eStr a1.sorts)], [bG a1, .map 0 (mrow (fun s => vs s) (fun n => vi .i64 n) x1_0)]⟩
theorem F63_ok (a1 : GramD) {r : Bool} (h : F63 a1 = some r) : PR1 prg 63 [aG a1] (F63_v a1 r) := by
 unfold F63 at h
 have k0 := ka [(9, .v (i6 (lS a1)))] (apc (lg a1.sorts eStr 1) apn)
 apply bn h; intro r1 h1 h
 cases r1 with
 | k0 =>
  obtain ⟨g1, y1, e1⟩ := L63_0_run a1 (lS a1) (0, []) _ h1
  rw [← sj h]
  exact fq ([(2000, .l .ret ⟨fr 55 g1 [(2, vb false)], y1⟩), (6000, .d true)] ++ kH k0) (k0.b (apc (L63_0_k a1 (lS a1) 0 ([])) (apc (e1 : L63_0_e a1 (lS a1) 0 ([]) = some (.ret, ⟨fr 55 g1 [(2, vb false)], y1⟩)) apn)))
 | k1 x1_0 =>
  obtain ⟨g1, e1⟩ := L63_0_run a1 (lS a1) (0, []) _ h1
  have q1 := (e1 : L63_0_e a1 (lS a1) 0 ([]) = some ((.brk 0), F63_d0 g1 a1 x1_0))
  have k2 := k0.a [(2000, .l (.brk 0) (F63_d0 g1 a1 x1_0)), (34, .v (i6 (lS a1)))] (apc (L63_0_k a1 (lS a1) 0 ([])) (apc q1 (apc (lg a1.sorts eStr 1) apn)))
  apply bi h <;> intro h2 h
  ·
   have k3 := k2.a [(35, .d true), (39, .v (i6 (lS a1)))] (av h2 (apc (lg a1.sorts eStr 1) apn))
   apply bi h <;> intro h3 h
   ·
    apply bi h <;> intro h4 h
    ·
     rw [← sj h]
     exact fq ([(40, .d true), (45, .d true), (52, .v (i6 (lS a1))), (6000, .d true)] ++ kH k3) (k3.b (av h3 (av h4 (apc (lg a1.sorts eStr 1) apn))))
    ·
     rw [← sj h]
     exact fq ([(40, .d true), (45, .d false), (6000, .d true)] ++ kH k3) (k3.b (av h3 (av h4 apn)))
   ·
    rw [← sj h]
    exact fq ([(40, .d false), (6000, .d true)] ++ kH k3) (k3.b (av h3 apn))
  ·
   rw [← sj h]
   exact fq ([(35, .d false), (6000, .d true)] ++ kH k2) (k2.b (av h2 apn))
def F73_v (a1 : ProdD) (a2 : GramD) (x0 : Bool) : AV := (vb x0)
def F73 (a1 : ProdD) (a2 : GramD) : Option Bool :=
  (bif (decide (a1.left ≥ 0)) then (some (decide (a1.left < (a2.sorts.length : Int)))) else (some false))
theorem F73_ok (a1 : ProdD) (a2 : GramD) {r : Bool} (h : F73 a1 a2 = some r) : PR1 prg 73 [i6 a1.left, (.ro (eGram a2))] (F73_v a1 a2 r) := by
 unfold F73 at h
 apply bi h <;> intro h1 h
 ·
  rw [← sj h]
  exact fq [(5, .d true), (10, .v (i6 (lS a2)))] (av h1 (apc (lg a2.sorts eStr 1) apn))
 ·
  rw [← sj h]
  exact fq [(5, .d false)] (av h1 apn)
def F73_2_v (a1 : SymD) (a2 : GramD) (x0 : Bool) : AV := (vb x0)
def F73_2 (a1 : SymD) (a2 : GramD) : Option Bool :=
  (bif (decide (a1.sort ≥ 0)) then (some (decide (a1.sort < (a2.sorts.length : Int)))) else (some false))
theorem F73_2_ok (a1 : SymD) (a2 : GramD) {r : Bool} (h : F73_2 a1 a2 = some r) : PR1 prg 73 [i6 a1.sort, (.ro (eGram a2))] (F73_2_v a1 a2 r) := by
 unfold F73_2 at h
 apply bi h <;> intro h1 h
 ·
  rw [← sj h]
  exact fq [(5, .d true), (10, .v (i6 (lS a2)))] (av h1 (apc (lg a2.sorts eStr 1) apn))
 ·
  rw [← sj h]
  exact fq [(5, .d false)] (av h1 apn)
inductive E_L64_0_2 where
  | k0
  | k1
section
variable (a1 : GramD) (a2 a3 : Int) (a4 : ProdD) (a5 : Int)
abbrev L64_0_2_p (l : List AB) : List AB := bG a1 :: yY0 :: bP a4 :: l
def L64_0_2 (v1 : Int) : Option (E_L64_0_2 ⊕ (Int)) :=
  (bif (decide (v1 < a5)) then ((getI a4.right v1).bind fun x2 => (bif (x2.kind == 0) then (bif ((x2.a == 0) && ((x2.b == 0) && ((x2.c == 0) && ((x2.d == 0) && true)))) then (some (.inl (.k0))) else (bif (x2.sort != 0) then (some (.inl (.k0))) else (some (.inr ((IntKind.wrap .i64 (v1 + 1))))))) else (bif (x2.kind == 1) then (bif (!((x2.a == 0) && ((x2.b == 0) && ((x2.c == 0) && ((x2.d == 0) && true))))) then (some (.inl (.k0))) else ((F73_2 x2 a1).bind fun x6 => (bif x6 then (bif (a4.role == 11) then (some (.inl (.k0))) else (some (.inr ((IntKind.wrap .i64 (v1 + 1)))))) else (some (.inl (.k0)))))) else (some (.inl (.k0)))))) else (some (.inl (.k1))))
def L64_0_2_s (v1 : Int) : St := ⟨fr 110 ug [(1, .ptr 0 0), (3, (.fn 73 [.ptr 0 0])), (5, .ptr 2 0), (10, ls 7 eProd a1.prods), (11, i6 a2), (12, i6 a3), (67, ls 6 eSym a4.right), (68, i6 a5), (69, i6 v1)], (L64_0_2_p a1 a4 [])⟩
theorem L64_0_2_k (v1 : Int) : okT 3 (L64_0_2_s a1 a2 a3 a4 a5 v1).h = true := (okT_of rfl (ac (ar (ac rfl))))
abbrev L64_0_2_e (v1 : Int) := evH prg 3 [1, 3, 5, 10, 11, 12, 67, 68, 69] ir64_l0 (L64_0_2_s a1 a2 a3 a4 a5 v1)
def L64_0_2_x (e : E_L64_0_2) (r : Option (Out × St)) : Prop := match e with | .k0 => ∃ g y, r = some (.ret, ⟨fr 110 g [(2, vb false)], y⟩) | .k1 => ∃ g, r = some ((.brk 2), ⟨fr 110 g [(1, .ptr 0 0), (3, (.fn 73 [.ptr 0 0])), (5, .ptr 2 0), (10, ls 7 eProd a1.prods), (11, i6 a2), (12, i6 a3), (67, ls 6 eSym a4.right)], (L64_0_2_p a1 a4 [])⟩)
abbrev L64_0_2_d0 (x2 : SymD) : List AB := (L64_0_2_p a1 a4 [.cells 75 ((eSym x2).map .p)])
theorem L64_0_2_ok (v1 : Int) {r : E_L64_0_2 ⊕ (Int)} (h : L64_0_2 a1 a4 a5 v1 = some r) : OkR (fun e => L64_0_2_x a1 a2 a3 a4 e (L64_0_2_e a1 a2 a3 a4 a5 v1)) (fun s => L64_0_2_e a1 a2 a3 a4 a5 v1 = L64_0_2_e a1 a2 a3 a4 a5 s) r := by
 unfold L64_0_2 at h
 apply bi h <;> intro h1 h
 ·
  apply bn h; intro x2 h2 h
  have k0 := ka [(70, .d true), (71, .v (.ro (eSym x2)))] (av h1 (apc (ig eSym 6 .i64 h2) apn))
  apply bi h <;> intro h3 h
  ·
   apply bi h <;> intro h4 h
   ·
    rw [← sj h]
    exact xy ([(76, .d true), (80, .d true), (6000, .d true)] ++ kH k0) (k0.b (av h3 (av h4 apn)))
   ·
    have k1 := k0.a [(76, .d true), (80, .d false)] (av h3 (av h4 apn))
    apply bi h <;> intro h5 h
    ·
     rw [← sj h]
     exact xy ([(84, .d true), (6000, .d true)] ++ kH k1) (k1.b (av h5 apn))
    ·
     rw [← sj h]
     exact rn ([(84, .d false), (6000, .d true)] ++ kH k1) (k1.b (av h5 (apc (L64_0_2_k a1 a2 a3 a4 a5 (w6 (v1 + 1))) apn)))
  ·
   apply bi h <;> intro h4 h
   ·
    have k2 := k0.a [(76, .d false), (87, .d true)] (av h3 (av h4 apn))
    apply bi h <;> intro h5 h
    ·
     rw [← sj h]
     exact xy ([(91, .d true), (6000, .d true)] ++ kH k2) (k2.b (av h5 apn))
    ·
     apply bn h; intro x6 h6 h
     apply bi h <;> intro h7 h
     ·
      have q3 := ((((F73_2_ok x2 a1 h6).own rfl (purAs_cons rfl (purAs_cons (purA_ptr rfl (mapO_con rfl (mapO_con rfl (mapO_con rfl (mapO_con rfl (mapO_con rfl rfl)))))) purAs_nil)) rfl).trans (congrArg (fun z => some (vb z)) h7)) : CP prg 73 [i6 x2.sort, .ptr 0 0] (L64_0_2_d0 a1 a4 x2) = some (vb true))
      have k4 := k2.a [(91, .d false), (96, .v (vb true))] (av h5 (apc q3 apn))
      apply bi h <;> intro h8 h
      ·
       rw [← sj h]
       exact xy ([(102, .d true), (6000, .d true)] ++ kH k4) (k4.b (av h8 apn))
      ·
       rw [← sj h]
       exact rn ([(102, .d false), (6000, .d true)] ++ kH k4) (k4.b (av h8 (apc (L64_0_2_k a1 a2 a3 a4 a5 (w6 (v1 + 1))) apn)))
     ·
      rw [← sj h]
      exact xy ([(91, .d false), (96, .v (vb false)), (6000, .d true)] ++ kH k2) (k2.b (av h5 (apc ((((F73_2_ok x2 a1 h6).own rfl (purAs_cons rfl (purAs_cons (purA_ptr rfl (mapO_con rfl (mapO_con rfl (mapO_con rfl (mapO_con rfl (mapO_con rfl rfl)))))) purAs_nil)) rfl).trans (congrArg (fun z => some (vb z)) h7)) : CP prg 73 [i6 x2.sort, .ptr 0 0] (L64_0_2_d0 a1 a4 x2) = some (vb false)) apn)))
   ·
    rw [← sj h]
    exact xy ([(76, .d false), (87, .d false), (6000, .d true)] ++ kH k0) (k0.b (av h3 (av h4 apn)))
 ·
  rw [← sj h]
  exact xb [(70, .d false), (6000, .d true)] (av h1 apn)
theorem L64_0_2_run (s0 : Int) (e : E_L64_0_2) (h : runL (fun s => L64_0_2 a1 a4 a5 s) s0 = some e) : L64_0_2_x a1 a2 a3 a4 e (L64_0_2_e a1 a2 a3 a4 a5 s0) := by
  have q := @loop_sound' (Int) E_L64_0_2 (fun s => L64_0_2 a1 a4 a5 s) (fun s => L64_0_2_e a1 a2 a3 a4 a5 s) (L64_0_2_x a1 a2 a3 a4) (fun s r h => L64_0_2_ok a1 a2 a3 a4 a5 s h) s0 e h
  exact q
end
inductive E_L64_1 where
  | k0
  | k1
section
variable (a1 : GramD) (a2 : Int)
abbrev L64_1_p (l : List AB) : List AB := bG a1 :: yY0 :: l
def L64_1 (v1 : Int) : Option (E_L64_1 ⊕ (Int)) :=
  (bif (decide (v1 < a2)) then ((getI a1.prods v1).bind fun x2 => ((F73 x2 a1).bind fun x3 => (bif x3 then (bif (decide ((x2.right.length : Int) > 30)) then (some (.inl (.k0))) else (bif (decide (x2.role < 0)) then (some (.inl (.k0))) else (bif (decide (x2.role > 11)) then (some (.inl (.k0))) else (bif (decide (x2.frm < (-1))) then (some (.inl (.k0))) else (bif (decide ((x2.cons.size : Int) > 64)) then (some (.inl (.k0))) else (bif (!(x2.cons.toList == (⟨([] : List UInt8).toArray⟩ : ByteArray).toList)) then (bif (x2.role != 0) then (some (.inl (.k0))) else (bif x2.prefer then (bif x2.avoid then (some (.inl (.k0))) else ((runL (fun s => L64_0_2 a1 x2 (x2.right.length : Int) s) 0).bind fun r14 => match r14 with | .k0 => (some (.inl (.k0))) | .k1 => (some (.inr ((IntKind.wrap .i64 (v1 + 1))))))) else ((runL (fun s => L64_0_2 a1 x2 (x2.right.length : Int) s) 0).bind fun r13 => match r13 with | .k0 => (some (.inl (.k0))) | .k1 => (some (.inr ((IntKind.wrap .i64 (v1 + 1)))))))) else (bif x2.prefer then (bif x2.avoid then (some (.inl (.k0))) else ((runL (fun s => L64_0_2 a1 x2 (x2.right.length : Int) s) 0).bind fun r13 => match r13 with | .k0 => (some (.inl (.k0))) | .k1 => (some (.inr ((IntKind.wrap .i64 (v1 + 1))))))) else ((runL (fun s => L64_0_2 a1 x2 (x2.right.length : Int) s) 0).bind fun r12 => match r12 with | .k0 => (some (.inl (.k0))) | .k1 => (some (.inr ((IntKind.wrap .i64 (v1 + 1))))))))))))) else (some (.inl (.k0)))))) else (some (.inl (.k1))))
def L64_1_s (v1 : Int) : St := ⟨fr 110 ug [(1, .ptr 0 0), (3, (.fn 73 [.ptr 0 0])), (10, ls 7 eProd a1.prods), (11, i6 a2), (12, i6 v1)], [bG a1]⟩
theorem L64_1_k (v1 : Int) : okT 1 (L64_1_s a1 a2 v1).h = true := (okT_of rfl (ac rfl))
abbrev L64_1_e (v1 : Int) := evH prg 1 [1, 3, 10, 11, 12] ir64_l1 (L64_1_s a1 a2 v1)
def L64_1_x (e : E_L64_1) (r : Option (Out × St)) : Prop := match e with | .k0 => ∃ g y, r = some (.ret, ⟨fr 110 g [(2, vb false)], y⟩) | .k1 => ∃ g, r = some ((.brk 0), ⟨fr 110 g [(1, .ptr 0 0), (10, ls 7 eProd a1.prods)], [bG a1]⟩)
abbrev L64_1_d0 (x2 : ProdD) : List AB := (L64_1_p a1 [bP x2])
abbrev L64_1_d1 (g14 : Nat → AV) (v1 : Int) (x2 : ProdD) : St := ⟨fr 110 g14 [(1, .ptr 0 0), (3, (.fn 73 [.ptr 0 0])), (5, .ptr 2 0), (10, ls 7 eProd a1.prods), (11, i6 a2), (12, i6 v1), (67, ls 6 eSym x2.right)], (L64_1_p a1 [bP x2])⟩
abbrev L64_1_d2 (g13 : Nat → AV) (v1 : Int) (x2 : ProdD) : St := ⟨fr 110 g13 [(1, .ptr 0 0), (3, (.fn 73 [.ptr 0 0])), (5, .ptr 2 0), (10, ls 7 eProd a1.prods), (11, i6 a2), (12, i6 v1), (67, ls 6 eSym x2.right)], (L64_1_p a1 [bP x2])⟩
abbrev L64_1_d3 (g12 : Nat → AV) (v1 : Int) (x2 : ProdD) : St := ⟨fr 110 g12 [(1, .ptr 0 0), (3, (.fn 73 [.ptr 0 0])), (5, .ptr 2 0), (10, ls 7 eProd a1.prods), (11, i6 a2), (12, i6 v1), (67, ls 6 eSym x2.right)], (L64_1_p a1 [bP x2])⟩
theorem L64_1_ok (v1 : Int) {r : E_L64_1 ⊕ (Int)} (h : L64_1 a1 a2 v1 = some r) : OkR (fun e => L64_1_x a1 e (L64_1_e a1 a2 v1)) (fun s => L64_1_e a1 a2 v1 = L64_1_e a1 a2 s) r := by
 unfold L64_1 at h
 apply bi h <;> intro h1 h
 ·
  apply bn h; intro x2 h2 h
  have k0 := ka [(13, .d true), (14, .v (.ro (eProd x2)))] (av h1 (apc (ig eProd 7 .i64 h2) apn))
  apply bn h; intro x3 h3 h
  apply bi h <;> intro h4 h
  ·
   have q1 := ((((F73_ok x2 a1 h3).own rfl (purAs_cons rfl (purAs_cons (purA_ptr rfl (mapO_con rfl (mapO_con rfl (mapO_con rfl (mapO_con rfl (mapO_con rfl rfl)))))) purAs_nil)) rfl).trans (congrArg (fun z => some (vb z)) h4)) : CP prg 73 [i6 x2.left, .ptr 0 0] (L64_1_d0 a1 x2) = some (vb true))
   have k2 := k0.a [(19, .v (vb true)), (24, .v (i6 (x2.right.length : Int)))] (apc q1 (apc (lg x2.right eSym 6) apn))
   apply bi h <;> intro h5 h
   ·
    rw [← sj h]
    exact xy ([(25, .d true), (6000, .d true)] ++ kH k2) (k2.b (av h5 apn))
   ·
    apply bi h <;> intro h6 h
    ·
     rw [← sj h]
     exact xy ([(25, .d false), (30, .d true), (6000, .d true)] ++ kH k2) (k2.b (av h5 (av h6 apn)))
    ·
     have k3 := k2.a [(25, .d false), (30, .d false)] (av h5 (av h6 apn))
     apply bi h <;> intro h7 h
     ·
      rw [← sj h]
      exact xy ([(35, .d true), (6000, .d true)] ++ kH k3) (k3.b (av h7 apn))
     ·
      apply bi h <;> intro h8 h
      ·
       rw [← sj h]
       exact xy ([(35, .d false), (40, .d true), (6000, .d true)] ++ kH k3) (k3.b (av h7 (av h8 apn)))
      ·
       have k4 := k3.a [(35, .d false), (40, .d false)] (av h7 (av h8 apn))
       apply bi h <;> intro h9 h
       ·
        rw [← sj h]
        exact xy ([(46, .d true), (6000, .d true)] ++ kH k4) (k4.b (av h9 apn))
       ·
        apply bi h <;> intro h10 h
        ·
         have k5 := k4.a [(46, .d false), (51, .d true)] (av h9 (av h10 apn))
         apply bi h <;> intro h11 h
         ·
          rw [← sj h]
          exact xy ([(55, .d true), (6000, .d true)] ++ kH k5) (k5.b (av h11 apn))
         ·
          apply bi h <;> intro h12 h
          ·
           have k6 := k5.a [(55, .d false), (60, .d true)] (av h11 (av h12 apn))
           apply bi h <;> intro h13 h
           ·
            rw [← sj h]
            exact xy ([(63, .d true), (6000, .d true)] ++ kH k6) (k6.b (av h13 apn))
           ·
            have k7 := k6.a [(63, .d false), (68, .v (i6 (x2.right.length : Int)))] (av h13 (apc (lg x2.right eSym 6) apn))
            apply bn h; intro r14 h14 h
            cases r14 with
            | k0 =>
             obtain ⟨g14, y14, e14⟩ := L64_0_2_run a1 a2 v1 x2 (x2.right.length : Int) 0 _ h14
             rw [← sj h]
             exact xy ([(2002, .l .ret ⟨fr 110 g14 [(2, vb false)], y14⟩), (6000, .d true)] ++ kH k7) (k7.b (apc (L64_0_2_k a1 a2 v1 x2 (x2.right.length : Int) 0) (apc (e14 : L64_0_2_e a1 a2 v1 x2 (x2.right.length : Int) 0 = some (.ret, ⟨fr 110 g14 [(2, vb false)], y14⟩)) apn)))
            | k1 =>
             obtain ⟨g14, e14⟩ := L64_0_2_run a1 a2 v1 x2 (x2.right.length : Int) 0 _ h14
             rw [← sj h]
             exact rn ([(2002, .l (.brk 2) (L64_1_d1 a1 a2 g14 v1 x2)), (6000, .d true)] ++ kH k7) (k7.b (apc (L64_0_2_k a1 a2 v1 x2 (x2.right.length : Int) 0) (apc (e14 : L64_0_2_e a1 a2 v1 x2 (x2.right.length : Int) 0 = some ((.brk 2), L64_1_d1 a1 a2 g14 v1 x2)) (apc (L64_1_k a1 a2 (w6 (v1 + 1))) apn))))
          ·
           have k8 := k5.a [(55, .d false), (60, .d false), (68, .v (i6 (x2.right.length : Int)))] (av h11 (av h12 (apc (lg x2.right eSym 6) apn)))
           apply bn h; intro r13 h13 h
           cases r13 with
           | k0 =>
            obtain ⟨g13, y13, e13⟩ := L64_0_2_run a1 a2 v1 x2 (x2.right.length : Int) 0 _ h13
            rw [← sj h]
            exact xy ([(2002, .l .ret ⟨fr 110 g13 [(2, vb false)], y13⟩), (6000, .d true)] ++ kH k8) (k8.b (apc (L64_0_2_k a1 a2 v1 x2 (x2.right.length : Int) 0) (apc (e13 : L64_0_2_e a1 a2 v1 x2 (x2.right.length : Int) 0 = some (.ret, ⟨fr 110 g13 [(2, vb false)], y13⟩)) apn)))
           | k1 =>
            obtain ⟨g13, e13⟩ := L64_0_2_run a1 a2 v1 x2 (x2.right.length : Int) 0 _ h13
            rw [← sj h]
            exact rn ([(2002, .l (.brk 2) (L64_1_d2 a1 a2 g13 v1 x2)), (6000, .d true)] ++ kH k8) (k8.b (apc (L64_0_2_k a1 a2 v1 x2 (x2.right.length : Int) 0) (apc (e13 : L64_0_2_e a1 a2 v1 x2 (x2.right.length : Int) 0 = some ((.brk 2), L64_1_d2 a1 a2 g13 v1 x2)) (apc (L64_1_k a1 a2 (w6 (v1 + 1))) apn))))
        ·
         have k9 := k4.a [(46, .d false), (51, .d false)] (av h9 (av h10 apn))
         apply bi h <;> intro h11 h
         ·
          apply bi h <;> intro h12 h
          ·
           rw [← sj h]
           exact xy ([(60, .d true), (63, .d true), (6000, .d true)] ++ kH k9) (k9.b (av h11 (av h12 apn)))
          ·
           have k10 := k9.a [(60, .d true), (63, .d false), (68, .v (i6 (x2.right.length : Int)))] (av h11 (av h12 (apc (lg x2.right eSym 6) apn)))
           apply bn h; intro r13 h13 h
           cases r13 with
           | k0 =>
            obtain ⟨g13, y13, e13⟩ := L64_0_2_run a1 a2 v1 x2 (x2.right.length : Int) 0 _ h13
            rw [← sj h]
            exact xy ([(2002, .l .ret ⟨fr 110 g13 [(2, vb false)], y13⟩), (6000, .d true)] ++ kH k10) (k10.b (apc (L64_0_2_k a1 a2 v1 x2 (x2.right.length : Int) 0) (apc (e13 : L64_0_2_e a1 a2 v1 x2 (x2.right.length : Int) 0 = some (.ret, ⟨fr 110 g13 [(2, vb false)], y13⟩)) apn)))
           | k1 =>
            obtain ⟨g13, e13⟩ := L64_0_2_run a1 a2 v1 x2 (x2.right.length : Int) 0 _ h13
            rw [← sj h]
            exact rn ([(2002, .l (.brk 2) (L64_1_d2 a1 a2 g13 v1 x2)), (6000, .d true)] ++ kH k10) (k10.b (apc (L64_0_2_k a1 a2 v1 x2 (x2.right.length : Int) 0) (apc (e13 : L64_0_2_e a1 a2 v1 x2 (x2.right.length : Int) 0 = some ((.brk 2), L64_1_d2 a1 a2 g13 v1 x2)) (apc (L64_1_k a1 a2 (w6 (v1 + 1))) apn))))
         ·
          have k11 := k9.a [(60, .d false), (68, .v (i6 (x2.right.length : Int)))] (av h11 (apc (lg x2.right eSym 6) apn))
          apply bn h; intro r12 h12 h
          cases r12 with
          | k0 =>
           obtain ⟨g12, y12, e12⟩ := L64_0_2_run a1 a2 v1 x2 (x2.right.length : Int) 0 _ h12
           rw [← sj h]
           exact xy ([(2002, .l .ret ⟨fr 110 g12 [(2, vb false)], y12⟩), (6000, .d true)] ++ kH k11) (k11.b (apc (L64_0_2_k a1 a2 v1 x2 (x2.right.length : Int) 0) (apc (e12 : L64_0_2_e a1 a2 v1 x2 (x2.right.length : Int) 0 = some (.ret, ⟨fr 110 g12 [(2, vb false)], y12⟩)) apn)))
          | k1 =>
           obtain ⟨g12, e12⟩ := L64_0_2_run a1 a2 v1 x2 (x2.right.length : Int) 0 _ h12
           rw [← sj h]
           exact rn ([(2002, .l (.brk 2) (L64_1_d3 a1 a2 g12 v1 x2)), (6000, .d true)] ++ kH k11) (k11.b (apc (L64_0_2_k a1 a2 v1 x2 (x2.right.length : Int) 0) (apc (e12 : L64_0_2_e a1 a2 v1 x2 (x2.right.length : Int) 0 = some ((.brk 2), L64_1_d3 a1 a2 g12 v1 x2)) (apc (L64_1_k a1 a2 (w6 (v1 + 1))) apn))))
  ·
   rw [← sj h]
   exact xy ([(19, .v (vb false)), (6000, .d true)] ++ kH k0) (k0.b (apc ((((F73_ok x2 a1 h3).own rfl (purAs_cons rfl (purAs_cons (purA_ptr rfl (mapO_con rfl (mapO_con rfl (mapO_con rfl (mapO_con rfl (mapO_con rfl rfl)))))) purAs_nil)) rfl).trans (congrArg (fun z => some (vb z)) h4)) : CP prg 73 [i6 x2.left, .ptr 0 0] (L64_1_d0 a1 x2) = some (vb false)) apn))
 ·
  rw [← sj h]
  exact xb [(13, .d false), (6000, .d true)] (av h1 apn)
theorem L64_1_run (s0 : Int) (e : E_L64_1) (h : runL (fun s => L64_1 a1 a2 s) s0 = some e) : L64_1_x a1 e (L64_1_e a1 a2 s0) := by
  have q := @loop_sound' (Int) E_L64_1 (fun s => L64_1 a1 a2 s) (fun s => L64_1_e a1 a2 s) (L64_1_x a1) (fun s r h => L64_1_ok a1 a2 s h) s0 e h
  exact q
end
def F64_v (a1 : GramD) (x0 : Bool) : AV := (vb x0)
def F64 (a1 : GramD) : Option Bool :=
  ((runL (fun s => L64_1 a1 (a1.prods.length : Int) s) 0).bind fun r1 => match r1 with | .k0 => (some false) | .k1 => (some (decide ((a1.prods.length : Int) ≤ 1000))))
abbrev F64_d0 (g1 : Nat → AV) (a1 : GramD) : St := ⟨fr 110 g1 [(1, .ptr 0 0), (10, ls 7 eProd a1.prods)], [bG a1]⟩
theorem F64_ok (a1 : GramD) {r : Bool} (h : F64 a1 = some r) : PR1 prg 64 [aG a1] (F64_v a1 r) := by
 unfold F64 at h
 have k0 := ka [(11, .v (i6 (lP a1)))] (apc (lg a1.prods eProd 7) apn)
 apply bn h; intro r1 h1 h
 cases r1 with
 | k0 =>
  obtain ⟨g1, y1, e1⟩ := L64_1_run a1 (lP a1) 0 _ h1
  rw [← sj h]
  exact fq ([(2000, .l .ret ⟨fr 110 g1 [(2, vb false)], y1⟩), (6000, .d true)] ++ kH k0) (k0.b (apc (L64_1_k a1 (lP a1) 0) (apc (e1 : L64_1_e a1 (lP a1) 0 = some (.ret, ⟨fr 110 g1 [(2, vb false)], y1⟩)) apn)))
 | k1 =>
  obtain ⟨g1, e1⟩ := L64_1_run a1 (lP a1) 0 _ h1
  rw [← sj h]
  exact fq ([(2000, .l (.brk 0) (F64_d0 g1 a1)), (108, .v (i6 (lP a1))), (6000, .d true)] ++ kH k0) (k0.b (apc (L64_1_k a1 (lP a1) 0) (apc (e1 : L64_1_e a1 (lP a1) 0 = some ((.brk 0), F64_d0 g1 a1)) (apc (lg a1.prods eProd 7) apn))))
def F74_v (a1 : ForbD) (a2 : GramD) (x0 : Bool) : AV := (vb x0)
def F74 (a1 : ForbD) (a2 : GramD) : Option Bool :=
  (bif (decide (a1.parent ≥ 0)) then (bif (decide (a1.parent < (a2.prods.length : Int))) then ((getI a2.prods a1.parent).bind fun x3 => (some (x3.role != 11))) else (some false)) else (some false))
theorem F74_ok (a1 : ForbD) (a2 : GramD) {r : Bool} (h : F74 a1 a2 = some r) : PR1 prg 74 [i6 a1.parent, (.ro (eGram a2))] (F74_v a1 a2 r) := by
 unfold F74 at h
 apply bi h <;> intro h1 h
 ·
  have k0 := ka [(5, .d true), (10, .v (i6 (lP a2)))] (av h1 (apc (lg a2.prods eProd 7) apn))
  apply bi h <;> intro h2 h
  ·
   apply bn h; intro x3 h3 h
   rw [← sj h]
   exact fq ([(11, .d true), (17, .v (.ro (eProd x3)))] ++ kH k0) (k0.b (av h2 (apc (ig eProd 7 .i64 h3) apn)))
  ·
   rw [← sj h]
   exact fq ([(11, .d false)] ++ kH k0) (k0.b (av h2 apn))
 ·
  rw [← sj h]
  exact fq [(5, .d false)] (av h1 apn)
def F74_2_v (a1 : ForbD) (a2 : GramD) (x0 : Bool) : AV := (vb x0)
def F74_2 (a1 : ForbD) (a2 : GramD) : Option Bool :=
  (bif (decide (a1.child ≥ 0)) then (bif (decide (a1.child < (a2.prods.length : Int))) then ((getI a2.prods a1.child).bind fun x3 => (some (x3.role != 11))) else (some false)) else (some false))
theorem F74_2_ok (a1 : ForbD) (a2 : GramD) {r : Bool} (h : F74_2 a1 a2 = some r) : PR1 prg 74 [i6 a1.child, (.ro (eGram a2))] (F74_2_v a1 a2 r) := by
 unfold F74_2 at h
 apply bi h <;> intro h1 h
 ·
  have k0 := ka [(5, .d true), (10, .v (i6 (lP a2)))] (av h1 (apc (lg a2.prods eProd 7) apn))
  apply bi h <;> intro h2 h
  ·
   apply bn h; intro x3 h3 h
   rw [← sj h]
   exact fq ([(11, .d true), (17, .v (.ro (eProd x3)))] ++ kH k0) (k0.b (av h2 (apc (ig eProd 7 .i64 h3) apn)))
  ·
   rw [← sj h]
   exact fq ([(11, .d false)] ++ kH k0) (k0.b (av h2 apn))
 ·
  rw [← sj h]
  exact fq [(5, .d false)] (av h1 apn)
inductive E_L65_0 where
  | k0
  | k1 (x0 : List ((Int × Int × Int) × Int))
section
variable (a1 : GramD) (a2 : Int)
def L65_0 (v1 : Int) (v2 : List ((Int × Int × Int) × Int)) : Option (E_L65_0 ⊕ (Int × (List ((Int × Int × Int) × Int)))) :=
  (bif (decide (v1 < a2)) then ((getI a1.forbid v1).bind fun x2 => (bif (decide ((mget 0 (mput (x2.parent, x2.at_, x2.child) (IntKind.wrap .i64 ((mget 0 v2 (x2.parent, x2.at_, x2.child)) + 1)) v2) (x2.parent, x2.at_, x2.child)) > 1)) then (some (.inl (.k0))) else ((F74 x2 a1).bind fun x4 => (bif x4 then ((F74_2 x2 a1).bind fun x6 => (bif x6 then (bif (decide (x2.at_ < 1)) then (some (.inl (.k0))) else ((getI a1.prods x2.parent).bind fun x9 => (bif (decide (x2.at_ > (x9.right.length : Int))) then (some (.inl (.k0))) else ((getI x9.right (IntKind.wrap .i64 (x2.at_ - 1))).bind fun x11 => (bif (x11.kind != 1) then (some (.inl (.k0))) else ((getI a1.prods x2.child).bind fun x13 => (bif (x11.sort != x13.left) then (some (.inl (.k0))) else (some (.inr ((IntKind.wrap .i64 (v1 + 1)), (mput (x2.parent, x2.at_, x2.child) (IntKind.wrap .i64 ((mget 0 v2 (x2.parent, x2.at_, x2.child)) + 1)) v2))))))))))) else (some (.inl (.k0))))) else (some (.inl (.k0))))))) else (some (.inl (.k1 v2))))
def L65_0_s (v1 : Int) (v2 : List ((Int × Int × Int) × Int)) : St := ⟨fr 87 ug [(1, .ptr 0 0), (3, .mp 1), (4, (.fn 74 [.ptr 0 0])), (11, ls 3 eForb a1.forbid), (12, i6 a2), (13, i6 v1)], [bG a1, .map 0 (mrow (fun n => .agg [vi .i64 n.1, vi .i64 n.2.1, vi .i64 n.2.2]) (fun n => vi .i64 n) v2)]⟩
theorem L65_0_k (v1 : Int) (v2 : List ((Int × Int × Int) × Int)) : okT 2 (L65_0_s a1 a2 v1 v2).h = true := (okT_of rfl (ac (abl_cons (abl_map (fun _ => rfl) (fun _ => rfl)) rfl)))
abbrev L65_0_e (v1 : Int) (v2 : List ((Int × Int × Int) × Int)) := evH prg 2 [1, 3, 4, 11, 12, 13] ir65_l0 (L65_0_s a1 a2 v1 v2)
def L65_0_x (e : E_L65_0) (r : Option (Out × St)) : Prop := match e with | .k0 => ∃ g y, r = some (.ret, ⟨fr 87 g [(2, vb false)], y⟩) | .k1 x0 => ∃ g, r = some ((.brk 0), ⟨fr 87 g [(1, .ptr 0 0), (11, ls 3 eForb a1.forbid)], [bG a1, .map 0 (mrow (fun n => .agg [vi .i64 n.1, vi .i64 n.2.1, vi .i64 n.2.2]) (fun n => vi .i64 n) x0)]⟩)
abbrev L65_0_d0 (v2 : List ((Int × Int × Int) × Int)) (x2 : ForbD) : List AB := [bG a1, .map 0 (mrow (fun n => .agg [vi .i64 n.1, vi .i64 n.2.1, vi .i64 n.2.2]) (fun n => vi .i64 n) v2), .cells 65 ((eForb x2).map .p)]
abbrev L65_0_d1 (v2 : List ((Int × Int × Int) × Int)) (x2 : ForbD) : List AB := [bG a1, .map 0 (mrow (fun n => .agg [vi .i64 n.1, vi .i64 n.2.1, vi .i64 n.2.2]) (fun n => vi .i64 n) (ment 0 v2 (x2.parent, x2.at_, x2.child))), .cells 65 ((eForb x2).map .p)]
abbrev L65_0_d2 (x2 : ForbD) (v2 : List ((Int × Int × Int) × Int)) : List AB := [bG a1, .map 0 (mrow (fun n => .agg [vi .i64 n.1, vi .i64 n.2.1, vi .i64 n.2.2]) (fun n => vi .i64 n) (mput (x2.parent, x2.at_, x2.child) (w6 ((mget 0 v2 (x2.parent, x2.at_, x2.child)) + 1)) v2)), .cells 65 ((eForb x2).map .p)]
theorem L65_0_ok (v1 : Int) (v2 : List ((Int × Int × Int) × Int)) {r : E_L65_0 ⊕ (Int × (List ((Int × Int × Int) × Int)))} (h : L65_0 a1 a2 v1 v2 = some r) : OkR (fun e => L65_0_x a1 e (L65_0_e a1 a2 v1 v2)) (fun s => L65_0_e a1 a2 v1 v2 = L65_0_e a1 a2 s.1 s.2) r := by
 unfold L65_0 at h
 apply bi h <;> intro h1 h
 ·
  apply bn h; intro x2 h2 h
  have q0 := ((lk_row key_int3 (es := v2) (k := (x2.parent, x2.at_, x2.child)) (z := 0) rfl rfl) : lkA (L65_0_d0 a1 v2 x2) [1, 1, 1] .true .false [(.val (.int .i64 0))] .false (.mp 1) (.agg ((eForb x2).map .p)) = some (i6 (mget 0 v2 (x2.parent, x2.at_, x2.child))))
  have q1 := ((en_row key_int3 (es := v2) (k := (x2.parent, x2.at_, x2.child)) (z := 0) rfl rfl) : enA (L65_0_d0 a1 v2 x2) [1, 1, 1] .true .false [(.val (.int .i64 0))] (.mp 1) (.agg ((eForb x2).map .p)) = some ((.tup [(i6 (mget 0 v2 (x2.parent, x2.at_, x2.child))), (i6 ((0 + midx v2 (x2.parent, x2.at_, x2.child) : Nat) : Int))]), L65_0_d1 a1 v2 x2))
  have q2 := (⟨es_row key_int3 (es := v2) (k := (x2.parent, x2.at_, x2.child)) (v := (w6 ((mget 0 v2 (x2.parent, x2.at_, x2.child)) + 1))) (z := 0) rfl, rfl⟩ : esA (L65_0_d1 a1 v2 x2) (.mp 1) (i6 ((0 + midx v2 (x2.parent, x2.at_, x2.child) : Nat) : Int)) (i6 (w6 ((mget 0 v2 (x2.parent, x2.at_, x2.child)) + 1))) = some (L65_0_d2 a1 x2 v2) ∧ ud = ud)
  have q3 := ((lk_row key_int3 (es := (mput (x2.parent, x2.at_, x2.child) (w6 ((mget 0 v2 (x2.parent, x2.at_, x2.child)) + 1)) v2)) (k := (x2.parent, x2.at_, x2.child)) (z := 0) rfl rfl) : lkA (L65_0_d2 a1 x2 v2) [1, 1, 1] .true .false [(.val (.int .i64 0))] .false (.mp 1) (.agg ((eForb x2).map .p)) = some (i6 (mget 0 (mput (x2.parent, x2.at_, x2.child) (w6 ((mget 0 v2 (x2.parent, x2.at_, x2.child)) + 1)) v2) (x2.parent, x2.at_, x2.child))))
  have k4 := ka [(14, .d true), (15, .v (.ro (eForb x2))), (19, .v (i6 (mget 0 v2 (x2.parent, x2.at_, x2.child)))), (21, .r (.tup [(i6 (mget 0 v2 (x2.parent, x2.at_, x2.child))), (i6 ((0 + midx v2 (x2.parent, x2.at_, x2.child) : Nat) : Int))]) (L65_0_d1 a1 v2 x2)), (8020, .r ud (L65_0_d2 a1 x2 v2)), (25, .v (i6 (mget 0 (mput (x2.parent, x2.at_, x2.child) (w6 ((mget 0 v2 (x2.parent, x2.at_, x2.child)) + 1)) v2) (x2.parent, x2.at_, x2.child))))] (av h1 (apc (ig eForb 3 .i64 h2) (apc q0 (apc q1 (apc q2 (apc q3 apn))))))
  apply bi h <;> intro h3 h
  ·
   rw [← sj h]
   exact xy ([(26, .d true), (6000, .d true)] ++ kH k4) (k4.b (av h3 apn))
  ·
   apply bn h; intro x4 h4 h
   apply bi h <;> intro h5 h
   ·
    have q5 := ((((F74_ok x2 a1 h4).own rfl (purAs_cons rfl (purAs_cons (purA_ptr rfl (mapO_con rfl (mapO_con rfl (mapO_con rfl (mapO_con rfl (mapO_con rfl rfl)))))) purAs_nil)) rfl).trans (congrArg (fun z => some (vb z)) h5)) : CP prg 74 [i6 x2.parent, .ptr 0 0] (L65_0_d2 a1 x2 v2) = some (vb true))
    have k6 := k4.a [(26, .d false), (31, .v (vb true))] (av h3 (apc q5 apn))
    apply bn h; intro x6 h6 h
    apply bi h <;> intro h7 h
    ·
     have q7 := ((((F74_2_ok x2 a1 h6).own rfl (purAs_cons rfl (purAs_cons (purA_ptr rfl (mapO_con rfl (mapO_con rfl (mapO_con rfl (mapO_con rfl (mapO_con rfl rfl)))))) purAs_nil)) rfl).trans (congrArg (fun z => some (vb z)) h7)) : CP prg 74 [i6 x2.child, .ptr 0 0] (L65_0_d2 a1 x2 v2) = some (vb true))
     apply bi h <;> intro h8 h
     ·
      rw [← sj h]
      exact xy ([(38, .v (vb true)), (44, .d true), (6000, .d true)] ++ kH k6) (k6.b (apc q7 (av h8 apn)))
     ·
      have k8 := k6.a [(38, .v (vb true)), (44, .d false)] (apc q7 (av h8 apn))
      apply bn h; intro x9 h9 h
      have k9 := k8.a [(53, .v (.ro (eProd x9))), (56, .v (i6 (x9.right.length : Int)))] (apc (ig eProd 7 .i64 h9) (apc (lg x9.right eSym 6) apn))
      apply bi h <;> intro h10 h
      ·
       rw [← sj h]
       exact xy ([(57, .d true), (6000, .d true)] ++ kH k9) (k9.b (av h10 apn))
      ·
       have k10 := k9.a [(57, .d false), (63, .v (.ro (eProd x9)))] (av h10 (apc (ig eProd 7 .i64 h9) apn))
       apply bn h; intro x11 h11 h
       apply bi h <;> intro h12 h
       ·
        rw [← sj h]
        exact xy ([(69, .v (.ro (eSym x11))), (73, .d true), (6000, .d true)] ++ kH k10) (k10.b (apc (ig eSym 6 .i64 h11) (av h12 apn)))
       ·
        have k11 := k10.a [(69, .v (.ro (eSym x11))), (73, .d false)] (apc (ig eSym 6 .i64 h11) (av h12 apn))
        apply bn h; intro x13 h13 h
        apply bi h <;> intro h14 h
        ·
         rw [← sj h]
         exact xy ([(81, .v (.ro (eProd x13))), (84, .d true), (6000, .d true)] ++ kH k11) (k11.b (apc (ig eProd 7 .i64 h13) (av h14 apn)))
        ·
         rw [← sj h]
         exact rn ([(81, .v (.ro (eProd x13))), (84, .d false), (6000, .d true)] ++ kH k11) (k11.b (apc (ig eProd 7 .i64 h13) (av h14 (apc (L65_0_k a1 a2 (w6 (v1 + 1)) (mput (x2.parent, x2.at_, x2.child) (w6 ((mget 0 v2 (x2.parent, x2.at_, x2.child)) + 1)) v2)) apn))))
    ·
     rw [← sj h]
     exact xy ([(38, .v (vb false)), (6000, .d true)] ++ kH k6) (k6.b (apc ((((F74_2_ok x2 a1 h6).own rfl (purAs_cons rfl (purAs_cons (purA_ptr rfl (mapO_con rfl (mapO_con rfl (mapO_con rfl (mapO_con rfl (mapO_con rfl rfl)))))) purAs_nil)) rfl).trans (congrArg (fun z => some (vb z)) h7)) : CP prg 74 [i6 x2.child, .ptr 0 0] (L65_0_d2 a1 x2 v2) = some (vb false)) apn))
   ·
    rw [← sj h]
    exact xy ([(26, .d false), (31, .v (vb false)), (6000, .d true)] ++ kH k4) (k4.b (av h3 (apc ((((F74_ok x2 a1 h4).own rfl (purAs_cons rfl (purAs_cons (purA_ptr rfl (mapO_con rfl (mapO_con rfl (mapO_con rfl (mapO_con rfl (mapO_con rfl rfl)))))) purAs_nil)) rfl).trans (congrArg (fun z => some (vb z)) h5)) : CP prg 74 [i6 x2.parent, .ptr 0 0] (L65_0_d2 a1 x2 v2) = some (vb false)) apn)))
 ·
  rw [← sj h]
  exact xb [(14, .d false), (6000, .d true)] (av h1 apn)
theorem L65_0_run (s0 : Int × (List ((Int × Int × Int) × Int))) (e : E_L65_0) (h : runL (fun s => L65_0 a1 a2 s.1 s.2) s0 = some e) : L65_0_x a1 e (L65_0_e a1 a2 s0.1 s0.2) := by
  have q := @loop_sound' (Int × (List ((Int × Int × Int) × Int))) E_L65_0 (fun s => L65_0 a1 a2 s.1 s.2) (fun s => L65_0_e a1 a2 s.1 s.2) (L65_0_x a1) (fun s r h => L65_0_ok a1 a2 s.1 s.2 h) s0 e h
  exact q
end
def F65_v (a1 : GramD) (x0 : Bool) : AV := (vb x0)
def F65 (a1 : GramD) : Option Bool :=
  ((runL (fun s => L65_0 a1 (a1.forbid.length : Int) s.1 s.2) (0, [])).bind fun r1 => match r1 with | .k0 => (some false) | .k1 x1_0 => (some true))
abbrev F65_d0 (g1 : Nat → AV) (a1 : GramD) (x1_0 : List ((Int × Int × Int) × Int)) : St := ⟨fr 87 g1 [(1, .ptr 0 0), (11, ls 3 eForb a1.forbid)], [bG a1, .map 0 (mrow (fun n => .agg [vi .i64 n.1, vi .i64 n.2.1, vi .i64 n.2.2]) (fun n => vi .i64 n) x1_0)]⟩
theorem F65_ok (a1 : GramD) {r : Bool} (h : F65 a1 = some r) : PR1 prg 65 [aG a1] (F65_v a1 r) := by
 unfold F65 at h
 have k0 := ka [(12, .v (i6 (lF a1)))] (apc (lg a1.forbid eForb 3) apn)
 apply bn h; intro r1 h1 h
 cases r1 with
 | k0 =>
  obtain ⟨g1, y1, e1⟩ := L65_0_run a1 (lF a1) (0, []) _ h1
  rw [← sj h]
  exact fq ([(2000, .l .ret ⟨fr 87 g1 [(2, vb false)], y1⟩), (6000, .d true)] ++ kH k0) (k0.b (apc (L65_0_k a1 (lF a1) 0 ([])) (apc (e1 : L65_0_e a1 (lF a1) 0 ([]) = some (.ret, ⟨fr 87 g1 [(2, vb false)], y1⟩)) apn)))
 | k1 x1_0 =>
  obtain ⟨g1, e1⟩ := L65_0_run a1 (lF a1) (0, []) _ h1
  rw [← sj h]
  exact fq ([(2000, .l (.brk 0) (F65_d0 g1 a1 x1_0)), (6000, .d true)] ++ kH k0) (k0.b (apc (L65_0_k a1 (lF a1) 0 ([])) (apc (e1 : L65_0_e a1 (lF a1) 0 ([]) = some ((.brk 0), F65_d0 g1 a1 x1_0)) apn)))
inductive E_L66_0 where
  | k0
  | k1 (x0 : List (Int × Int))
section
variable (a1 : GramD) (a2 : Int)
def L66_0 (v1 : Int) (v2 : List (Int × Int)) : Option (E_L66_0 ⊕ (Int × (List (Int × Int)))) :=
  (bif (decide (v1 < a2)) then ((getI a1.follow v1).bind fun x2 => (bif (decide ((mget 0 (mput x2.sort (IntKind.wrap .i64 ((mget 0 v2 x2.sort) + 1)) v2) x2.sort) > 1)) then (some (.inl (.k0))) else (bif (decide (x2.sort < 0)) then (some (.inl (.k0))) else (bif (decide (x2.sort ≥ (a1.sorts.length : Int))) then (some (.inl (.k0))) else (bif ((x2.a == 0) && ((x2.b == 0) && ((x2.c == 0) && ((x2.d == 0) && true)))) then (some (.inl (.k0))) else (some (.inr ((IntKind.wrap .i64 (v1 + 1)), (mput x2.sort (IntKind.wrap .i64 ((mget 0 v2 x2.sort) + 1)) v2))))))))) else (some (.inl (.k1 v2))))
def L66_0_s (v1 : Int) (v2 : List (Int × Int)) : St := ⟨fr 44 ug [(1, .ptr 0 0), (3, .mp 1), (8, ls 5 eFoll a1.follow), (9, i6 a2), (10, i6 v1)], [bG a1, .map 0 (mrow (fun n => vi .i64 n) (fun n => vi .i64 n) v2)]⟩
theorem L66_0_k (v1 : Int) (v2 : List (Int × Int)) : okT 2 (L66_0_s a1 a2 v1 v2).h = true := (okT_of rfl (ac (abl_cons (abl_map (fun _ => rfl) (fun _ => rfl)) rfl)))
abbrev L66_0_e (v1 : Int) (v2 : List (Int × Int)) := evH prg 2 [1, 3, 8, 9, 10] ir66_l0 (L66_0_s a1 a2 v1 v2)
def L66_0_x (e : E_L66_0) (r : Option (Out × St)) : Prop := match e with | .k0 => ∃ g y, r = some (.ret, ⟨fr 44 g [(2, vb false)], y⟩) | .k1 x0 => ∃ g, r = some ((.brk 0), ⟨fr 44 g [(1, .ptr 0 0), (8, ls 5 eFoll a1.follow)], [bG a1, .map 0 (mrow (fun n => vi .i64 n) (fun n => vi .i64 n) x0)]⟩)
abbrev L66_0_d0 (v2 : List (Int × Int)) (x2 : FollD) : List AB := [bG a1, .map 0 (mrow (fun n => vi .i64 n) (fun n => vi .i64 n) v2), .cells 70 ((eFoll x2).map .p)]
abbrev L66_0_d1 (x2 : FollD) (v2 : List (Int × Int)) : List AB := [bG a1, .map 0 (mrow (fun n => vi .i64 n) (fun n => vi .i64 n) (mput x2.sort (w6 ((mget 0 v2 x2.sort) + 1)) v2)), .cells 70 ((eFoll x2).map .p)]
theorem L66_0_ok (v1 : Int) (v2 : List (Int × Int)) {r : E_L66_0 ⊕ (Int × (List (Int × Int)))} (h : L66_0 a1 a2 v1 v2 = some r) : OkR (fun e => L66_0_x a1 e (L66_0_e a1 a2 v1 v2)) (fun s => L66_0_e a1 a2 v1 v2 = L66_0_e a1 a2 s.1 s.2) r := by
 unfold L66_0 at h
 apply bi h <;> intro h1 h
 ·
  apply bn h; intro x2 h2 h
  have q0 := ((lk_row key_int (es := v2) (k := x2.sort) (z := 0) rfl rfl) : lkA (L66_0_d0 a1 v2 x2) [1] .false .false [(.val (.int .i64 0))] .false (.mp 1) (i6 x2.sort) = some (i6 (mget 0 v2 x2.sort)))
  have q1 := (⟨up_row key_int (es := v2) (k := x2.sort) (v := (w6 ((mget 0 v2 x2.sort) + 1))) rfl, rfl⟩ : upA (L66_0_d0 a1 v2 x2) [1] .false (.mp 1) (i6 x2.sort) (i6 (w6 ((mget 0 v2 x2.sort) + 1))) = some (L66_0_d1 a1 x2 v2) ∧ ud = ud)
  have q2 := ((lk_row key_int (es := (mput x2.sort (w6 ((mget 0 v2 x2.sort) + 1)) v2)) (k := x2.sort) (z := 0) rfl rfl) : lkA (L66_0_d1 a1 x2 v2) [1] .false .false [(.val (.int .i64 0))] .false (.mp 1) (i6 x2.sort) = some (i6 (mget 0 (mput x2.sort (w6 ((mget 0 v2 x2.sort) + 1)) v2) x2.sort)))
  have k3 := ka [(11, .d true), (12, .v (.ro (eFoll x2))), (17, .v (i6 (mget 0 v2 x2.sort))), (7018, .r ud (L66_0_d1 a1 x2 v2)), (22, .v (i6 (mget 0 (mput x2.sort (w6 ((mget 0 v2 x2.sort) + 1)) v2) x2.sort)))] (av h1 (apc (ig eFoll 5 .i64 h2) (apc q0 (apc q1 (apc q2 apn)))))
  apply bi h <;> intro h3 h
  ·
   rw [← sj h]
   exact xy ([(23, .d true), (6000, .d true)] ++ kH k3) (k3.b (av h3 apn))
  ·
   apply bi h <;> intro h4 h
   ·
    rw [← sj h]
    exact xy ([(23, .d false), (27, .d true), (6000, .d true)] ++ kH k3) (k3.b (av h3 (av h4 apn)))
   ·
    have k4 := k3.a [(23, .d false), (27, .d false), (34, .v (i6 (lS a1)))] (av h3 (av h4 (apc (lg a1.sorts eStr 1) apn)))
    apply bi h <;> intro h5 h
    ·
     rw [← sj h]
     exact xy ([(35, .d true), (6000, .d true)] ++ kH k4) (k4.b (av h5 apn))
    ·
     apply bi h <;> intro h6 h
     ·
      rw [← sj h]
      exact xy ([(35, .d false), (41, .d true), (6000, .d true)] ++ kH k4) (k4.b (av h5 (av h6 apn)))
     ·
      rw [← sj h]
      exact rn ([(35, .d false), (41, .d false), (6000, .d true)] ++ kH k4) (k4.b (av h5 (av h6 (apc (L66_0_k a1 a2 (w6 (v1 + 1)) (mput x2.sort (w6 ((mget 0 v2 x2.sort) + 1)) v2)) apn))))
 ·
  rw [← sj h]
  exact xb [(11, .d false), (6000, .d true)] (av h1 apn)
theorem L66_0_run (s0 : Int × (List (Int × Int))) (e : E_L66_0) (h : runL (fun s => L66_0 a1 a2 s.1 s.2) s0 = some e) : L66_0_x a1 e (L66_0_e a1 a2 s0.1 s0.2) := by
  have q := @loop_sound' (Int × (List (Int × Int))) E_L66_0 (fun s => L66_0 a1 a2 s.1 s.2) (fun s => L66_0_e a1 a2 s.1 s.2) (L66_0_x a1) (fun s r h => L66_0_ok a1 a2 s.1 s.2 h) s0 e h
  exact q
end
def F66_v (a1 : GramD) (x0 : Bool) : AV := (vb x0)
def F66 (a1 : GramD) : Option Bool :=
  ((runL (fun s => L66_0 a1 (a1.follow.length : Int) s.1 s.2) (0, [])).bind fun r1 => match r1 with | .k0 => (some false) | .k1 x1_0 => (some true))
abbrev F66_d0 (g1 : Nat → AV) (a1 : GramD) (x1_0 : List (Int × Int)) : St := ⟨fr 44 g1 [(1, .ptr 0 0), (8, ls 5 eFoll a1.follow)], [bG a1, .map 0 (mrow (fun n => vi .i64 n) (fun n => vi .i64 n) x1_0)]⟩
theorem F66_ok (a1 : GramD) {r : Bool} (h : F66 a1 = some r) : PR1 prg 66 [aG a1] (F66_v a1 r) := by
 unfold F66 at h
 have k0 := ka [(9, .v (i6 (lW a1)))] (apc (lg a1.follow eFoll 5) apn)
 apply bn h; intro r1 h1 h
 cases r1 with
 | k0 =>
  obtain ⟨g1, y1, e1⟩ := L66_0_run a1 (lW a1) (0, []) _ h1
  rw [← sj h]
  exact fq ([(2000, .l .ret ⟨fr 44 g1 [(2, vb false)], y1⟩), (6000, .d true)] ++ kH k0) (k0.b (apc (L66_0_k a1 (lW a1) 0 ([])) (apc (e1 : L66_0_e a1 (lW a1) 0 ([]) = some (.ret, ⟨fr 44 g1 [(2, vb false)], y1⟩)) apn)))
 | k1 x1_0 =>
  obtain ⟨g1, e1⟩ := L66_0_run a1 (lW a1) (0, []) _ h1
  rw [← sj h]
  exact fq ([(2000, .l (.brk 0) (F66_d0 g1 a1 x1_0)), (6000, .d true)] ++ kH k0) (k0.b (apc (L66_0_k a1 (lW a1) 0 ([])) (apc (e1 : L66_0_e a1 (lW a1) 0 ([]) = some ((.brk 0), F66_d0 g1 a1 x1_0)) apn)))
inductive E_L49_0 where
  | k0
  | k1
section
variable (a1 : GramD)
def L49_0 (v1 : Int) : Option (E_L49_0 ⊕ (Int)) :=
  (bif (decide (v1 < 4)) then (bif (v1 == 0) then ((F63 a1).bind fun x3 => (bif x3 then (some (.inr ((IntKind.wrap .i64 (v1 + 1))))) else (some (.inl (.k0))))) else (bif (v1 == 1) then ((F64 a1).bind fun x4 => (bif x4 then (some (.inr ((IntKind.wrap .i64 (v1 + 1))))) else (some (.inl (.k0))))) else (bif (v1 == 2) then ((F65 a1).bind fun x5 => (bif x5 then (some (.inr ((IntKind.wrap .i64 (v1 + 1))))) else (some (.inl (.k0))))) else (bif (v1 == 3) then ((F66 a1).bind fun x6 => (bif x6 then (some (.inr ((IntKind.wrap .i64 (v1 + 1))))) else (some (.inl (.k0))))) else none)))) else (some (.inl (.k1))))
def L49_0_s (v1 : Int) : St := ⟨fr 14 ug [(1, .ptr 0 0), (5, (.agg [(.fn 63 []), (.fn 64 []), (.fn 65 []), (.fn 66 [])])), (6, i6 v1)], [bG a1]⟩
theorem L49_0_k (v1 : Int) : okT 1 (L49_0_s a1 v1).h = true := (okT_of rfl (ac rfl))
abbrev L49_0_e (v1 : Int) := evH prg 1 [1, 5, 6] ir49_l0 (L49_0_s a1 v1)
def L49_0_x (e : E_L49_0) (r : Option (Out × St)) : Prop := match e with | .k0 => ∃ g y, r = some (.ret, ⟨fr 14 g [(2, i6 160)], y⟩) | .k1 => ∃ g, r = some ((.brk 0), ⟨fr 14 g [], [bG a1]⟩)
theorem L49_0_ok (v1 : Int) {r : E_L49_0 ⊕ (Int)} (h : L49_0 a1 v1 = some r) : OkR (fun e => L49_0_x a1 e (L49_0_e a1 v1)) (fun s => L49_0_e a1 v1 = L49_0_e a1 s) r := by
 unfold L49_0 at h
 apply bi h <;> intro h1 h
 ·
  apply bi h <;> intro h2 h
  ·
   have q0 := ((ix_lit h2 (fun z => ixG false 4 1 (.agg [(.fn 63 []), (.fn 64 []), (.fn 65 []), (.fn 66 [])]) (i6 z)) rfl) : ixG false 4 1 (.agg [(.fn 63 []), (.fn 64 []), (.fn 65 []), (.fn 66 [])]) (i6 v1) = some (.fn 63 []))
   have k1 := ka [(7, .d true), (8, .v (.fn 63 []))] (av h1 (apc q0 apn))
   apply bn h; intro x3 h3 h
   apply bi h <;> intro h4 h
   ·
    rw [← sj h]
    exact rn ([(11, .v (vb true)), (6000, .d true)] ++ kH k1) (k1.b (apc ((((F63_ok a1 h3).cp rfl _).trans (congrArg (fun z => some (vb z)) h4)) : CP prg 63 [aG a1] [bG a1] = some (vb true)) (apc (L49_0_k a1 (w6 (v1 + 1))) apn)))
   ·
    rw [← sj h]
    exact xy ([(11, .v (vb false)), (6000, .d true)] ++ kH k1) (k1.b (apc ((((F63_ok a1 h3).cp rfl _).trans (congrArg (fun z => some (vb z)) h4)) : CP prg 63 [aG a1] [bG a1] = some (vb false)) apn))
  ·
   apply bi h <;> intro h3 h
   ·
    have q2 := ((ix_lit h3 (fun z => ixG false 4 1 (.agg [(.fn 63 []), (.fn 64 []), (.fn 65 []), (.fn 66 [])]) (i6 z)) rfl) : ixG false 4 1 (.agg [(.fn 63 []), (.fn 64 []), (.fn 65 []), (.fn 66 [])]) (i6 v1) = some (.fn 64 []))
    have k3 := ka [(7, .d true), (8, .v (.fn 64 []))] (av h1 (apc q2 apn))
    apply bn h; intro x4 h4 h
    apply bi h <;> intro h5 h
    ·
     rw [← sj h]
     exact rn ([(11, .v (vb true)), (6000, .d true)] ++ kH k3) (k3.b (apc ((((F64_ok a1 h4).cp rfl _).trans (congrArg (fun z => some (vb z)) h5)) : CP prg 64 [aG a1] [bG a1] = some (vb true)) (apc (L49_0_k a1 (w6 (v1 + 1))) apn)))
    ·
     rw [← sj h]
     exact xy ([(11, .v (vb false)), (6000, .d true)] ++ kH k3) (k3.b (apc ((((F64_ok a1 h4).cp rfl _).trans (congrArg (fun z => some (vb z)) h5)) : CP prg 64 [aG a1] [bG a1] = some (vb false)) apn))
   ·
    apply bi h <;> intro h4 h
    ·
     have q4 := ((ix_lit h4 (fun z => ixG false 4 1 (.agg [(.fn 63 []), (.fn 64 []), (.fn 65 []), (.fn 66 [])]) (i6 z)) rfl) : ixG false 4 1 (.agg [(.fn 63 []), (.fn 64 []), (.fn 65 []), (.fn 66 [])]) (i6 v1) = some (.fn 65 []))
     have k5 := ka [(7, .d true), (8, .v (.fn 65 []))] (av h1 (apc q4 apn))
     apply bn h; intro x5 h5 h
     apply bi h <;> intro h6 h
     ·
      rw [← sj h]
      exact rn ([(11, .v (vb true)), (6000, .d true)] ++ kH k5) (k5.b (apc ((((F65_ok a1 h5).cp rfl _).trans (congrArg (fun z => some (vb z)) h6)) : CP prg 65 [aG a1] [bG a1] = some (vb true)) (apc (L49_0_k a1 (w6 (v1 + 1))) apn)))
     ·
      rw [← sj h]
      exact xy ([(11, .v (vb false)), (6000, .d true)] ++ kH k5) (k5.b (apc ((((F65_ok a1 h5).cp rfl _).trans (congrArg (fun z => some (vb z)) h6)) : CP prg 65 [aG a1] [bG a1] = some (vb false)) apn))
    ·
     apply bi h <;> intro h5 h
     ·
      have q6 := ((ix_lit h5 (fun z => ixG false 4 1 (.agg [(.fn 63 []), (.fn 64 []), (.fn 65 []), (.fn 66 [])]) (i6 z)) rfl) : ixG false 4 1 (.agg [(.fn 63 []), (.fn 64 []), (.fn 65 []), (.fn 66 [])]) (i6 v1) = some (.fn 66 []))
      have k7 := ka [(7, .d true), (8, .v (.fn 66 []))] (av h1 (apc q6 apn))
      apply bn h; intro x6 h6 h
      apply bi h <;> intro h7 h
      ·
       rw [← sj h]
       exact rn ([(11, .v (vb true)), (6000, .d true)] ++ kH k7) (k7.b (apc ((((F66_ok a1 h6).cp rfl _).trans (congrArg (fun z => some (vb z)) h7)) : CP prg 66 [aG a1] [bG a1] = some (vb true)) (apc (L49_0_k a1 (w6 (v1 + 1))) apn)))
      ·
       rw [← sj h]
       exact xy ([(11, .v (vb false)), (6000, .d true)] ++ kH k7) (k7.b (apc ((((F66_ok a1 h6).cp rfl _).trans (congrArg (fun z => some (vb z)) h7)) : CP prg 66 [aG a1] [bG a1] = some (vb false)) apn))
     ·
      cases h
 ·
  rw [← sj h]
  exact xb [(7, .d false), (6000, .d true)] (av h1 apn)
theorem L49_0_run (s0 : Int) (e : E_L49_0) (h : runL (fun s => L49_0 a1 s) s0 = some e) : L49_0_x a1 e (L49_0_e a1 s0) := by
  have q := @loop_sound' (Int) E_L49_0 (fun s => L49_0 a1 s) (fun s => L49_0_e a1 s) (L49_0_x a1) (fun s r h => L49_0_ok a1 s h) s0 e h
  exact q
end
def F49_v (a1 : GramD) (x0 : Int) : AV := (i6 x0)
def F49 (a1 : GramD) : Option Int :=
  ((runL (fun s => L49_0 a1 s) 0).bind fun r1 => match r1 with | .k0 => (some 160) | .k1 => (some 0))
theorem F49_ok (a1 : GramD) {r : Int} (h : F49 a1 = some r) : PR1 prg 49 [aG a1] (F49_v a1 r) := by
 unfold F49 at h
 apply bn h; intro r1 h1 h
 cases r1 with
 | k0 =>
  obtain ⟨g1, y1, e1⟩ := L49_0_run a1 0 _ h1
  rw [← sj h]
  exact fq [(2000, .l .ret ⟨fr 14 g1 [(2, i6 160)], y1⟩), (6000, .d true)] (apc (L49_0_k a1 0) (apc (e1 : L49_0_e a1 0 = some (.ret, ⟨fr 14 g1 [(2, i6 160)], y1⟩)) apn))
 | k1 =>
  obtain ⟨g1, e1⟩ := L49_0_run a1 0 _ h1
  rw [← sj h]
  exact fq [(2000, .l (.brk 0) ⟨fr 14 g1 [], [bG a1]⟩), (6000, .d true)] (apc (L49_0_k a1 0) (apc (e1 : L49_0_e a1 0 = some ((.brk 0), ⟨fr 14 g1 [], [bG a1]⟩)) apn))
def F33_v (a1 : GramD) (a2 : Int) (x0 : Int) : AV := (i6 x0)
def F33 (a1 : GramD) (a2 : Int) : Option Int :=
  ((F49 a1).bind fun x1 => (bif (x1 != 0) then (some 160) else (bif (decide (a2 < 0)) then (some 4) else (bif (decide (a2 ≥ (a1.sorts.length : Int))) then (some 4) else (some 0)))))
theorem F33_ok (a1 : GramD) (a2 : Int) {r : Int} (h : F33 a1 a2 = some r) : PR1 prg 33 [aG a1, i6 a2] (F33_v a1 a2 r) := by
 unfold F33 at h
 apply bn h; intro x1 h1 h
 have q0 := (((F49_ok a1 h1).cp rfl _) : CP prg 49 [aG a1] [bG a1] = some (i6 x1))
 apply bi h <;> intro h2 h
 ·
  rw [← sj h]
  exact fq [(7, .v (i6 x1)), (8, .d true)] (apc q0 (av h2 apn))
 ·
  have k1 := ka [(7, .v (i6 x1)), (8, .d false)] (apc q0 (av h2 apn))
  apply bi h <;> intro h3 h
  ·
   rw [← sj h]
   exact fq ([(11, .d true)] ++ kH k1) (k1.b (av h3 apn))
  ·
   have k2 := k1.a [(11, .d false), (16, .v (i6 (lS a1)))] (av h3 (apc (lg a1.sorts eStr 1) apn))
   apply bi h <;> intro h4 h
   ·
    rw [← sj h]
    exact fq ([(17, .d true)] ++ kH k2) (k2.b (av h4 apn))
   ·
    rw [← sj h]
    exact fq ([(17, .d false)] ++ kH k2) (k2.b (av h4 apn))
def F35_v (a1 : SymD) (a2 : Int) (x0 : Bool) : AV := (vb x0)
def F35 (a1 : SymD) (a2 : Int) : Option Bool :=
  (bif ((Int.fdiv a2 (2 ^ (min (Int.toNat 6) (IntKind.bits .u8)))) == 0) then (bif (decide ((IntKind.wrap .u8 ((BitVec.ofInt (IntKind.bits .u8) a2 &&& BitVec.ofInt (IntKind.bits .u8) 63).toNat : Int)) < 0)) then none else (some ((IntKind.wrap .u64 ((BitVec.ofInt (IntKind.bits .u64) (Int.fdiv a1.a (2 ^ (min (Int.toNat (IntKind.wrap .u8 ((BitVec.ofInt (IntKind.bits .u8) a2 &&& BitVec.ofInt (IntKind.bits .u8) 63).toNat : Int))) (IntKind.bits .u64)))) &&& BitVec.ofInt (IntKind.bits .u64) 1).toNat : Int)) == 1))) else (bif ((Int.fdiv a2 (2 ^ (min (Int.toNat 6) (IntKind.bits .u8)))) == 1) then (bif (decide ((IntKind.wrap .u8 ((BitVec.ofInt (IntKind.bits .u8) a2 &&& BitVec.ofInt (IntKind.bits .u8) 63).toNat : Int)) < 0)) then none else (some ((IntKind.wrap .u64 ((BitVec.ofInt (IntKind.bits .u64) (Int.fdiv a1.b (2 ^ (min (Int.toNat (IntKind.wrap .u8 ((BitVec.ofInt (IntKind.bits .u8) a2 &&& BitVec.ofInt (IntKind.bits .u8) 63).toNat : Int))) (IntKind.bits .u64)))) &&& BitVec.ofInt (IntKind.bits .u64) 1).toNat : Int)) == 1))) else (bif ((Int.fdiv a2 (2 ^ (min (Int.toNat 6) (IntKind.bits .u8)))) == 2) then (bif (decide ((IntKind.wrap .u8 ((BitVec.ofInt (IntKind.bits .u8) a2 &&& BitVec.ofInt (IntKind.bits .u8) 63).toNat : Int)) < 0)) then none else (some ((IntKind.wrap .u64 ((BitVec.ofInt (IntKind.bits .u64) (Int.fdiv a1.c (2 ^ (min (Int.toNat (IntKind.wrap .u8 ((BitVec.ofInt (IntKind.bits .u8) a2 &&& BitVec.ofInt (IntKind.bits .u8) 63).toNat : Int))) (IntKind.bits .u64)))) &&& BitVec.ofInt (IntKind.bits .u64) 1).toNat : Int)) == 1))) else (bif ((Int.fdiv a2 (2 ^ (min (Int.toNat 6) (IntKind.bits .u8)))) == 3) then (bif (decide ((IntKind.wrap .u8 ((BitVec.ofInt (IntKind.bits .u8) a2 &&& BitVec.ofInt (IntKind.bits .u8) 63).toNat : Int)) < 0)) then none else (some ((IntKind.wrap .u64 ((BitVec.ofInt (IntKind.bits .u64) (Int.fdiv a1.d (2 ^ (min (Int.toNat (IntKind.wrap .u8 ((BitVec.ofInt (IntKind.bits .u8) a2 &&& BitVec.ofInt (IntKind.bits .u8) 63).toNat : Int))) (IntKind.bits .u64)))) &&& BitVec.ofInt (IntKind.bits .u64) 1).toNat : Int)) == 1))) else none))))
theorem F35_ok (a1 : SymD) (a2 : Int) {r : Bool} (h : F35 a1 a2 = some r) : PR1 prg 35 [(.agg ((List.take 4 (List.drop 1 (eSym a1))).map .p)), vi .u8 a2] (F35_v a1 a2 r) := by
 unfold F35 at h
 have q0 := ((sh_shr (by decide)) : binA .shr (vi .u8 a2) (vi .u64 6) = some (vi .u8 (Int.fdiv a2 (2 ^ (min (Int.toNat 6) (IntKind.bits .u8))))))
 have k1 := ka [(6, .v (vi .u8 (Int.fdiv a2 (2 ^ (min (Int.toNat 6) (IntKind.bits .u8))))))] (apc q0 apn)
 apply bi h <;> intro h1 h
 ·
  have q2 := ((ix_lit h1 (fun z => ixP 4 1 (.ptr 0 0) (vi .u8 z)) rfl) : ixP 4 1 (.ptr 0 0) (vi .u8 (Int.fdiv a2 (2 ^ (min (Int.toNat 6) (IntKind.bits .u8))))) = some (.ptr 0 0))
  apply bi h <;> intro h2 h
  ·
   cases h
  ·
   rw [← sj h]
   exact fq ([(7, .v (.ptr 0 0)), (11, .v (vi .u64 (Int.fdiv a1.a (2 ^ (min (Int.toNat (IntKind.wrap .u8 ((BitVec.ofInt (IntKind.bits .u8) a2 &&& BitVec.ofInt (IntKind.bits .u8) 63).toNat : Int))) (IntKind.bits .u64))))))] ++ kH k1) (k1.b (apc q2 (apc ((sh_shr (of_decide_eq_false h2)) : binA .shr (vi .u64 a1.a) (vi .u8 (IntKind.wrap .u8 ((BitVec.ofInt (IntKind.bits .u8) a2 &&& BitVec.ofInt (IntKind.bits .u8) 63).toNat : Int))) = some (vi .u64 (Int.fdiv a1.a (2 ^ (min (Int.toNat (IntKind.wrap .u8 ((BitVec.ofInt (IntKind.bits .u8) a2 &&& BitVec.ofInt (IntKind.bits .u8) 63).toNat : Int))) (IntKind.bits .u64)))))) apn)))
 ·
  apply bi h <;> intro h2 h
  ·
   have q3 := ((ix_lit h2 (fun z => ixP 4 1 (.ptr 0 0) (vi .u8 z)) rfl) : ixP 4 1 (.ptr 0 0) (vi .u8 (Int.fdiv a2 (2 ^ (min (Int.toNat 6) (IntKind.bits .u8))))) = some (.ptr 0 1))
   apply bi h <;> intro h3 h
   ·
    cases h
   ·
    rw [← sj h]
    exact fq ([(7, .v (.ptr 0 1)), (11, .v (vi .u64 (Int.fdiv a1.b (2 ^ (min (Int.toNat (IntKind.wrap .u8 ((BitVec.ofInt (IntKind.bits .u8) a2 &&& BitVec.ofInt (IntKind.bits .u8) 63).toNat : Int))) (IntKind.bits .u64))))))] ++ kH k1) (k1.b (apc q3 (apc ((sh_shr (of_decide_eq_false h3)) : binA .shr (vi .u64 a1.b) (vi .u8 (IntKind.wrap .u8 ((BitVec.ofInt (IntKind.bits .u8) a2 &&& BitVec.ofInt (IntKind.bits .u8) 63).toNat : Int))) = some (vi .u64 (Int.fdiv a1.b (2 ^ (min (Int.toNat (IntKind.wrap .u8 ((BitVec.ofInt (IntKind.bits .u8) a2 &&& BitVec.ofInt (IntKind.bits .u8) 63).toNat : Int))) (IntKind.bits .u64)))))) apn)))
  ·
   apply bi h <;> intro h3 h
   ·
    have q4 := ((ix_lit h3 (fun z => ixP 4 1 (.ptr 0 0) (vi .u8 z)) rfl) : ixP 4 1 (.ptr 0 0) (vi .u8 (Int.fdiv a2 (2 ^ (min (Int.toNat 6) (IntKind.bits .u8))))) = some (.ptr 0 2))
    apply bi h <;> intro h4 h
    ·
     cases h
    ·
     rw [← sj h]
     exact fq ([(7, .v (.ptr 0 2)), (11, .v (vi .u64 (Int.fdiv a1.c (2 ^ (min (Int.toNat (IntKind.wrap .u8 ((BitVec.ofInt (IntKind.bits .u8) a2 &&& BitVec.ofInt (IntKind.bits .u8) 63).toNat : Int))) (IntKind.bits .u64))))))] ++ kH k1) (k1.b (apc q4 (apc ((sh_shr (of_decide_eq_false h4)) : binA .shr (vi .u64 a1.c) (vi .u8 (IntKind.wrap .u8 ((BitVec.ofInt (IntKind.bits .u8) a2 &&& BitVec.ofInt (IntKind.bits .u8) 63).toNat : Int))) = some (vi .u64 (Int.fdiv a1.c (2 ^ (min (Int.toNat (IntKind.wrap .u8 ((BitVec.ofInt (IntKind.bits .u8) a2 &&& BitVec.ofInt (IntKind.bits .u8) 63).toNat : Int))) (IntKind.bits .u64)))))) apn)))
   ·
    apply bi h <;> intro h4 h
    ·
     have q5 := ((ix_lit h4 (fun z => ixP 4 1 (.ptr 0 0) (vi .u8 z)) rfl) : ixP 4 1 (.ptr 0 0) (vi .u8 (Int.fdiv a2 (2 ^ (min (Int.toNat 6) (IntKind.bits .u8))))) = some (.ptr 0 3))
     apply bi h <;> intro h5 h
     ·
      cases h
     ·
      rw [← sj h]
      exact fq ([(7, .v (.ptr 0 3)), (11, .v (vi .u64 (Int.fdiv a1.d (2 ^ (min (Int.toNat (IntKind.wrap .u8 ((BitVec.ofInt (IntKind.bits .u8) a2 &&& BitVec.ofInt (IntKind.bits .u8) 63).toNat : Int))) (IntKind.bits .u64))))))] ++ kH k1) (k1.b (apc q5 (apc ((sh_shr (of_decide_eq_false h5)) : binA .shr (vi .u64 a1.d) (vi .u8 (IntKind.wrap .u8 ((BitVec.ofInt (IntKind.bits .u8) a2 &&& BitVec.ofInt (IntKind.bits .u8) 63).toNat : Int))) = some (vi .u64 (Int.fdiv a1.d (2 ^ (min (Int.toNat (IntKind.wrap .u8 ((BitVec.ofInt (IntKind.bits .u8) a2 &&& BitVec.ofInt (IntKind.bits .u8) 63).toNat : Int))) (IntKind.bits .u64)))))) apn)))
    ·
     cases h
inductive E_L34_0_2 where
  | k0 (x0 x1 x2 x3 x4 x5 : Int)
  | k1
section
variable (a1 : Int) (a2 : ByteArray) (a3 : GramD) (a4 a5 : Int) (a6 : ProdD) (a7 : Int)
abbrev L34_0_2_p (l : List AB) : List AB := bG a3 :: yY0 :: bP a6 :: l
def L34_0_2 (v1 : Int) : Option (E_L34_0_2 ⊕ (Int)) :=
  (bif (decide (v1 < a7)) then ((getI a6.right v1).bind fun x2 => ((getI a2.data.toList v1).bind fun x3 => ((F35 x2 (x3.toNat : Int)).bind fun x4 => (bif x4 then (some (.inr ((IntKind.wrap .i64 (v1 + 1))))) else (some (.inl (.k0 x2.kind x2.a x2.b x2.c x2.d x2.sort))))))) else (some (.inl (.k1))))
def L34_0_2_s (v1 : Int) : St := ⟨fr 52 ug [(1, i6 a1), (2, vs a2), (12, ls 7 eProd a3.prods), (13, i6 a4), (14, i6 a5), (36, ls 6 eSym a6.right), (37, i6 a7), (38, i6 v1)], (L34_0_2_p a3 a6 [])⟩
theorem L34_0_2_k (v1 : Int) : okT 3 (L34_0_2_s a1 a2 a3 a4 a5 a6 a7 v1).h = true := (okT_of rfl (ac (ar (ac rfl))))
abbrev L34_0_2_e (v1 : Int) := evH prg 3 [1, 2, 12, 13, 14, 36, 37, 38] ir34_l0 (L34_0_2_s a1 a2 a3 a4 a5 a6 a7 v1)
def L34_0_2_x (e : E_L34_0_2) (r : Option (Out × St)) : Prop := match e with | .k0 x0 x1 x2 x3 x4 x5 => ∃ g, r = some ((.brk 1), ⟨fr 52 g [(1, i6 a1), (2, vs a2), (12, ls 7 eProd a3.prods), (13, i6 a4), (14, i6 a5), (36, ls 6 eSym a6.right)], (L34_0_2_p a3 a6 [.cells 75 [i6 x0, vi .u64 x1, vi .u64 x2, vi .u64 x3, vi .u64 x4, i6 x5]])⟩) | .k1 => ∃ g, r = some ((.brk 2), ⟨fr 52 g [(1, i6 a1), (2, vs a2), (12, ls 7 eProd a3.prods), (13, i6 a4), (14, i6 a5), (36, ls 6 eSym a6.right)], (L34_0_2_p a3 a6 [])⟩)
abbrev L34_0_2_d0 (x2 : SymD) : List AB := (L34_0_2_p a3 a6 [.cells 75 ((eSym x2).map .p)])
theorem L34_0_2_ok (v1 : Int) {r : E_L34_0_2 ⊕ (Int)} (h : L34_0_2 a2 a6 a7 v1 = some r) : OkR (fun e => L34_0_2_x a1 a2 a3 a4 a5 a6 e (L34_0_2_e a1 a2 a3 a4 a5 a6 a7 v1)) (fun s => L34_0_2_e a1 a2 a3 a4 a5 a6 a7 v1 = L34_0_2_e a1 a2 a3 a4 a5 a6 a7 s) r := by
 unfold L34_0_2 at h
 apply bi h <;> intro h1 h
 ·
  apply bn h; intro x2 h2 h
  have k0 := ka [(39, .d true), (41, .v (.ro (eSym x2)))] (av h1 (apc (ig eSym 6 .i64 h2) apn))
  apply bn h; intro x3 h3 h
  have q1 := ((ix_str h3) : ixS (vs a2) (i6 v1) = some (vi .u8 (x3.toNat : Int)))
  apply bn h; intro x4 h4 h
  apply bi h <;> intro h5 h
  ·
   rw [← sj h]
   exact rn ([(47, .v (vi .u8 (x3.toNat : Int))), (48, .v (vb true)), (6000, .d true)] ++ kH k0) (k0.b (apc q1 (apc ((((F35_ok x2 (x3.toNat : Int) h4).cp rfl _).trans (congrArg (fun z => some (vb z)) h5)) : CP prg 35 [(.agg ((List.take 4 (List.drop 1 (eSym x2))).map .p)), (vi .u8 (x3.toNat : Int))] (L34_0_2_d0 a3 a6 x2) = some (vb true)) (apc (L34_0_2_k a1 a2 a3 a4 a5 a6 a7 (w6 (v1 + 1))) apn))))
  ·
   rw [← sj h]
   exact xb ([(47, .v (vi .u8 (x3.toNat : Int))), (48, .v (vb false)), (6000, .d true)] ++ kH k0) (k0.b (apc q1 (apc ((((F35_ok x2 (x3.toNat : Int) h4).cp rfl _).trans (congrArg (fun z => some (vb z)) h5)) : CP prg 35 [(.agg ((List.take 4 (List.drop 1 (eSym x2))).map .p)), (vi .u8 (x3.toNat : Int))] (L34_0_2_d0 a3 a6 x2) = some (vb false)) apn)))
 ·
  rw [← sj h]
  exact xb [(39, .d false), (6000, .d true)] (av h1 apn)
theorem L34_0_2_run (s0 : Int) (e : E_L34_0_2) (h : runL (fun s => L34_0_2 a2 a6 a7 s) s0 = some e) : L34_0_2_x a1 a2 a3 a4 a5 a6 e (L34_0_2_e a1 a2 a3 a4 a5 a6 a7 s0) := by
  have q := @loop_sound' (Int) E_L34_0_2 (fun s => L34_0_2 a2 a6 a7 s) (fun s => L34_0_2_e a1 a2 a3 a4 a5 a6 a7 s) (L34_0_2_x a1 a2 a3 a4 a5 a6) (fun s r h => L34_0_2_ok a1 a2 a3 a4 a5 a6 a7 s h) s0 e h
  exact q
end
inductive E_L34_1 where
  | k0
  | k1
section
variable (a1 : Int) (a2 : ByteArray) (a3 : GramD) (a4 : Int)
def L34_1 (v1 : Int) : Option (E_L34_1 ⊕ (Int)) :=
  (bif (decide (v1 < a4)) then ((getI a3.prods v1).bind fun x2 => (bif (x2.role != 11) then (some (.inr ((IntKind.wrap .i64 (v1 + 1))))) else (bif (x2.left != a1) then (some (.inr ((IntKind.wrap .i64 (v1 + 1))))) else (bif ((x2.right.length : Int) != (a2.size : Int)) then (some (.inr ((IntKind.wrap .i64 (v1 + 1))))) else ((runL (fun s => L34_0_2 a2 x2 (x2.right.length : Int) s) 0).bind fun r6 => match r6 with | .k0 x6_0 x6_1 x6_2 x6_3 x6_4 x6_5 => (some (.inr ((IntKind.wrap .i64 (v1 + 1))))) | .k1 => (some (.inl (.k0)))))))) else (some (.inl (.k1))))
def L34_1_s (v1 : Int) : St := ⟨fr 52 ug [(1, i6 a1), (2, vs a2), (12, ls 7 eProd a3.prods), (13, i6 a4), (14, i6 v1)], [bG a3]⟩
theorem L34_1_k (v1 : Int) : okT 1 (L34_1_s a1 a2 a3 a4 v1).h = true := (okT_of rfl (ac rfl))
abbrev L34_1_e (v1 : Int) := evH prg 1 [1, 2, 12, 13, 14] ir34_l1 (L34_1_s a1 a2 a3 a4 v1)
def L34_1_x (e : E_L34_1) (r : Option (Out × St)) : Prop := match e with | .k0 => ∃ g y, r = some (.ret, ⟨fr 52 g [(6, vb true)], y⟩) | .k1 => ∃ g, r = some ((.brk 0), ⟨fr 52 g [(12, ls 7 eProd a3.prods)], [bG a3]⟩)
abbrev L34_1_d0 (g6 : Nat → AV) (v1 : Int) (x2 : ProdD) (x6_0 x6_1 x6_2 x6_3 x6_4 x6_5 : Int) : St := ⟨fr 52 g6 [(1, i6 a1), (2, vs a2), (12, ls 7 eProd a3.prods), (13, i6 a4), (14, i6 v1), (36, ls 6 eSym x2.right)], [bG a3, yY0, bP x2, .cells 75 [i6 x6_0, vi .u64 x6_1, vi .u64 x6_2, vi .u64 x6_3, vi .u64 x6_4, i6 x6_5]]⟩
abbrev L34_1_d1 (g6 : Nat → AV) (v1 : Int) (x2 : ProdD) : St := ⟨fr 52 g6 [(1, i6 a1), (2, vs a2), (12, ls 7 eProd a3.prods), (13, i6 a4), (14, i6 v1), (36, ls 6 eSym x2.right)], [bG a3, yY0, bP x2]⟩
theorem L34_1_ok (v1 : Int) {r : E_L34_1 ⊕ (Int)} (h : L34_1 a1 a2 a3 a4 v1 = some r) : OkR (fun e => L34_1_x a3 e (L34_1_e a1 a2 a3 a4 v1)) (fun s => L34_1_e a1 a2 a3 a4 v1 = L34_1_e a1 a2 a3 a4 s) r := by
 unfold L34_1 at h
 apply bi h <;> intro h1 h
 ·
  apply bn h; intro x2 h2 h
  have k0 := ka [(15, .d true), (16, .v (.ro (eProd x2)))] (av h1 (apc (ig eProd 7 .i64 h2) apn))
  apply bi h <;> intro h3 h
  ·
   rw [← sj h]
   exact rn ([(20, .d true), (6000, .d true)] ++ kH k0) (k0.b (av h3 (apc (L34_1_k a1 a2 a3 a4 (w6 (v1 + 1))) apn)))
  ·
   apply bi h <;> intro h4 h
   ·
    rw [← sj h]
    exact rn ([(20, .d false), (25, .d true), (6000, .d true)] ++ kH k0) (k0.b (av h3 (av h4 (apc (L34_1_k a1 a2 a3 a4 (w6 (v1 + 1))) apn))))
   ·
    have k1 := k0.a [(20, .d false), (25, .d false), (30, .v (i6 (x2.right.length : Int)))] (av h3 (av h4 (apc (lg x2.right eSym 6) apn)))
    apply bi h <;> intro h5 h
    ·
     rw [← sj h]
     exact rn ([(33, .d true), (6000, .d true)] ++ kH k1) (k1.b (av h5 (apc (L34_1_k a1 a2 a3 a4 (w6 (v1 + 1))) apn)))
    ·
     have k2 := k1.a [(33, .d false), (37, .v (i6 (x2.right.length : Int)))] (av h5 (apc (lg x2.right eSym 6) apn))
     apply bn h; intro r6 h6 h
     cases r6 with
     | k0 x6_0 x6_1 x6_2 x6_3 x6_4 x6_5 =>
      obtain ⟨g6, e6⟩ := L34_0_2_run a1 a2 a3 a4 v1 x2 (x2.right.length : Int) 0 _ h6
      rw [← sj h]
      exact rn ([(2002, .l (.brk 1) (L34_1_d0 a1 a2 a3 a4 g6 v1 x2 x6_0 x6_1 x6_2 x6_3 x6_4 x6_5)), (6000, .d true)] ++ kH k2) (k2.b (apc (L34_0_2_k a1 a2 a3 a4 v1 x2 (x2.right.length : Int) 0) (apc (e6 : L34_0_2_e a1 a2 a3 a4 v1 x2 (x2.right.length : Int) 0 = some ((.brk 1), L34_1_d0 a1 a2 a3 a4 g6 v1 x2 x6_0 x6_1 x6_2 x6_3 x6_4 x6_5)) (apc (L34_1_k a1 a2 a3 a4 (w6 (v1 + 1))) apn))))
     | k1 =>
      obtain ⟨g6, e6⟩ := L34_0_2_run a1 a2 a3 a4 v1 x2 (x2.right.length : Int) 0 _ h6
      rw [← sj h]
      exact xy ([(2002, .l (.brk 2) (L34_1_d1 a1 a2 a3 a4 g6 v1 x2)), (6000, .d true)] ++ kH k2) (k2.b (apc (L34_0_2_k a1 a2 a3 a4 v1 x2 (x2.right.length : Int) 0) (apc (e6 : L34_0_2_e a1 a2 a3 a4 v1 x2 (x2.right.length : Int) 0 = some ((.brk 2), L34_1_d1 a1 a2 a3 a4 g6 v1 x2)) apn)))
 ·
  rw [← sj h]
  exact xb [(15, .d false), (6000, .d true)] (av h1 apn)
theorem L34_1_run (s0 : Int) (e : E_L34_1) (h : runL (fun s => L34_1 a1 a2 a3 a4 s) s0 = some e) : L34_1_x a3 e (L34_1_e a1 a2 a3 a4 s0) := by
  have q := @loop_sound' (Int) E_L34_1 (fun s => L34_1 a1 a2 a3 a4 s) (fun s => L34_1_e a1 a2 a3 a4 s) (L34_1_x a3) (fun s r h => L34_1_ok a1 a2 a3 a4 s h) s0 e h
  exact q
end
def F34_v (a1 : GramD) (a2 : Int) (a3 : ByteArray) (x0 : Bool) : AV := (vb x0)
def F34 (a1 : GramD) (a2 : Int) (a3 : ByteArray) : Option Bool :=
  ((runL (fun s => L34_1 a2 a3 a1 (a1.prods.length : Int) s) 0).bind fun r1 => match r1 with | .k0 => (some true) | .k1 => (some false))
abbrev F34_d0 (g1 : Nat → AV) (a1 : GramD) : St := ⟨fr 52 g1 [(12, ls 7 eProd a1.prods)], [bG a1]⟩
theorem F34_ok (a1 : GramD) (a2 : Int) (a3 : ByteArray) {r : Bool} (h : F34 a1 a2 a3 = some r) : PR1 prg 34 [aG a1, i6 a2, vs a3] (F34_v a1 a2 a3 r) := by
 unfold F34 at h
 have k0 := ka [(13, .v (i6 (lP a1)))] (apc (lg a1.prods eProd 7) apn)
 apply bn h; intro r1 h1 h
 cases r1 with
 | k0 =>
  obtain ⟨g1, y1, e1⟩ := L34_1_run a2 a3 a1 (lP a1) 0 _ h1
  rw [← sj h]
  exact fq ([(2000, .l .ret ⟨fr 52 g1 [(6, vb true)], y1⟩), (6000, .d true)] ++ kH k0) (k0.b (apc (L34_1_k a2 a3 a1 (lP a1) 0) (apc (e1 : L34_1_e a2 a3 a1 (lP a1) 0 = some (.ret, ⟨fr 52 g1 [(6, vb true)], y1⟩)) apn)))
 | k1 =>
  obtain ⟨g1, e1⟩ := L34_1_run a2 a3 a1 (lP a1) 0 _ h1
  rw [← sj h]
  exact fq ([(2000, .l (.brk 0) (F34_d0 g1 a1)), (6000, .d true)] ++ kH k0) (k0.b (apc (L34_1_k a2 a3 a1 (lP a1) 0) (apc (e1 : L34_1_e a2 a3 a1 (lP a1) 0 = some ((.brk 0), F34_d0 g1 a1)) apn)))
inductive R_F17 where
  | k0 (x0 : Bool) (x1 : Int)
def F17_v (a1 : GramD) (a2 : Int) (a3 : ByteArray) (r : R_F17) : AV := match r with | .k0 x0 x1 => (.tup [vb x0, i6 x1])
def F17 (a1 : GramD) (a2 : Int) (a3 : ByteArray) : Option R_F17 :=
  ((F33 a1 a2).bind fun x1 => (bif (x1 != 0) then (some (.k0 false x1)) else ((F34 a1 a2 a3).bind fun x3 => (some (.k0 x3 0)))))
theorem F17_ok (a1 : GramD) (a2 : Int) (a3 : ByteArray) {r : R_F17} (h : F17 a1 a2 a3 = some r) : PR1 prg 17 [aG a1, i6 a2, vs a3] (F17_v a1 a2 a3 r) := by
 unfold F17 at h
 apply bn h; intro x1 h1 h
 have q0 := (((F33_ok a1 a2 h1).cp rfl _) : CP prg 33 [aG a1, i6 a2] [bG a1] = some (i6 x1))
 apply bi h <;> intro h2 h
 ·
  rw [← sj h]
  exact fq [(11, .v (i6 x1)), (13, .d true)] (apc q0 (av h2 apn))
 ·
  apply bn h; intro x3 h3 h
  rw [← sj h]
  exact fq [(11, .v (i6 x1)), (13, .d false), (18, .v (vb x3))] (apc q0 (av h2 (apc (((F34_ok a1 a2 a3 h3).cp rfl _) : CP prg 34 [aG a1, i6 a2, vs a3] [bG a1] = some (vb x3)) apn)))
inductive E_L36_0 where
  | k0 (x0 : List (Int × SetD))
section
variable (a1 : GramD) (a2 : Int)
abbrev L36_0_p (l : List AB) : List AB := bG a1 :: bG a1 :: l
def L36_0 (v1 : Int) (v2 : List (Int × SetD)) : Option (E_L36_0 ⊕ (Int × (List (Int × SetD)))) :=
  (bif (decide (v1 < a2)) then ((getI a1.follow v1).bind fun x2 => (some (.inr ((IntKind.wrap .i64 (v1 + 1)), (mput x2.sort (⟨x2.a, x2.b, x2.c, x2.d⟩ : SetD) v2))))) else (some (.inl (.k0 v2))))
def L36_0_s (v1 : Int) (v2 : List (Int × SetD)) : St := ⟨fr 21 ug [(3, .mp 2), (8, ls 5 eFoll a1.follow), (9, i6 a2), (10, i6 v1)], (L36_0_p a1 [.map 0 (mrow (fun n => vi .i64 n) (fun s => .agg [vi .u64 s.a, vi .u64 s.b, vi .u64 s.c, vi .u64 s.d]) v2)])⟩
theorem L36_0_k (v1 : Int) (v2 : List (Int × SetD)) : okT 3 (L36_0_s a1 a2 v1 v2).h = true := (okT_of rfl (ac (ac (abl_cons (abl_map (fun _ => rfl) (fun _ => rfl)) rfl))))
abbrev L36_0_e (v1 : Int) (v2 : List (Int × SetD)) := evH prg 3 [3, 8, 9, 10] ir36_l0 (L36_0_s a1 a2 v1 v2)
def L36_0_x (e : E_L36_0) (r : Option (Out × St)) : Prop := match e with | .k0 x0 => ∃ g, r = some ((.brk 0), ⟨fr 21 g [(3, .mp 2), (8, ls 5 eFoll a1.follow)], (L36_0_p a1 [.map 0 (mrow (fun n => vi .i64 n) (fun s => .agg [vi .u64 s.a, vi .u64 s.b, vi .u64 s.c, vi .u64 s.d]) x0)])⟩)
abbrev L36_0_d0 (x2 : FollD) (v2 : List (Int × SetD)) : List AB := (L36_0_p a1 [.map 0 (mrow (fun n => vi .i64 n) (fun s => .agg [vi .u64 s.a, vi .u64 s.b, vi .u64 s.c, vi .u64 s.d]) (mput x2.sort (⟨x2.a, x2.b, x2.c, x2.d⟩ : SetD) v2)), .cells 70 ((eFoll x2).map .p)])
theorem L36_0_ok (v1 : Int) (v2 : List (Int × SetD)) {r : E_L36_0 ⊕ (Int × (List (Int × SetD)))} (h : L36_0 a1 a2 v1 v2 = some r) : OkR (fun e => L36_0_x a1 e (L36_0_e a1 a2 v1 v2)) (fun s => L36_0_e a1 a2 v1 v2 = L36_0_e a1 a2 s.1 s.2) r := by
 unfold L36_0 at h
 apply bi h <;> intro h1 h
 ·
  apply bn h; intro x2 h2 h
  rw [← sj h]
  exact rn [(11, .d true), (12, .v (.ro (eFoll x2))), (7018, .r ud (L36_0_d0 a1 x2 v2)), (6000, .d true)] (av h1 (apc (ig eFoll 5 .i64 h2) (apc (⟨up_row key_int (ve := (fun s => .agg [vi .u64 s.a, vi .u64 s.b, vi .u64 s.c, vi .u64 s.d])) (es := v2) (k := x2.sort) (v := (⟨x2.a, x2.b, x2.c, x2.d⟩ : SetD)) rfl, rfl⟩ : upA (L36_0_p a1 [.map 0 (mrow (fun n => vi .i64 n) (fun s => .agg [vi .u64 s.a, vi .u64 s.b, vi .u64 s.c, vi .u64 s.d]) v2), .cells 70 ((eFoll x2).map .p)]) [1] .false (.mp 2) (i6 x2.sort) (.agg ((List.drop 1 (eFoll x2)).map .p)) = some (L36_0_d0 a1 x2 v2) ∧ ud = ud) (apc (L36_0_k a1 a2 (w6 (v1 + 1)) (mput x2.sort (⟨x2.a, x2.b, x2.c, x2.d⟩ : SetD) v2)) apn))))
 ·
  rw [← sj h]
  exact xb [(11, .d false), (6000, .d true)] (av h1 apn)
theorem L36_0_run (s0 : Int × (List (Int × SetD))) (e : E_L36_0) (h : runL (fun s => L36_0 a1 a2 s.1 s.2) s0 = some e) : L36_0_x a1 e (L36_0_e a1 a2 s0.1 s0.2) := by
  have q := @loop_sound' (Int × (List (Int × SetD))) E_L36_0 (fun s => L36_0 a1 a2 s.1 s.2) (fun s => L36_0_e a1 a2 s.1 s.2) (L36_0_x a1) (fun s r h => L36_0_ok a1 a2 s.1 s.2 h) s0 e h
  exact q
end
def F36_v (a1 : GramD) (x0 : (List (Int × SetD))) : AV := (.mp 2)
def F36_h (a1 : GramD) (x0 : (List (Int × SetD))) : List AB := [bG a1, bG a1, .map 0 (mrow (fun n => vi .i64 n) (fun s => .agg [vi .u64 s.a, vi .u64 s.b, vi .u64 s.c, vi .u64 s.d]) x0)]
def F36 (a1 : GramD) : Option (List (Int × SetD)) :=
  ((runL (fun s => L36_0 a1 (a1.follow.length : Int) s.1 s.2) (0, [])).bind fun r1 => match r1 with | .k0 x1_0 => (some x1_0))
abbrev F36_d0 (g1 : Nat → AV) (a1 : GramD) (x1_0 : List (Int × SetD)) : St := ⟨fr 21 g1 [(3, .mp 2), (8, ls 5 eFoll a1.follow)], [bG a1, bG a1, .map 0 (mrow (fun n => vi .i64 n) (fun s => .agg [vi .u64 s.a, vi .u64 s.b, vi .u64 s.c, vi .u64 s.d]) x1_0)]⟩
theorem F36_ok (a1 : GramD) {r : (List (Int × SetD))} (h : F36 a1 = some r) : CS prg 36 [aG a1] [bG a1] = some (F36_v a1 r, F36_h a1 r) := by
 unfold F36 at h
 apply bn h; intro r1 h1 h
 cases r1 with
 | k0 x1_0 =>
  obtain ⟨g1, e1⟩ := L36_0_run a1 (lW a1) (0, []) _ h1
  rw [← sj h]
  exact fc [(9, .v (i6 (lW a1))), (2000, .l (.brk 0) (F36_d0 g1 a1 x1_0)), (6000, .d true)] (apc (lg a1.follow eFoll 5) (apc (L36_0_k a1 (lW a1) 0 ([])) (apc (e1 : L36_0_e a1 (lW a1) 0 ([]) = some ((.brk 0), F36_d0 g1 a1 x1_0)) apn)))
def F35_2_v (a1 a2 a3 a4 a5 : Int) (x0 : Bool) : AV := (vb x0)
def F35_2 (a1 a2 a3 a4 a5 : Int) : Option Bool :=
  (bif ((Int.fdiv a5 (2 ^ (min (Int.toNat 6) (IntKind.bits .u8)))) == 0) then (bif (decide ((IntKind.wrap .u8 ((BitVec.ofInt (IntKind.bits .u8) a5 &&& BitVec.ofInt (IntKind.bits .u8) 63).toNat : Int)) < 0)) then none else (some ((IntKind.wrap .u64 ((BitVec.ofInt (IntKind.bits .u64) (Int.fdiv a1 (2 ^ (min (Int.toNat (IntKind.wrap .u8 ((BitVec.ofInt (IntKind.bits .u8) a5 &&& BitVec.ofInt (IntKind.bits .u8) 63).toNat : Int))) (IntKind.bits .u64)))) &&& BitVec.ofInt (IntKind.bits .u64) 1).toNat : Int)) == 1))) else (bif ((Int.fdiv a5 (2 ^ (min (Int.toNat 6) (IntKind.bits .u8)))) == 1) then (bif (decide ((IntKind.wrap .u8 ((BitVec.ofInt (IntKind.bits .u8) a5 &&& BitVec.ofInt (IntKind.bits .u8) 63).toNat : Int)) < 0)) then none else (some ((IntKind.wrap .u64 ((BitVec.ofInt (IntKind.bits .u64) (Int.fdiv a2 (2 ^ (min (Int.toNat (IntKind.wrap .u8 ((BitVec.ofInt (IntKind.bits .u8) a5 &&& BitVec.ofInt (IntKind.bits .u8) 63).toNat : Int))) (IntKind.bits .u64)))) &&& BitVec.ofInt (IntKind.bits .u64) 1).toNat : Int)) == 1))) else (bif ((Int.fdiv a5 (2 ^ (min (Int.toNat 6) (IntKind.bits .u8)))) == 2) then (bif (decide ((IntKind.wrap .u8 ((BitVec.ofInt (IntKind.bits .u8) a5 &&& BitVec.ofInt (IntKind.bits .u8) 63).toNat : Int)) < 0)) then none else (some ((IntKind.wrap .u64 ((BitVec.ofInt (IntKind.bits .u64) (Int.fdiv a3 (2 ^ (min (Int.toNat (IntKind.wrap .u8 ((BitVec.ofInt (IntKind.bits .u8) a5 &&& BitVec.ofInt (IntKind.bits .u8) 63).toNat : Int))) (IntKind.bits .u64)))) &&& BitVec.ofInt (IntKind.bits .u64) 1).toNat : Int)) == 1))) else (bif ((Int.fdiv a5 (2 ^ (min (Int.toNat 6) (IntKind.bits .u8)))) == 3) then (bif (decide ((IntKind.wrap .u8 ((BitVec.ofInt (IntKind.bits .u8) a5 &&& BitVec.ofInt (IntKind.bits .u8) 63).toNat : Int)) < 0)) then none else (some ((IntKind.wrap .u64 ((BitVec.ofInt (IntKind.bits .u64) (Int.fdiv a4 (2 ^ (min (Int.toNat (IntKind.wrap .u8 ((BitVec.ofInt (IntKind.bits .u8) a5 &&& BitVec.ofInt (IntKind.bits .u8) 63).toNat : Int))) (IntKind.bits .u64)))) &&& BitVec.ofInt (IntKind.bits .u64) 1).toNat : Int)) == 1))) else none))))
theorem F35_2_ok (a1 a2 a3 a4 a5 : Int) {r : Bool} (h : F35_2 a1 a2 a3 a4 a5 = some r) : PR1 prg 35 [(.agg [vi .u64 a1, vi .u64 a2, vi .u64 a3, vi .u64 a4]), vi .u8 a5] (F35_2_v a1 a2 a3 a4 a5 r) := by
 unfold F35_2 at h
 have q0 := ((sh_shr (by decide)) : binA .shr (vi .u8 a5) (vi .u64 6) = some (vi .u8 (Int.fdiv a5 (2 ^ (min (Int.toNat 6) (IntKind.bits .u8))))))
 have k1 := ka [(6, .v (vi .u8 (Int.fdiv a5 (2 ^ (min (Int.toNat 6) (IntKind.bits .u8))))))] (apc q0 apn)
 apply bi h <;> intro h1 h
 ·
  have q2 := ((ix_lit h1 (fun z => ixP 4 1 (.ptr 0 0) (vi .u8 z)) rfl) : ixP 4 1 (.ptr 0 0) (vi .u8 (Int.fdiv a5 (2 ^ (min (Int.toNat 6) (IntKind.bits .u8))))) = some (.ptr 0 0))
  apply bi h <;> intro h2 h
  ·
   cases h
  ·
   rw [← sj h]
   exact fq ([(7, .v (.ptr 0 0)), (11, .v (vi .u64 (Int.fdiv a1 (2 ^ (min (Int.toNat (IntKind.wrap .u8 ((BitVec.ofInt (IntKind.bits .u8) a5 &&& BitVec.ofInt (IntKind.bits .u8) 63).toNat : Int))) (IntKind.bits .u64))))))] ++ kH k1) (k1.b (apc q2 (apc ((sh_shr (of_decide_eq_false h2)) : binA .shr (vi .u64 a1) (vi .u8 (IntKind.wrap .u8 ((BitVec.ofInt (IntKind.bits .u8) a5 &&& BitVec.ofInt (IntKind.bits .u8) 63).toNat : Int))) = some (vi .u64 (Int.fdiv a1 (2 ^ (min (Int.toNat (IntKind.wrap .u8 ((BitVec.ofInt (IntKind.bits .u8) a5 &&& BitVec.ofInt (IntKind.bits .u8) 63).toNat : Int))) (IntKind.bits .u64)))))) apn)))
 ·
  apply bi h <;> intro h2 h
  ·
   have q3 := ((ix_lit h2 (fun z => ixP 4 1 (.ptr 0 0) (vi .u8 z)) rfl) : ixP 4 1 (.ptr 0 0) (vi .u8 (Int.fdiv a5 (2 ^ (min (Int.toNat 6) (IntKind.bits .u8))))) = some (.ptr 0 1))
   apply bi h <;> intro h3 h
   ·
    cases h
   ·
    rw [← sj h]
    exact fq ([(7, .v (.ptr 0 1)), (11, .v (vi .u64 (Int.fdiv a2 (2 ^ (min (Int.toNat (IntKind.wrap .u8 ((BitVec.ofInt (IntKind.bits .u8) a5 &&& BitVec.ofInt (IntKind.bits .u8) 63).toNat : Int))) (IntKind.bits .u64))))))] ++ kH k1) (k1.b (apc q3 (apc ((sh_shr (of_decide_eq_false h3)) : binA .shr (vi .u64 a2) (vi .u8 (IntKind.wrap .u8 ((BitVec.ofInt (IntKind.bits .u8) a5 &&& BitVec.ofInt (IntKind.bits .u8) 63).toNat : Int))) = some (vi .u64 (Int.fdiv a2 (2 ^ (min (Int.toNat (IntKind.wrap .u8 ((BitVec.ofInt (IntKind.bits .u8) a5 &&& BitVec.ofInt (IntKind.bits .u8) 63).toNat : Int))) (IntKind.bits .u64)))))) apn)))
  ·
   apply bi h <;> intro h3 h
   ·
    have q4 := ((ix_lit h3 (fun z => ixP 4 1 (.ptr 0 0) (vi .u8 z)) rfl) : ixP 4 1 (.ptr 0 0) (vi .u8 (Int.fdiv a5 (2 ^ (min (Int.toNat 6) (IntKind.bits .u8))))) = some (.ptr 0 2))
    apply bi h <;> intro h4 h
    ·
     cases h
    ·
     rw [← sj h]
     exact fq ([(7, .v (.ptr 0 2)), (11, .v (vi .u64 (Int.fdiv a3 (2 ^ (min (Int.toNat (IntKind.wrap .u8 ((BitVec.ofInt (IntKind.bits .u8) a5 &&& BitVec.ofInt (IntKind.bits .u8) 63).toNat : Int))) (IntKind.bits .u64))))))] ++ kH k1) (k1.b (apc q4 (apc ((sh_shr (of_decide_eq_false h4)) : binA .shr (vi .u64 a3) (vi .u8 (IntKind.wrap .u8 ((BitVec.ofInt (IntKind.bits .u8) a5 &&& BitVec.ofInt (IntKind.bits .u8) 63).toNat : Int))) = some (vi .u64 (Int.fdiv a3 (2 ^ (min (Int.toNat (IntKind.wrap .u8 ((BitVec.ofInt (IntKind.bits .u8) a5 &&& BitVec.ofInt (IntKind.bits .u8) 63).toNat : Int))) (IntKind.bits .u64)))))) apn)))
   ·
    apply bi h <;> intro h4 h
    ·
     have q5 := ((ix_lit h4 (fun z => ixP 4 1 (.ptr 0 0) (vi .u8 z)) rfl) : ixP 4 1 (.ptr 0 0) (vi .u8 (Int.fdiv a5 (2 ^ (min (Int.toNat 6) (IntKind.bits .u8))))) = some (.ptr 0 3))
     apply bi h <;> intro h5 h
     ·
      cases h
     ·
      rw [← sj h]
      exact fq ([(7, .v (.ptr 0 3)), (11, .v (vi .u64 (Int.fdiv a4 (2 ^ (min (Int.toNat (IntKind.wrap .u8 ((BitVec.ofInt (IntKind.bits .u8) a5 &&& BitVec.ofInt (IntKind.bits .u8) 63).toNat : Int))) (IntKind.bits .u64))))))] ++ kH k1) (k1.b (apc q5 (apc ((sh_shr (of_decide_eq_false h5)) : binA .shr (vi .u64 a4) (vi .u8 (IntKind.wrap .u8 ((BitVec.ofInt (IntKind.bits .u8) a5 &&& BitVec.ofInt (IntKind.bits .u8) 63).toNat : Int))) = some (vi .u64 (Int.fdiv a4 (2 ^ (min (Int.toNat (IntKind.wrap .u8 ((BitVec.ofInt (IntKind.bits .u8) a5 &&& BitVec.ofInt (IntKind.bits .u8) 63).toNat : Int))) (IntKind.bits .u64)))))) apn)))
    ·
     cases h
inductive R_F18 where
  | k0 (x0 : Bool) (x1 : Int)
def F18_v (a1 : GramD) (a2 : Int) (a3 : ByteArray) (a4 : Int) (r : R_F18) : AV := match r with | .k0 x0 x1 => (.tup [vb x0, i6 x1])
def F18 (a1 : GramD) (a2 : Int) (a3 : ByteArray) (a4 : Int) : Option R_F18 :=
  ((F33 a1 a2).bind fun x1 => (bif (x1 != 0) then (some (.k0 false x1)) else (bif (decide (a4 < 0)) then (some (.k0 false 4)) else (bif (decide (a4 > (a3.size : Int))) then (some (.k0 false 4)) else (bif (decide (a4 < (a3.size : Int))) then ((F36 a1).bind fun x6 => ((getI a3.data.toList a4).bind fun x7 => ((F35_2 ((mget (⟨0, 0, 0, 0⟩ : SetD) x6 a2).a) ((mget (⟨0, 0, 0, 0⟩ : SetD) x6 a2).b) ((mget (⟨0, 0, 0, 0⟩ : SetD) x6 a2).c) ((mget (⟨0, 0, 0, 0⟩ : SetD) x6 a2).d) (x7.toNat : Int)).bind fun x8 => (some (.k0 x8 0))))) else (some (.k0 false 0)))))))
abbrev F18_d0 (a1 : GramD) (x6 : List (Int × SetD)) : List AB := [bG a1, bG a1, .map 0 (mrow (fun n => vi .i64 n) (fun s => .agg [vi .u64 s.a, vi .u64 s.b, vi .u64 s.c, vi .u64 s.d]) x6)]
theorem F18_ok (a1 : GramD) (a2 : Int) (a3 : ByteArray) (a4 : Int) {r : R_F18} (h : F18 a1 a2 a3 a4 = some r) : PR1 prg 18 [aG a1, i6 a2, vs a3, i6 a4] (F18_v a1 a2 a3 a4 r) := by
 unfold F18 at h
 apply bn h; intro x1 h1 h
 have q0 := (((F33_ok a1 a2 h1).cp rfl _) : CP prg 33 [aG a1, i6 a2] [bG a1] = some (i6 x1))
 apply bi h <;> intro h2 h
 ·
  rw [← sj h]
  exact fq [(13, .v (i6 x1)), (15, .d true)] (apc q0 (av h2 apn))
 ·
  have k1 := ka [(13, .v (i6 x1)), (15, .d false)] (apc q0 (av h2 apn))
  apply bi h <;> intro h3 h
  ·
   rw [← sj h]
   exact fq ([(18, .d true)] ++ kH k1) (k1.b (av h3 apn))
  ·
   apply bi h <;> intro h4 h
   ·
    rw [← sj h]
    exact fq ([(18, .d false), (23, .d true)] ++ kH k1) (k1.b (av h3 (av h4 apn)))
   ·
    have k2 := k1.a [(18, .d false), (23, .d false)] (av h3 (av h4 apn))
    apply bi h <;> intro h5 h
    ·
     apply bn h; intro x6 h6 h
     apply bn h; intro x7 h7 h
     apply bn h; intro x8 h8 h
     rw [← sj h]
     exact fq ([(28, .d true), (31, .r (.mp 2) (F18_d0 a1 x6)), (33, .v (.agg [(vi .u64 (mget (⟨0, 0, 0, 0⟩ : SetD) x6 a2).a), (vi .u64 (mget (⟨0, 0, 0, 0⟩ : SetD) x6 a2).b), (vi .u64 (mget (⟨0, 0, 0, 0⟩ : SetD) x6 a2).c), (vi .u64 (mget (⟨0, 0, 0, 0⟩ : SetD) x6 a2).d)])), (36, .v (vi .u8 (x7.toNat : Int))), (37, .v (vb x8))] ++ kH k2) (k2.b (av h5 (apc ((F36_ok a1 h6) : CS prg 36 [aG a1] [bG a1] = some ((.mp 2), F18_d0 a1 x6)) (apc ((lk_row key_int (ve := (fun s => .agg [vi .u64 s.a, vi .u64 s.b, vi .u64 s.c, vi .u64 s.d])) (es := x6) (k := a2) (z := (⟨0, 0, 0, 0⟩ : SetD)) rfl rfl) : lkA (F18_d0 a1 x6) [1] .false .true [(.val (.int .u64 0)), (.val (.int .u64 0)), (.val (.int .u64 0)), (.val (.int .u64 0))] .false (.mp 2) (i6 a2) = some (.agg [(vi .u64 (mget (⟨0, 0, 0, 0⟩ : SetD) x6 a2).a), (vi .u64 (mget (⟨0, 0, 0, 0⟩ : SetD) x6 a2).b), (vi .u64 (mget (⟨0, 0, 0, 0⟩ : SetD) x6 a2).c), (vi .u64 (mget (⟨0, 0, 0, 0⟩ : SetD) x6 a2).d)])) (apc ((ix_str h7) : ixS (vs a3) (i6 a4) = some (vi .u8 (x7.toNat : Int))) (apc (((F35_2_ok ((mget (⟨0, 0, 0, 0⟩ : SetD) x6 a2).a) ((mget (⟨0, 0, 0, 0⟩ : SetD) x6 a2).b) ((mget (⟨0, 0, 0, 0⟩ : SetD) x6 a2).c) ((mget (⟨0, 0, 0, 0⟩ : SetD) x6 a2).d) (x7.toNat : Int) h8).cp rfl _) : CP prg 35 [(.agg [(vi .u64 (mget (⟨0, 0, 0, 0⟩ : SetD) x6 a2).a), (vi .u64 (mget (⟨0, 0, 0, 0⟩ : SetD) x6 a2).b), (vi .u64 (mget (⟨0, 0, 0, 0⟩ : SetD) x6 a2).c), (vi .u64 (mget (⟨0, 0, 0, 0⟩ : SetD) x6 a2).d)]), (vi .u8 (x7.toNat : Int))] (F18_d0 a1 x6) = some (vb x8)) apn))))))
    ·
     rw [← sj h]
     exact fq ([(28, .d false)] ++ kH k2) (k2.b (av h5 apn))
def F22_v (a1 : GramD) (x0 : Bool) : AV := (vb x0)
def F22 (a1 : GramD) : Option Bool :=
  (bif (decide (a1.start ≥ 0)) then (some (decide (a1.start < (a1.sorts.length : Int)))) else (some false))
theorem F22_ok (a1 : GramD) {r : Bool} (h : F22 a1 = some r) : PR1 prg 22 [aG a1, i6 a1.start] (F22_v a1 r) := by
 unfold F22 at h
 apply bi h <;> intro h1 h
 ·
  rw [← sj h]
  exact fq [(6, .d true), (11, .v (i6 (lS a1)))] (av h1 (apc (lg a1.sorts eStr 1) apn))
 ·
  rw [← sj h]
  exact fq [(6, .d false)] (av h1 apn)
inductive E_L9_5_2 where
  | k0
  | k1
section
variable (a1 : Int) (a2 : GramD)
def L9_5_2 (v1 : Int) : Option (E_L9_5_2 ⊕ (Int)) :=
  (bif (decide (v1 < a1)) then ((getI a2.sorts v1).bind fun x2 => ((getI a2.sorts a1).bind fun x3 => (bif (x2.toList == x3.toList) then (some (.inl (.k0))) else (some (.inr ((IntKind.wrap .i64 (v1 + 1)))))))) else (some (.inl (.k1))))
def L9_5_2_s (v1 : Int) : St := ⟨fr 160 ug [(1, .ptr 0 0), (3, i6 a1), (4, i6 v1)], [bG a2]⟩
theorem L9_5_2_k (v1 : Int) : okT 1 (L9_5_2_s a1 a2 v1).h = true := (okT_of rfl (ac rfl))
abbrev L9_5_2_e (v1 : Int) := evH prg 1 [1, 3, 4] ir9_l5 (L9_5_2_s a1 a2 v1)
def L9_5_2_x (e : E_L9_5_2) (r : Option (Out × St)) : Prop := match e with | .k0 => ∃ g y, r = some (.ret, ⟨fr 160 g [(2, i6 160)], y⟩) | .k1 => ∃ g, r = some ((.brk 2), ⟨fr 160 g [(1, .ptr 0 0), (3, i6 a1)], [bG a2]⟩)
theorem L9_5_2_ok (v1 : Int) {r : E_L9_5_2 ⊕ (Int)} (h : L9_5_2 a1 a2 v1 = some r) : OkR (fun e => L9_5_2_x a1 a2 e (L9_5_2_e a1 a2 v1)) (fun s => L9_5_2_e a1 a2 v1 = L9_5_2_e a1 a2 s) r := by
 unfold L9_5_2 at h
 apply bi h <;> intro h1 h
 ·
  apply bn h; intro x2 h2 h
  have k0 := ka [(57, .d true), (63, .v (.ro [.val (.string x2)]))] (av h1 (apc (ig eStr 1 .i64 h2) apn))
  apply bn h; intro x3 h3 h
  have k1 := k0.a [(68, .v (.ro [.val (.string x3)]))] (apc (ig eStr 1 .i64 h3) apn)
  apply bi h <;> intro h4 h
  ·
   rw [← sj h]
   exact xy ([(70, .d true), (6000, .d true)] ++ kH k1) (k1.b (av h4 apn))
  ·
   rw [← sj h]
   exact rn ([(70, .d false), (6000, .d true)] ++ kH k1) (k1.b (av h4 (apc (L9_5_2_k a1 a2 (w6 (v1 + 1))) apn)))
 ·
  rw [← sj h]
  exact xb [(57, .d false), (6000, .d true)] (av h1 apn)
theorem L9_5_2_run (s0 : Int) (e : E_L9_5_2) (h : runL (fun s => L9_5_2 a1 a2 s) s0 = some e) : L9_5_2_x a1 a2 e (L9_5_2_e a1 a2 s0) := by
  have q := @loop_sound' (Int) E_L9_5_2 (fun s => L9_5_2 a1 a2 s) (fun s => L9_5_2_e a1 a2 s) (L9_5_2_x a1 a2) (fun s r h => L9_5_2_ok a1 a2 s h) s0 e h
  exact q
end
inductive E_L9_6 where
  | k0
  | k1
section
variable (a1 : GramD)
def L9_6 (v1 : Int) : Option (E_L9_6 ⊕ (Int)) :=
  (bif (decide (v1 < (a1.sorts.length : Int))) then ((getI a1.sorts v1).bind fun x2 => (bif (x2.toList == (⟨([] : List UInt8).toArray⟩ : ByteArray).toList) then (some (.inl (.k0))) else (bif (decide ((x2.size : Int) > 1000)) then (some (.inl (.k0))) else ((runL (fun s => L9_5_2 v1 a1 s) 0).bind fun r5 => match r5 with | .k0 => (some (.inl (.k0))) | .k1 => (some (.inr ((IntKind.wrap .i64 (v1 + 1))))))))) else (some (.inl (.k1))))
def L9_6_s (v1 : Int) : St := ⟨fr 160 ug [(1, .ptr 0 0), (3, i6 v1)], [bG a1]⟩
theorem L9_6_k (v1 : Int) : okT 1 (L9_6_s a1 v1).h = true := (okT_of rfl (ac rfl))
abbrev L9_6_e (v1 : Int) := evH prg 1 [1, 3] ir9_l6 (L9_6_s a1 v1)
def L9_6_x (e : E_L9_6) (r : Option (Out × St)) : Prop := match e with | .k0 => ∃ g y, r = some (.ret, ⟨fr 160 g [(2, i6 160)], y⟩) | .k1 => ∃ g, r = some ((.brk 0), ⟨fr 160 g [(1, .ptr 0 0)], [bG a1]⟩)
abbrev L9_6_d0 (g5 : Nat → AV) (v1 : Int) : St := ⟨fr 160 g5 [(1, .ptr 0 0), (3, i6 v1)], [bG a1]⟩
theorem L9_6_ok (v1 : Int) {r : E_L9_6 ⊕ (Int)} (h : L9_6 a1 v1 = some r) : OkR (fun e => L9_6_x a1 e (L9_6_e a1 v1)) (fun s => L9_6_e a1 v1 = L9_6_e a1 s) r := by
 unfold L9_6 at h
 have k0 := ka [(36, .v (i6 (lS a1)))] (apc (lg a1.sorts eStr 1) apn)
 apply bi h <;> intro h1 h
 ·
  apply bn h; intro x2 h2 h
  have k1 := k0.a [(37, .d true), (43, .v (.ro [.val (.string x2)]))] (av h1 (apc (ig eStr 1 .i64 h2) apn))
  apply bi h <;> intro h3 h
  ·
   rw [← sj h]
   exact xy ([(45, .d true), (6000, .d true)] ++ kH k1) (k1.b (av h3 apn))
  ·
   have k2 := k1.a [(45, .d false), (50, .v (.ro [.val (.string x2)]))] (av h3 (apc (ig eStr 1 .i64 h2) apn))
   apply bi h <;> intro h4 h
   ·
    rw [← sj h]
    exact xy ([(53, .d true), (6000, .d true)] ++ kH k2) (k2.b (av h4 apn))
   ·
    apply bn h; intro r5 h5 h
    cases r5 with
    | k0 =>
     obtain ⟨g5, y5, e5⟩ := L9_5_2_run v1 a1 0 _ h5
     rw [← sj h]
     exact xy ([(53, .d false), (2002, .l .ret ⟨fr 160 g5 [(2, i6 160)], y5⟩), (6000, .d true)] ++ kH k2) (k2.b (av h4 (apc (L9_5_2_k v1 a1 0) (apc (e5 : L9_5_2_e v1 a1 0 = some (.ret, ⟨fr 160 g5 [(2, i6 160)], y5⟩)) apn))))
    | k1 =>
     obtain ⟨g5, e5⟩ := L9_5_2_run v1 a1 0 _ h5
     rw [← sj h]
     exact rn ([(53, .d false), (2002, .l (.brk 2) (L9_6_d0 a1 g5 v1)), (6000, .d true)] ++ kH k2) (k2.b (av h4 (apc (L9_5_2_k v1 a1 0) (apc (e5 : L9_5_2_e v1 a1 0 = some ((.brk 2), L9_6_d0 a1 g5 v1)) (apc (L9_6_k a1 (w6 (v1 + 1))) apn)))))
 ·
  rw [← sj h]
  exact xb ([(37, .d false), (6000, .d true)] ++ kH k0) (k0.b (av h1 apn))
theorem L9_6_run (s0 : Int) (e : E_L9_6) (h : runL (fun s => L9_6 a1 s) s0 = some e) : L9_6_x a1 e (L9_6_e a1 s0) := by
  have q := @loop_sound' (Int) E_L9_6 (fun s => L9_6 a1 s) (fun s => L9_6_e a1 s) (L9_6_x a1) (fun s r h => L9_6_ok a1 s h) s0 e h
  exact q
end
def F22_2_v (a1 : GramD) (a2 : ProdD) (x0 : Bool) : AV := (vb x0)
def F22_2 (a1 : GramD) (a2 : ProdD) : Option Bool :=
  (bif (decide (a2.left ≥ 0)) then (some (decide (a2.left < (a1.sorts.length : Int)))) else (some false))
theorem F22_2_ok (a1 : GramD) (a2 : ProdD) {r : Bool} (h : F22_2 a1 a2 = some r) : PR1 prg 22 [aG a1, i6 a2.left] (F22_2_v a1 a2 r) := by
 unfold F22_2 at h
 apply bi h <;> intro h1 h
 ·
  rw [← sj h]
  exact fq [(6, .d true), (11, .v (i6 (lS a1)))] (av h1 (apc (lg a1.sorts eStr 1) apn))
 ·
  rw [← sj h]
  exact fq [(6, .d false)] (av h1 apn)
def F25_v (a1 : SymD) (x0 : Bool) : AV := (vb x0)
def F25 (a1 : SymD) : Option Bool :=
  (some ((IntKind.wrap .u64 ((BitVec.ofInt (IntKind.bits .u64) (IntKind.wrap .u64 ((BitVec.ofInt (IntKind.bits .u64) (IntKind.wrap .u64 ((BitVec.ofInt (IntKind.bits .u64) a1.a ||| BitVec.ofInt (IntKind.bits .u64) a1.b).toNat : Int)) ||| BitVec.ofInt (IntKind.bits .u64) a1.c).toNat : Int)) ||| BitVec.ofInt (IntKind.bits .u64) a1.d).toNat : Int)) == 0))
theorem F25_ok (a1 : SymD) {r : Bool} (h : F25 a1 = some r) : PR1 prg 25 [(.agg ((List.take 4 (List.drop 1 (eSym a1))).map .p))] (F25_v a1 r) := by
 unfold F25 at h
 rw [← sj h]
 exact fq [] apn
def F22_3_v (a1 : GramD) (a2 : SymD) (x0 : Bool) : AV := (vb x0)
def F22_3 (a1 : GramD) (a2 : SymD) : Option Bool :=
  (bif (decide (a2.sort ≥ 0)) then (some (decide (a2.sort < (a1.sorts.length : Int)))) else (some false))
theorem F22_3_ok (a1 : GramD) (a2 : SymD) {r : Bool} (h : F22_3 a1 a2 = some r) : PR1 prg 22 [aG a1, i6 a2.sort] (F22_3_v a1 a2 r) := by
 unfold F22_3 at h
 apply bi h <;> intro h1 h
 ·
  rw [← sj h]
  exact fq [(6, .d true), (11, .v (i6 (lS a1)))] (av h1 (apc (lg a1.sorts eStr 1) apn))
 ·
  rw [← sj h]
  exact fq [(6, .d false)] (av h1 apn)
inductive E_L23_0 where
  | k0
  | k1
section
variable (a1 : GramD) (a2 : ProdD)
def L23_0 (v1 : Int) : Option (E_L23_0 ⊕ (Int)) :=
  (bif (decide (v1 < (a2.right.length : Int))) then ((getI a2.right v1).bind fun x2 => (bif (x2.kind == 0) then ((F25 x2).bind fun x4 => (bif x4 then (some (.inl (.k0))) else (bif (x2.sort != 0) then (some (.inl (.k0))) else (bif (x2.kind == 1) then ((F25 x2).bind fun x8 => (bif x8 then ((F22_3 a1 x2).bind fun x10 => (bif x10 then (bif (a2.role == 11) then (some (.inl (.k0))) else (bif (x2.kind != 0) then (bif (x2.kind != 1) then (some (.inl (.k0))) else (some (.inr ((IntKind.wrap .i64 (v1 + 1)))))) else (some (.inr ((IntKind.wrap .i64 (v1 + 1))))))) else (some (.inl (.k0))))) else (some (.inl (.k0))))) else (bif (x2.kind != 0) then (bif (x2.kind != 1) then (some (.inl (.k0))) else (some (.inr ((IntKind.wrap .i64 (v1 + 1)))))) else (some (.inr ((IntKind.wrap .i64 (v1 + 1)))))))))) else (bif (x2.kind == 1) then ((F25 x2).bind fun x5 => (bif x5 then ((F22_3 a1 x2).bind fun x7 => (bif x7 then (bif (a2.role == 11) then (some (.inl (.k0))) else (bif (x2.kind != 0) then (bif (x2.kind != 1) then (some (.inl (.k0))) else (some (.inr ((IntKind.wrap .i64 (v1 + 1)))))) else (some (.inr ((IntKind.wrap .i64 (v1 + 1))))))) else (some (.inl (.k0))))) else (some (.inl (.k0))))) else (bif (x2.kind != 0) then (bif (x2.kind != 1) then (some (.inl (.k0))) else (some (.inr ((IntKind.wrap .i64 (v1 + 1)))))) else (some (.inr ((IntKind.wrap .i64 (v1 + 1))))))))) else (some (.inl (.k1))))
def L23_0_s (v1 : Int) : St := ⟨fr 111 ug [(2, .ptr 0 0), (3, .ptr 1 0), (5, i6 v1)], [bG a1, bP a2]⟩
theorem L23_0_k (v1 : Int) : okT 2 (L23_0_s a1 a2 v1).h = true := (okT_of rfl (ac (ac rfl)))
abbrev L23_0_e (v1 : Int) := evH prg 2 [2, 3, 5] ir23_l0 (L23_0_s a1 a2 v1)
def L23_0_x (e : E_L23_0) (r : Option (Out × St)) : Prop := match e with | .k0 => ∃ g y, r = some (.ret, ⟨fr 111 g [(4, vb false)], y⟩) | .k1 => ∃ g, r = some ((.brk 0), ⟨fr 111 g [(2, .ptr 0 0), (3, .ptr 1 0)], [bG a1, bP a2]⟩)
abbrev L23_0_d0 (x2 : SymD) : List AB := [bG a1, bP a2, .cells 75 ((eSym x2).map .p)]
theorem L23_0_ok (v1 : Int) {r : E_L23_0 ⊕ (Int)} (h : L23_0 a1 a2 v1 = some r) : OkR (fun e => L23_0_x a1 a2 e (L23_0_e a1 a2 v1)) (fun s => L23_0_e a1 a2 v1 = L23_0_e a1 a2 s) r := by
 unfold L23_0 at h
 have k0 := ka [(60, .v (i6 (a2.right.length : Int)))] (apc (lg a2.right eSym 6) apn)
 apply bi h <;> intro h1 h
 ·
  apply bn h; intro x2 h2 h
  have k1 := k0.a [(61, .d true), (67, .v (.ro (eSym x2)))] (av h1 (apc (ig eSym 6 .i64 h2) apn))
  apply bi h <;> intro h3 h
  ·
   apply bn h; intro x4 h4 h
   apply bi h <;> intro h5 h
   ·
    rw [← sj h]
    exact xy ([(71, .d true), (75, .v (vb true)), (6000, .d true)] ++ kH k1) (k1.b (av h3 (apc ((((F25_ok x2 h4).cp rfl _).trans (congrArg (fun z => some (vb z)) h5)) : CP prg 25 [(.agg ((List.take 4 (List.drop 1 (eSym x2))).map .p))] (L23_0_d0 a1 a2 x2) = some (vb true)) apn)))
   ·
    have q2 := ((((F25_ok x2 h4).cp rfl _).trans (congrArg (fun z => some (vb z)) h5)) : CP prg 25 [(.agg ((List.take 4 (List.drop 1 (eSym x2))).map .p))] (L23_0_d0 a1 a2 x2) = some (vb false))
    have k3 := k1.a [(71, .d true), (75, .v (vb false))] (av h3 (apc q2 apn))
    apply bi h <;> intro h6 h
    ·
     rw [← sj h]
     exact xy ([(79, .d true), (6000, .d true)] ++ kH k3) (k3.b (av h6 apn))
    ·
     apply bi h <;> intro h7 h
     ·
      have k4 := k3.a [(79, .d false), (84, .d true)] (av h6 (av h7 apn))
      apply bn h; intro x8 h8 h
      apply bi h <;> intro h9 h
      ·
       have q5 := ((((F25_ok x2 h8).cp rfl _).trans (congrArg (fun z => some (vb z)) h9)) : CP prg 25 [(.agg ((List.take 4 (List.drop 1 (eSym x2))).map .p))] (L23_0_d0 a1 a2 x2) = some (vb true))
       apply bn h; intro x10 h10 h
       apply bi h <;> intro h11 h
       ·
        have q6 := ((((F22_3_ok a1 x2 h10).cp rfl _).trans (congrArg (fun z => some (vb z)) h11)) : CP prg 22 [aG a1, i6 x2.sort] (L23_0_d0 a1 a2 x2) = some (vb true))
        have k7 := k4.a [(88, .v (vb true)), (94, .v (vb true))] (apc q5 (apc q6 apn))
        apply bi h <;> intro h12 h
        ·
         rw [← sj h]
         exact xy ([(100, .d true), (6000, .d true)] ++ kH k7) (k7.b (av h12 apn))
        ·
         apply bi h <;> intro h13 h
         ·
          have k8 := k7.a [(100, .d false), (105, .d true)] (av h12 (av h13 apn))
          apply bi h <;> intro h14 h
          ·
           rw [← sj h]
           exact xy ([(109, .d true), (6000, .d true)] ++ kH k8) (k8.b (av h14 apn))
          ·
           rw [← sj h]
           exact rn ([(109, .d false), (6000, .d true)] ++ kH k8) (k8.b (av h14 (apc (L23_0_k a1 a2 (w6 (v1 + 1))) apn)))
         ·
          rw [← sj h]
          exact rn ([(100, .d false), (105, .d false), (6000, .d true)] ++ kH k7) (k7.b (av h12 (av h13 (apc (L23_0_k a1 a2 (w6 (v1 + 1))) apn))))
       ·
        rw [← sj h]
        exact xy ([(88, .v (vb true)), (94, .v (vb false)), (6000, .d true)] ++ kH k4) (k4.b (apc q5 (apc ((((F22_3_ok a1 x2 h10).cp rfl _).trans (congrArg (fun z => some (vb z)) h11)) : CP prg 22 [aG a1, i6 x2.sort] (L23_0_d0 a1 a2 x2) = some (vb false)) apn)))
      ·
       rw [← sj h]
       exact xy ([(88, .v (vb false)), (6000, .d true)] ++ kH k4) (k4.b (apc ((((F25_ok x2 h8).cp rfl _).trans (congrArg (fun z => some (vb z)) h9)) : CP prg 25 [(.agg ((List.take 4 (List.drop 1 (eSym x2))).map .p))] (L23_0_d0 a1 a2 x2) = some (vb false)) apn))
     ·
      have k9 := k3.a [(79, .d false), (84, .d false)] (av h6 (av h7 apn))
      apply bi h <;> intro h8 h
      ·
       apply bi h <;> intro h9 h
       ·
        rw [← sj h]
        exact xy ([(105, .d true), (109, .d true), (6000, .d true)] ++ kH k9) (k9.b (av h8 (av h9 apn)))
       ·
        rw [← sj h]
        exact rn ([(105, .d true), (109, .d false), (6000, .d true)] ++ kH k9) (k9.b (av h8 (av h9 (apc (L23_0_k a1 a2 (w6 (v1 + 1))) apn))))
      ·
       rw [← sj h]
       exact rn ([(105, .d false), (6000, .d true)] ++ kH k9) (k9.b (av h8 (apc (L23_0_k a1 a2 (w6 (v1 + 1))) apn)))
  ·
   apply bi h <;> intro h4 h
   ·
    have k10 := k1.a [(71, .d false), (84, .d true)] (av h3 (av h4 apn))
    apply bn h; intro x5 h5 h
    apply bi h <;> intro h6 h
    ·
     have q11 := ((((F25_ok x2 h5).cp rfl _).trans (congrArg (fun z => some (vb z)) h6)) : CP prg 25 [(.agg ((List.take 4 (List.drop 1 (eSym x2))).map .p))] (L23_0_d0 a1 a2 x2) = some (vb true))
     apply bn h; intro x7 h7 h
     apply bi h <;> intro h8 h
     ·
      have q12 := ((((F22_3_ok a1 x2 h7).cp rfl _).trans (congrArg (fun z => some (vb z)) h8)) : CP prg 22 [aG a1, i6 x2.sort] (L23_0_d0 a1 a2 x2) = some (vb true))
      have k13 := k10.a [(88, .v (vb true)), (94, .v (vb true))] (apc q11 (apc q12 apn))
      apply bi h <;> intro h9 h
      ·
       rw [← sj h]
       exact xy ([(100, .d true), (6000, .d true)] ++ kH k13) (k13.b (av h9 apn))
      ·
       apply bi h <;> intro h10 h
       ·
        have k14 := k13.a [(100, .d false), (105, .d true)] (av h9 (av h10 apn))
        apply bi h <;> intro h11 h
        ·
         rw [← sj h]
         exact xy ([(109, .d true), (6000, .d true)] ++ kH k14) (k14.b (av h11 apn))
        ·
         rw [← sj h]
         exact rn ([(109, .d false), (6000, .d true)] ++ kH k14) (k14.b (av h11 (apc (L23_0_k a1 a2 (w6 (v1 + 1))) apn)))
       ·
        rw [← sj h]
        exact rn ([(100, .d false), (105, .d false), (6000, .d true)] ++ kH k13) (k13.b (av h9 (av h10 (apc (L23_0_k a1 a2 (w6 (v1 + 1))) apn))))
     ·
      rw [← sj h]
      exact xy ([(88, .v (vb true)), (94, .v (vb false)), (6000, .d true)] ++ kH k10) (k10.b (apc q11 (apc ((((F22_3_ok a1 x2 h7).cp rfl _).trans (congrArg (fun z => some (vb z)) h8)) : CP prg 22 [aG a1, i6 x2.sort] (L23_0_d0 a1 a2 x2) = some (vb false)) apn)))
    ·
     rw [← sj h]
     exact xy ([(88, .v (vb false)), (6000, .d true)] ++ kH k10) (k10.b (apc ((((F25_ok x2 h5).cp rfl _).trans (congrArg (fun z => some (vb z)) h6)) : CP prg 25 [(.agg ((List.take 4 (List.drop 1 (eSym x2))).map .p))] (L23_0_d0 a1 a2 x2) = some (vb false)) apn))
   ·
    have k15 := k1.a [(71, .d false), (84, .d false)] (av h3 (av h4 apn))
    apply bi h <;> intro h5 h
    ·
     apply bi h <;> intro h6 h
     ·
      rw [← sj h]
      exact xy ([(105, .d true), (109, .d true), (6000, .d true)] ++ kH k15) (k15.b (av h5 (av h6 apn)))
     ·
      rw [← sj h]
      exact rn ([(105, .d true), (109, .d false), (6000, .d true)] ++ kH k15) (k15.b (av h5 (av h6 (apc (L23_0_k a1 a2 (w6 (v1 + 1))) apn))))
    ·
     rw [← sj h]
     exact rn ([(105, .d false), (6000, .d true)] ++ kH k15) (k15.b (av h5 (apc (L23_0_k a1 a2 (w6 (v1 + 1))) apn)))
 ·
  rw [← sj h]
  exact xb ([(61, .d false), (6000, .d true)] ++ kH k0) (k0.b (av h1 apn))
theorem L23_0_run (s0 : Int) (e : E_L23_0) (h : runL (fun s => L23_0 a1 a2 s) s0 = some e) : L23_0_x a1 a2 e (L23_0_e a1 a2 s0) := by
  have q := @loop_sound' (Int) E_L23_0 (fun s => L23_0 a1 a2 s) (fun s => L23_0_e a1 a2 s) (L23_0_x a1 a2) (fun s r h => L23_0_ok a1 a2 s h) s0 e h
  exact q
end
def F23_v (a1 : GramD) (a2 : ProdD) (x0 : Bool) : AV := (vb x0)
def F23 (a1 : GramD) (a2 : ProdD) : Option Bool :=
  ((F22_2 a1 a2).bind fun x1 => (bif x1 then (bif (decide ((a2.right.length : Int) > 30)) then (some false) else (bif (decide (a2.role < 0)) then (some false) else (bif (decide (a2.role > 11)) then (some false) else (bif (decide (a2.frm < (-1))) then (some false) else (bif (decide ((a2.cons.size : Int) > 64)) then (some false) else (bif (!(a2.cons.toList == (⟨([] : List UInt8).toArray⟩ : ByteArray).toList)) then (bif (a2.role != 0) then (some false) else (bif a2.prefer then (bif a2.avoid then (some false) else ((runL (fun s => L23_0 a1 a2 s) 0).bind fun r12 => match r12 with | .k0 => (some false) | .k1 => (some true))) else ((runL (fun s => L23_0 a1 a2 s) 0).bind fun r11 => match r11 with | .k0 => (some false) | .k1 => (some true)))) else (bif a2.prefer then (bif a2.avoid then (some false) else ((runL (fun s => L23_0 a1 a2 s) 0).bind fun r11 => match r11 with | .k0 => (some false) | .k1 => (some true))) else ((runL (fun s => L23_0 a1 a2 s) 0).bind fun r10 => match r10 with | .k0 => (some false) | .k1 => (some true))))))))) else (some false)))
abbrev F23_d0 (g12 : Nat → AV) (a1 : GramD) (a2 : ProdD) : St := ⟨fr 111 g12 [(2, .ptr 0 0), (3, .ptr 1 0)], [bG a1, bP a2]⟩
abbrev F23_d1 (g11 : Nat → AV) (a1 : GramD) (a2 : ProdD) : St := ⟨fr 111 g11 [(2, .ptr 0 0), (3, .ptr 1 0)], [bG a1, bP a2]⟩
abbrev F23_d2 (g10 : Nat → AV) (a1 : GramD) (a2 : ProdD) : St := ⟨fr 111 g10 [(2, .ptr 0 0), (3, .ptr 1 0)], [bG a1, bP a2]⟩
theorem F23_ok (a1 : GramD) (a2 : ProdD) {r : Bool} (h : F23 a1 a2 = some r) : PR1 prg 23 [aG a1, aP a2] (F23_v a1 a2 r) := by
 unfold F23 at h
 apply bn h; intro x1 h1 h
 apply bi h <;> intro h2 h
 ·
  have q0 := ((((F22_2_ok a1 a2 h1).cp rfl _).trans (congrArg (fun z => some (vb z)) h2)) : CP prg 22 [aG a1, i6 a2.left] [bG a1, bP a2] = some (vb true))
  have k1 := ka [(10, .v (vb true)), (15, .v (i6 (a2.right.length : Int)))] (apc q0 (apc (lg a2.right eSym 6) apn))
  apply bi h <;> intro h3 h
  ·
   rw [← sj h]
   exact fq ([(16, .d true)] ++ kH k1) (k1.b (av h3 apn))
  ·
   apply bi h <;> intro h4 h
   ·
    rw [← sj h]
    exact fq ([(16, .d false), (21, .d true)] ++ kH k1) (k1.b (av h3 (av h4 apn)))
   ·
    have k2 := k1.a [(16, .d false), (21, .d false)] (av h3 (av h4 apn))
    apply bi h <;> intro h5 h
    ·
     rw [← sj h]
     exact fq ([(26, .d true)] ++ kH k2) (k2.b (av h5 apn))
    ·
     apply bi h <;> intro h6 h
     ·
      rw [← sj h]
      exact fq ([(26, .d false), (31, .d true)] ++ kH k2) (k2.b (av h5 (av h6 apn)))
     ·
      have k3 := k2.a [(26, .d false), (31, .d false)] (av h5 (av h6 apn))
      apply bi h <;> intro h7 h
      ·
       rw [← sj h]
       exact fq ([(37, .d true)] ++ kH k3) (k3.b (av h7 apn))
      ·
       apply bi h <;> intro h8 h
       ·
        have k4 := k3.a [(37, .d false), (42, .d true)] (av h7 (av h8 apn))
        apply bi h <;> intro h9 h
        ·
         rw [← sj h]
         exact fq ([(46, .d true)] ++ kH k4) (k4.b (av h9 apn))
        ·
         apply bi h <;> intro h10 h
         ·
          have k5 := k4.a [(46, .d false), (51, .d true)] (av h9 (av h10 apn))
          apply bi h <;> intro h11 h
          ·
           rw [← sj h]
           exact fq ([(54, .d true)] ++ kH k5) (k5.b (av h11 apn))
          ·
           apply bn h; intro r12 h12 h
           cases r12 with
           | k0 =>
            obtain ⟨g12, y12, e12⟩ := L23_0_run a1 a2 0 _ h12
            rw [← sj h]
            exact fq ([(54, .d false), (2000, .l .ret ⟨fr 111 g12 [(4, vb false)], y12⟩), (6000, .d true)] ++ kH k5) (k5.b (av h11 (apc (L23_0_k a1 a2 0) (apc (e12 : L23_0_e a1 a2 0 = some (.ret, ⟨fr 111 g12 [(4, vb false)], y12⟩)) apn))))
           | k1 =>
            obtain ⟨g12, e12⟩ := L23_0_run a1 a2 0 _ h12
            rw [← sj h]
            exact fq ([(54, .d false), (2000, .l (.brk 0) (F23_d0 g12 a1 a2)), (6000, .d true)] ++ kH k5) (k5.b (av h11 (apc (L23_0_k a1 a2 0) (apc (e12 : L23_0_e a1 a2 0 = some ((.brk 0), F23_d0 g12 a1 a2)) apn))))
         ·
          have k6 := k4.a [(46, .d false), (51, .d false)] (av h9 (av h10 apn))
          apply bn h; intro r11 h11 h
          cases r11 with
          | k0 =>
           obtain ⟨g11, y11, e11⟩ := L23_0_run a1 a2 0 _ h11
           rw [← sj h]
           exact fq ([(2000, .l .ret ⟨fr 111 g11 [(4, vb false)], y11⟩), (6000, .d true)] ++ kH k6) (k6.b (apc (L23_0_k a1 a2 0) (apc (e11 : L23_0_e a1 a2 0 = some (.ret, ⟨fr 111 g11 [(4, vb false)], y11⟩)) apn)))
          | k1 =>
           obtain ⟨g11, e11⟩ := L23_0_run a1 a2 0 _ h11
           rw [← sj h]
           exact fq ([(2000, .l (.brk 0) (F23_d1 g11 a1 a2)), (6000, .d true)] ++ kH k6) (k6.b (apc (L23_0_k a1 a2 0) (apc (e11 : L23_0_e a1 a2 0 = some ((.brk 0), F23_d1 g11 a1 a2)) apn)))
       ·
        have k7 := k3.a [(37, .d false), (42, .d false)] (av h7 (av h8 apn))
        apply bi h <;> intro h9 h
        ·
         apply bi h <;> intro h10 h
         ·
          rw [← sj h]
          exact fq ([(51, .d true), (54, .d true)] ++ kH k7) (k7.b (av h9 (av h10 apn)))
         ·
          have k8 := k7.a [(51, .d true), (54, .d false)] (av h9 (av h10 apn))
          apply bn h; intro r11 h11 h
          cases r11 with
          | k0 =>
           obtain ⟨g11, y11, e11⟩ := L23_0_run a1 a2 0 _ h11
           rw [← sj h]
           exact fq ([(2000, .l .ret ⟨fr 111 g11 [(4, vb false)], y11⟩), (6000, .d true)] ++ kH k8) (k8.b (apc (L23_0_k a1 a2 0) (apc (e11 : L23_0_e a1 a2 0 = some (.ret, ⟨fr 111 g11 [(4, vb false)], y11⟩)) apn)))
          | k1 =>
           obtain ⟨g11, e11⟩ := L23_0_run a1 a2 0 _ h11
           rw [← sj h]
           exact fq ([(2000, .l (.brk 0) (F23_d1 g11 a1 a2)), (6000, .d true)] ++ kH k8) (k8.b (apc (L23_0_k a1 a2 0) (apc (e11 : L23_0_e a1 a2 0 = some ((.brk 0), F23_d1 g11 a1 a2)) apn)))
        ·
         apply bn h; intro r10 h10 h
         cases r10 with
         | k0 =>
          obtain ⟨g10, y10, e10⟩ := L23_0_run a1 a2 0 _ h10
          rw [← sj h]
          exact fq ([(51, .d false), (2000, .l .ret ⟨fr 111 g10 [(4, vb false)], y10⟩), (6000, .d true)] ++ kH k7) (k7.b (av h9 (apc (L23_0_k a1 a2 0) (apc (e10 : L23_0_e a1 a2 0 = some (.ret, ⟨fr 111 g10 [(4, vb false)], y10⟩)) apn))))
         | k1 =>
          obtain ⟨g10, e10⟩ := L23_0_run a1 a2 0 _ h10
          rw [← sj h]
          exact fq ([(51, .d false), (2000, .l (.brk 0) (F23_d2 g10 a1 a2)), (6000, .d true)] ++ kH k7) (k7.b (av h9 (apc (L23_0_k a1 a2 0) (apc (e10 : L23_0_e a1 a2 0 = some ((.brk 0), F23_d2 g10 a1 a2)) apn))))
 ·
  rw [← sj h]
  exact fq [(10, .v (vb false))] (apc ((((F22_2_ok a1 a2 h1).cp rfl _).trans (congrArg (fun z => some (vb z)) h2)) : CP prg 22 [aG a1, i6 a2.left] [bG a1, bP a2] = some (vb false)) apn)
inductive E_L9_4 where
  | k0
  | k1
section
variable (a1 : GramD)
def L9_4 (v1 : Int) : Option (E_L9_4 ⊕ (Int)) :=
  (bif (decide (v1 < (a1.prods.length : Int))) then ((getI a1.prods v1).bind fun x2 => ((F23 a1 x2).bind fun x3 => (bif x3 then (some (.inr ((IntKind.wrap .i64 (v1 + 1))))) else (some (.inl (.k0)))))) else (some (.inl (.k1))))
def L9_4_s (v1 : Int) : St := ⟨fr 160 ug [(1, .ptr 0 0), (5, i6 v1)], [bG a1]⟩
theorem L9_4_k (v1 : Int) : okT 1 (L9_4_s a1 v1).h = true := (okT_of rfl (ac rfl))
abbrev L9_4_e (v1 : Int) := evH prg 1 [1, 5] ir9_l4 (L9_4_s a1 v1)
def L9_4_x (e : E_L9_4) (r : Option (Out × St)) : Prop := match e with | .k0 => ∃ g y, r = some (.ret, ⟨fr 160 g [(2, i6 160)], y⟩) | .k1 => ∃ g, r = some ((.brk 4), ⟨fr 160 g [(1, .ptr 0 0)], [bG a1]⟩)
theorem L9_4_ok (v1 : Int) {r : E_L9_4 ⊕ (Int)} (h : L9_4 a1 v1 = some r) : OkR (fun e => L9_4_x a1 e (L9_4_e a1 v1)) (fun s => L9_4_e a1 v1 = L9_4_e a1 s) r := by
 unfold L9_4 at h
 have k0 := ka [(74, .v (i6 (lP a1)))] (apc (lg a1.prods eProd 7) apn)
 apply bi h <;> intro h1 h
 ·
  apply bn h; intro x2 h2 h
  have k1 := k0.a [(75, .d true), (82, .v (.ro (eProd x2)))] (av h1 (apc (ig eProd 7 .i64 h2) apn))
  apply bn h; intro x3 h3 h
  apply bi h <;> intro h4 h
  ·
   rw [← sj h]
   exact rn ([(84, .v (vb true)), (6000, .d true)] ++ kH k1) (k1.b (apc ((((F23_ok a1 x2 h3).cp rfl _).trans (congrArg (fun z => some (vb z)) h4)) : CP prg 23 [aG a1, aP x2] [bG a1] = some (vb true)) (apc (L9_4_k a1 (w6 (v1 + 1))) apn)))
  ·
   rw [← sj h]
   exact xy ([(84, .v (vb false)), (6000, .d true)] ++ kH k1) (k1.b (apc ((((F23_ok a1 x2 h3).cp rfl _).trans (congrArg (fun z => some (vb z)) h4)) : CP prg 23 [aG a1, aP x2] [bG a1] = some (vb false)) apn))
 ·
  rw [← sj h]
  exact xb ([(75, .d false), (6000, .d true)] ++ kH k0) (k0.b (av h1 apn))
theorem L9_4_run (s0 : Int) (e : E_L9_4) (h : runL (fun s => L9_4 a1 s) s0 = some e) : L9_4_x a1 e (L9_4_e a1 s0) := by
  have q := @loop_sound' (Int) E_L9_4 (fun s => L9_4 a1 s) (fun s => L9_4_e a1 s) (L9_4_x a1) (fun s r h => L9_4_ok a1 s h) s0 e h
  exact q
end
def F24_v (a1 : GramD) (a2 : ForbD) (x0 : Bool) : AV := (vb x0)
def F24 (a1 : GramD) (a2 : ForbD) : Option Bool :=
  (bif (decide (a2.parent < 0)) then (some false) else (bif (decide (a2.parent ≥ (a1.prods.length : Int))) then (some false) else (bif (decide (a2.child < 0)) then (some false) else (bif (decide (a2.child ≥ (a1.prods.length : Int))) then (some false) else ((getI a1.prods a2.parent).bind fun x5 => (bif (x5.role == 11) then (some false) else ((getI a1.prods a2.child).bind fun x7 => (bif (x7.role == 11) then (some false) else (bif (decide (a2.at_ < 1)) then (some false) else (bif (decide (a2.at_ > (x5.right.length : Int))) then (some false) else ((getI x5.right (IntKind.wrap .i64 (a2.at_ - 1))).bind fun x11 => (bif (x11.kind == 1) then (some (x11.sort == x7.left)) else (some false)))))))))))))
theorem F24_ok (a1 : GramD) (a2 : ForbD) {r : Bool} (h : F24 a1 a2 = some r) : PR1 prg 24 [aG a1, (.agg ((eForb a2).map .p))] (F24_v a1 a2 r) := by
 unfold F24 at h
 apply bi h <;> intro h1 h
 ·
  rw [← sj h]
  exact fq [(8, .d true)] (av h1 apn)
 ·
  have k0 := ka [(8, .d false), (14, .v (i6 (lP a1)))] (av h1 (apc (lg a1.prods eProd 7) apn))
  apply bi h <;> intro h2 h
  ·
   rw [← sj h]
   exact fq ([(15, .d true)] ++ kH k0) (k0.b (av h2 apn))
  ·
   apply bi h <;> intro h3 h
   ·
    rw [← sj h]
    exact fq ([(15, .d false), (20, .d true)] ++ kH k0) (k0.b (av h2 (av h3 apn)))
   ·
    have k1 := k0.a [(15, .d false), (20, .d false), (27, .v (i6 (lP a1)))] (av h2 (av h3 (apc (lg a1.prods eProd 7) apn)))
    apply bi h <;> intro h4 h
    ·
     rw [← sj h]
     exact fq ([(28, .d true)] ++ kH k1) (k1.b (av h4 apn))
    ·
     apply bn h; intro x5 h5 h
     have k2 := k1.a [(28, .d false), (35, .v (.ro (eProd x5)))] (av h4 (apc (ig eProd 7 .i64 h5) apn))
     apply bi h <;> intro h6 h
     ·
      rw [← sj h]
      exact fq ([(38, .d true)] ++ kH k2) (k2.b (av h6 apn))
     ·
      apply bn h; intro x7 h7 h
      have k3 := k2.a [(38, .d false), (45, .v (.ro (eProd x7)))] (av h6 (apc (ig eProd 7 .i64 h7) apn))
      apply bi h <;> intro h8 h
      ·
       rw [← sj h]
       exact fq ([(48, .d true)] ++ kH k3) (k3.b (av h8 apn))
      ·
       apply bi h <;> intro h9 h
       ·
        rw [← sj h]
        exact fq ([(48, .d false), (52, .d true)] ++ kH k3) (k3.b (av h8 (av h9 apn)))
       ·
        have k4 := k3.a [(48, .d false), (52, .d false), (60, .v (.ro (eProd x5))), (63, .v (i6 (x5.right.length : Int)))] (av h8 (av h9 (apc (ig eProd 7 .i64 h5) (apc (lg x5.right eSym 6) apn))))
        apply bi h <;> intro h10 h
        ·
         rw [← sj h]
         exact fq ([(64, .d true)] ++ kH k4) (k4.b (av h10 apn))
        ·
         have k5 := k4.a [(64, .d false), (70, .v (.ro (eProd x5)))] (av h10 (apc (ig eProd 7 .i64 h5) apn))
         apply bn h; intro x11 h11 h
         apply bi h <;> intro h12 h
         ·
          rw [← sj h]
          exact fq ([(76, .v (.ro (eSym x11))), (80, .d true), (88, .v (.ro (eProd x7)))] ++ kH k5) (k5.b (apc (ig eSym 6 .i64 h11) (av h12 (apc (ig eProd 7 .i64 h7) apn))))
         ·
          rw [← sj h]
          exact fq ([(76, .v (.ro (eSym x11))), (80, .d false)] ++ kH k5) (k5.b (apc (ig eSym 6 .i64 h11) (av h12 apn)))
inductive E_L9_2_2 where
  | k0
  | k1
section
variable (a1 : Int) (a2 : GramD)
def L9_2_2 (v1 : Int) : Option (E_L9_2_2 ⊕ (Int)) :=
  (bif (decide (v1 < a1)) then ((getI a2.forbid v1).bind fun x2 => ((getI a2.forbid a1).bind fun x3 => (bif ((x2.parent == x3.parent) && ((x2.at_ == x3.at_) && ((x2.child == x3.child) && true))) then (some (.inl (.k0))) else (some (.inr ((IntKind.wrap .i64 (v1 + 1)))))))) else (some (.inl (.k1))))
def L9_2_2_s (v1 : Int) : St := ⟨fr 160 ug [(1, .ptr 0 0), (6, i6 a1), (7, i6 v1)], [bG a2]⟩
theorem L9_2_2_k (v1 : Int) : okT 1 (L9_2_2_s a1 a2 v1).h = true := (okT_of rfl (ac rfl))
abbrev L9_2_2_e (v1 : Int) := evH prg 1 [1, 6, 7] ir9_l2 (L9_2_2_s a1 a2 v1)
def L9_2_2_x (e : E_L9_2_2) (r : Option (Out × St)) : Prop := match e with | .k0 => ∃ g y, r = some (.ret, ⟨fr 160 g [(2, i6 160)], y⟩) | .k1 => ∃ g, r = some ((.brk 8), ⟨fr 160 g [(1, .ptr 0 0), (6, i6 a1)], [bG a2]⟩)
theorem L9_2_2_ok (v1 : Int) {r : E_L9_2_2 ⊕ (Int)} (h : L9_2_2 a1 a2 v1 = some r) : OkR (fun e => L9_2_2_x a1 a2 e (L9_2_2_e a1 a2 v1)) (fun s => L9_2_2_e a1 a2 v1 = L9_2_2_e a1 a2 s) r := by
 unfold L9_2_2 at h
 apply bi h <;> intro h1 h
 ·
  apply bn h; intro x2 h2 h
  have k0 := ka [(103, .d true), (109, .v (.ro (eForb x2)))] (av h1 (apc (ig eForb 3 .i64 h2) apn))
  apply bn h; intro x3 h3 h
  apply bi h <;> intro h4 h
  ·
   rw [← sj h]
   exact xy ([(114, .v (.ro (eForb x3))), (116, .d true), (6000, .d true)] ++ kH k0) (k0.b (apc (ig eForb 3 .i64 h3) (av h4 apn)))
  ·
   rw [← sj h]
   exact rn ([(114, .v (.ro (eForb x3))), (116, .d false), (6000, .d true)] ++ kH k0) (k0.b (apc (ig eForb 3 .i64 h3) (av h4 (apc (L9_2_2_k a1 a2 (w6 (v1 + 1))) apn))))
 ·
  rw [← sj h]
  exact xb [(103, .d false), (6000, .d true)] (av h1 apn)
theorem L9_2_2_run (s0 : Int) (e : E_L9_2_2) (h : runL (fun s => L9_2_2 a1 a2 s) s0 = some e) : L9_2_2_x a1 a2 e (L9_2_2_e a1 a2 s0) := by
  have q := @loop_sound' (Int) E_L9_2_2 (fun s => L9_2_2 a1 a2 s) (fun s => L9_2_2_e a1 a2 s) (L9_2_2_x a1 a2) (fun s r h => L9_2_2_ok a1 a2 s h) s0 e h
  exact q
end
inductive E_L9_3 where
  | k0
  | k1
section
variable (a1 : GramD)
def L9_3 (v1 : Int) : Option (E_L9_3 ⊕ (Int)) :=
  (bif (decide (v1 < (a1.forbid.length : Int))) then ((getI a1.forbid v1).bind fun x2 => ((F24 a1 x2).bind fun x3 => (bif x3 then ((runL (fun s => L9_2_2 v1 a1 s) 0).bind fun r5 => match r5 with | .k0 => (some (.inl (.k0))) | .k1 => (some (.inr ((IntKind.wrap .i64 (v1 + 1)))))) else (some (.inl (.k0)))))) else (some (.inl (.k1))))
def L9_3_s (v1 : Int) : St := ⟨fr 160 ug [(1, .ptr 0 0), (6, i6 v1)], [bG a1]⟩
theorem L9_3_k (v1 : Int) : okT 1 (L9_3_s a1 v1).h = true := (okT_of rfl (ac rfl))
abbrev L9_3_e (v1 : Int) := evH prg 1 [1, 6] ir9_l3 (L9_3_s a1 v1)
def L9_3_x (e : E_L9_3) (r : Option (Out × St)) : Prop := match e with | .k0 => ∃ g y, r = some (.ret, ⟨fr 160 g [(2, i6 160)], y⟩) | .k1 => ∃ g, r = some ((.brk 6), ⟨fr 160 g [(1, .ptr 0 0)], [bG a1]⟩)
abbrev L9_3_d0 (g5 : Nat → AV) (v1 : Int) : St := ⟨fr 160 g5 [(1, .ptr 0 0), (6, i6 v1)], [bG a1]⟩
theorem L9_3_ok (v1 : Int) {r : E_L9_3 ⊕ (Int)} (h : L9_3 a1 v1 = some r) : OkR (fun e => L9_3_x a1 e (L9_3_e a1 v1)) (fun s => L9_3_e a1 v1 = L9_3_e a1 s) r := by
 unfold L9_3 at h
 have k0 := ka [(89, .v (i6 (lF a1)))] (apc (lg a1.forbid eForb 3) apn)
 apply bi h <;> intro h1 h
 ·
  apply bn h; intro x2 h2 h
  have k1 := k0.a [(90, .d true), (97, .v (.ro (eForb x2)))] (av h1 (apc (ig eForb 3 .i64 h2) apn))
  apply bn h; intro x3 h3 h
  apply bi h <;> intro h4 h
  ·
   have q2 := ((((F24_ok a1 x2 h3).cp rfl _).trans (congrArg (fun z => some (vb z)) h4)) : CP prg 24 [aG a1, (.agg ((eForb x2).map .p))] [bG a1] = some (vb true))
   apply bn h; intro r5 h5 h
   cases r5 with
   | k0 =>
    obtain ⟨g5, y5, e5⟩ := L9_2_2_run v1 a1 0 _ h5
    rw [← sj h]
    exact xy ([(99, .v (vb true)), (2008, .l .ret ⟨fr 160 g5 [(2, i6 160)], y5⟩), (6000, .d true)] ++ kH k1) (k1.b (apc q2 (apc (L9_2_2_k v1 a1 0) (apc (e5 : L9_2_2_e v1 a1 0 = some (.ret, ⟨fr 160 g5 [(2, i6 160)], y5⟩)) apn))))
   | k1 =>
    obtain ⟨g5, e5⟩ := L9_2_2_run v1 a1 0 _ h5
    rw [← sj h]
    exact rn ([(99, .v (vb true)), (2008, .l (.brk 8) (L9_3_d0 a1 g5 v1)), (6000, .d true)] ++ kH k1) (k1.b (apc q2 (apc (L9_2_2_k v1 a1 0) (apc (e5 : L9_2_2_e v1 a1 0 = some ((.brk 8), L9_3_d0 a1 g5 v1)) (apc (L9_3_k a1 (w6 (v1 + 1))) apn)))))
  ·
   rw [← sj h]
   exact xy ([(99, .v (vb false)), (6000, .d true)] ++ kH k1) (k1.b (apc ((((F24_ok a1 x2 h3).cp rfl _).trans (congrArg (fun z => some (vb z)) h4)) : CP prg 24 [aG a1, (.agg ((eForb x2).map .p))] [bG a1] = some (vb false)) apn))
 ·
  rw [← sj h]
  exact xb ([(90, .d false), (6000, .d true)] ++ kH k0) (k0.b (av h1 apn))
theorem L9_3_run (s0 : Int) (e : E_L9_3) (h : runL (fun s => L9_3 a1 s) s0 = some e) : L9_3_x a1 e (L9_3_e a1 s0) := by
  have q := @loop_sound' (Int) E_L9_3 (fun s => L9_3 a1 s) (fun s => L9_3_e a1 s) (L9_3_x a1) (fun s r h => L9_3_ok a1 s h) s0 e h
  exact q
end
def F22_4_v (a1 : GramD) (a2 : FollD) (x0 : Bool) : AV := (vb x0)
def F22_4 (a1 : GramD) (a2 : FollD) : Option Bool :=
  (bif (decide (a2.sort ≥ 0)) then (some (decide (a2.sort < (a1.sorts.length : Int)))) else (some false))
theorem F22_4_ok (a1 : GramD) (a2 : FollD) {r : Bool} (h : F22_4 a1 a2 = some r) : PR1 prg 22 [aG a1, i6 a2.sort] (F22_4_v a1 a2 r) := by
 unfold F22_4 at h
 apply bi h <;> intro h1 h
 ·
  rw [← sj h]
  exact fq [(6, .d true), (11, .v (i6 (lS a1)))] (av h1 (apc (lg a1.sorts eStr 1) apn))
 ·
  rw [← sj h]
  exact fq [(6, .d false)] (av h1 apn)
def F25_2_v (a1 : FollD) (x0 : Bool) : AV := (vb x0)
def F25_2 (a1 : FollD) : Option Bool :=
  (some ((IntKind.wrap .u64 ((BitVec.ofInt (IntKind.bits .u64) (IntKind.wrap .u64 ((BitVec.ofInt (IntKind.bits .u64) (IntKind.wrap .u64 ((BitVec.ofInt (IntKind.bits .u64) a1.a ||| BitVec.ofInt (IntKind.bits .u64) a1.b).toNat : Int)) ||| BitVec.ofInt (IntKind.bits .u64) a1.c).toNat : Int)) ||| BitVec.ofInt (IntKind.bits .u64) a1.d).toNat : Int)) == 0))
theorem F25_2_ok (a1 : FollD) {r : Bool} (h : F25_2 a1 = some r) : PR1 prg 25 [(.agg ((List.drop 1 (eFoll a1)).map .p))] (F25_2_v a1 r) := by
 unfold F25_2 at h
 rw [← sj h]
 exact fq [] apn
inductive E_L9_0_2 where
  | k0
  | k1
section
variable (a1 : Int) (a2 : GramD)
def L9_0_2 (v1 : Int) : Option (E_L9_0_2 ⊕ (Int)) :=
  (bif (decide (v1 < a1)) then ((getI a2.follow v1).bind fun x2 => ((getI a2.follow a1).bind fun x3 => (bif (x2.sort == x3.sort) then (some (.inl (.k0))) else (some (.inr ((IntKind.wrap .i64 (v1 + 1)))))))) else (some (.inl (.k1))))
def L9_0_2_s (v1 : Int) : St := ⟨fr 160 ug [(1, .ptr 0 0), (8, i6 a1), (9, i6 v1)], [bG a2]⟩
theorem L9_0_2_k (v1 : Int) : okT 1 (L9_0_2_s a1 a2 v1).h = true := (okT_of rfl (ac rfl))
abbrev L9_0_2_e (v1 : Int) := evH prg 1 [1, 8, 9] ir9_l0 (L9_0_2_s a1 a2 v1)
def L9_0_2_x (e : E_L9_0_2) (r : Option (Out × St)) : Prop := match e with | .k0 => ∃ g y, r = some (.ret, ⟨fr 160 g [(2, i6 160)], y⟩) | .k1 => ∃ g, r = some ((.brk 12), ⟨fr 160 g [(1, .ptr 0 0), (8, i6 a1)], [bG a2]⟩)
theorem L9_0_2_ok (v1 : Int) {r : E_L9_0_2 ⊕ (Int)} (h : L9_0_2 a1 a2 v1 = some r) : OkR (fun e => L9_0_2_x a1 a2 e (L9_0_2_e a1 a2 v1)) (fun s => L9_0_2_e a1 a2 v1 = L9_0_2_e a1 a2 s) r := by
 unfold L9_0_2 at h
 apply bi h <;> intro h1 h
 ·
  apply bn h; intro x2 h2 h
  have k0 := ka [(144, .d true), (150, .v (.ro (eFoll x2)))] (av h1 (apc (ig eFoll 5 .i64 h2) apn))
  apply bn h; intro x3 h3 h
  apply bi h <;> intro h4 h
  ·
   rw [← sj h]
   exact xy ([(156, .v (.ro (eFoll x3))), (159, .d true), (6000, .d true)] ++ kH k0) (k0.b (apc (ig eFoll 5 .i64 h3) (av h4 apn)))
  ·
   rw [← sj h]
   exact rn ([(156, .v (.ro (eFoll x3))), (159, .d false), (6000, .d true)] ++ kH k0) (k0.b (apc (ig eFoll 5 .i64 h3) (av h4 (apc (L9_0_2_k a1 a2 (w6 (v1 + 1))) apn))))
 ·
  rw [← sj h]
  exact xb [(144, .d false), (6000, .d true)] (av h1 apn)
theorem L9_0_2_run (s0 : Int) (e : E_L9_0_2) (h : runL (fun s => L9_0_2 a1 a2 s) s0 = some e) : L9_0_2_x a1 a2 e (L9_0_2_e a1 a2 s0) := by
  have q := @loop_sound' (Int) E_L9_0_2 (fun s => L9_0_2 a1 a2 s) (fun s => L9_0_2_e a1 a2 s) (L9_0_2_x a1 a2) (fun s r h => L9_0_2_ok a1 a2 s h) s0 e h
  exact q
end
inductive E_L9_1 where
  | k0
  | k1
section
variable (a1 : GramD)
def L9_1 (v1 : Int) : Option (E_L9_1 ⊕ (Int)) :=
  (bif (decide (v1 < (a1.follow.length : Int))) then ((getI a1.follow v1).bind fun x2 => ((F22_4 a1 x2).bind fun x3 => (bif x3 then ((F25_2 x2).bind fun x5 => (bif x5 then (some (.inl (.k0))) else ((runL (fun s => L9_0_2 v1 a1 s) 0).bind fun r7 => match r7 with | .k0 => (some (.inl (.k0))) | .k1 => (some (.inr ((IntKind.wrap .i64 (v1 + 1)))))))) else (some (.inl (.k0)))))) else (some (.inl (.k1))))
def L9_1_s (v1 : Int) : St := ⟨fr 160 ug [(1, .ptr 0 0), (8, i6 v1)], [bG a1]⟩
theorem L9_1_k (v1 : Int) : okT 1 (L9_1_s a1 v1).h = true := (okT_of rfl (ac rfl))
abbrev L9_1_e (v1 : Int) := evH prg 1 [1, 8] ir9_l1 (L9_1_s a1 v1)
def L9_1_x (e : E_L9_1) (r : Option (Out × St)) : Prop := match e with | .k0 => ∃ g y, r = some (.ret, ⟨fr 160 g [(2, i6 160)], y⟩) | .k1 => ∃ g, r = some ((.brk 10), ⟨fr 160 g [(1, .ptr 0 0)], [bG a1]⟩)
abbrev L9_1_d0 (g7 : Nat → AV) (v1 : Int) : St := ⟨fr 160 g7 [(1, .ptr 0 0), (8, i6 v1)], [bG a1]⟩
theorem L9_1_ok (v1 : Int) {r : E_L9_1 ⊕ (Int)} (h : L9_1 a1 v1 = some r) : OkR (fun e => L9_1_x a1 e (L9_1_e a1 v1)) (fun s => L9_1_e a1 v1 = L9_1_e a1 s) r := by
 unfold L9_1 at h
 have k0 := ka [(120, .v (i6 (lW a1)))] (apc (lg a1.follow eFoll 5) apn)
 apply bi h <;> intro h1 h
 ·
  apply bn h; intro x2 h2 h
  have k1 := k0.a [(121, .d true), (128, .v (.ro (eFoll x2)))] (av h1 (apc (ig eFoll 5 .i64 h2) apn))
  apply bn h; intro x3 h3 h
  apply bi h <;> intro h4 h
  ·
   have q2 := ((((F22_4_ok a1 x2 h3).cp rfl _).trans (congrArg (fun z => some (vb z)) h4)) : CP prg 22 [aG a1, i6 x2.sort] [bG a1] = some (vb true))
   have k3 := k1.a [(131, .v (vb true)), (137, .v (.ro (eFoll x2)))] (apc q2 (apc (ig eFoll 5 .i64 h2) apn))
   apply bn h; intro x5 h5 h
   apply bi h <;> intro h6 h
   ·
    rw [← sj h]
    exact xy ([(140, .v (vb true)), (6000, .d true)] ++ kH k3) (k3.b (apc ((((F25_2_ok x2 h5).cp rfl _).trans (congrArg (fun z => some (vb z)) h6)) : CP prg 25 [(.agg ((List.drop 1 (eFoll x2)).map .p))] [bG a1] = some (vb true)) apn))
   ·
    have q4 := ((((F25_2_ok x2 h5).cp rfl _).trans (congrArg (fun z => some (vb z)) h6)) : CP prg 25 [(.agg ((List.drop 1 (eFoll x2)).map .p))] [bG a1] = some (vb false))
    apply bn h; intro r7 h7 h
    cases r7 with
    | k0 =>
     obtain ⟨g7, y7, e7⟩ := L9_0_2_run v1 a1 0 _ h7
     rw [← sj h]
     exact xy ([(140, .v (vb false)), (2012, .l .ret ⟨fr 160 g7 [(2, i6 160)], y7⟩), (6000, .d true)] ++ kH k3) (k3.b (apc q4 (apc (L9_0_2_k v1 a1 0) (apc (e7 : L9_0_2_e v1 a1 0 = some (.ret, ⟨fr 160 g7 [(2, i6 160)], y7⟩)) apn))))
    | k1 =>
     obtain ⟨g7, e7⟩ := L9_0_2_run v1 a1 0 _ h7
     rw [← sj h]
     exact rn ([(140, .v (vb false)), (2012, .l (.brk 12) (L9_1_d0 a1 g7 v1)), (6000, .d true)] ++ kH k3) (k3.b (apc q4 (apc (L9_0_2_k v1 a1 0) (apc (e7 : L9_0_2_e v1 a1 0 = some ((.brk 12), L9_1_d0 a1 g7 v1)) (apc (L9_1_k a1 (w6 (v1 + 1))) apn)))))
  ·
   rw [← sj h]
   exact xy ([(131, .v (vb false)), (6000, .d true)] ++ kH k1) (k1.b (apc ((((F22_4_ok a1 x2 h3).cp rfl _).trans (congrArg (fun z => some (vb z)) h4)) : CP prg 22 [aG a1, i6 x2.sort] [bG a1] = some (vb false)) apn))
 ·
  rw [← sj h]
  exact xb ([(121, .d false), (6000, .d true)] ++ kH k0) (k0.b (av h1 apn))
theorem L9_1_run (s0 : Int) (e : E_L9_1) (h : runL (fun s => L9_1 a1 s) s0 = some e) : L9_1_x a1 e (L9_1_e a1 s0) := by
  have q := @loop_sound' (Int) E_L9_1 (fun s => L9_1 a1 s) (fun s => L9_1_e a1 s) (L9_1_x a1) (fun s r h => L9_1_ok a1 s h) s0 e h
  exact q
end
def F9_v (a1 : GramD) (x0 : Int) : AV := (i6 x0)
def F9 (a1 : GramD) : Option Int :=
  (bif (decide ((a1.sorts.length : Int) < 1)) then (some 160) else (bif (decide ((a1.sorts.length : Int) > 1000)) then (some 160) else (bif (decide ((a1.prods.length : Int) > 1000)) then (some 160) else ((F22 a1).bind fun x4 => (bif x4 then ((runL (fun s => L9_6 a1 s) 0).bind fun r6 => match r6 with | .k0 => (some 160) | .k1 => ((runL (fun s => L9_4 a1 s) 0).bind fun r7 => match r7 with | .k0 => (some 160) | .k1 => ((runL (fun s => L9_3 a1 s) 0).bind fun r8 => match r8 with | .k0 => (some 160) | .k1 => ((runL (fun s => L9_1 a1 s) 0).bind fun r9 => match r9 with | .k0 => (some 160) | .k1 => (some 0))))) else (some 160))))))
theorem F9_ok (a1 : GramD) {r : Int} (h : F9 a1 = some r) : PR1 prg 9 [aG a1] (F9_v a1 r) := by
 unfold F9 at h
 have k0 := ka [(12, .v (i6 (lS a1)))] (apc (lg a1.sorts eStr 1) apn)
 apply bi h <;> intro h1 h
 ·
  rw [← sj h]
  exact fq ([(13, .d true)] ++ kH k0) (k0.b (av h1 apn))
 ·
  have k1 := k0.a [(13, .d false), (17, .v (i6 (lS a1)))] (av h1 (apc (lg a1.sorts eStr 1) apn))
  apply bi h <;> intro h2 h
  ·
   rw [← sj h]
   exact fq ([(18, .d true)] ++ kH k1) (k1.b (av h2 apn))
  ·
   have k2 := k1.a [(18, .d false), (23, .v (i6 (lP a1)))] (av h2 (apc (lg a1.prods eProd 7) apn))
   apply bi h <;> intro h3 h
   ·
    rw [← sj h]
    exact fq ([(24, .d true)] ++ kH k2) (k2.b (av h3 apn))
   ·
    apply bn h; intro x4 h4 h
    apply bi h <;> intro h5 h
    ·
     have q3 := ((((F22_ok a1 h4).cp rfl _).trans (congrArg (fun z => some (vb z)) h5)) : CP prg 22 [aG a1, i6 a1.start] [bG a1] = some (vb true))
     have k4 := k2.a [(24, .d false), (30, .v (vb true))] (av h3 (apc q3 apn))
     apply bn h; intro r6 h6 h
     cases r6 with
     | k0 =>
      obtain ⟨g6, y6, e6⟩ := L9_6_run a1 0 _ h6
      rw [← sj h]
      exact fq ([(2000, .l .ret ⟨fr 160 g6 [(2, i6 160)], y6⟩), (6000, .d true)] ++ kH k4) (k4.b (apc (L9_6_k a1 0) (apc (e6 : L9_6_e a1 0 = some (.ret, ⟨fr 160 g6 [(2, i6 160)], y6⟩)) apn)))
     | k1 =>
      obtain ⟨g6, e6⟩ := L9_6_run a1 0 _ h6
      have q5 := (e6 : L9_6_e a1 0 = some ((.brk 0), ⟨fr 160 g6 [(1, .ptr 0 0)], [bG a1]⟩))
      have k6 := k4.a [(2000, .l (.brk 0) ⟨fr 160 g6 [(1, .ptr 0 0)], [bG a1]⟩)] (apc (L9_6_k a1 0) (apc q5 apn))
      apply bn h; intro r7 h7 h
      cases r7 with
      | k0 =>
       obtain ⟨g7, y7, e7⟩ := L9_4_run a1 0 _ h7
       rw [← sj h]
       exact fq ([(2004, .l .ret ⟨fr 160 g7 [(2, i6 160)], y7⟩), (6000, .d true)] ++ kH k6) (k6.b (apc (L9_4_k a1 0) (apc (e7 : L9_4_e a1 0 = some (.ret, ⟨fr 160 g7 [(2, i6 160)], y7⟩)) apn)))
      | k1 =>
       obtain ⟨g7, e7⟩ := L9_4_run a1 0 _ h7
       have q7 := (e7 : L9_4_e a1 0 = some ((.brk 4), ⟨fr 160 g7 [(1, .ptr 0 0)], [bG a1]⟩))
       have k8 := k6.a [(2004, .l (.brk 4) ⟨fr 160 g7 [(1, .ptr 0 0)], [bG a1]⟩)] (apc (L9_4_k a1 0) (apc q7 apn))
       apply bn h; intro r8 h8 h
       cases r8 with
       | k0 =>
        obtain ⟨g8, y8, e8⟩ := L9_3_run a1 0 _ h8
        rw [← sj h]
        exact fq ([(2006, .l .ret ⟨fr 160 g8 [(2, i6 160)], y8⟩), (6000, .d true)] ++ kH k8) (k8.b (apc (L9_3_k a1 0) (apc (e8 : L9_3_e a1 0 = some (.ret, ⟨fr 160 g8 [(2, i6 160)], y8⟩)) apn)))
       | k1 =>
        obtain ⟨g8, e8⟩ := L9_3_run a1 0 _ h8
        have q9 := (e8 : L9_3_e a1 0 = some ((.brk 6), ⟨fr 160 g8 [(1, .ptr 0 0)], [bG a1]⟩))
        have k10 := k8.a [(2006, .l (.brk 6) ⟨fr 160 g8 [(1, .ptr 0 0)], [bG a1]⟩)] (apc (L9_3_k a1 0) (apc q9 apn))
        apply bn h; intro r9 h9 h
        cases r9 with
        | k0 =>
         obtain ⟨g9, y9, e9⟩ := L9_1_run a1 0 _ h9
         rw [← sj h]
         exact fq ([(2010, .l .ret ⟨fr 160 g9 [(2, i6 160)], y9⟩), (6000, .d true)] ++ kH k10) (k10.b (apc (L9_1_k a1 0) (apc (e9 : L9_1_e a1 0 = some (.ret, ⟨fr 160 g9 [(2, i6 160)], y9⟩)) apn)))
        | k1 =>
         obtain ⟨g9, e9⟩ := L9_1_run a1 0 _ h9
         rw [← sj h]
         exact fq ([(2010, .l (.brk 10) ⟨fr 160 g9 [(1, .ptr 0 0)], [bG a1]⟩), (6000, .d true)] ++ kH k10) (k10.b (apc (L9_1_k a1 0) (apc (e9 : L9_1_e a1 0 = some ((.brk 10), ⟨fr 160 g9 [(1, .ptr 0 0)], [bG a1]⟩)) apn)))
    ·
     rw [← sj h]
     exact fq ([(24, .d false), (30, .v (vb false))] ++ kH k2) (k2.b (av h3 (apc ((((F22_ok a1 h4).cp rfl _).trans (congrArg (fun z => some (vb z)) h5)) : CP prg 22 [aG a1, i6 a1.start] [bG a1] = some (vb false)) apn)))
def F37_v (a1 : SymD) (a2 : Int) (x0 : Bool) : AV := (vb x0)
def F37 (a1 : SymD) (a2 : Int) : Option Bool :=
  (bif ((IntKind.wrap .u8 (Int.tdiv a2 64)) == 0) then (bif (decide ((Int.tmod a2 64) < 0)) then none else (some ((Int.tmod (Int.fdiv a1.a (2 ^ (min (Int.toNat (Int.tmod a2 64)) (IntKind.bits .u64)))) 2) == 1))) else (bif ((IntKind.wrap .u8 (Int.tdiv a2 64)) == 1) then (bif (decide ((Int.tmod a2 64) < 0)) then none else (some ((Int.tmod (Int.fdiv a1.b (2 ^ (min (Int.toNat (Int.tmod a2 64)) (IntKind.bits .u64)))) 2) == 1))) else (bif ((IntKind.wrap .u8 (Int.tdiv a2 64)) == 2) then (bif (decide ((Int.tmod a2 64) < 0)) then none else (some ((Int.tmod (Int.fdiv a1.c (2 ^ (min (Int.toNat (Int.tmod a2 64)) (IntKind.bits .u64)))) 2) == 1))) else (bif ((IntKind.wrap .u8 (Int.tdiv a2 64)) == 3) then (bif (decide ((Int.tmod a2 64) < 0)) then none else (some ((Int.tmod (Int.fdiv a1.d (2 ^ (min (Int.toNat (Int.tmod a2 64)) (IntKind.bits .u64)))) 2) == 1))) else none))))
theorem F37_ok (a1 : SymD) (a2 : Int) {r : Bool} (h : F37 a1 a2 = some r) : PR1 prg 37 [(.agg ((List.take 4 (List.drop 1 (eSym a1))).map .p)), vi .u8 a2] (F37_v a1 a2 r) := by
 unfold F37 at h
 apply bi h <;> intro h1 h
 ·
  have q0 := ((ix_lit h1 (fun z => ixP 4 1 (.ptr 0 0) (vi .u8 z)) rfl) : ixP 4 1 (.ptr 0 0) (vi .u8 (IntKind.wrap .u8 (Int.tdiv a2 64))) = some (.ptr 0 0))
  apply bi h <;> intro h2 h
  ·
   cases h
  ·
   rw [← sj h]
   exact fq [(7, .v (.ptr 0 0)), (11, .v (vi .u64 (Int.fdiv a1.a (2 ^ (min (Int.toNat (Int.tmod a2 64)) (IntKind.bits .u64))))))] (apc q0 (apc ((sh_shr (of_decide_eq_false h2)) : binA .shr (vi .u64 a1.a) (vi .u8 (Int.tmod a2 64)) = some (vi .u64 (Int.fdiv a1.a (2 ^ (min (Int.toNat (Int.tmod a2 64)) (IntKind.bits .u64)))))) apn))
 ·
  apply bi h <;> intro h2 h
  ·
   have q1 := ((ix_lit h2 (fun z => ixP 4 1 (.ptr 0 0) (vi .u8 z)) rfl) : ixP 4 1 (.ptr 0 0) (vi .u8 (IntKind.wrap .u8 (Int.tdiv a2 64))) = some (.ptr 0 1))
   apply bi h <;> intro h3 h
   ·
    cases h
   ·
    rw [← sj h]
    exact fq [(7, .v (.ptr 0 1)), (11, .v (vi .u64 (Int.fdiv a1.b (2 ^ (min (Int.toNat (Int.tmod a2 64)) (IntKind.bits .u64))))))] (apc q1 (apc ((sh_shr (of_decide_eq_false h3)) : binA .shr (vi .u64 a1.b) (vi .u8 (Int.tmod a2 64)) = some (vi .u64 (Int.fdiv a1.b (2 ^ (min (Int.toNat (Int.tmod a2 64)) (IntKind.bits .u64)))))) apn))
  ·
   apply bi h <;> intro h3 h
   ·
    have q2 := ((ix_lit h3 (fun z => ixP 4 1 (.ptr 0 0) (vi .u8 z)) rfl) : ixP 4 1 (.ptr 0 0) (vi .u8 (IntKind.wrap .u8 (Int.tdiv a2 64))) = some (.ptr 0 2))
    apply bi h <;> intro h4 h
    ·
     cases h
    ·
     rw [← sj h]
     exact fq [(7, .v (.ptr 0 2)), (11, .v (vi .u64 (Int.fdiv a1.c (2 ^ (min (Int.toNat (Int.tmod a2 64)) (IntKind.bits .u64))))))] (apc q2 (apc ((sh_shr (of_decide_eq_false h4)) : binA .shr (vi .u64 a1.c) (vi .u8 (Int.tmod a2 64)) = some (vi .u64 (Int.fdiv a1.c (2 ^ (min (Int.toNat (Int.tmod a2 64)) (IntKind.bits .u64)))))) apn))
   ·
    apply bi h <;> intro h4 h
    ·
     have q3 := ((ix_lit h4 (fun z => ixP 4 1 (.ptr 0 0) (vi .u8 z)) rfl) : ixP 4 1 (.ptr 0 0) (vi .u8 (IntKind.wrap .u8 (Int.tdiv a2 64))) = some (.ptr 0 3))
     apply bi h <;> intro h5 h
     ·
      cases h
     ·
      rw [← sj h]
      exact fq [(7, .v (.ptr 0 3)), (11, .v (vi .u64 (Int.fdiv a1.d (2 ^ (min (Int.toNat (Int.tmod a2 64)) (IntKind.bits .u64))))))] (apc q3 (apc ((sh_shr (of_decide_eq_false h5)) : binA .shr (vi .u64 a1.d) (vi .u8 (Int.tmod a2 64)) = some (vi .u64 (Int.fdiv a1.d (2 ^ (min (Int.toNat (Int.tmod a2 64)) (IntKind.bits .u64)))))) apn))
    ·
     cases h
inductive E_L19_0_2 where
  | k0 (x0 : Bool)
section
variable (a1 : Int) (a2 : ByteArray) (a3 : Int) (a4 : ProdD) (a5 : GramD)
def L19_0_2 (v1 : Bool) (v2 : Int) : Option (E_L19_0_2 ⊕ (Bool × Int)) :=
  (bif (decide (v2 < (a2.size : Int))) then (bif v1 then ((getI a4.right v2).bind fun x3 => ((getI a2.data.toList v2).bind fun x4 => ((F37 x3 (x4.toNat : Int)).bind fun x5 => (bif x5 then (some (.inr (true, (IntKind.wrap .i64 (v2 + 1))))) else (some (.inr (false, (IntKind.wrap .i64 (v2 + 1))))))))) else (some (.inr (false, (IntKind.wrap .i64 (v2 + 1)))))) else (some (.inl (.k0 v1))))
def L19_0_2_s (v1 : Bool) (v2 : Int) : St := ⟨fr 67 ug [(1, i6 a1), (2, vs a2), (3, .ptr 0 0), (7, i6 a3), (8, ls 6 eSym a4.right), (9, vb v1), (10, i6 v2)], [bG a5]⟩
theorem L19_0_2_k (v1 : Bool) (v2 : Int) : okT 1 (L19_0_2_s a1 a2 a3 a4 a5 v1 v2).h = true := (okT_of rfl (ac rfl))
abbrev L19_0_2_e (v1 : Bool) (v2 : Int) := evH prg 1 [1, 2, 3, 7, 8, 9, 10] ir19_l0 (L19_0_2_s a1 a2 a3 a4 a5 v1 v2)
def L19_0_2_x (e : E_L19_0_2) (r : Option (Out × St)) : Prop := match e with | .k0 x0 => ∃ g, r = some ((.brk 2), ⟨fr 67 g [(1, i6 a1), (2, vs a2), (3, .ptr 0 0), (7, i6 a3), (8, ls 6 eSym a4.right), (9, vb x0)], [bG a5]⟩)
theorem L19_0_2_ok (v1 : Bool) (v2 : Int) {r : E_L19_0_2 ⊕ (Bool × Int)} (h : L19_0_2 a2 a4 v1 v2 = some r) : OkR (fun e => L19_0_2_x a1 a2 a3 a4 a5 e (L19_0_2_e a1 a2 a3 a4 a5 v1 v2)) (fun s => L19_0_2_e a1 a2 a3 a4 a5 v1 v2 = L19_0_2_e a1 a2 a3 a4 a5 s.1 s.2) r := by
 unfold L19_0_2 at h
 have q0 := (L19_0_2_k a1 a2 a3 a4 a5 false (w6 (v2 + 1)))
 apply bi h <;> intro h1 h
 ·
  apply bi h <;> intro h2 h
  ·
   have k1 := ka [(51, .d true), (54, .d true)] (av h1 (av h2 apn))
   apply bn h; intro x3 h3 h
   apply bn h; intro x4 h4 h
   have q2 := ((ix_str h4) : ixS (vs a2) (i6 v2) = some (vi .u8 (x4.toNat : Int)))
   have k3 := k1.a [(58, .v (.ro (eSym x3))), (63, .v (vi .u8 (x4.toNat : Int)))] (apc (ig eSym 6 .i64 h3) (apc q2 apn))
   apply bn h; intro x5 h5 h
   apply bi h <;> intro h6 h
   ·
    rw [← sj h]
    exact rn ([(64, .v (vb true)), (6000, .d true)] ++ kH k3) (k3.b (apc ((((F37_ok x3 (x4.toNat : Int) h5).cp rfl _).trans (congrArg (fun z => some (vb z)) h6)) : CP prg 37 [(.agg ((List.take 4 (List.drop 1 (eSym x3))).map .p)), (vi .u8 (x4.toNat : Int))] [bG a5] = some (vb true)) (apc (L19_0_2_k a1 a2 a3 a4 a5 true (w6 (v2 + 1))) apn)))
   ·
    rw [← sj h]
    exact rn ([(64, .v (vb false)), (6000, .d true)] ++ kH k3) (k3.b (apc ((((F37_ok x3 (x4.toNat : Int) h5).cp rfl _).trans (congrArg (fun z => some (vb z)) h6)) : CP prg 37 [(.agg ((List.take 4 (List.drop 1 (eSym x3))).map .p)), (vi .u8 (x4.toNat : Int))] [bG a5] = some (vb false)) (apc q0 apn)))
  ·
   rw [← sj h]
   exact rn [(51, .d true), (54, .d false), (6000, .d true)] (av h1 (av h2 (apc q0 apn)))
 ·
  rw [← sj h]
  exact xb [(51, .d false), (6000, .d true)] (av h1 apn)
theorem L19_0_2_run (s0 : Bool × Int) (e : E_L19_0_2) (h : runL (fun s => L19_0_2 a2 a4 s.1 s.2) s0 = some e) : L19_0_2_x a1 a2 a3 a4 a5 e (L19_0_2_e a1 a2 a3 a4 a5 s0.1 s0.2) := by
  have q := @loop_sound' (Bool × Int) E_L19_0_2 (fun s => L19_0_2 a2 a4 s.1 s.2) (fun s => L19_0_2_e a1 a2 a3 a4 a5 s.1 s.2) (L19_0_2_x a1 a2 a3 a4 a5) (fun s r h => L19_0_2_ok a1 a2 a3 a4 a5 s.1 s.2 h) s0 e h
  exact q
end
inductive E_L19_1 where
  | k0
  | k1
section
variable (a1 : Int) (a2 : ByteArray) (a3 : GramD)
def L19_1 (v1 : Int) : Option (E_L19_1 ⊕ (Int)) :=
  (bif (decide (v1 < (a3.prods.length : Int))) then ((getI a3.prods v1).bind fun x2 => (bif (x2.role != 11) then (some (.inr ((IntKind.wrap .i64 (v1 + 1))))) else (bif (x2.left != a1) then (some (.inr ((IntKind.wrap .i64 (v1 + 1))))) else (bif ((x2.right.length : Int) != (a2.size : Int)) then (some (.inr ((IntKind.wrap .i64 (v1 + 1))))) else ((runL (fun s => L19_0_2 a2 x2 s.1 s.2) (true, 0)).bind fun r6 => match r6 with | .k0 x6_0 => (bif x6_0 then (some (.inl (.k0))) else (some (.inr ((IntKind.wrap .i64 (v1 + 1))))))))))) else (some (.inl (.k1))))
def L19_1_s (v1 : Int) : St := ⟨fr 67 ug [(1, i6 a1), (2, vs a2), (3, .ptr 0 0), (7, i6 v1)], [bG a3]⟩
theorem L19_1_k (v1 : Int) : okT 1 (L19_1_s a1 a2 a3 v1).h = true := (okT_of rfl (ac rfl))
abbrev L19_1_e (v1 : Int) := evH prg 1 [1, 2, 3, 7] ir19_l1 (L19_1_s a1 a2 a3 v1)
def L19_1_x (e : E_L19_1) (r : Option (Out × St)) : Prop := match e with | .k0 => ∃ g y, r = some (.ret, ⟨fr 67 g [(6, vb true)], y⟩) | .k1 => ∃ g, r = some ((.brk 0), ⟨fr 67 g [], [bG a3]⟩)
abbrev L19_1_d0 (g6 : Nat → AV) (v1 : Int) (x2 : ProdD) (x6_0 : Bool) : St := ⟨fr 67 g6 [(1, i6 a1), (2, vs a2), (3, .ptr 0 0), (7, i6 v1), (8, ls 6 eSym x2.right), (9, vb x6_0)], [bG a3]⟩
theorem L19_1_ok (v1 : Int) {r : E_L19_1 ⊕ (Int)} (h : L19_1 a1 a2 a3 v1 = some r) : OkR (fun e => L19_1_x a3 e (L19_1_e a1 a2 a3 v1)) (fun s => L19_1_e a1 a2 a3 v1 = L19_1_e a1 a2 a3 s) r := by
 unfold L19_1 at h
 have k0 := ka [(14, .v (i6 (lP a3)))] (apc (lg a3.prods eProd 7) apn)
 apply bi h <;> intro h1 h
 ·
  apply bn h; intro x2 h2 h
  have k1 := k0.a [(15, .d true), (21, .v (.ro (eProd x2))), (27, .v (.ro (eProd x2)))] (av h1 (apc (ig eProd 7 .i64 h2) (apc (ig eProd 7 .i64 h2) apn)))
  apply bi h <;> intro h3 h
  ·
   rw [← sj h]
   exact rn ([(30, .d true), (6000, .d true)] ++ kH k1) (k1.b (av h3 (apc (L19_1_k a1 a2 a3 (w6 (v1 + 1))) apn)))
  ·
   have k2 := k1.a [(30, .d false), (35, .v (.ro (eProd x2)))] (av h3 (apc (ig eProd 7 .i64 h2) apn))
   apply bi h <;> intro h4 h
   ·
    rw [← sj h]
    exact rn ([(39, .d true), (6000, .d true)] ++ kH k2) (k2.b (av h4 (apc (L19_1_k a1 a2 a3 (w6 (v1 + 1))) apn)))
   ·
    have k3 := k2.a [(39, .d false), (43, .v (i6 (x2.right.length : Int)))] (av h4 (apc (lg x2.right eSym 6) apn))
    apply bi h <;> intro h5 h
    ·
     rw [← sj h]
     exact rn ([(46, .d true), (6000, .d true)] ++ kH k3) (k3.b (av h5 (apc (L19_1_k a1 a2 a3 (w6 (v1 + 1))) apn)))
    ·
     apply bn h; intro r6 h6 h
     cases r6 with
     | k0 x6_0 =>
      obtain ⟨g6, e6⟩ := L19_0_2_run a1 a2 v1 x2 a3 (true, 0) _ h6
      have q4 := (e6 : L19_0_2_e a1 a2 v1 x2 a3 true 0 = some ((.brk 2), L19_1_d0 a1 a2 a3 g6 v1 x2 x6_0))
      have k5 := k3.a [(46, .d false), (2002, .l (.brk 2) (L19_1_d0 a1 a2 a3 g6 v1 x2 x6_0))] (av h5 (apc (L19_0_2_k a1 a2 v1 x2 a3 true 0) (apc q4 apn)))
      apply bi h <;> intro h7 h
      ·
       rw [← sj h]
       exact xy ([(66, .d true), (6000, .d true)] ++ kH k5) (k5.b (av h7 apn))
      ·
       rw [← sj h]
       exact rn ([(66, .d false), (6000, .d true)] ++ kH k5) (k5.b (av h7 (apc (L19_1_k a1 a2 a3 (w6 (v1 + 1))) apn)))
 ·
  rw [← sj h]
  exact xb ([(15, .d false), (6000, .d true)] ++ kH k0) (k0.b (av h1 apn))
theorem L19_1_run (s0 : Int) (e : E_L19_1) (h : runL (fun s => L19_1 a1 a2 a3 s) s0 = some e) : L19_1_x a3 e (L19_1_e a1 a2 a3 s0) := by
  have q := @loop_sound' (Int) E_L19_1 (fun s => L19_1 a1 a2 a3 s) (fun s => L19_1_e a1 a2 a3 s) (L19_1_x a3) (fun s r h => L19_1_ok a1 a2 a3 s h) s0 e h
  exact q
end
def F19_v (a1 : GramD) (a2 : Int) (a3 : ByteArray) (x0 : Bool) : AV := (vb x0)
def F19 (a1 : GramD) (a2 : Int) (a3 : ByteArray) : Option Bool :=
  ((runL (fun s => L19_1 a2 a3 a1 s) 0).bind fun r1 => match r1 with | .k0 => (some true) | .k1 => (some false))
theorem F19_ok (a1 : GramD) (a2 : Int) (a3 : ByteArray) {r : Bool} (h : F19 a1 a2 a3 = some r) : PR1 prg 19 [aG a1, i6 a2, vs a3] (F19_v a1 a2 a3 r) := by
 unfold F19 at h
 apply bn h; intro r1 h1 h
 cases r1 with
 | k0 =>
  obtain ⟨g1, y1, e1⟩ := L19_1_run a2 a3 a1 0 _ h1
  rw [← sj h]
  exact fq [(2000, .l .ret ⟨fr 67 g1 [(6, vb true)], y1⟩), (6000, .d true)] (apc (L19_1_k a2 a3 a1 0) (apc (e1 : L19_1_e a2 a3 a1 0 = some (.ret, ⟨fr 67 g1 [(6, vb true)], y1⟩)) apn))
 | k1 =>
  obtain ⟨g1, e1⟩ := L19_1_run a2 a3 a1 0 _ h1
  rw [← sj h]
  exact fq [(2000, .l (.brk 0) ⟨fr 67 g1 [], [bG a1]⟩), (6000, .d true)] (apc (L19_1_k a2 a3 a1 0) (apc (e1 : L19_1_e a2 a3 a1 0 = some ((.brk 0), ⟨fr 67 g1 [], [bG a1]⟩)) apn))
def F37_2_v (a1 : FollD) (a2 : Int) (x0 : Bool) : AV := (vb x0)
def F37_2 (a1 : FollD) (a2 : Int) : Option Bool :=
  (bif ((IntKind.wrap .u8 (Int.tdiv a2 64)) == 0) then (bif (decide ((Int.tmod a2 64) < 0)) then none else (some ((Int.tmod (Int.fdiv a1.a (2 ^ (min (Int.toNat (Int.tmod a2 64)) (IntKind.bits .u64)))) 2) == 1))) else (bif ((IntKind.wrap .u8 (Int.tdiv a2 64)) == 1) then (bif (decide ((Int.tmod a2 64) < 0)) then none else (some ((Int.tmod (Int.fdiv a1.b (2 ^ (min (Int.toNat (Int.tmod a2 64)) (IntKind.bits .u64)))) 2) == 1))) else (bif ((IntKind.wrap .u8 (Int.tdiv a2 64)) == 2) then (bif (decide ((Int.tmod a2 64) < 0)) then none else (some ((Int.tmod (Int.fdiv a1.c (2 ^ (min (Int.toNat (Int.tmod a2 64)) (IntKind.bits .u64)))) 2) == 1))) else (bif ((IntKind.wrap .u8 (Int.tdiv a2 64)) == 3) then (bif (decide ((Int.tmod a2 64) < 0)) then none else (some ((Int.tmod (Int.fdiv a1.d (2 ^ (min (Int.toNat (Int.tmod a2 64)) (IntKind.bits .u64)))) 2) == 1))) else none))))
theorem F37_2_ok (a1 : FollD) (a2 : Int) {r : Bool} (h : F37_2 a1 a2 = some r) : PR1 prg 37 [(.agg ((List.drop 1 (eFoll a1)).map .p)), vi .u8 a2] (F37_2_v a1 a2 r) := by
 unfold F37_2 at h
 apply bi h <;> intro h1 h
 ·
  have q0 := ((ix_lit h1 (fun z => ixP 4 1 (.ptr 0 0) (vi .u8 z)) rfl) : ixP 4 1 (.ptr 0 0) (vi .u8 (IntKind.wrap .u8 (Int.tdiv a2 64))) = some (.ptr 0 0))
  apply bi h <;> intro h2 h
  ·
   cases h
  ·
   rw [← sj h]
   exact fq [(7, .v (.ptr 0 0)), (11, .v (vi .u64 (Int.fdiv a1.a (2 ^ (min (Int.toNat (Int.tmod a2 64)) (IntKind.bits .u64))))))] (apc q0 (apc ((sh_shr (of_decide_eq_false h2)) : binA .shr (vi .u64 a1.a) (vi .u8 (Int.tmod a2 64)) = some (vi .u64 (Int.fdiv a1.a (2 ^ (min (Int.toNat (Int.tmod a2 64)) (IntKind.bits .u64)))))) apn))
 ·
  apply bi h <;> intro h2 h
  ·
   have q1 := ((ix_lit h2 (fun z => ixP 4 1 (.ptr 0 0) (vi .u8 z)) rfl) : ixP 4 1 (.ptr 0 0) (vi .u8 (IntKind.wrap .u8 (Int.tdiv a2 64))) = some (.ptr 0 1))
   apply bi h <;> intro h3 h
   ·
    cases h
   ·
    rw [← sj h]
    exact fq [(7, .v (.ptr 0 1)), (11, .v (vi .u64 (Int.fdiv a1.b (2 ^ (min (Int.toNat (Int.tmod a2 64)) (IntKind.bits .u64))))))] (apc q1 (apc ((sh_shr (of_decide_eq_false h3)) : binA .shr (vi .u64 a1.b) (vi .u8 (Int.tmod a2 64)) = some (vi .u64 (Int.fdiv a1.b (2 ^ (min (Int.toNat (Int.tmod a2 64)) (IntKind.bits .u64)))))) apn))
  ·
   apply bi h <;> intro h3 h
   ·
    have q2 := ((ix_lit h3 (fun z => ixP 4 1 (.ptr 0 0) (vi .u8 z)) rfl) : ixP 4 1 (.ptr 0 0) (vi .u8 (IntKind.wrap .u8 (Int.tdiv a2 64))) = some (.ptr 0 2))
    apply bi h <;> intro h4 h
    ·
     cases h
    ·
     rw [← sj h]
     exact fq [(7, .v (.ptr 0 2)), (11, .v (vi .u64 (Int.fdiv a1.c (2 ^ (min (Int.toNat (Int.tmod a2 64)) (IntKind.bits .u64))))))] (apc q2 (apc ((sh_shr (of_decide_eq_false h4)) : binA .shr (vi .u64 a1.c) (vi .u8 (Int.tmod a2 64)) = some (vi .u64 (Int.fdiv a1.c (2 ^ (min (Int.toNat (Int.tmod a2 64)) (IntKind.bits .u64)))))) apn))
   ·
    apply bi h <;> intro h4 h
    ·
     have q3 := ((ix_lit h4 (fun z => ixP 4 1 (.ptr 0 0) (vi .u8 z)) rfl) : ixP 4 1 (.ptr 0 0) (vi .u8 (IntKind.wrap .u8 (Int.tdiv a2 64))) = some (.ptr 0 3))
     apply bi h <;> intro h5 h
     ·
      cases h
     ·
      rw [← sj h]
      exact fq [(7, .v (.ptr 0 3)), (11, .v (vi .u64 (Int.fdiv a1.d (2 ^ (min (Int.toNat (Int.tmod a2 64)) (IntKind.bits .u64))))))] (apc q3 (apc ((sh_shr (of_decide_eq_false h5)) : binA .shr (vi .u64 a1.d) (vi .u8 (Int.tmod a2 64)) = some (vi .u64 (Int.fdiv a1.d (2 ^ (min (Int.toNat (Int.tmod a2 64)) (IntKind.bits .u64)))))) apn))
    ·
     cases h
inductive E_L20_0 where
  | k0
  | k1
section
variable (a1 : Int) (a2 : ByteArray) (a3 : Int) (a4 : GramD)
def L20_0 (v1 : Int) : Option (E_L20_0 ⊕ (Int)) :=
  (bif (decide (v1 < (a4.follow.length : Int))) then ((getI a4.follow v1).bind fun x2 => (bif (x2.sort == a1) then (bif (decide (a3 < (a2.size : Int))) then ((getI a2.data.toList a3).bind fun x5 => ((F37_2 x2 (x5.toNat : Int)).bind fun x6 => (bif x6 then (some (.inl (.k0))) else (some (.inr ((IntKind.wrap .i64 (v1 + 1)))))))) else (some (.inr ((IntKind.wrap .i64 (v1 + 1)))))) else (some (.inr ((IntKind.wrap .i64 (v1 + 1))))))) else (some (.inl (.k1))))
def L20_0_s (v1 : Int) : St := ⟨fr 43 ug [(1, i6 a1), (2, vs a2), (3, i6 a3), (4, .ptr 0 0), (9, i6 v1)], [bG a4]⟩
theorem L20_0_k (v1 : Int) : okT 1 (L20_0_s a1 a2 a3 a4 v1).h = true := (okT_of rfl (ac rfl))
abbrev L20_0_e (v1 : Int) := evH prg 1 [1, 2, 3, 4, 9] ir20_l0 (L20_0_s a1 a2 a3 a4 v1)
def L20_0_x (e : E_L20_0) (r : Option (Out × St)) : Prop := match e with | .k0 => ∃ g y, r = some (.ret, ⟨fr 43 g [(8, vb true)], y⟩) | .k1 => ∃ g, r = some ((.brk 0), ⟨fr 43 g [], [bG a4]⟩)
theorem L20_0_ok (v1 : Int) {r : E_L20_0 ⊕ (Int)} (h : L20_0 a1 a2 a3 a4 v1 = some r) : OkR (fun e => L20_0_x a4 e (L20_0_e a1 a2 a3 a4 v1)) (fun s => L20_0_e a1 a2 a3 a4 v1 = L20_0_e a1 a2 a3 a4 s) r := by
 unfold L20_0 at h
 have k0 := ka [(13, .v (i6 (lW a4)))] (apc (lg a4.follow eFoll 5) apn)
 apply bi h <;> intro h1 h
 ·
  apply bn h; intro x2 h2 h
  have k1 := k0.a [(14, .d true), (20, .v (.ro (eFoll x2)))] (av h1 (apc (ig eFoll 5 .i64 h2) apn))
  apply bi h <;> intro h3 h
  ·
   apply bi h <;> intro h4 h
   ·
    have k2 := k1.a [(24, .d true), (29, .d true), (35, .v (.ro (eFoll x2)))] (av h3 (av h4 (apc (ig eFoll 5 .i64 h2) apn)))
    apply bn h; intro x5 h5 h
    have q3 := ((ix_str h5) : ixS (vs a2) (i6 a3) = some (vi .u8 (x5.toNat : Int)))
    apply bn h; intro x6 h6 h
    apply bi h <;> intro h7 h
    ·
     rw [← sj h]
     exact xy ([(40, .v (vi .u8 (x5.toNat : Int))), (41, .v (vb true)), (6000, .d true)] ++ kH k2) (k2.b (apc q3 (apc ((((F37_2_ok x2 (x5.toNat : Int) h6).cp rfl _).trans (congrArg (fun z => some (vb z)) h7)) : CP prg 37 [(.agg ((List.drop 1 (eFoll x2)).map .p)), (vi .u8 (x5.toNat : Int))] [bG a4] = some (vb true)) apn)))
    ·
     rw [← sj h]
     exact rn ([(40, .v (vi .u8 (x5.toNat : Int))), (41, .v (vb false)), (6000, .d true)] ++ kH k2) (k2.b (apc q3 (apc ((((F37_2_ok x2 (x5.toNat : Int) h6).cp rfl _).trans (congrArg (fun z => some (vb z)) h7)) : CP prg 37 [(.agg ((List.drop 1 (eFoll x2)).map .p)), (vi .u8 (x5.toNat : Int))] [bG a4] = some (vb false)) (apc (L20_0_k a1 a2 a3 a4 (w6 (v1 + 1))) apn))))
   ·
    rw [← sj h]
    exact rn ([(24, .d true), (29, .d false), (6000, .d true)] ++ kH k1) (k1.b (av h3 (av h4 (apc (L20_0_k a1 a2 a3 a4 (w6 (v1 + 1))) apn))))
  ·
   rw [← sj h]
   exact rn ([(24, .d false), (6000, .d true)] ++ kH k1) (k1.b (av h3 (apc (L20_0_k a1 a2 a3 a4 (w6 (v1 + 1))) apn)))
 ·
  rw [← sj h]
  exact xb ([(14, .d false), (6000, .d true)] ++ kH k0) (k0.b (av h1 apn))
theorem L20_0_run (s0 : Int) (e : E_L20_0) (h : runL (fun s => L20_0 a1 a2 a3 a4 s) s0 = some e) : L20_0_x a4 e (L20_0_e a1 a2 a3 a4 s0) := by
  have q := @loop_sound' (Int) E_L20_0 (fun s => L20_0 a1 a2 a3 a4 s) (fun s => L20_0_e a1 a2 a3 a4 s) (L20_0_x a4) (fun s r h => L20_0_ok a1 a2 a3 a4 s h) s0 e h
  exact q
end
def F20_v (a1 : GramD) (a2 : Int) (a3 : ByteArray) (a4 : Int) (x0 : Bool) : AV := (vb x0)
def F20 (a1 : GramD) (a2 : Int) (a3 : ByteArray) (a4 : Int) : Option Bool :=
  ((runL (fun s => L20_0 a2 a3 a4 a1 s) 0).bind fun r1 => match r1 with | .k0 => (some true) | .k1 => (some false))
theorem F20_ok (a1 : GramD) (a2 : Int) (a3 : ByteArray) (a4 : Int) {r : Bool} (h : F20 a1 a2 a3 a4 = some r) : PR1 prg 20 [aG a1, i6 a2, vs a3, i6 a4] (F20_v a1 a2 a3 a4 r) := by
 unfold F20 at h
 apply bn h; intro r1 h1 h
 cases r1 with
 | k0 =>
  obtain ⟨g1, y1, e1⟩ := L20_0_run a2 a3 a4 a1 0 _ h1
  rw [← sj h]
  exact fq [(2000, .l .ret ⟨fr 43 g1 [(8, vb true)], y1⟩), (6000, .d true)] (apc (L20_0_k a2 a3 a4 a1 0) (apc (e1 : L20_0_e a2 a3 a4 a1 0 = some (.ret, ⟨fr 43 g1 [(8, vb true)], y1⟩)) apn))
 | k1 =>
  obtain ⟨g1, e1⟩ := L20_0_run a2 a3 a4 a1 0 _ h1
  rw [← sj h]
  exact fq [(2000, .l (.brk 0) ⟨fr 43 g1 [], [bG a1]⟩), (6000, .d true)] (apc (L20_0_k a2 a3 a4 a1 0) (apc (e1 : L20_0_e a2 a3 a4 a1 0 = some ((.brk 0), ⟨fr 43 g1 [], [bG a1]⟩)) apn))
def F4_v (a1 : GramD) (a2 : Int) (a3 : ByteArray) (a4 : Int) (x0 : Bool) : AV := (vb x0)
def F4 (a1 : GramD) (a2 : Int) (a3 : ByteArray) (a4 : Int) : Option Bool :=
  (bif (decide ((a1.sorts.length : Int) > 12)) then ((F10).bind fun x2 => (some x2)) else (bif (decide ((a1.prods.length : Int) > 25)) then ((F10).bind fun x3 => (some x3)) else (bif (decide ((a3.size : Int) > 200)) then ((F10).bind fun x4 => (some x4)) else (bif (decide ((a1.forbid.length : Int) > 30)) then ((F10).bind fun x5 => (some x5)) else (bif (decide ((a1.follow.length : Int) > 12)) then ((F10).bind fun x6 => (some x6)) else ((runL (fun s => L4_0 a1 s) 0).bind fun r6 => match r6 with | .k0 x6_0 => (some x6_0) | .k1 => ((F17 a1 a2 a3).bind fun r7 => match r7 with | .k0 x7_0 x7_1 => (bif x7_0 then ((F18 a1 a2 a3 a4).bind fun r9 => match r9 with | .k0 x9_0 x9_1 => (bif x9_0 then ((F9 a1).bind fun x11 => (bif (x11 == 0) then (bif (decide (a2 < 0)) then (some false) else (bif (decide (a2 ≥ (a1.sorts.length : Int))) then (some false) else (bif (x11 != 0) then (some false) else ((F19 a1 a2 a3).bind fun x16 => (bif (!((true == x16) && true)) then (some false) else (bif (x7_1 != 0) then (some false) else (bif (decide (a4 < 0)) then (some false) else (bif (decide (a4 > (a3.size : Int))) then (some false) else ((F20 a1 a2 a3 a4).bind fun x21 => (bif ((true == x21) && true) then (bif (x9_1 == 0) then ((F10).bind fun x24 => (some x24)) else (some false)) else (some false))))))))))) else (bif (x11 != 0) then (some false) else ((F19 a1 a2 a3).bind fun x14 => (bif (!((true == x14) && true)) then (some false) else (bif (x7_1 != 0) then (some false) else (bif (decide (a4 < 0)) then (some false) else (bif (decide (a4 > (a3.size : Int))) then (some false) else ((F20 a1 a2 a3 a4).bind fun x19 => (bif ((true == x19) && true) then (bif (x9_1 == 0) then ((F10).bind fun x22 => (some x22)) else (some false)) else (some false))))))))))) else ((F9 a1).bind fun x11 => (bif (x11 == 0) then (bif (decide (a2 < 0)) then (some false) else (bif (decide (a2 ≥ (a1.sorts.length : Int))) then (some false) else (bif (x11 != 0) then (some false) else ((F19 a1 a2 a3).bind fun x16 => (bif (!((true == x16) && true)) then (some false) else (bif (x7_1 != 0) then (some false) else (bif (decide (a4 < 0)) then (bif (x9_1 == 4) then ((F10).bind fun x21 => (some x21)) else (some false)) else (bif (decide (a4 > (a3.size : Int))) then (bif (x9_1 == 4) then ((F10).bind fun x22 => (some x22)) else (some false)) else ((F20 a1 a2 a3 a4).bind fun x21 => (bif ((false == x21) && true) then (bif (x9_1 == 0) then ((F10).bind fun x24 => (some x24)) else (some false)) else (some false))))))))))) else (bif (x11 != 0) then (some false) else ((F19 a1 a2 a3).bind fun x14 => (bif (!((true == x14) && true)) then (some false) else (bif (x7_1 != 0) then (some false) else (bif (decide (a4 < 0)) then (bif (x9_1 == 4) then ((F10).bind fun x19 => (some x19)) else (some false)) else (bif (decide (a4 > (a3.size : Int))) then (bif (x9_1 == 4) then ((F10).bind fun x20 => (some x20)) else (some false)) else ((F20 a1 a2 a3 a4).bind fun x19 => (bif ((false == x19) && true) then (bif (x9_1 == 0) then ((F10).bind fun x22 => (some x22)) else (some false)) else (some false))))))))))))) else ((F18 a1 a2 a3 a4).bind fun r9 => match r9 with | .k0 x9_0 x9_1 => (bif x9_0 then ((F9 a1).bind fun x11 => (bif (x11 == 0) then (bif (decide (a2 < 0)) then (some false) else (bif (decide (a2 ≥ (a1.sorts.length : Int))) then (some false) else (bif (x11 != 0) then (some false) else ((F19 a1 a2 a3).bind fun x16 => (bif (!((false == x16) && true)) then (some false) else (bif (x7_1 != 0) then (some false) else (bif (decide (a4 < 0)) then (some false) else (bif (decide (a4 > (a3.size : Int))) then (some false) else ((F20 a1 a2 a3 a4).bind fun x21 => (bif ((true == x21) && true) then (bif (x9_1 == 0) then ((F10).bind fun x24 => (some x24)) else (some false)) else (some false))))))))))) else (bif (x11 != 0) then (some false) else ((F19 a1 a2 a3).bind fun x14 => (bif (!((false == x14) && true)) then (some false) else (bif (x7_1 != 0) then (some false) else (bif (decide (a4 < 0)) then (some false) else (bif (decide (a4 > (a3.size : Int))) then (some false) else ((F20 a1 a2 a3 a4).bind fun x19 => (bif ((true == x19) && true) then (bif (x9_1 == 0) then ((F10).bind fun x22 => (some x22)) else (some false)) else (some false))))))))))) else ((F9 a1).bind fun x11 => (bif (x11 == 0) then (bif (decide (a2 < 0)) then (bif (x7_1 == 4) then (bif (x9_1 == 4) then ((F10).bind fun x16 => (some x16)) else (some false)) else (some false)) else (bif (decide (a2 ≥ (a1.sorts.length : Int))) then (bif (x7_1 == 4) then (bif (x9_1 == 4) then ((F10).bind fun x17 => (some x17)) else (some false)) else (some false)) else (bif (x11 != 0) then (bif (x7_1 == x11) then (bif (x9_1 == x11) then ((F10).bind fun x18 => (some x18)) else (some false)) else (some false)) else ((F19 a1 a2 a3).bind fun x16 => (bif (!((false == x16) && true)) then (some false) else (bif (x7_1 != 0) then (some false) else (bif (decide (a4 < 0)) then (bif (x9_1 == 4) then ((F10).bind fun x21 => (some x21)) else (some false)) else (bif (decide (a4 > (a3.size : Int))) then (bif (x9_1 == 4) then ((F10).bind fun x22 => (some x22)) else (some false)) else ((F20 a1 a2 a3 a4).bind fun x21 => (bif ((false == x21) && true) then (bif (x9_1 == 0) then ((F10).bind fun x24 => (some x24)) else (some false)) else (some false))))))))))) else (bif (x11 != 0) then (bif (x7_1 == x11) then (bif (x9_1 == x11) then ((F10).bind fun x16 => (some x16)) else (some false)) else (some false)) else ((F19 a1 a2 a3).bind fun x14 => (bif (!((false == x14) && true)) then (some false) else (bif (x7_1 != 0) then (some false) else (bif (decide (a4 < 0)) then (bif (x9_1 == 4) then ((F10).bind fun x19 => (some x19)) else (some false)) else (bif (decide (a4 > (a3.size : Int))) then (bif (x9_1 == 4) then ((F10).bind fun x20 => (some x20)) else (some false)) else ((F20 a1 a2 a3 a4).bind fun x19 => (bif ((false == x19) && true) then (bif (x9_1 == 0) then ((F10).bind fun x22 => (some x22)) else (some false)) else (some false)))))))))))))))))))))
abbrev F4_d0 (g6 : Nat → AV) (a2 : Int) (a1 : GramD) (a3 : ByteArray) (a4 : Int) : St := ⟨fr 159 g6 [(1, i6 a2), (3, .ptr 0 0), (5, .ptr 1 0)], [bG a1, .cells 48 [vs a3, i6 a4]]⟩
theorem F4_ok (a1 : GramD) (a2 : Int) (a3 : ByteArray) (a4 : Int) {r : Bool} (h : F4 a1 a2 a3 a4 = some r) : PR1 prg 4 [aG a1, i6 a2, (.agg [vs a3, i6 a4])] (F4_v a1 a2 a3 a4 r) := by
 unfold F4 at h
 have k0 := ka [(15, .v (i6 (lS a1)))] (apc (lg a1.sorts eStr 1) apn)
 apply bi h <;> intro h1 h
 ·
  apply bn h; intro x2 h2 h
  rw [← sj h]
  exact fq ([(16, .d true), (41, .v (vb x2))] ++ kH k0) (k0.b (av h1 (apc (((F10_ok  h2).cp rfl _) : CP prg 10 [] [bG a1, .cells 48 [vs a3, i6 a4]] = some (vb x2)) apn)))
 ·
  have k1 := k0.a [(16, .d false), (20, .v (i6 (lP a1)))] (av h1 (apc (lg a1.prods eProd 7) apn))
  apply bi h <;> intro h2 h
  ·
   apply bn h; intro x3 h3 h
   rw [← sj h]
   exact fq ([(21, .d true), (41, .v (vb x3))] ++ kH k1) (k1.b (av h2 (apc (((F10_ok  h3).cp rfl _) : CP prg 10 [] [bG a1, .cells 48 [vs a3, i6 a4]] = some (vb x3)) apn)))
  ·
   apply bi h <;> intro h3 h
   ·
    apply bn h; intro x4 h4 h
    rw [← sj h]
    exact fq ([(21, .d false), (27, .d true), (41, .v (vb x4))] ++ kH k1) (k1.b (av h2 (av h3 (apc (((F10_ok  h4).cp rfl _) : CP prg 10 [] [bG a1, .cells 48 [vs a3, i6 a4]] = some (vb x4)) apn))))
   ·
    have k2 := k1.a [(21, .d false), (27, .d false), (32, .v (i6 (lF a1)))] (av h2 (av h3 (apc (lg a1.forbid eForb 3) apn)))
    apply bi h <;> intro h4 h
    ·
     apply bn h; intro x5 h5 h
     rw [← sj h]
     exact fq ([(33, .d true), (41, .v (vb x5))] ++ kH k2) (k2.b (av h4 (apc (((F10_ok  h5).cp rfl _) : CP prg 10 [] [bG a1, .cells 48 [vs a3, i6 a4]] = some (vb x5)) apn)))
    ·
     have k3 := k2.a [(33, .d false), (38, .v (i6 (lW a1)))] (av h4 (apc (lg a1.follow eFoll 5) apn))
     apply bi h <;> intro h5 h
     ·
      apply bn h; intro x6 h6 h
      rw [← sj h]
      exact fq ([(39, .d true), (41, .v (vb x6))] ++ kH k3) (k3.b (av h5 (apc (((F10_ok  h6).cp rfl _) : CP prg 10 [] [bG a1, .cells 48 [vs a3, i6 a4]] = some (vb x6)) apn)))
     ·
      apply bn h; intro r6 h6 h
      cases r6 with
      | k0 x6_0 =>
       obtain ⟨g6, y6, e6⟩ := L4_0_run a2 a1 a3 a4 0 _ h6
       rw [← sj h]
       exact fq ([(39, .d false), (2000, .l .ret ⟨fr 159 g6 [(6, vb x6_0)], y6⟩), (6000, .d true)] ++ kH k3) (k3.b (av h5 (apc (L4_0_k a2 a1 a3 a4 0) (apc (e6 : L4_0_e a2 a1 a3 a4 0 = some (.ret, ⟨fr 159 g6 [(6, vb x6_0)], y6⟩)) apn))))
      | k1 =>
       obtain ⟨g6, e6⟩ := L4_0_run a2 a1 a3 a4 0 _ h6
       have q4 := (e6 : L4_0_e a2 a1 a3 a4 0 = some ((.brk 0), F4_d0 g6 a2 a1 a3 a4))
       have k5 := k3.a [(39, .d false), (2000, .l (.brk 0) (F4_d0 g6 a2 a1 a3 a4))] (av h5 (apc (L4_0_k a2 a1 a3 a4 0) (apc q4 apn)))
       apply bn h; intro r7 h7 h
       cases r7 with
       | k0 x7_0 x7_1 =>
        have q6 := (((F17_ok a1 a2 a3 h7).cp rfl _) : CP prg 17 [aG a1, i6 a2, vs a3] [bG a1, .cells 48 [vs a3, i6 a4]] = some (.tup [vb x7_0, i6 x7_1]))
        apply bi h <;> intro h8 h
        ·
         have k7 := k5.a [(63, .v (.tup [vb x7_0, i6 x7_1])), (64, .d true)] (apc q6 (av h8 apn))
         apply bn h; intro r9 h9 h
         cases r9 with
         | k0 x9_0 x9_1 =>
          have q8 := (((F18_ok a1 a2 a3 a4 h9).cp rfl _) : CP prg 18 [aG a1, i6 a2, vs a3, i6 a4] [bG a1, .cells 48 [vs a3, i6 a4]] = some (.tup [vb x9_0, i6 x9_1]))
          apply bi h <;> intro h10 h
          ·
           have k9 := k7.a [(73, .v (.tup [vb x9_0, i6 x9_1])), (74, .d true)] (apc q8 (av h10 apn))
           apply bn h; intro x11 h11 h
           have q10 := (((F9_ok a1 h11).cp rfl _) : CP prg 9 [aG a1] [bG a1, .cells 48 [vs a3, i6 a4]] = some (i6 x11))
           apply bi h <;> intro h12 h
           ·
            have k11 := k9.a [(77, .v (i6 x11)), (79, .d true)] (apc q10 (av h12 apn))
            apply bi h <;> intro h13 h
            ·
             rw [← sj h]
             exact fq ([(82, .d true), (6000, .d true)] ++ kH k11) (k11.b (av h13 apn))
            ·
             have k12 := k11.a [(82, .d false), (87, .v (i6 (lS a1)))] (av h13 (apc (lg a1.sorts eStr 1) apn))
             apply bi h <;> intro h14 h
             ·
              rw [← sj h]
              exact fq ([(88, .d true), (6000, .d true)] ++ kH k12) (k12.b (av h14 apn))
             ·
              apply bi h <;> intro h15 h
              ·
               rw [← sj h]
               exact fq ([(88, .d false), (92, .d true), (6000, .d true)] ++ kH k12) (k12.b (av h14 (av h15 apn)))
              ·
               have k13 := k12.a [(88, .d false), (92, .d false)] (av h14 (av h15 apn))
               apply bn h; intro x16 h16 h
               have q14 := (((F19_ok a1 a2 a3 h16).cp rfl _) : CP prg 19 [aG a1, i6 a2, vs a3] [bG a1, .cells 48 [vs a3, i6 a4]] = some (vb x16))
               apply bi h <;> intro h17 h
               ·
                rw [← sj h]
                exact fq ([(117, .v (vb x16)), (118, .d true), (6000, .d true)] ++ kH k13) (k13.b (apc q14 (av h17 apn)))
               ·
                have k15 := k13.a [(117, .v (vb x16)), (118, .d false)] (apc q14 (av h17 apn))
                apply bi h <;> intro h18 h
                ·
                 rw [← sj h]
                 exact fq ([(121, .d true), (6000, .d true)] ++ kH k15) (k15.b (av h18 apn))
                ·
                 apply bi h <;> intro h19 h
                 ·
                  rw [← sj h]
                  exact fq ([(121, .d false), (125, .d true), (6000, .d true)] ++ kH k15) (k15.b (av h18 (av h19 apn)))
                 ·
                  have k16 := k15.a [(121, .d false), (125, .d false)] (av h18 (av h19 apn))
                  apply bi h <;> intro h20 h
                  ·
                   rw [← sj h]
                   exact fq ([(132, .d true), (6000, .d true)] ++ kH k16) (k16.b (av h20 apn))
                  ·
                   apply bn h; intro x21 h21 h
                   have q17 := (((F20_ok a1 a2 a3 a4 h21).cp rfl _) : CP prg 20 [aG a1, i6 a2, vs a3, i6 a4] [bG a1, .cells 48 [vs a3, i6 a4]] = some (vb x21))
                   have k18 := k16.a [(132, .d false), (150, .v (vb x21))] (av h20 (apc q17 apn))
                   apply bi h <;> intro h22 h
                   ·
                    apply bi h <;> intro h23 h
                    ·
                     apply bn h; intro x24 h24 h
                     rw [← sj h]
                     exact fq ([(151, .d true), (154, .d true), (157, .v (vb x24)), (6000, .d true)] ++ kH k18) (k18.b (av h22 (av h23 (apc (((F10_ok  h24).cp rfl _) : CP prg 10 [] [bG a1, .cells 48 [vs a3, i6 a4]] = some (vb x24)) apn))))
                    ·
                     rw [← sj h]
                     exact fq ([(151, .d true), (154, .d false), (6000, .d true)] ++ kH k18) (k18.b (av h22 (av h23 apn)))
                   ·
                    rw [← sj h]
                    exact fq ([(151, .d false), (6000, .d true)] ++ kH k18) (k18.b (av h22 apn))
           ·
            have k19 := k9.a [(77, .v (i6 x11)), (79, .d false)] (apc q10 (av h12 apn))
            apply bi h <;> intro h13 h
            ·
             rw [← sj h]
             exact fq ([(92, .d true), (6000, .d true)] ++ kH k19) (k19.b (av h13 apn))
            ·
             apply bn h; intro x14 h14 h
             have q20 := (((F19_ok a1 a2 a3 h14).cp rfl _) : CP prg 19 [aG a1, i6 a2, vs a3] [bG a1, .cells 48 [vs a3, i6 a4]] = some (vb x14))
             have k21 := k19.a [(92, .d false), (117, .v (vb x14))] (av h13 (apc q20 apn))
             apply bi h <;> intro h15 h
             ·
              rw [← sj h]
              exact fq ([(118, .d true), (6000, .d true)] ++ kH k21) (k21.b (av h15 apn))
             ·
              apply bi h <;> intro h16 h
              ·
               rw [← sj h]
               exact fq ([(118, .d false), (121, .d true), (6000, .d true)] ++ kH k21) (k21.b (av h15 (av h16 apn)))
              ·
               have k22 := k21.a [(118, .d false), (121, .d false)] (av h15 (av h16 apn))
               apply bi h <;> intro h17 h
               ·
                rw [← sj h]
                exact fq ([(125, .d true), (6000, .d true)] ++ kH k22) (k22.b (av h17 apn))
               ·
                apply bi h <;> intro h18 h
                ·
                 rw [← sj h]
                 exact fq ([(125, .d false), (132, .d true), (6000, .d true)] ++ kH k22) (k22.b (av h17 (av h18 apn)))
                ·
                 have k23 := k22.a [(125, .d false), (132, .d false)] (av h17 (av h18 apn))
                 apply bn h; intro x19 h19 h
                 have q24 := (((F20_ok a1 a2 a3 a4 h19).cp rfl _) : CP prg 20 [aG a1, i6 a2, vs a3, i6 a4] [bG a1, .cells 48 [vs a3, i6 a4]] = some (vb x19))
                 apply bi h <;> intro h20 h
                 ·
                  have k25 := k23.a [(150, .v (vb x19)), (151, .d true)] (apc q24 (av h20 apn))
                  apply bi h <;> intro h21 h
                  ·
                   apply bn h; intro x22 h22 h
                   rw [← sj h]
                   exact fq ([(154, .d true), (157, .v (vb x22)), (6000, .d true)] ++ kH k25) (k25.b (av h21 (apc (((F10_ok  h22).cp rfl _) : CP prg 10 [] [bG a1, .cells 48 [vs a3, i6 a4]] = some (vb x22)) apn)))
                  ·
                   rw [← sj h]
                   exact fq ([(154, .d false), (6000, .d true)] ++ kH k25) (k25.b (av h21 apn))
                 ·
                  rw [← sj h]
                  exact fq ([(150, .v (vb x19)), (151, .d false), (6000, .d true)] ++ kH k23) (k23.b (apc q24 (av h20 apn)))
          ·
           have k26 := k7.a [(73, .v (.tup [vb x9_0, i6 x9_1])), (74, .d false)] (apc q8 (av h10 apn))
           apply bn h; intro x11 h11 h
           have q27 := (((F9_ok a1 h11).cp rfl _) : CP prg 9 [aG a1] [bG a1, .cells 48 [vs a3, i6 a4]] = some (i6 x11))
           apply bi h <;> intro h12 h
           ·
            have k28 := k26.a [(77, .v (i6 x11)), (79, .d true)] (apc q27 (av h12 apn))
            apply bi h <;> intro h13 h
            ·
             rw [← sj h]
             exact fq ([(82, .d true), (6000, .d true)] ++ kH k28) (k28.b (av h13 apn))
            ·
             have k29 := k28.a [(82, .d false), (87, .v (i6 (lS a1)))] (av h13 (apc (lg a1.sorts eStr 1) apn))
             apply bi h <;> intro h14 h
             ·
              rw [← sj h]
              exact fq ([(88, .d true), (6000, .d true)] ++ kH k29) (k29.b (av h14 apn))
             ·
              apply bi h <;> intro h15 h
              ·
               rw [← sj h]
               exact fq ([(88, .d false), (92, .d true), (6000, .d true)] ++ kH k29) (k29.b (av h14 (av h15 apn)))
              ·
               have k30 := k29.a [(88, .d false), (92, .d false)] (av h14 (av h15 apn))
               apply bn h; intro x16 h16 h
               have q31 := (((F19_ok a1 a2 a3 h16).cp rfl _) : CP prg 19 [aG a1, i6 a2, vs a3] [bG a1, .cells 48 [vs a3, i6 a4]] = some (vb x16))
               apply bi h <;> intro h17 h
               ·
                rw [← sj h]
                exact fq ([(117, .v (vb x16)), (118, .d true), (6000, .d true)] ++ kH k30) (k30.b (apc q31 (av h17 apn)))
               ·
                have k32 := k30.a [(117, .v (vb x16)), (118, .d false)] (apc q31 (av h17 apn))
                apply bi h <;> intro h18 h
                ·
                 rw [← sj h]
                 exact fq ([(121, .d true), (6000, .d true)] ++ kH k32) (k32.b (av h18 apn))
                ·
                 apply bi h <;> intro h19 h
                 ·
                  have k33 := k32.a [(121, .d false), (125, .d true)] (av h18 (av h19 apn))
                  apply bi h <;> intro h20 h
                  ·
                   apply bn h; intro x21 h21 h
                   rw [← sj h]
                   exact fq ([(138, .d true), (141, .v (vb x21)), (6000, .d true)] ++ kH k33) (k33.b (av h20 (apc (((F10_ok  h21).cp rfl _) : CP prg 10 [] [bG a1, .cells 48 [vs a3, i6 a4]] = some (vb x21)) apn)))
                  ·
                   rw [← sj h]
                   exact fq ([(138, .d false), (6000, .d true)] ++ kH k33) (k33.b (av h20 apn))
                 ·
                  have k34 := k32.a [(121, .d false), (125, .d false)] (av h18 (av h19 apn))
                  apply bi h <;> intro h20 h
                  ·
                   apply bi h <;> intro h21 h
                   ·
                    apply bn h; intro x22 h22 h
                    rw [← sj h]
                    exact fq ([(132, .d true), (138, .d true), (141, .v (vb x22)), (6000, .d true)] ++ kH k34) (k34.b (av h20 (av h21 (apc (((F10_ok  h22).cp rfl _) : CP prg 10 [] [bG a1, .cells 48 [vs a3, i6 a4]] = some (vb x22)) apn))))
                   ·
                    rw [← sj h]
                    exact fq ([(132, .d true), (138, .d false), (6000, .d true)] ++ kH k34) (k34.b (av h20 (av h21 apn)))
                  ·
                   apply bn h; intro x21 h21 h
                   have q35 := (((F20_ok a1 a2 a3 a4 h21).cp rfl _) : CP prg 20 [aG a1, i6 a2, vs a3, i6 a4] [bG a1, .cells 48 [vs a3, i6 a4]] = some (vb x21))
                   have k36 := k34.a [(132, .d false), (150, .v (vb x21))] (av h20 (apc q35 apn))
                   apply bi h <;> intro h22 h
                   ·
                    apply bi h <;> intro h23 h
                    ·
                     apply bn h; intro x24 h24 h
                     rw [← sj h]
                     exact fq ([(151, .d true), (154, .d true), (157, .v (vb x24)), (6000, .d true)] ++ kH k36) (k36.b (av h22 (av h23 (apc (((F10_ok  h24).cp rfl _) : CP prg 10 [] [bG a1, .cells 48 [vs a3, i6 a4]] = some (vb x24)) apn))))
                    ·
                     rw [← sj h]
                     exact fq ([(151, .d true), (154, .d false), (6000, .d true)] ++ kH k36) (k36.b (av h22 (av h23 apn)))
                   ·
                    rw [← sj h]
                    exact fq ([(151, .d false), (6000, .d true)] ++ kH k36) (k36.b (av h22 apn))
           ·
            have k37 := k26.a [(77, .v (i6 x11)), (79, .d false)] (apc q27 (av h12 apn))
            apply bi h <;> intro h13 h
            ·
             rw [← sj h]
             exact fq ([(92, .d true), (6000, .d true)] ++ kH k37) (k37.b (av h13 apn))
            ·
             apply bn h; intro x14 h14 h
             have q38 := (((F19_ok a1 a2 a3 h14).cp rfl _) : CP prg 19 [aG a1, i6 a2, vs a3] [bG a1, .cells 48 [vs a3, i6 a4]] = some (vb x14))
             have k39 := k37.a [(92, .d false), (117, .v (vb x14))] (av h13 (apc q38 apn))
             apply bi h <;> intro h15 h
             ·
              rw [← sj h]
              exact fq ([(118, .d true), (6000, .d true)] ++ kH k39) (k39.b (av h15 apn))
             ·
              apply bi h <;> intro h16 h
              ·
               rw [← sj h]
               exact fq ([(118, .d false), (121, .d true), (6000, .d true)] ++ kH k39) (k39.b (av h15 (av h16 apn)))
              ·
               have k40 := k39.a [(118, .d false), (121, .d false)] (av h15 (av h16 apn))
               apply bi h <;> intro h17 h
               ·
                apply bi h <;> intro h18 h
                ·
                 apply bn h; intro x19 h19 h
                 rw [← sj h]
                 exact fq ([(125, .d true), (138, .d true), (141, .v (vb x19)), (6000, .d true)] ++ kH k40) (k40.b (av h17 (av h18 (apc (((F10_ok  h19).cp rfl _) : CP prg 10 [] [bG a1, .cells 48 [vs a3, i6 a4]] = some (vb x19)) apn))))
                ·
                 rw [← sj h]
                 exact fq ([(125, .d true), (138, .d false), (6000, .d true)] ++ kH k40) (k40.b (av h17 (av h18 apn)))
               ·
                apply bi h <;> intro h18 h
                ·
                 have k41 := k40.a [(125, .d false), (132, .d true)] (av h17 (av h18 apn))
                 apply bi h <;> intro h19 h
                 ·
                  apply bn h; intro x20 h20 h
                  rw [← sj h]
                  exact fq ([(138, .d true), (141, .v (vb x20)), (6000, .d true)] ++ kH k41) (k41.b (av h19 (apc (((F10_ok  h20).cp rfl _) : CP prg 10 [] [bG a1, .cells 48 [vs a3, i6 a4]] = some (vb x20)) apn)))
                 ·
                  rw [← sj h]
                  exact fq ([(138, .d false), (6000, .d true)] ++ kH k41) (k41.b (av h19 apn))
                ·
                 have k42 := k40.a [(125, .d false), (132, .d false)] (av h17 (av h18 apn))
                 apply bn h; intro x19 h19 h
                 have q43 := (((F20_ok a1 a2 a3 a4 h19).cp rfl _) : CP prg 20 [aG a1, i6 a2, vs a3, i6 a4] [bG a1, .cells 48 [vs a3, i6 a4]] = some (vb x19))
                 apply bi h <;> intro h20 h
                 ·
                  have k44 := k42.a [(150, .v (vb x19)), (151, .d true)] (apc q43 (av h20 apn))
                  apply bi h <;> intro h21 h
                  ·
                   apply bn h; intro x22 h22 h
                   rw [← sj h]
                   exact fq ([(154, .d true), (157, .v (vb x22)), (6000, .d true)] ++ kH k44) (k44.b (av h21 (apc (((F10_ok  h22).cp rfl _) : CP prg 10 [] [bG a1, .cells 48 [vs a3, i6 a4]] = some (vb x22)) apn)))
                  ·
                   rw [← sj h]
                   exact fq ([(154, .d false), (6000, .d true)] ++ kH k44) (k44.b (av h21 apn))
                 ·
                  rw [← sj h]
                  exact fq ([(150, .v (vb x19)), (151, .d false), (6000, .d true)] ++ kH k42) (k42.b (apc q43 (av h20 apn)))
        ·
         have k45 := k5.a [(63, .v (.tup [vb x7_0, i6 x7_1])), (64, .d false)] (apc q6 (av h8 apn))
         apply bn h; intro r9 h9 h
         cases r9 with
         | k0 x9_0 x9_1 =>
          have q46 := (((F18_ok a1 a2 a3 a4 h9).cp rfl _) : CP prg 18 [aG a1, i6 a2, vs a3, i6 a4] [bG a1, .cells 48 [vs a3, i6 a4]] = some (.tup [vb x9_0, i6 x9_1]))
          apply bi h <;> intro h10 h
          ·
           have k47 := k45.a [(73, .v (.tup [vb x9_0, i6 x9_1])), (74, .d true)] (apc q46 (av h10 apn))
           apply bn h; intro x11 h11 h
           have q48 := (((F9_ok a1 h11).cp rfl _) : CP prg 9 [aG a1] [bG a1, .cells 48 [vs a3, i6 a4]] = some (i6 x11))
           apply bi h <;> intro h12 h
           ·
            have k49 := k47.a [(77, .v (i6 x11)), (79, .d true)] (apc q48 (av h12 apn))
            apply bi h <;> intro h13 h
            ·
             rw [← sj h]
             exact fq ([(82, .d true), (6000, .d true)] ++ kH k49) (k49.b (av h13 apn))
            ·
             have k50 := k49.a [(82, .d false), (87, .v (i6 (lS a1)))] (av h13 (apc (lg a1.sorts eStr 1) apn))
             apply bi h <;> intro h14 h
             ·
              rw [← sj h]
              exact fq ([(88, .d true), (6000, .d true)] ++ kH k50) (k50.b (av h14 apn))
             ·
              apply bi h <;> intro h15 h
              ·
               rw [← sj h]
               exact fq ([(88, .d false), (92, .d true), (6000, .d true)] ++ kH k50) (k50.b (av h14 (av h15 apn)))
              ·
               have k51 := k50.a [(88, .d false), (92, .d false)] (av h14 (av h15 apn))
               apply bn h; intro x16 h16 h
               have q52 := (((F19_ok a1 a2 a3 h16).cp rfl _) : CP prg 19 [aG a1, i6 a2, vs a3] [bG a1, .cells 48 [vs a3, i6 a4]] = some (vb x16))
               apply bi h <;> intro h17 h
               ·
                rw [← sj h]
                exact fq ([(117, .v (vb x16)), (118, .d true), (6000, .d true)] ++ kH k51) (k51.b (apc q52 (av h17 apn)))
               ·
                have k53 := k51.a [(117, .v (vb x16)), (118, .d false)] (apc q52 (av h17 apn))
                apply bi h <;> intro h18 h
                ·
                 rw [← sj h]
                 exact fq ([(121, .d true), (6000, .d true)] ++ kH k53) (k53.b (av h18 apn))
                ·
                 apply bi h <;> intro h19 h
                 ·
                  rw [← sj h]
                  exact fq ([(121, .d false), (125, .d true), (6000, .d true)] ++ kH k53) (k53.b (av h18 (av h19 apn)))
                 ·
                  have k54 := k53.a [(121, .d false), (125, .d false)] (av h18 (av h19 apn))
                  apply bi h <;> intro h20 h
                  ·
                   rw [← sj h]
                   exact fq ([(132, .d true), (6000, .d true)] ++ kH k54) (k54.b (av h20 apn))
                  ·
                   apply bn h; intro x21 h21 h
                   have q55 := (((F20_ok a1 a2 a3 a4 h21).cp rfl _) : CP prg 20 [aG a1, i6 a2, vs a3, i6 a4] [bG a1, .cells 48 [vs a3, i6 a4]] = some (vb x21))
                   have k56 := k54.a [(132, .d false), (150, .v (vb x21))] (av h20 (apc q55 apn))
                   apply bi h <;> intro h22 h
                   ·
                    apply bi h <;> intro h23 h
                    ·
                     apply bn h; intro x24 h24 h
                     rw [← sj h]
                     exact fq ([(151, .d true), (154, .d true), (157, .v (vb x24)), (6000, .d true)] ++ kH k56) (k56.b (av h22 (av h23 (apc (((F10_ok  h24).cp rfl _) : CP prg 10 [] [bG a1, .cells 48 [vs a3, i6 a4]] = some (vb x24)) apn))))
                    ·
                     rw [← sj h]
                     exact fq ([(151, .d true), (154, .d false), (6000, .d true)] ++ kH k56) (k56.b (av h22 (av h23 apn)))
                   ·
                    rw [← sj h]
                    exact fq ([(151, .d false), (6000, .d true)] ++ kH k56) (k56.b (av h22 apn))
           ·
            have k57 := k47.a [(77, .v (i6 x11)), (79, .d false)] (apc q48 (av h12 apn))
            apply bi h <;> intro h13 h
            ·
             rw [← sj h]
             exact fq ([(92, .d true), (6000, .d true)] ++ kH k57) (k57.b (av h13 apn))
            ·
             apply bn h; intro x14 h14 h
             have q58 := (((F19_ok a1 a2 a3 h14).cp rfl _) : CP prg 19 [aG a1, i6 a2, vs a3] [bG a1, .cells 48 [vs a3, i6 a4]] = some (vb x14))
             have k59 := k57.a [(92, .d false), (117, .v (vb x14))] (av h13 (apc q58 apn))
             apply bi h <;> intro h15 h
             ·
              rw [← sj h]
              exact fq ([(118, .d true), (6000, .d true)] ++ kH k59) (k59.b (av h15 apn))
             ·
              apply bi h <;> intro h16 h
              ·
               rw [← sj h]
               exact fq ([(118, .d false), (121, .d true), (6000, .d true)] ++ kH k59) (k59.b (av h15 (av h16 apn)))
              ·
               have k60 := k59.a [(118, .d false), (121, .d false)] (av h15 (av h16 apn))
               apply bi h <;> intro h17 h
               ·
                rw [← sj h]
                exact fq ([(125, .d true), (6000, .d true)] ++ kH k60) (k60.b (av h17 apn))
               ·
                apply bi h <;> intro h18 h
                ·
                 rw [← sj h]
                 exact fq ([(125, .d false), (132, .d true), (6000, .d true)] ++ kH k60) (k60.b (av h17 (av h18 apn)))
                ·
                 have k61 := k60.a [(125, .d false), (132, .d false)] (av h17 (av h18 apn))
                 apply bn h; intro x19 h19 h
                 have q62 := (((F20_ok a1 a2 a3 a4 h19).cp rfl _) : CP prg 20 [aG a1, i6 a2, vs a3, i6 a4] [bG a1, .cells 48 [vs a3, i6 a4]] = some (vb x19))
                 apply bi h <;> intro h20 h
                 ·
                  have k63 := k61.a [(150, .v (vb x19)), (151, .d true)] (apc q62 (av h20 apn))
                  apply bi h <;> intro h21 h
                  ·
                   apply bn h; intro x22 h22 h
                   rw [← sj h]
                   exact fq ([(154, .d true), (157, .v (vb x22)), (6000, .d true)] ++ kH k63) (k63.b (av h21 (apc (((F10_ok  h22).cp rfl _) : CP prg 10 [] [bG a1, .cells 48 [vs a3, i6 a4]] = some (vb x22)) apn)))
                  ·
                   rw [← sj h]
                   exact fq ([(154, .d false), (6000, .d true)] ++ kH k63) (k63.b (av h21 apn))
                 ·
                  rw [← sj h]
                  exact fq ([(150, .v (vb x19)), (151, .d false), (6000, .d true)] ++ kH k61) (k61.b (apc q62 (av h20 apn)))
          ·
           have k64 := k45.a [(73, .v (.tup [vb x9_0, i6 x9_1])), (74, .d false)] (apc q46 (av h10 apn))
           apply bn h; intro x11 h11 h
           have q65 := (((F9_ok a1 h11).cp rfl _) : CP prg 9 [aG a1] [bG a1, .cells 48 [vs a3, i6 a4]] = some (i6 x11))
           apply bi h <;> intro h12 h
           ·
            have k66 := k64.a [(77, .v (i6 x11)), (79, .d true)] (apc q65 (av h12 apn))
            apply bi h <;> intro h13 h
            ·
             apply bi h <;> intro h14 h
             ·
              have k67 := k66.a [(82, .d true), (102, .d true)] (av h13 (av h14 apn))
              apply bi h <;> intro h15 h
              ·
               apply bn h; intro x16 h16 h
               rw [← sj h]
               exact fq ([(107, .d true), (110, .v (vb x16)), (6000, .d true)] ++ kH k67) (k67.b (av h15 (apc (((F10_ok  h16).cp rfl _) : CP prg 10 [] [bG a1, .cells 48 [vs a3, i6 a4]] = some (vb x16)) apn)))
              ·
               rw [← sj h]
               exact fq ([(107, .d false), (6000, .d true)] ++ kH k67) (k67.b (av h15 apn))
             ·
              rw [← sj h]
              exact fq ([(82, .d true), (102, .d false), (6000, .d true)] ++ kH k66) (k66.b (av h13 (av h14 apn)))
            ·
             have k68 := k66.a [(82, .d false), (87, .v (i6 (lS a1)))] (av h13 (apc (lg a1.sorts eStr 1) apn))
             apply bi h <;> intro h14 h
             ·
              apply bi h <;> intro h15 h
              ·
               have k69 := k68.a [(88, .d true), (102, .d true)] (av h14 (av h15 apn))
               apply bi h <;> intro h16 h
               ·
                apply bn h; intro x17 h17 h
                rw [← sj h]
                exact fq ([(107, .d true), (110, .v (vb x17)), (6000, .d true)] ++ kH k69) (k69.b (av h16 (apc (((F10_ok  h17).cp rfl _) : CP prg 10 [] [bG a1, .cells 48 [vs a3, i6 a4]] = some (vb x17)) apn)))
               ·
                rw [← sj h]
                exact fq ([(107, .d false), (6000, .d true)] ++ kH k69) (k69.b (av h16 apn))
              ·
               rw [← sj h]
               exact fq ([(88, .d true), (102, .d false), (6000, .d true)] ++ kH k68) (k68.b (av h14 (av h15 apn)))
             ·
              apply bi h <;> intro h15 h
              ·
               have k70 := k68.a [(88, .d false), (92, .d true)] (av h14 (av h15 apn))
               apply bi h <;> intro h16 h
               ·
                apply bi h <;> intro h17 h
                ·
                 apply bn h; intro x18 h18 h
                 rw [← sj h]
                 exact fq ([(102, .d true), (107, .d true), (110, .v (vb x18)), (6000, .d true)] ++ kH k70) (k70.b (av h16 (av h17 (apc (((F10_ok  h18).cp rfl _) : CP prg 10 [] [bG a1, .cells 48 [vs a3, i6 a4]] = some (vb x18)) apn))))
                ·
                 rw [← sj h]
                 exact fq ([(102, .d true), (107, .d false), (6000, .d true)] ++ kH k70) (k70.b (av h16 (av h17 apn)))
               ·
                rw [← sj h]
                exact fq ([(102, .d false), (6000, .d true)] ++ kH k70) (k70.b (av h16 apn))
              ·
               have k71 := k68.a [(88, .d false), (92, .d false)] (av h14 (av h15 apn))
               apply bn h; intro x16 h16 h
               have q72 := (((F19_ok a1 a2 a3 h16).cp rfl _) : CP prg 19 [aG a1, i6 a2, vs a3] [bG a1, .cells 48 [vs a3, i6 a4]] = some (vb x16))
               apply bi h <;> intro h17 h
               ·
                rw [← sj h]
                exact fq ([(117, .v (vb x16)), (118, .d true), (6000, .d true)] ++ kH k71) (k71.b (apc q72 (av h17 apn)))
               ·
                have k73 := k71.a [(117, .v (vb x16)), (118, .d false)] (apc q72 (av h17 apn))
                apply bi h <;> intro h18 h
                ·
                 rw [← sj h]
                 exact fq ([(121, .d true), (6000, .d true)] ++ kH k73) (k73.b (av h18 apn))
                ·
                 apply bi h <;> intro h19 h
                 ·
                  have k74 := k73.a [(121, .d false), (125, .d true)] (av h18 (av h19 apn))
                  apply bi h <;> intro h20 h
                  ·
                   apply bn h; intro x21 h21 h
                   rw [← sj h]
                   exact fq ([(138, .d true), (141, .v (vb x21)), (6000, .d true)] ++ kH k74) (k74.b (av h20 (apc (((F10_ok  h21).cp rfl _) : CP prg 10 [] [bG a1, .cells 48 [vs a3, i6 a4]] = some (vb x21)) apn)))
                  ·
                   rw [← sj h]
                   exact fq ([(138, .d false), (6000, .d true)] ++ kH k74) (k74.b (av h20 apn))
                 ·
                  have k75 := k73.a [(121, .d false), (125, .d false)] (av h18 (av h19 apn))
                  apply bi h <;> intro h20 h
                  ·
                   apply bi h <;> intro h21 h
                   ·
                    apply bn h; intro x22 h22 h
                    rw [← sj h]
                    exact fq ([(132, .d true), (138, .d true), (141, .v (vb x22)), (6000, .d true)] ++ kH k75) (k75.b (av h20 (av h21 (apc (((F10_ok  h22).cp rfl _) : CP prg 10 [] [bG a1, .cells 48 [vs a3, i6 a4]] = some (vb x22)) apn))))
                   ·
                    rw [← sj h]
                    exact fq ([(132, .d true), (138, .d false), (6000, .d true)] ++ kH k75) (k75.b (av h20 (av h21 apn)))
                  ·
                   apply bn h; intro x21 h21 h
                   have q76 := (((F20_ok a1 a2 a3 a4 h21).cp rfl _) : CP prg 20 [aG a1, i6 a2, vs a3, i6 a4] [bG a1, .cells 48 [vs a3, i6 a4]] = some (vb x21))
                   have k77 := k75.a [(132, .d false), (150, .v (vb x21))] (av h20 (apc q76 apn))
                   apply bi h <;> intro h22 h
                   ·
                    apply bi h <;> intro h23 h
                    ·
                     apply bn h; intro x24 h24 h
                     rw [← sj h]
                     exact fq ([(151, .d true), (154, .d true), (157, .v (vb x24)), (6000, .d true)] ++ kH k77) (k77.b (av h22 (av h23 (apc (((F10_ok  h24).cp rfl _) : CP prg 10 [] [bG a1, .cells 48 [vs a3, i6 a4]] = some (vb x24)) apn))))
                    ·
                     rw [← sj h]
                     exact fq ([(151, .d true), (154, .d false), (6000, .d true)] ++ kH k77) (k77.b (av h22 (av h23 apn)))
                   ·
                    rw [← sj h]
                    exact fq ([(151, .d false), (6000, .d true)] ++ kH k77) (k77.b (av h22 apn))
           ·
            have k78 := k64.a [(77, .v (i6 x11)), (79, .d false)] (apc q65 (av h12 apn))
            apply bi h <;> intro h13 h
            ·
             apply bi h <;> intro h14 h
             ·
              have k79 := k78.a [(92, .d true), (102, .d true)] (av h13 (av h14 apn))
              apply bi h <;> intro h15 h
              ·
               apply bn h; intro x16 h16 h
               rw [← sj h]
               exact fq ([(107, .d true), (110, .v (vb x16)), (6000, .d true)] ++ kH k79) (k79.b (av h15 (apc (((F10_ok  h16).cp rfl _) : CP prg 10 [] [bG a1, .cells 48 [vs a3, i6 a4]] = some (vb x16)) apn)))
              ·
               rw [← sj h]
               exact fq ([(107, .d false), (6000, .d true)] ++ kH k79) (k79.b (av h15 apn))
             ·
              rw [← sj h]
              exact fq ([(92, .d true), (102, .d false), (6000, .d true)] ++ kH k78) (k78.b (av h13 (av h14 apn)))
            ·
             apply bn h; intro x14 h14 h
             have q80 := (((F19_ok a1 a2 a3 h14).cp rfl _) : CP prg 19 [aG a1, i6 a2, vs a3] [bG a1, .cells 48 [vs a3, i6 a4]] = some (vb x14))
             have k81 := k78.a [(92, .d false), (117, .v (vb x14))] (av h13 (apc q80 apn))
             apply bi h <;> intro h15 h
             ·
              rw [← sj h]
              exact fq ([(118, .d true), (6000, .d true)] ++ kH k81) (k81.b (av h15 apn))
             ·
              apply bi h <;> intro h16 h
              ·
               rw [← sj h]
               exact fq ([(118, .d false), (121, .d true), (6000, .d true)] ++ kH k81) (k81.b (av h15 (av h16 apn)))
              ·
               have k82 := k81.a [(118, .d false), (121, .d false)] (av h15 (av h16 apn))
               apply bi h <;> intro h17 h
               ·
                apply bi h <;> intro h18 h
                ·
                 apply bn h; intro x19 h19 h
                 rw [← sj h]
                 exact fq ([(125, .d true), (138, .d true), (141, .v (vb x19)), (6000, .d true)] ++ kH k82) (k82.b (av h17 (av h18 (apc (((F10_ok  h19).cp rfl _) : CP prg 10 [] [bG a1, .cells 48 [vs a3, i6 a4]] = some (vb x19)) apn))))
                ·
                 rw [← sj h]
                 exact fq ([(125, .d true), (138, .d false), (6000, .d true)] ++ kH k82) (k82.b (av h17 (av h18 apn)))
               ·
                apply bi h <;> intro h18 h
                ·
                 have k83 := k82.a [(125, .d false), (132, .d true)] (av h17 (av h18 apn))
                 apply bi h <;> intro h19 h
                 ·
                  apply bn h; intro x20 h20 h
                  rw [← sj h]
                  exact fq ([(138, .d true), (141, .v (vb x20)), (6000, .d true)] ++ kH k83) (k83.b (av h19 (apc (((F10_ok  h20).cp rfl _) : CP prg 10 [] [bG a1, .cells 48 [vs a3, i6 a4]] = some (vb x20)) apn)))
                 ·
                  rw [← sj h]
                  exact fq ([(138, .d false), (6000, .d true)] ++ kH k83) (k83.b (av h19 apn))
                ·
                 have k84 := k82.a [(125, .d false), (132, .d false)] (av h17 (av h18 apn))
                 apply bn h; intro x19 h19 h
                 have q85 := (((F20_ok a1 a2 a3 a4 h19).cp rfl _) : CP prg 20 [aG a1, i6 a2, vs a3, i6 a4] [bG a1, .cells 48 [vs a3, i6 a4]] = some (vb x19))
                 apply bi h <;> intro h20 h
                 ·
                  have k86 := k84.a [(150, .v (vb x19)), (151, .d true)] (apc q85 (av h20 apn))
                  apply bi h <;> intro h21 h
                  ·
                   apply bn h; intro x22 h22 h
                   rw [← sj h]
                   exact fq ([(154, .d true), (157, .v (vb x22)), (6000, .d true)] ++ kH k86) (k86.b (av h21 (apc (((F10_ok  h22).cp rfl _) : CP prg 10 [] [bG a1, .cells 48 [vs a3, i6 a4]] = some (vb x22)) apn)))
                  ·
                   rw [← sj h]
                   exact fq ([(154, .d false), (6000, .d true)] ++ kH k86) (k86.b (av h21 apn))
                 ·
                  rw [← sj h]
                  exact fq ([(150, .v (vb x19)), (151, .d false), (6000, .d true)] ++ kH k84) (k84.b (apc q85 (av h20 apn)))
end
end Go.Proofs.Try
