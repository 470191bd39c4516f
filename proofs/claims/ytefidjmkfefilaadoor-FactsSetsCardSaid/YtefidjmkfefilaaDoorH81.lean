/- Decompiled by a program: functions as plain data see them, part 1. -/
import Derived.Test.YtefidjmkfefilaaDoorW8
namespace Go.Proofs.Tryd
set_option linter.unusedSimpArgs false
set_option linter.unusedVariables false
open Go Go.Vs
noncomputable section
inductive E_L10_0 where
  | k0
  | k1
section
variable (a1 : GramD)
def OQ (v1 : Int) : Option (E_L10_0 ⊕ (Int)) :=
  (bif (decide (v1 < (a1.prods.length : Int))) then ((getI a1.prods v1).bind fun x2 => (bif (decide ((x2.right.length : Int) > 31)) then (some (.inl (.k0))) else (bif (decide ((x2.cons.size : Int) > 200)) then (some (.inl (.k0))) else (some (.inr ((IntKind.wrap .i64 (v1 + 1)))))))) else (some (.inl (.k1))))
def Gy (v1 : Int) : St := ⟨fr 51 ug [(1, .ptr 0 0), (3, i6 v1)], [bG a1]⟩
theorem MF (v1 : Int) : okT 1 (Gy a1 v1).h = true := (Zr rfl (ac rfl))
abbrev VW (v1 : Int) := evH prg 1 [1, 3] HW (Gy a1 v1)
def MG (e : E_L10_0) (r : Option (Out × St)) : Prop := match e with | .k0 => ∃ g y, r = some (.ret, ⟨fr 51 g [(2, vb true)], y⟩) | .k1 => ∃ g, r = some ((.brk 0), ⟨fr 51 g [(1, .ptr 0 0)], [bG a1]⟩)
theorem Di (v1 : Int) {r : E_L10_0 ⊕ (Int)} (h : OQ a1 v1 = some r) : OkR (fun e => MG a1 e (VW a1 v1)) (fun s => VW a1 v1 = VW a1 s) r := by
 unfold OQ at h
 have k0 := ka [(29, .v (i6 (lP a1)))] (apc (lg a1.prods Zl 7) apn)
 apply bi h <;> intro h1 h
 ·
  apply bn h; intro x2 h2 h
  have k1 := k0.a [(30, .d true), (36, .v (.ro (Zl x2))), (39, .v (i6 (x2.right.length : Int)))] (av h1 (apc (ig Zl 7 .i64 h2) (apc (lg x2.right eSym 6) apn)))
  apply bi h <;> intro h3 h
  ·
   rw [← sj h]
   exact xy (kH k1 ++ [(40, .d true), (6000, .d true)]) (k1.b (av h3 apn))
  ·
   have k2 := k1.a [(40, .d false), (45, .v (.ro (Zl x2)))] (av h3 (apc (ig Zl 7 .i64 h2) apn))
   apply bi h <;> intro h4 h
   ·
    rw [← sj h]
    exact xy (kH k2 ++ [(49, .d true), (6000, .d true)]) (k2.b (av h4 apn))
   ·
    rw [← sj h]
    exact rn (kH k2 ++ [(49, .d false), (6000, .d true)]) (k2.b (av h4 (apc (MF a1 (w6 (v1 + 1))) apn)))
 ·
  rw [← sj h]
  exact xb (kH k0 ++ [(30, .d false), (6000, .d true)]) (k0.b (av h1 apn))
theorem OR (s0 : Int) (e : E_L10_0) (h : runL (fun s => OQ a1 s) s0 = some e) : MG a1 e (VW a1 s0) := by
  have q := @Zb (Int) E_L10_0 (fun s => OQ a1 s) (fun s => VW a1 s) (MG a1) (fun s r h => Di a1 s h) s0 e h
  exact q
end
def Zb7 (a1 : GramD) (x0 : Bool) : AV := (vb x0)
def F10 (a1 : GramD) : Option Bool :=
  (bif (decide ((a1.sorts.length : Int) > 40)) then (some true) else (bif (decide ((a1.prods.length : Int) > 80)) then (some true) else (bif (decide ((a1.forbid.length : Int) > 200)) then (some true) else (bif (decide ((a1.follow.length : Int) > 200)) then (some true) else ((runL (fun s => OQ a1 s) 0).bind fun r5 => match r5 with | .k0 => (some true) | .k1 => (some false))))))
theorem Cy (a1 : GramD) {r : Bool} (h : F10 a1 = some r) : PR1 prg 10 [aG a1] (Zb7 a1 r) := by
 unfold F10 at h
 have k0 := ka [(6, .v (i6 (lS a1)))] (apc (lg a1.sorts eStr 1) apn)
 apply bi h <;> intro h1 h
 ·
  rw [← sj h]
  exact fq (kH k0 ++ [(7, .d true)]) (k0.b (av h1 apn))
 ·
  have k1 := k0.a [(7, .d false), (11, .v (i6 (lP a1)))] (av h1 (apc (lg a1.prods Zl 7) apn))
  apply bi h <;> intro h2 h
  ·
   rw [← sj h]
   exact fq (kH k1 ++ [(12, .d true)]) (k1.b (av h2 apn))
  ·
   have k2 := k1.a [(12, .d false), (17, .v (i6 (lF a1)))] (av h2 (apc (lg a1.forbid Z6 3) apn))
   apply bi h <;> intro h3 h
   ·
    rw [← sj h]
    exact fq (kH k2 ++ [(18, .d true)]) (k2.b (av h3 apn))
   ·
    have k3 := k2.a [(18, .d false), (23, .v (i6 (lW a1)))] (av h3 (apc (lg a1.follow Z8 5) apn))
    apply bi h <;> intro h4 h
    ·
     rw [← sj h]
     exact fq (kH k3 ++ [(24, .d true)]) (k3.b (av h4 apn))
    ·
     apply bn h; intro r5 h5 h
     cases r5 with
     | k0 =>
      obtain ⟨g5, y5, e5⟩ := OR a1 0 _ h5
      rw [← sj h]
      exact fq (kH k3 ++ [(24, .d false), (2000, .l .ret ⟨fr 51 g5 [(2, vb true)], y5⟩), (6000, .d true)]) (k3.b (av h4 (apc (MF a1 0) (apc (e5 : VW a1 0 = some (.ret, ⟨fr 51 g5 [(2, vb true)], y5⟩)) apn))))
     | k1 =>
      obtain ⟨g5, e5⟩ := OR a1 0 _ h5
      rw [← sj h]
      exact fq (kH k3 ++ [(24, .d false), (2000, .l (.brk 0) ⟨fr 51 g5 [(1, .ptr 0 0)], [bG a1]⟩), (6000, .d true)]) (k3.b (av h4 (apc (MF a1 0) (apc (e5 : VW a1 0 = some ((.brk 0), ⟨fr 51 g5 [(1, .ptr 0 0)], [bG a1]⟩)) apn))))
def Zb8 (a1 : GramD) (x0 : Bool) : AV := (vb x0)
def F41 (a1 : GramD) : Option Bool :=
  (bif (decide (a1.start ≥ 0)) then (some (decide (a1.start < (a1.sorts.length : Int)))) else (some false))
theorem Cz (a1 : GramD) {r : Bool} (h : F41 a1 = some r) : PR1 prg 41 [aG a1, i6 a1.start] (Zb8 a1 r) := by
 unfold F41 at h
 apply bi h <;> intro h1 h
 ·
  rw [← sj h]
  exact fq [(6, .d true), (11, .v (i6 (lS a1)))] (av h1 (apc (lg a1.sorts eStr 1) apn))
 ·
  rw [← sj h]
  exact fq [(6, .d false)] (av h1 apn)
inductive E_L12_5 where
  | k0
  | k1
section
variable (a1 : Int) (a2 : GramD)
def OS (v1 : Int) : Option (E_L12_5 ⊕ (Int)) :=
  (bif (decide (v1 < a1)) then ((getI a2.sorts v1).bind fun x2 => ((getI a2.sorts a1).bind fun x3 => (bif (x2.toList == x3.toList) then (some (.inl (.k0))) else (some (.inr ((IntKind.wrap .i64 (v1 + 1)))))))) else (some (.inl (.k1))))
def Gz (v1 : Int) : St := ⟨fr 160 ug [(1, .ptr 0 0), (3, i6 a1), (4, i6 v1)], [bG a2]⟩
theorem MH (v1 : Int) : okT 1 (Gz a1 a2 v1).h = true := (Zr rfl (ac rfl))
abbrev VX (v1 : Int) := evH prg 1 [1, 3, 4] H3 (Gz a1 a2 v1)
def MI (e : E_L12_5) (r : Option (Out × St)) : Prop := match e with | .k0 => ∃ g y, r = some (.ret, ⟨fr 160 g [(2, i6 160)], y⟩) | .k1 => ∃ g, r = some ((.brk 2), ⟨fr 160 g [(1, .ptr 0 0), (3, i6 a1)], [bG a2]⟩)
theorem Dj (v1 : Int) {r : E_L12_5 ⊕ (Int)} (h : OS a1 a2 v1 = some r) : OkR (fun e => MI a1 a2 e (VX a1 a2 v1)) (fun s => VX a1 a2 v1 = VX a1 a2 s) r := by
 unfold OS at h
 apply bi h <;> intro h1 h
 ·
  apply bn h; intro x2 h2 h
  have k0 := ka [(57, .d true), (63, .v (.ro [.val (.string x2)]))] (av h1 (apc (ig eStr 1 .i64 h2) apn))
  apply bn h; intro x3 h3 h
  have k1 := k0.a [(68, .v (.ro [.val (.string x3)]))] (apc (ig eStr 1 .i64 h3) apn)
  apply bi h <;> intro h4 h
  ·
   rw [← sj h]
   exact xy (kH k1 ++ [(70, .d true), (6000, .d true)]) (k1.b (av h4 apn))
  ·
   rw [← sj h]
   exact rn (kH k1 ++ [(70, .d false), (6000, .d true)]) (k1.b (av h4 (apc (MH a1 a2 (w6 (v1 + 1))) apn)))
 ·
  rw [← sj h]
  exact xb [(57, .d false), (6000, .d true)] (av h1 apn)
theorem OT (s0 : Int) (e : E_L12_5) (h : runL (fun s => OS a1 a2 s) s0 = some e) : MI a1 a2 e (VX a1 a2 s0) := by
  have q := @Zb (Int) E_L12_5 (fun s => OS a1 a2 s) (fun s => VX a1 a2 s) (MI a1 a2) (fun s r h => Dj a1 a2 s h) s0 e h
  exact q
end
inductive E_L12_6 where
  | k0
  | k1
section
variable (a1 : GramD)
def OU (v1 : Int) : Option (E_L12_6 ⊕ (Int)) :=
  (bif (decide (v1 < (a1.sorts.length : Int))) then ((getI a1.sorts v1).bind fun x2 => (bif (x2.toList == (⟨([] : List UInt8).toArray⟩ : ByteArray).toList) then (some (.inl (.k0))) else (bif (decide ((x2.size : Int) > 1000)) then (some (.inl (.k0))) else ((runL (fun s => OS v1 a1 s) 0).bind fun r5 => match r5 with | .k0 => (some (.inl (.k0))) | .k1 => (some (.inr ((IntKind.wrap .i64 (v1 + 1))))))))) else (some (.inl (.k1))))
def GA (v1 : Int) : St := ⟨fr 160 ug [(1, .ptr 0 0), (3, i6 v1)], [bG a1]⟩
theorem MJ (v1 : Int) : okT 1 (GA a1 v1).h = true := (Zr rfl (ac rfl))
abbrev VY (v1 : Int) := evH prg 1 [1, 3] H4 (GA a1 v1)
def MK (e : E_L12_6) (r : Option (Out × St)) : Prop := match e with | .k0 => ∃ g y, r = some (.ret, ⟨fr 160 g [(2, i6 160)], y⟩) | .k1 => ∃ g, r = some ((.brk 0), ⟨fr 160 g [(1, .ptr 0 0)], [bG a1]⟩)
abbrev Ky (g5 : Nat → AV) (v1 : Int) : St := ⟨fr 160 g5 [(1, .ptr 0 0), (3, i6 v1)], [bG a1]⟩
theorem Dk (v1 : Int) {r : E_L12_6 ⊕ (Int)} (h : OU a1 v1 = some r) : OkR (fun e => MK a1 e (VY a1 v1)) (fun s => VY a1 v1 = VY a1 s) r := by
 unfold OU at h
 have k0 := ka [(36, .v (i6 (lS a1)))] (apc (lg a1.sorts eStr 1) apn)
 apply bi h <;> intro h1 h
 ·
  apply bn h; intro x2 h2 h
  have k1 := k0.a [(37, .d true), (43, .v (.ro [.val (.string x2)]))] (av h1 (apc (ig eStr 1 .i64 h2) apn))
  apply bi h <;> intro h3 h
  ·
   rw [← sj h]
   exact xy (kH k1 ++ [(45, .d true), (6000, .d true)]) (k1.b (av h3 apn))
  ·
   have k2 := k1.a [(45, .d false), (50, .v (.ro [.val (.string x2)]))] (av h3 (apc (ig eStr 1 .i64 h2) apn))
   apply bi h <;> intro h4 h
   ·
    rw [← sj h]
    exact xy (kH k2 ++ [(53, .d true), (6000, .d true)]) (k2.b (av h4 apn))
   ·
    apply bn h; intro r5 h5 h
    cases r5 with
    | k0 =>
     obtain ⟨g5, y5, e5⟩ := OT v1 a1 0 _ h5
     rw [← sj h]
     exact xy (kH k2 ++ [(53, .d false), (2002, .l .ret ⟨fr 160 g5 [(2, i6 160)], y5⟩), (6000, .d true)]) (k2.b (av h4 (apc (MH v1 a1 0) (apc (e5 : VX v1 a1 0 = some (.ret, ⟨fr 160 g5 [(2, i6 160)], y5⟩)) apn))))
    | k1 =>
     obtain ⟨g5, e5⟩ := OT v1 a1 0 _ h5
     rw [← sj h]
     exact rn (kH k2 ++ [(53, .d false), (2002, .l (.brk 2) (Ky a1 g5 v1)), (6000, .d true)]) (k2.b (av h4 (apc (MH v1 a1 0) (apc (e5 : VX v1 a1 0 = some ((.brk 2), Ky a1 g5 v1)) (apc (MJ a1 (w6 (v1 + 1))) apn)))))
 ·
  rw [← sj h]
  exact xb (kH k0 ++ [(37, .d false), (6000, .d true)]) (k0.b (av h1 apn))
theorem OV (s0 : Int) (e : E_L12_6) (h : runL (fun s => OU a1 s) s0 = some e) : MK a1 e (VY a1 s0) := by
  have q := @Zb (Int) E_L12_6 (fun s => OU a1 s) (fun s => VY a1 s) (MK a1) (fun s r h => Dk a1 s h) s0 e h
  exact q
end
def A4 (a1 : GramD) (a2 : ProdD) (x0 : Bool) : AV := (vb x0)
def Dl (a1 : GramD) (a2 : ProdD) : Option Bool :=
  (bif (decide (a2.left ≥ 0)) then (some (decide (a2.left < (a1.sorts.length : Int)))) else (some false))
theorem Kz (a1 : GramD) (a2 : ProdD) {r : Bool} (h : Dl a1 a2 = some r) : PR1 prg 41 [aG a1, i6 a2.left] (A4 a1 a2 r) := by
 unfold Dl at h
 apply bi h <;> intro h1 h
 ·
  rw [← sj h]
  exact fq [(6, .d true), (11, .v (i6 (lS a1)))] (av h1 (apc (lg a1.sorts eStr 1) apn))
 ·
  rw [← sj h]
  exact fq [(6, .d false)] (av h1 apn)
def Zb9 (a1 : SymD) (x0 : Bool) : AV := (vb x0)
def F44 (a1 : SymD) : Option Bool :=
  (some ((IntKind.wrap .u64 ((BitVec.ofInt (IntKind.bits .u64) (IntKind.wrap .u64 ((BitVec.ofInt (IntKind.bits .u64) (IntKind.wrap .u64 ((BitVec.ofInt (IntKind.bits .u64) a1.a ||| BitVec.ofInt (IntKind.bits .u64) a1.b).toNat : Int)) ||| BitVec.ofInt (IntKind.bits .u64) a1.c).toNat : Int)) ||| BitVec.ofInt (IntKind.bits .u64) a1.d).toNat : Int)) == 0))
theorem QD (a1 : SymD) {r : Bool} (h : F44 a1 = some r) : PR1 prg 44 [(.agg ((List.take 4 (List.drop 1 (eSym a1))).map .p))] (Zb9 a1 r) := by
 unfold F44 at h
 rw [← sj h]
 exact fq [] apn
def A5 (a1 : GramD) (a2 : SymD) (x0 : Bool) : AV := (vb x0)
def GB (a1 : GramD) (a2 : SymD) : Option Bool :=
  (bif (decide (a2.sort ≥ 0)) then (some (decide (a2.sort < (a1.sorts.length : Int)))) else (some false))
theorem T9 (a1 : GramD) (a2 : SymD) {r : Bool} (h : GB a1 a2 = some r) : PR1 prg 41 [aG a1, i6 a2.sort] (A5 a1 a2 r) := by
 unfold GB at h
 apply bi h <;> intro h1 h
 ·
  rw [← sj h]
  exact fq [(6, .d true), (11, .v (i6 (lS a1)))] (av h1 (apc (lg a1.sorts eStr 1) apn))
 ·
  rw [← sj h]
  exact fq [(6, .d false)] (av h1 apn)
inductive E_L42_0 where
  | k0
  | k1
section
variable (a1 : GramD) (a2 : ProdD)
def Ra (v1 : Int) : Option (E_L42_0 ⊕ (Int)) :=
  (bif (decide (v1 < (a2.right.length : Int))) then ((getI a2.right v1).bind fun x2 => (bif (x2.kind == 0) then ((F44 x2).bind fun x4 => (bif x4 then (some (.inl (.k0))) else (bif (x2.sort != 0) then (some (.inl (.k0))) else (bif (x2.kind == 1) then ((F44 x2).bind fun x8 => (bif x8 then ((GB a1 x2).bind fun x10 => (bif x10 then (bif (a2.role == 11) then (some (.inl (.k0))) else (bif (x2.kind != 0) then (bif (x2.kind != 1) then (some (.inl (.k0))) else (some (.inr ((IntKind.wrap .i64 (v1 + 1)))))) else (some (.inr ((IntKind.wrap .i64 (v1 + 1))))))) else (some (.inl (.k0))))) else (some (.inl (.k0))))) else (bif (x2.kind != 0) then (bif (x2.kind != 1) then (some (.inl (.k0))) else (some (.inr ((IntKind.wrap .i64 (v1 + 1)))))) else (some (.inr ((IntKind.wrap .i64 (v1 + 1)))))))))) else (bif (x2.kind == 1) then ((F44 x2).bind fun x5 => (bif x5 then ((GB a1 x2).bind fun x7 => (bif x7 then (bif (a2.role == 11) then (some (.inl (.k0))) else (bif (x2.kind != 0) then (bif (x2.kind != 1) then (some (.inl (.k0))) else (some (.inr ((IntKind.wrap .i64 (v1 + 1)))))) else (some (.inr ((IntKind.wrap .i64 (v1 + 1))))))) else (some (.inl (.k0))))) else (some (.inl (.k0))))) else (bif (x2.kind != 0) then (bif (x2.kind != 1) then (some (.inl (.k0))) else (some (.inr ((IntKind.wrap .i64 (v1 + 1)))))) else (some (.inr ((IntKind.wrap .i64 (v1 + 1))))))))) else (some (.inl (.k1))))
def GC (v1 : Int) : St := ⟨fr 111 ug [(2, .ptr 0 0), (3, .ptr 1 0), (5, i6 v1)], [bG a1, bP a2]⟩
theorem Ym (v1 : Int) : okT 2 (GC a1 a2 v1).h = true := (Zr rfl (ac (ac rfl)))
abbrev YL (v1 : Int) := evH prg 2 [2, 3, 5] Gh (GC a1 a2 v1)
def ML (e : E_L42_0) (r : Option (Out × St)) : Prop := match e with | .k0 => ∃ g y, r = some (.ret, ⟨fr 111 g [(4, vb false)], y⟩) | .k1 => ∃ g, r = some ((.brk 0), ⟨fr 111 g [(2, .ptr 0 0), (3, .ptr 1 0)], [bG a1, bP a2]⟩)
abbrev YY (x2 : SymD) : List AB := [bG a1, bP a2, .cells 48 ((eSym x2).map .p)]
theorem Dm (v1 : Int) {r : E_L42_0 ⊕ (Int)} (h : Ra a1 a2 v1 = some r) : OkR (fun e => ML a1 a2 e (YL a1 a2 v1)) (fun s => YL a1 a2 v1 = YL a1 a2 s) r := by
 unfold Ra at h
 have k0 := ka [(60, .v (i6 (a2.right.length : Int)))] (apc (lg a2.right eSym 6) apn)
 apply bi h <;> intro h1 h
 ·
  apply bn h; intro x2 h2 h
  have k1 := k0.a [(61, .d true), (67, .v (.ro (eSym x2)))] (av h1 (apc (ig eSym 6 .i64 h2) apn))
  apply bi h <;> intro h3 h
  ·
   apply bn h; intro x4 h4 h
   apply bi h <;> intro h5 h
   ·
    rw [← sj h]
    exact xy (kH k1 ++ [(71, .d true), (75, .v (vb true)), (6000, .d true)]) (k1.b (av h3 (apc ((((QD x2 h4).cp rfl _).trans (congrArg (fun z => some (vb z)) h5)) : CP prg 44 [(.agg ((List.take 4 (List.drop 1 (eSym x2))).map .p))] (YY a1 a2 x2) = some (vb true)) apn)))
   ·
    have q2 := ((((QD x2 h4).cp rfl _).trans (congrArg (fun z => some (vb z)) h5)) : CP prg 44 [(.agg ((List.take 4 (List.drop 1 (eSym x2))).map .p))] (YY a1 a2 x2) = some (vb false))
    have k3 := k1.a [(71, .d true), (75, .v (vb false))] (av h3 (apc q2 apn))
    apply bi h <;> intro h6 h
    ·
     rw [← sj h]
     exact xy (kH k3 ++ [(79, .d true), (6000, .d true)]) (k3.b (av h6 apn))
    ·
     apply bi h <;> intro h7 h
     ·
      have k4 := k3.a [(79, .d false), (84, .d true)] (av h6 (av h7 apn))
      apply bn h; intro x8 h8 h
      apply bi h <;> intro h9 h
      ·
       have q5 := ((((QD x2 h8).cp rfl _).trans (congrArg (fun z => some (vb z)) h9)) : CP prg 44 [(.agg ((List.take 4 (List.drop 1 (eSym x2))).map .p))] (YY a1 a2 x2) = some (vb true))
       apply bn h; intro x10 h10 h
       apply bi h <;> intro h11 h
       ·
        have q6 := ((((T9 a1 x2 h10).cp rfl _).trans (congrArg (fun z => some (vb z)) h11)) : CP prg 41 [aG a1, i6 x2.sort] (YY a1 a2 x2) = some (vb true))
        have k7 := k4.a [(88, .v (vb true)), (94, .v (vb true))] (apc q5 (apc q6 apn))
        apply bi h <;> intro h12 h
        ·
         rw [← sj h]
         exact xy (kH k7 ++ [(100, .d true), (6000, .d true)]) (k7.b (av h12 apn))
        ·
         apply bi h <;> intro h13 h
         ·
          have k8 := k7.a [(100, .d false), (105, .d true)] (av h12 (av h13 apn))
          apply bi h <;> intro h14 h
          ·
           rw [← sj h]
           exact xy (kH k8 ++ [(109, .d true), (6000, .d true)]) (k8.b (av h14 apn))
          ·
           rw [← sj h]
           exact rn (kH k8 ++ [(109, .d false), (6000, .d true)]) (k8.b (av h14 (apc (Ym a1 a2 (w6 (v1 + 1))) apn)))
         ·
          rw [← sj h]
          exact rn (kH k7 ++ [(100, .d false), (105, .d false), (6000, .d true)]) (k7.b (av h12 (av h13 (apc (Ym a1 a2 (w6 (v1 + 1))) apn))))
       ·
        rw [← sj h]
        exact xy (kH k4 ++ [(88, .v (vb true)), (94, .v (vb false)), (6000, .d true)]) (k4.b (apc q5 (apc ((((T9 a1 x2 h10).cp rfl _).trans (congrArg (fun z => some (vb z)) h11)) : CP prg 41 [aG a1, i6 x2.sort] (YY a1 a2 x2) = some (vb false)) apn)))
      ·
       rw [← sj h]
       exact xy (kH k4 ++ [(88, .v (vb false)), (6000, .d true)]) (k4.b (apc ((((QD x2 h8).cp rfl _).trans (congrArg (fun z => some (vb z)) h9)) : CP prg 44 [(.agg ((List.take 4 (List.drop 1 (eSym x2))).map .p))] (YY a1 a2 x2) = some (vb false)) apn))
     ·
      have k9 := k3.a [(79, .d false), (84, .d false)] (av h6 (av h7 apn))
      apply bi h <;> intro h8 h
      ·
       apply bi h <;> intro h9 h
       ·
        rw [← sj h]
        exact xy (kH k9 ++ [(105, .d true), (109, .d true), (6000, .d true)]) (k9.b (av h8 (av h9 apn)))
       ·
        rw [← sj h]
        exact rn (kH k9 ++ [(105, .d true), (109, .d false), (6000, .d true)]) (k9.b (av h8 (av h9 (apc (Ym a1 a2 (w6 (v1 + 1))) apn))))
      ·
       rw [← sj h]
       exact rn (kH k9 ++ [(105, .d false), (6000, .d true)]) (k9.b (av h8 (apc (Ym a1 a2 (w6 (v1 + 1))) apn)))
  ·
   apply bi h <;> intro h4 h
   ·
    have k10 := k1.a [(71, .d false), (84, .d true)] (av h3 (av h4 apn))
    apply bn h; intro x5 h5 h
    apply bi h <;> intro h6 h
    ·
     have q11 := ((((QD x2 h5).cp rfl _).trans (congrArg (fun z => some (vb z)) h6)) : CP prg 44 [(.agg ((List.take 4 (List.drop 1 (eSym x2))).map .p))] (YY a1 a2 x2) = some (vb true))
     apply bn h; intro x7 h7 h
     apply bi h <;> intro h8 h
     ·
      have q12 := ((((T9 a1 x2 h7).cp rfl _).trans (congrArg (fun z => some (vb z)) h8)) : CP prg 41 [aG a1, i6 x2.sort] (YY a1 a2 x2) = some (vb true))
      have k13 := k10.a [(88, .v (vb true)), (94, .v (vb true))] (apc q11 (apc q12 apn))
      apply bi h <;> intro h9 h
      ·
       rw [← sj h]
       exact xy (kH k13 ++ [(100, .d true), (6000, .d true)]) (k13.b (av h9 apn))
      ·
       apply bi h <;> intro h10 h
       ·
        have k14 := k13.a [(100, .d false), (105, .d true)] (av h9 (av h10 apn))
        apply bi h <;> intro h11 h
        ·
         rw [← sj h]
         exact xy (kH k14 ++ [(109, .d true), (6000, .d true)]) (k14.b (av h11 apn))
        ·
         rw [← sj h]
         exact rn (kH k14 ++ [(109, .d false), (6000, .d true)]) (k14.b (av h11 (apc (Ym a1 a2 (w6 (v1 + 1))) apn)))
       ·
        rw [← sj h]
        exact rn (kH k13 ++ [(100, .d false), (105, .d false), (6000, .d true)]) (k13.b (av h9 (av h10 (apc (Ym a1 a2 (w6 (v1 + 1))) apn))))
     ·
      rw [← sj h]
      exact xy (kH k10 ++ [(88, .v (vb true)), (94, .v (vb false)), (6000, .d true)]) (k10.b (apc q11 (apc ((((T9 a1 x2 h7).cp rfl _).trans (congrArg (fun z => some (vb z)) h8)) : CP prg 41 [aG a1, i6 x2.sort] (YY a1 a2 x2) = some (vb false)) apn)))
    ·
     rw [← sj h]
     exact xy (kH k10 ++ [(88, .v (vb false)), (6000, .d true)]) (k10.b (apc ((((QD x2 h5).cp rfl _).trans (congrArg (fun z => some (vb z)) h6)) : CP prg 44 [(.agg ((List.take 4 (List.drop 1 (eSym x2))).map .p))] (YY a1 a2 x2) = some (vb false)) apn))
   ·
    have k15 := k1.a [(71, .d false), (84, .d false)] (av h3 (av h4 apn))
    apply bi h <;> intro h5 h
    ·
     apply bi h <;> intro h6 h
     ·
      rw [← sj h]
      exact xy (kH k15 ++ [(105, .d true), (109, .d true), (6000, .d true)]) (k15.b (av h5 (av h6 apn)))
     ·
      rw [← sj h]
      exact rn (kH k15 ++ [(105, .d true), (109, .d false), (6000, .d true)]) (k15.b (av h5 (av h6 (apc (Ym a1 a2 (w6 (v1 + 1))) apn))))
    ·
     rw [← sj h]
     exact rn (kH k15 ++ [(105, .d false), (6000, .d true)]) (k15.b (av h5 (apc (Ym a1 a2 (w6 (v1 + 1))) apn)))
 ·
  rw [← sj h]
  exact xb (kH k0 ++ [(61, .d false), (6000, .d true)]) (k0.b (av h1 apn))
theorem Y3 (s0 : Int) (e : E_L42_0) (h : runL (fun s => Ra a1 a2 s) s0 = some e) : ML a1 a2 e (YL a1 a2 s0) := by
  have q := @Zb (Int) E_L42_0 (fun s => Ra a1 a2 s) (fun s => YL a1 a2 s) (ML a1 a2) (fun s r h => Dm a1 a2 s h) s0 e h
  exact q
end
def Zca (a1 : GramD) (a2 : ProdD) (x0 : Bool) : AV := (vb x0)
def F42 (a1 : GramD) (a2 : ProdD) : Option Bool :=
  ((Dl a1 a2).bind fun x1 => (bif x1 then (bif (decide ((a2.right.length : Int) > 30)) then (some false) else (bif (decide (a2.role < 0)) then (some false) else (bif (decide (a2.role > 11)) then (some false) else (bif (decide (a2.frm < (-1))) then (some false) else (bif (decide ((a2.cons.size : Int) > 64)) then (some false) else (bif (!(a2.cons.toList == (⟨([] : List UInt8).toArray⟩ : ByteArray).toList)) then (bif (a2.role != 0) then (some false) else (bif a2.prefer then (bif a2.avoid then (some false) else ((runL (fun s => Ra a1 a2 s) 0).bind fun r12 => match r12 with | .k0 => (some false) | .k1 => (some true))) else ((runL (fun s => Ra a1 a2 s) 0).bind fun r11 => match r11 with | .k0 => (some false) | .k1 => (some true)))) else (bif a2.prefer then (bif a2.avoid then (some false) else ((runL (fun s => Ra a1 a2 s) 0).bind fun r11 => match r11 with | .k0 => (some false) | .k1 => (some true))) else ((runL (fun s => Ra a1 a2 s) 0).bind fun r10 => match r10 with | .k0 => (some false) | .k1 => (some true))))))))) else (some false)))
abbrev CA (g12 : Nat → AV) (a1 : GramD) (a2 : ProdD) : St := ⟨fr 111 g12 [(2, .ptr 0 0), (3, .ptr 1 0)], [bG a1, bP a2]⟩
abbrev KA (g11 : Nat → AV) (a1 : GramD) (a2 : ProdD) : St := ⟨fr 111 g11 [(2, .ptr 0 0), (3, .ptr 1 0)], [bG a1, bP a2]⟩
abbrev CC (g10 : Nat → AV) (a1 : GramD) (a2 : ProdD) : St := ⟨fr 111 g10 [(2, .ptr 0 0), (3, .ptr 1 0)], [bG a1, bP a2]⟩
theorem CD (a1 : GramD) (a2 : ProdD) {r : Bool} (h : F42 a1 a2 = some r) : PR1 prg 42 [aG a1, aP a2] (Zca a1 a2 r) := by
 unfold F42 at h
 apply bn h; intro x1 h1 h
 apply bi h <;> intro h2 h
 ·
  have q0 := ((((Kz a1 a2 h1).cp rfl _).trans (congrArg (fun z => some (vb z)) h2)) : CP prg 41 [aG a1, i6 a2.left] [bG a1, bP a2] = some (vb true))
  have k1 := ka [(10, .v (vb true)), (15, .v (i6 (a2.right.length : Int)))] (apc q0 (apc (lg a2.right eSym 6) apn))
  apply bi h <;> intro h3 h
  ·
   rw [← sj h]
   exact fq (kH k1 ++ [(16, .d true)]) (k1.b (av h3 apn))
  ·
   apply bi h <;> intro h4 h
   ·
    rw [← sj h]
    exact fq (kH k1 ++ [(16, .d false), (21, .d true)]) (k1.b (av h3 (av h4 apn)))
   ·
    have k2 := k1.a [(16, .d false), (21, .d false)] (av h3 (av h4 apn))
    apply bi h <;> intro h5 h
    ·
     rw [← sj h]
     exact fq (kH k2 ++ [(26, .d true)]) (k2.b (av h5 apn))
    ·
     apply bi h <;> intro h6 h
     ·
      rw [← sj h]
      exact fq (kH k2 ++ [(26, .d false), (31, .d true)]) (k2.b (av h5 (av h6 apn)))
     ·
      have k3 := k2.a [(26, .d false), (31, .d false)] (av h5 (av h6 apn))
      apply bi h <;> intro h7 h
      ·
       rw [← sj h]
       exact fq (kH k3 ++ [(37, .d true)]) (k3.b (av h7 apn))
      ·
       apply bi h <;> intro h8 h
       ·
        have k4 := k3.a [(37, .d false), (42, .d true)] (av h7 (av h8 apn))
        apply bi h <;> intro h9 h
        ·
         rw [← sj h]
         exact fq (kH k4 ++ [(46, .d true)]) (k4.b (av h9 apn))
        ·
         apply bi h <;> intro h10 h
         ·
          have k5 := k4.a [(46, .d false), (51, .d true)] (av h9 (av h10 apn))
          apply bi h <;> intro h11 h
          ·
           rw [← sj h]
           exact fq (kH k5 ++ [(54, .d true)]) (k5.b (av h11 apn))
          ·
           apply bn h; intro r12 h12 h
           cases r12 with
           | k0 =>
            obtain ⟨g12, y12, e12⟩ := Y3 a1 a2 0 _ h12
            rw [← sj h]
            exact fq (kH k5 ++ [(54, .d false), (2000, .l .ret ⟨fr 111 g12 [(4, vb false)], y12⟩), (6000, .d true)]) (k5.b (av h11 (apc (Ym a1 a2 0) (apc (e12 : YL a1 a2 0 = some (.ret, ⟨fr 111 g12 [(4, vb false)], y12⟩)) apn))))
           | k1 =>
            obtain ⟨g12, e12⟩ := Y3 a1 a2 0 _ h12
            rw [← sj h]
            exact fq (kH k5 ++ [(54, .d false), (2000, .l (.brk 0) (CA g12 a1 a2)), (6000, .d true)]) (k5.b (av h11 (apc (Ym a1 a2 0) (apc (e12 : YL a1 a2 0 = some ((.brk 0), CA g12 a1 a2)) apn))))
         ·
          have k6 := k4.a [(46, .d false), (51, .d false)] (av h9 (av h10 apn))
          apply bn h; intro r11 h11 h
          cases r11 with
          | k0 =>
           obtain ⟨g11, y11, e11⟩ := Y3 a1 a2 0 _ h11
           rw [← sj h]
           exact fq (kH k6 ++ [(2000, .l .ret ⟨fr 111 g11 [(4, vb false)], y11⟩), (6000, .d true)]) (k6.b (apc (Ym a1 a2 0) (apc (e11 : YL a1 a2 0 = some (.ret, ⟨fr 111 g11 [(4, vb false)], y11⟩)) apn)))
          | k1 =>
           obtain ⟨g11, e11⟩ := Y3 a1 a2 0 _ h11
           rw [← sj h]
           exact fq (kH k6 ++ [(2000, .l (.brk 0) (KA g11 a1 a2)), (6000, .d true)]) (k6.b (apc (Ym a1 a2 0) (apc (e11 : YL a1 a2 0 = some ((.brk 0), KA g11 a1 a2)) apn)))
       ·
        have k7 := k3.a [(37, .d false), (42, .d false)] (av h7 (av h8 apn))
        apply bi h <;> intro h9 h
        ·
         apply bi h <;> intro h10 h
         ·
          rw [← sj h]
          exact fq (kH k7 ++ [(51, .d true), (54, .d true)]) (k7.b (av h9 (av h10 apn)))
         ·
          have k8 := k7.a [(51, .d true), (54, .d false)] (av h9 (av h10 apn))
          apply bn h; intro r11 h11 h
          cases r11 with
          | k0 =>
           obtain ⟨g11, y11, e11⟩ := Y3 a1 a2 0 _ h11
           rw [← sj h]
           exact fq (kH k8 ++ [(2000, .l .ret ⟨fr 111 g11 [(4, vb false)], y11⟩), (6000, .d true)]) (k8.b (apc (Ym a1 a2 0) (apc (e11 : YL a1 a2 0 = some (.ret, ⟨fr 111 g11 [(4, vb false)], y11⟩)) apn)))
          | k1 =>
           obtain ⟨g11, e11⟩ := Y3 a1 a2 0 _ h11
           rw [← sj h]
           exact fq (kH k8 ++ [(2000, .l (.brk 0) (KA g11 a1 a2)), (6000, .d true)]) (k8.b (apc (Ym a1 a2 0) (apc (e11 : YL a1 a2 0 = some ((.brk 0), KA g11 a1 a2)) apn)))
        ·
         apply bn h; intro r10 h10 h
         cases r10 with
         | k0 =>
          obtain ⟨g10, y10, e10⟩ := Y3 a1 a2 0 _ h10
          rw [← sj h]
          exact fq (kH k7 ++ [(51, .d false), (2000, .l .ret ⟨fr 111 g10 [(4, vb false)], y10⟩), (6000, .d true)]) (k7.b (av h9 (apc (Ym a1 a2 0) (apc (e10 : YL a1 a2 0 = some (.ret, ⟨fr 111 g10 [(4, vb false)], y10⟩)) apn))))
         | k1 =>
          obtain ⟨g10, e10⟩ := Y3 a1 a2 0 _ h10
          rw [← sj h]
          exact fq (kH k7 ++ [(51, .d false), (2000, .l (.brk 0) (CC g10 a1 a2)), (6000, .d true)]) (k7.b (av h9 (apc (Ym a1 a2 0) (apc (e10 : YL a1 a2 0 = some ((.brk 0), CC g10 a1 a2)) apn))))
 ·
  rw [← sj h]
  exact fq [(10, .v (vb false))] (apc ((((Kz a1 a2 h1).cp rfl _).trans (congrArg (fun z => some (vb z)) h2)) : CP prg 41 [aG a1, i6 a2.left] [bG a1, bP a2] = some (vb false)) apn)
inductive E_L12_4 where
  | k0
  | k1
section
variable (a1 : GramD)
def OW (v1 : Int) : Option (E_L12_4 ⊕ (Int)) :=
  (bif (decide (v1 < (a1.prods.length : Int))) then ((getI a1.prods v1).bind fun x2 => ((F42 a1 x2).bind fun x3 => (bif x3 then (some (.inr ((IntKind.wrap .i64 (v1 + 1))))) else (some (.inl (.k0)))))) else (some (.inl (.k1))))
def GD (v1 : Int) : St := ⟨fr 160 ug [(1, .ptr 0 0), (5, i6 v1)], [bG a1]⟩
theorem MM (v1 : Int) : okT 1 (GD a1 v1).h = true := (Zr rfl (ac rfl))
abbrev VZ (v1 : Int) := evH prg 1 [1, 5] H1 (GD a1 v1)
def MN (e : E_L12_4) (r : Option (Out × St)) : Prop := match e with | .k0 => ∃ g y, r = some (.ret, ⟨fr 160 g [(2, i6 160)], y⟩) | .k1 => ∃ g, r = some ((.brk 4), ⟨fr 160 g [(1, .ptr 0 0)], [bG a1]⟩)
theorem Dn (v1 : Int) {r : E_L12_4 ⊕ (Int)} (h : OW a1 v1 = some r) : OkR (fun e => MN a1 e (VZ a1 v1)) (fun s => VZ a1 v1 = VZ a1 s) r := by
 unfold OW at h
 have k0 := ka [(74, .v (i6 (lP a1)))] (apc (lg a1.prods Zl 7) apn)
 apply bi h <;> intro h1 h
 ·
  apply bn h; intro x2 h2 h
  have k1 := k0.a [(75, .d true), (82, .v (.ro (Zl x2)))] (av h1 (apc (ig Zl 7 .i64 h2) apn))
  apply bn h; intro x3 h3 h
  apply bi h <;> intro h4 h
  ·
   rw [← sj h]
   exact rn (kH k1 ++ [(84, .v (vb true)), (6000, .d true)]) (k1.b (apc ((((CD a1 x2 h3).cp rfl _).trans (congrArg (fun z => some (vb z)) h4)) : CP prg 42 [aG a1, aP x2] [bG a1] = some (vb true)) (apc (MM a1 (w6 (v1 + 1))) apn)))
  ·
   rw [← sj h]
   exact xy (kH k1 ++ [(84, .v (vb false)), (6000, .d true)]) (k1.b (apc ((((CD a1 x2 h3).cp rfl _).trans (congrArg (fun z => some (vb z)) h4)) : CP prg 42 [aG a1, aP x2] [bG a1] = some (vb false)) apn))
 ·
  rw [← sj h]
  exact xb (kH k0 ++ [(75, .d false), (6000, .d true)]) (k0.b (av h1 apn))
theorem OX (s0 : Int) (e : E_L12_4) (h : runL (fun s => OW a1 s) s0 = some e) : MN a1 e (VZ a1 s0) := by
  have q := @Zb (Int) E_L12_4 (fun s => OW a1 s) (fun s => VZ a1 s) (MN a1) (fun s r h => Dn a1 s h) s0 e h
  exact q
end
def Zcb (a1 : GramD) (a2 : ForbD) (x0 : Bool) : AV := (vb x0)
def F43 (a1 : GramD) (a2 : ForbD) : Option Bool :=
  (bif (decide (a2.parent < 0)) then (some false) else (bif (decide (a2.parent ≥ (a1.prods.length : Int))) then (some false) else (bif (decide (a2.child < 0)) then (some false) else (bif (decide (a2.child ≥ (a1.prods.length : Int))) then (some false) else ((getI a1.prods a2.parent).bind fun x5 => (bif (x5.role == 11) then (some false) else ((getI a1.prods a2.child).bind fun x7 => (bif (x7.role == 11) then (some false) else (bif (decide (a2.at_ < 1)) then (some false) else (bif (decide (a2.at_ > (x5.right.length : Int))) then (some false) else ((getI x5.right (IntKind.wrap .i64 (a2.at_ - 1))).bind fun x11 => (bif (x11.kind == 1) then (some (x11.sort == x7.left)) else (some false)))))))))))))
theorem CE (a1 : GramD) (a2 : ForbD) {r : Bool} (h : F43 a1 a2 = some r) : PR1 prg 43 [aG a1, (.agg ((Z6 a2).map .p))] (Zcb a1 a2 r) := by
 unfold F43 at h
 apply bi h <;> intro h1 h
 ·
  rw [← sj h]
  exact fq [(8, .d true)] (av h1 apn)
 ·
  have k0 := ka [(8, .d false), (14, .v (i6 (lP a1)))] (av h1 (apc (lg a1.prods Zl 7) apn))
  apply bi h <;> intro h2 h
  ·
   rw [← sj h]
   exact fq (kH k0 ++ [(15, .d true)]) (k0.b (av h2 apn))
  ·
   apply bi h <;> intro h3 h
   ·
    rw [← sj h]
    exact fq (kH k0 ++ [(15, .d false), (20, .d true)]) (k0.b (av h2 (av h3 apn)))
   ·
    have k1 := k0.a [(15, .d false), (20, .d false), (27, .v (i6 (lP a1)))] (av h2 (av h3 (apc (lg a1.prods Zl 7) apn)))
    apply bi h <;> intro h4 h
    ·
     rw [← sj h]
     exact fq (kH k1 ++ [(28, .d true)]) (k1.b (av h4 apn))
    ·
     apply bn h; intro x5 h5 h
     have k2 := k1.a [(28, .d false), (35, .v (.ro (Zl x5)))] (av h4 (apc (ig Zl 7 .i64 h5) apn))
     apply bi h <;> intro h6 h
     ·
      rw [← sj h]
      exact fq (kH k2 ++ [(38, .d true)]) (k2.b (av h6 apn))
     ·
      apply bn h; intro x7 h7 h
      have k3 := k2.a [(38, .d false), (45, .v (.ro (Zl x7)))] (av h6 (apc (ig Zl 7 .i64 h7) apn))
      apply bi h <;> intro h8 h
      ·
       rw [← sj h]
       exact fq (kH k3 ++ [(48, .d true)]) (k3.b (av h8 apn))
      ·
       apply bi h <;> intro h9 h
       ·
        rw [← sj h]
        exact fq (kH k3 ++ [(48, .d false), (52, .d true)]) (k3.b (av h8 (av h9 apn)))
       ·
        have k4 := k3.a [(48, .d false), (52, .d false), (60, .v (.ro (Zl x5))), (63, .v (i6 (x5.right.length : Int)))] (av h8 (av h9 (apc (ig Zl 7 .i64 h5) (apc (lg x5.right eSym 6) apn))))
        apply bi h <;> intro h10 h
        ·
         rw [← sj h]
         exact fq (kH k4 ++ [(64, .d true)]) (k4.b (av h10 apn))
        ·
         have k5 := k4.a [(64, .d false), (70, .v (.ro (Zl x5)))] (av h10 (apc (ig Zl 7 .i64 h5) apn))
         apply bn h; intro x11 h11 h
         apply bi h <;> intro h12 h
         ·
          rw [← sj h]
          exact fq (kH k5 ++ [(76, .v (.ro (eSym x11))), (80, .d true), (88, .v (.ro (Zl x7)))]) (k5.b (apc (ig eSym 6 .i64 h11) (av h12 (apc (ig Zl 7 .i64 h7) apn))))
         ·
          rw [← sj h]
          exact fq (kH k5 ++ [(76, .v (.ro (eSym x11))), (80, .d false)]) (k5.b (apc (ig eSym 6 .i64 h11) (av h12 apn)))
inductive E_L12_2 where
  | k0
  | k1
section
variable (a1 : Int) (a2 : GramD)
def OY (v1 : Int) : Option (E_L12_2 ⊕ (Int)) :=
  (bif (decide (v1 < a1)) then ((getI a2.forbid v1).bind fun x2 => ((getI a2.forbid a1).bind fun x3 => (bif ((x2.parent == x3.parent) && ((x2.at_ == x3.at_) && ((x2.child == x3.child) && true))) then (some (.inl (.k0))) else (some (.inr ((IntKind.wrap .i64 (v1 + 1)))))))) else (some (.inl (.k1))))
def GE (v1 : Int) : St := ⟨fr 160 ug [(1, .ptr 0 0), (6, i6 a1), (7, i6 v1)], [bG a2]⟩
theorem MO (v1 : Int) : okT 1 (GE a1 a2 v1).h = true := (Zr rfl (ac rfl))
abbrev V0 (v1 : Int) := evH prg 1 [1, 6, 7] HZ (GE a1 a2 v1)
def MP (e : E_L12_2) (r : Option (Out × St)) : Prop := match e with | .k0 => ∃ g y, r = some (.ret, ⟨fr 160 g [(2, i6 160)], y⟩) | .k1 => ∃ g, r = some ((.brk 8), ⟨fr 160 g [(1, .ptr 0 0), (6, i6 a1)], [bG a2]⟩)
theorem Do (v1 : Int) {r : E_L12_2 ⊕ (Int)} (h : OY a1 a2 v1 = some r) : OkR (fun e => MP a1 a2 e (V0 a1 a2 v1)) (fun s => V0 a1 a2 v1 = V0 a1 a2 s) r := by
 unfold OY at h
 apply bi h <;> intro h1 h
 ·
  apply bn h; intro x2 h2 h
  have k0 := ka [(103, .d true), (109, .v (.ro (Z6 x2)))] (av h1 (apc (ig Z6 3 .i64 h2) apn))
  apply bn h; intro x3 h3 h
  apply bi h <;> intro h4 h
  ·
   rw [← sj h]
   exact xy (kH k0 ++ [(114, .v (.ro (Z6 x3))), (116, .d true), (6000, .d true)]) (k0.b (apc (ig Z6 3 .i64 h3) (av h4 apn)))
  ·
   rw [← sj h]
   exact rn (kH k0 ++ [(114, .v (.ro (Z6 x3))), (116, .d false), (6000, .d true)]) (k0.b (apc (ig Z6 3 .i64 h3) (av h4 (apc (MO a1 a2 (w6 (v1 + 1))) apn))))
 ·
  rw [← sj h]
  exact xb [(103, .d false), (6000, .d true)] (av h1 apn)
theorem OZ (s0 : Int) (e : E_L12_2) (h : runL (fun s => OY a1 a2 s) s0 = some e) : MP a1 a2 e (V0 a1 a2 s0) := by
  have q := @Zb (Int) E_L12_2 (fun s => OY a1 a2 s) (fun s => V0 a1 a2 s) (MP a1 a2) (fun s r h => Do a1 a2 s h) s0 e h
  exact q
end
inductive E_L12_3 where
  | k0
  | k1
section
variable (a1 : GramD)
def O0 (v1 : Int) : Option (E_L12_3 ⊕ (Int)) :=
  (bif (decide (v1 < (a1.forbid.length : Int))) then ((getI a1.forbid v1).bind fun x2 => ((F43 a1 x2).bind fun x3 => (bif x3 then ((runL (fun s => OY v1 a1 s) 0).bind fun r5 => match r5 with | .k0 => (some (.inl (.k0))) | .k1 => (some (.inr ((IntKind.wrap .i64 (v1 + 1)))))) else (some (.inl (.k0)))))) else (some (.inl (.k1))))
def GF (v1 : Int) : St := ⟨fr 160 ug [(1, .ptr 0 0), (6, i6 v1)], [bG a1]⟩
theorem MQ (v1 : Int) : okT 1 (GF a1 v1).h = true := (Zr rfl (ac rfl))
abbrev V1 (v1 : Int) := evH prg 1 [1, 6] H0 (GF a1 v1)
def MR (e : E_L12_3) (r : Option (Out × St)) : Prop := match e with | .k0 => ∃ g y, r = some (.ret, ⟨fr 160 g [(2, i6 160)], y⟩) | .k1 => ∃ g, r = some ((.brk 6), ⟨fr 160 g [(1, .ptr 0 0)], [bG a1]⟩)
abbrev KB (g5 : Nat → AV) (v1 : Int) : St := ⟨fr 160 g5 [(1, .ptr 0 0), (6, i6 v1)], [bG a1]⟩
theorem Dp (v1 : Int) {r : E_L12_3 ⊕ (Int)} (h : O0 a1 v1 = some r) : OkR (fun e => MR a1 e (V1 a1 v1)) (fun s => V1 a1 v1 = V1 a1 s) r := by
 unfold O0 at h
 have k0 := ka [(89, .v (i6 (lF a1)))] (apc (lg a1.forbid Z6 3) apn)
 apply bi h <;> intro h1 h
 ·
  apply bn h; intro x2 h2 h
  have k1 := k0.a [(90, .d true), (97, .v (.ro (Z6 x2)))] (av h1 (apc (ig Z6 3 .i64 h2) apn))
  apply bn h; intro x3 h3 h
  apply bi h <;> intro h4 h
  ·
   have q2 := ((((CE a1 x2 h3).cp rfl _).trans (congrArg (fun z => some (vb z)) h4)) : CP prg 43 [aG a1, (.agg ((Z6 x2).map .p))] [bG a1] = some (vb true))
   apply bn h; intro r5 h5 h
   cases r5 with
   | k0 =>
    obtain ⟨g5, y5, e5⟩ := OZ v1 a1 0 _ h5
    rw [← sj h]
    exact xy (kH k1 ++ [(99, .v (vb true)), (2008, .l .ret ⟨fr 160 g5 [(2, i6 160)], y5⟩), (6000, .d true)]) (k1.b (apc q2 (apc (MO v1 a1 0) (apc (e5 : V0 v1 a1 0 = some (.ret, ⟨fr 160 g5 [(2, i6 160)], y5⟩)) apn))))
   | k1 =>
    obtain ⟨g5, e5⟩ := OZ v1 a1 0 _ h5
    rw [← sj h]
    exact rn (kH k1 ++ [(99, .v (vb true)), (2008, .l (.brk 8) (KB a1 g5 v1)), (6000, .d true)]) (k1.b (apc q2 (apc (MO v1 a1 0) (apc (e5 : V0 v1 a1 0 = some ((.brk 8), KB a1 g5 v1)) (apc (MQ a1 (w6 (v1 + 1))) apn)))))
  ·
   rw [← sj h]
   exact xy (kH k1 ++ [(99, .v (vb false)), (6000, .d true)]) (k1.b (apc ((((CE a1 x2 h3).cp rfl _).trans (congrArg (fun z => some (vb z)) h4)) : CP prg 43 [aG a1, (.agg ((Z6 x2).map .p))] [bG a1] = some (vb false)) apn))
 ·
  rw [← sj h]
  exact xb (kH k0 ++ [(90, .d false), (6000, .d true)]) (k0.b (av h1 apn))
theorem O1 (s0 : Int) (e : E_L12_3) (h : runL (fun s => O0 a1 s) s0 = some e) : MR a1 e (V1 a1 s0) := by
  have q := @Zb (Int) E_L12_3 (fun s => O0 a1 s) (fun s => V1 a1 s) (MR a1) (fun s r h => Dp a1 s h) s0 e h
  exact q
end
def A6 (a1 : GramD) (a2 : FollD) (x0 : Bool) : AV := (vb x0)
def Dq (a1 : GramD) (a2 : FollD) : Option Bool :=
  (bif (decide (a2.sort ≥ 0)) then (some (decide (a2.sort < (a1.sorts.length : Int)))) else (some false))
theorem KC (a1 : GramD) (a2 : FollD) {r : Bool} (h : Dq a1 a2 = some r) : PR1 prg 41 [aG a1, i6 a2.sort] (A6 a1 a2 r) := by
 unfold Dq at h
 apply bi h <;> intro h1 h
 ·
  rw [← sj h]
  exact fq [(6, .d true), (11, .v (i6 (lS a1)))] (av h1 (apc (lg a1.sorts eStr 1) apn))
 ·
  rw [← sj h]
  exact fq [(6, .d false)] (av h1 apn)
def A7 (a1 : FollD) (x0 : Bool) : AV := (vb x0)
def GG (a1 : FollD) : Option Bool :=
  (some ((IntKind.wrap .u64 ((BitVec.ofInt (IntKind.bits .u64) (IntKind.wrap .u64 ((BitVec.ofInt (IntKind.bits .u64) (IntKind.wrap .u64 ((BitVec.ofInt (IntKind.bits .u64) a1.a ||| BitVec.ofInt (IntKind.bits .u64) a1.b).toNat : Int)) ||| BitVec.ofInt (IntKind.bits .u64) a1.c).toNat : Int)) ||| BitVec.ofInt (IntKind.bits .u64) a1.d).toNat : Int)) == 0))
theorem KD (a1 : FollD) {r : Bool} (h : GG a1 = some r) : PR1 prg 44 [(.agg ((List.drop 1 (Z8 a1)).map .p))] (A7 a1 r) := by
 unfold GG at h
 rw [← sj h]
 exact fq [] apn
inductive E_L12_0 where
  | k0
  | k1
section
variable (a1 : Int) (a2 : GramD)
def O2 (v1 : Int) : Option (E_L12_0 ⊕ (Int)) :=
  (bif (decide (v1 < a1)) then ((getI a2.follow v1).bind fun x2 => ((getI a2.follow a1).bind fun x3 => (bif (x2.sort == x3.sort) then (some (.inl (.k0))) else (some (.inr ((IntKind.wrap .i64 (v1 + 1)))))))) else (some (.inl (.k1))))
def GH (v1 : Int) : St := ⟨fr 160 ug [(1, .ptr 0 0), (8, i6 a1), (9, i6 v1)], [bG a2]⟩
theorem MS (v1 : Int) : okT 1 (GH a1 a2 v1).h = true := (Zr rfl (ac rfl))
abbrev V2 (v1 : Int) := evH prg 1 [1, 8, 9] HX (GH a1 a2 v1)
def MT (e : E_L12_0) (r : Option (Out × St)) : Prop := match e with | .k0 => ∃ g y, r = some (.ret, ⟨fr 160 g [(2, i6 160)], y⟩) | .k1 => ∃ g, r = some ((.brk 12), ⟨fr 160 g [(1, .ptr 0 0), (8, i6 a1)], [bG a2]⟩)
theorem Dr (v1 : Int) {r : E_L12_0 ⊕ (Int)} (h : O2 a1 a2 v1 = some r) : OkR (fun e => MT a1 a2 e (V2 a1 a2 v1)) (fun s => V2 a1 a2 v1 = V2 a1 a2 s) r := by
 unfold O2 at h
 apply bi h <;> intro h1 h
 ·
  apply bn h; intro x2 h2 h
  have k0 := ka [(144, .d true), (150, .v (.ro (Z8 x2)))] (av h1 (apc (ig Z8 5 .i64 h2) apn))
  apply bn h; intro x3 h3 h
  apply bi h <;> intro h4 h
  ·
   rw [← sj h]
   exact xy (kH k0 ++ [(156, .v (.ro (Z8 x3))), (159, .d true), (6000, .d true)]) (k0.b (apc (ig Z8 5 .i64 h3) (av h4 apn)))
  ·
   rw [← sj h]
   exact rn (kH k0 ++ [(156, .v (.ro (Z8 x3))), (159, .d false), (6000, .d true)]) (k0.b (apc (ig Z8 5 .i64 h3) (av h4 (apc (MS a1 a2 (w6 (v1 + 1))) apn))))
 ·
  rw [← sj h]
  exact xb [(144, .d false), (6000, .d true)] (av h1 apn)
theorem O3 (s0 : Int) (e : E_L12_0) (h : runL (fun s => O2 a1 a2 s) s0 = some e) : MT a1 a2 e (V2 a1 a2 s0) := by
  have q := @Zb (Int) E_L12_0 (fun s => O2 a1 a2 s) (fun s => V2 a1 a2 s) (MT a1 a2) (fun s r h => Dr a1 a2 s h) s0 e h
  exact q
end
inductive E_L12_1 where
  | k0
  | k1
section
variable (a1 : GramD)
def O4 (v1 : Int) : Option (E_L12_1 ⊕ (Int)) :=
  (bif (decide (v1 < (a1.follow.length : Int))) then ((getI a1.follow v1).bind fun x2 => ((Dq a1 x2).bind fun x3 => (bif x3 then ((GG x2).bind fun x5 => (bif x5 then (some (.inl (.k0))) else ((runL (fun s => O2 v1 a1 s) 0).bind fun r7 => match r7 with | .k0 => (some (.inl (.k0))) | .k1 => (some (.inr ((IntKind.wrap .i64 (v1 + 1)))))))) else (some (.inl (.k0)))))) else (some (.inl (.k1))))
def GI (v1 : Int) : St := ⟨fr 160 ug [(1, .ptr 0 0), (8, i6 v1)], [bG a1]⟩
theorem MU (v1 : Int) : okT 1 (GI a1 v1).h = true := (Zr rfl (ac rfl))
abbrev V3 (v1 : Int) := evH prg 1 [1, 8] HY (GI a1 v1)
def MV (e : E_L12_1) (r : Option (Out × St)) : Prop := match e with | .k0 => ∃ g y, r = some (.ret, ⟨fr 160 g [(2, i6 160)], y⟩) | .k1 => ∃ g, r = some ((.brk 10), ⟨fr 160 g [(1, .ptr 0 0)], [bG a1]⟩)
abbrev KE (g7 : Nat → AV) (v1 : Int) : St := ⟨fr 160 g7 [(1, .ptr 0 0), (8, i6 v1)], [bG a1]⟩
theorem Ds (v1 : Int) {r : E_L12_1 ⊕ (Int)} (h : O4 a1 v1 = some r) : OkR (fun e => MV a1 e (V3 a1 v1)) (fun s => V3 a1 v1 = V3 a1 s) r := by
 unfold O4 at h
 have k0 := ka [(120, .v (i6 (lW a1)))] (apc (lg a1.follow Z8 5) apn)
 apply bi h <;> intro h1 h
 ·
  apply bn h; intro x2 h2 h
  have k1 := k0.a [(121, .d true), (128, .v (.ro (Z8 x2)))] (av h1 (apc (ig Z8 5 .i64 h2) apn))
  apply bn h; intro x3 h3 h
  apply bi h <;> intro h4 h
  ·
   have q2 := ((((KC a1 x2 h3).cp rfl _).trans (congrArg (fun z => some (vb z)) h4)) : CP prg 41 [aG a1, i6 x2.sort] [bG a1] = some (vb true))
   have k3 := k1.a [(131, .v (vb true)), (137, .v (.ro (Z8 x2)))] (apc q2 (apc (ig Z8 5 .i64 h2) apn))
   apply bn h; intro x5 h5 h
   apply bi h <;> intro h6 h
   ·
    rw [← sj h]
    exact xy (kH k3 ++ [(140, .v (vb true)), (6000, .d true)]) (k3.b (apc ((((KD x2 h5).cp rfl _).trans (congrArg (fun z => some (vb z)) h6)) : CP prg 44 [(.agg ((List.drop 1 (Z8 x2)).map .p))] [bG a1] = some (vb true)) apn))
   ·
    have q4 := ((((KD x2 h5).cp rfl _).trans (congrArg (fun z => some (vb z)) h6)) : CP prg 44 [(.agg ((List.drop 1 (Z8 x2)).map .p))] [bG a1] = some (vb false))
    apply bn h; intro r7 h7 h
    cases r7 with
    | k0 =>
     obtain ⟨g7, y7, e7⟩ := O3 v1 a1 0 _ h7
     rw [← sj h]
     exact xy (kH k3 ++ [(140, .v (vb false)), (2012, .l .ret ⟨fr 160 g7 [(2, i6 160)], y7⟩), (6000, .d true)]) (k3.b (apc q4 (apc (MS v1 a1 0) (apc (e7 : V2 v1 a1 0 = some (.ret, ⟨fr 160 g7 [(2, i6 160)], y7⟩)) apn))))
    | k1 =>
     obtain ⟨g7, e7⟩ := O3 v1 a1 0 _ h7
     rw [← sj h]
     exact rn (kH k3 ++ [(140, .v (vb false)), (2012, .l (.brk 12) (KE a1 g7 v1)), (6000, .d true)]) (k3.b (apc q4 (apc (MS v1 a1 0) (apc (e7 : V2 v1 a1 0 = some ((.brk 12), KE a1 g7 v1)) (apc (MU a1 (w6 (v1 + 1))) apn)))))
  ·
   rw [← sj h]
   exact xy (kH k1 ++ [(131, .v (vb false)), (6000, .d true)]) (k1.b (apc ((((KC a1 x2 h3).cp rfl _).trans (congrArg (fun z => some (vb z)) h4)) : CP prg 41 [aG a1, i6 x2.sort] [bG a1] = some (vb false)) apn))
 ·
  rw [← sj h]
  exact xb (kH k0 ++ [(121, .d false), (6000, .d true)]) (k0.b (av h1 apn))
theorem O5 (s0 : Int) (e : E_L12_1) (h : runL (fun s => O4 a1 s) s0 = some e) : MV a1 e (V3 a1 s0) := by
  have q := @Zb (Int) E_L12_1 (fun s => O4 a1 s) (fun s => V3 a1 s) (MV a1) (fun s r h => Ds a1 s h) s0 e h
  exact q
end
def Zcc (a1 : GramD) (x0 : Int) : AV := (i6 x0)
def F12 (a1 : GramD) : Option Int :=
  (bif (decide ((a1.sorts.length : Int) < 1)) then (some 160) else (bif (decide ((a1.sorts.length : Int) > 1000)) then (some 160) else (bif (decide ((a1.prods.length : Int) > 1000)) then (some 160) else ((F41 a1).bind fun x4 => (bif x4 then ((runL (fun s => OU a1 s) 0).bind fun r6 => match r6 with | .k0 => (some 160) | .k1 => ((runL (fun s => OW a1 s) 0).bind fun r7 => match r7 with | .k0 => (some 160) | .k1 => ((runL (fun s => O0 a1 s) 0).bind fun r8 => match r8 with | .k0 => (some 160) | .k1 => ((runL (fun s => O4 a1 s) 0).bind fun r9 => match r9 with | .k0 => (some 160) | .k1 => (some 0))))) else (some 160))))))
theorem Zbf (a1 : GramD) {r : Int} (h : F12 a1 = some r) : PR1 prg 12 [aG a1] (Zcc a1 r) := by
 unfold F12 at h
 have k0 := ka [(12, .v (i6 (lS a1)))] (apc (lg a1.sorts eStr 1) apn)
 apply bi h <;> intro h1 h
 ·
  rw [← sj h]
  exact fq (kH k0 ++ [(13, .d true)]) (k0.b (av h1 apn))
 ·
  have k1 := k0.a [(13, .d false), (17, .v (i6 (lS a1)))] (av h1 (apc (lg a1.sorts eStr 1) apn))
  apply bi h <;> intro h2 h
  ·
   rw [← sj h]
   exact fq (kH k1 ++ [(18, .d true)]) (k1.b (av h2 apn))
  ·
   have k2 := k1.a [(18, .d false), (23, .v (i6 (lP a1)))] (av h2 (apc (lg a1.prods Zl 7) apn))
   apply bi h <;> intro h3 h
   ·
    rw [← sj h]
    exact fq (kH k2 ++ [(24, .d true)]) (k2.b (av h3 apn))
   ·
    apply bn h; intro x4 h4 h
    apply bi h <;> intro h5 h
    ·
     have q3 := ((((Cz a1 h4).cp rfl _).trans (congrArg (fun z => some (vb z)) h5)) : CP prg 41 [aG a1, i6 a1.start] [bG a1] = some (vb true))
     have k4 := k2.a [(24, .d false), (30, .v (vb true))] (av h3 (apc q3 apn))
     apply bn h; intro r6 h6 h
     cases r6 with
     | k0 =>
      obtain ⟨g6, y6, e6⟩ := OV a1 0 _ h6
      rw [← sj h]
      exact fq (kH k4 ++ [(2000, .l .ret ⟨fr 160 g6 [(2, i6 160)], y6⟩), (6000, .d true)]) (k4.b (apc (MJ a1 0) (apc (e6 : VY a1 0 = some (.ret, ⟨fr 160 g6 [(2, i6 160)], y6⟩)) apn)))
     | k1 =>
      obtain ⟨g6, e6⟩ := OV a1 0 _ h6
      have q5 := (e6 : VY a1 0 = some ((.brk 0), ⟨fr 160 g6 [(1, .ptr 0 0)], [bG a1]⟩))
      have k6 := k4.a [(2000, .l (.brk 0) ⟨fr 160 g6 [(1, .ptr 0 0)], [bG a1]⟩)] (apc (MJ a1 0) (apc q5 apn))
      apply bn h; intro r7 h7 h
      cases r7 with
      | k0 =>
       obtain ⟨g7, y7, e7⟩ := OX a1 0 _ h7
       rw [← sj h]
       exact fq (kH k6 ++ [(2004, .l .ret ⟨fr 160 g7 [(2, i6 160)], y7⟩), (6000, .d true)]) (k6.b (apc (MM a1 0) (apc (e7 : VZ a1 0 = some (.ret, ⟨fr 160 g7 [(2, i6 160)], y7⟩)) apn)))
      | k1 =>
       obtain ⟨g7, e7⟩ := OX a1 0 _ h7
       have q7 := (e7 : VZ a1 0 = some ((.brk 4), ⟨fr 160 g7 [(1, .ptr 0 0)], [bG a1]⟩))
       have k8 := k6.a [(2004, .l (.brk 4) ⟨fr 160 g7 [(1, .ptr 0 0)], [bG a1]⟩)] (apc (MM a1 0) (apc q7 apn))
       apply bn h; intro r8 h8 h
       cases r8 with
       | k0 =>
        obtain ⟨g8, y8, e8⟩ := O1 a1 0 _ h8
        rw [← sj h]
        exact fq (kH k8 ++ [(2006, .l .ret ⟨fr 160 g8 [(2, i6 160)], y8⟩), (6000, .d true)]) (k8.b (apc (MQ a1 0) (apc (e8 : V1 a1 0 = some (.ret, ⟨fr 160 g8 [(2, i6 160)], y8⟩)) apn)))
       | k1 =>
        obtain ⟨g8, e8⟩ := O1 a1 0 _ h8
        have q9 := (e8 : V1 a1 0 = some ((.brk 6), ⟨fr 160 g8 [(1, .ptr 0 0)], [bG a1]⟩))
        have k10 := k8.a [(2006, .l (.brk 6) ⟨fr 160 g8 [(1, .ptr 0 0)], [bG a1]⟩)] (apc (MQ a1 0) (apc q9 apn))
        apply bn h; intro r9 h9 h
        cases r9 with
        | k0 =>
         obtain ⟨g9, y9, e9⟩ := O5 a1 0 _ h9
         rw [← sj h]
         exact fq (kH k10 ++ [(2010, .l .ret ⟨fr 160 g9 [(2, i6 160)], y9⟩), (6000, .d true)]) (k10.b (apc (MU a1 0) (apc (e9 : V3 a1 0 = some (.ret, ⟨fr 160 g9 [(2, i6 160)], y9⟩)) apn)))
        | k1 =>
         obtain ⟨g9, e9⟩ := O5 a1 0 _ h9
         rw [← sj h]
         exact fq (kH k10 ++ [(2010, .l (.brk 10) ⟨fr 160 g9 [(1, .ptr 0 0)], [bG a1]⟩), (6000, .d true)]) (k10.b (apc (MU a1 0) (apc (e9 : V3 a1 0 = some ((.brk 10), ⟨fr 160 g9 [(1, .ptr 0 0)], [bG a1]⟩)) apn)))
    ·
     rw [← sj h]
     exact fq (kH k2 ++ [(24, .d false), (30, .v (vb false))]) (k2.b (av h3 (apc ((((Cz a1 h4).cp rfl _).trans (congrArg (fun z => some (vb z)) h5)) : CP prg 41 [aG a1, i6 a1.start] [bG a1] = some (vb false)) apn)))
inductive E_L57_0 where
  | k0
  | k1 (x0 : List (ByteArray × Int))
section
variable (a1 : GramD) (a2 : Int)
def O6 (v1 : Int) (v2 : List (ByteArray × Int)) : Option (E_L57_0 ⊕ (Int × (List (ByteArray × Int)))) :=
  (bif (decide (v1 < a2)) then ((getI a1.sorts v1).bind fun x2 => (bif (x2.toList == (⟨([] : List UInt8).toArray⟩ : ByteArray).toList) then (some (.inl (.k0))) else (bif (decide ((x2.size : Int) > 1000)) then (some (.inl (.k0))) else (bif (decide ((mget 0 (mput x2 (IntKind.wrap .i64 ((mget 0 v2 x2) + 1)) v2) x2) > 1)) then (some (.inl (.k0))) else (some (.inr ((IntKind.wrap .i64 (v1 + 1)), (mput x2 (IntKind.wrap .i64 ((mget 0 v2 x2) + 1)) v2)))))))) else (some (.inl (.k1 v2))))
def GJ (v1 : Int) (v2 : List (ByteArray × Int)) : St := ⟨fr 55 ug [(1, .ptr 0 0), (3, .mp 1), (8, ls 1 eStr a1.sorts), (9, i6 a2), (10, i6 v1)], [bG a1, mSI v2]⟩
theorem MW (v1 : Int) (v2 : List (ByteArray × Int)) : okT 2 (GJ a1 a2 v1 v2).h = true := (Zr rfl (ac (UF (Mw (fun _ => rfl) (fun _ => rfl)) rfl)))
abbrev V5 (v1 : Int) (v2 : List (ByteArray × Int)) := evH prg 2 [1, 3, 8, 9, 10] Gl (GJ a1 a2 v1 v2)
def MX (e : E_L57_0) (r : Option (Out × St)) : Prop := match e with | .k0 => ∃ g y, r = some (.ret, ⟨fr 55 g [(2, vb false)], y⟩) | .k1 x0 => ∃ g, r = some ((.brk 0), ⟨fr 55 g [(1, .ptr 0 0), (8, ls 1 eStr a1.sorts)], [bG a1, mSI x0]⟩)
abbrev KF (v2 : List (ByteArray × Int)) : List AB := [bG a1, mSI v2]
abbrev Px (x2 : ByteArray) (v2 : List (ByteArray × Int)) : List AB := [bG a1, mSI (mput x2 (w6 ((mget 0 v2 x2) + 1)) v2)]
theorem Dt (v1 : Int) (v2 : List (ByteArray × Int)) {r : E_L57_0 ⊕ (Int × (List (ByteArray × Int)))} (h : O6 a1 a2 v1 v2 = some r) : OkR (fun e => MX a1 e (V5 a1 a2 v1 v2)) (fun s => V5 a1 a2 v1 v2 = V5 a1 a2 s.1 s.2) r := by
 unfold O6 at h
 apply bi h <;> intro h1 h
 ·
  apply bn h; intro x2 h2 h
  have q0 := ((QA Mx (es := v2) (k := x2) (z := 0) rfl rfl) : lkA (KF a1 v2) [2] .false .false [(.val (.int .i64 0))] .false (.mp 1) (vs x2) = some (i6 (mget 0 v2 x2)))
  have q1 := (⟨Cu Mx (es := v2) (k := x2) (v := (w6 ((mget 0 v2 x2) + 1))) rfl, rfl⟩ : upA (KF a1 v2) [2] .false (.mp 1) (vs x2) (i6 (w6 ((mget 0 v2 x2) + 1))) = some (Px a1 x2 v2) ∧ ud = ud)
  have q2 := ((QA Mx (es := (mput x2 (w6 ((mget 0 v2 x2) + 1)) v2)) (k := x2) (z := 0) rfl rfl) : lkA (Px a1 x2 v2) [2] .false .false [(.val (.int .i64 0))] .false (.mp 1) (vs x2) = some (i6 (mget 0 (mput x2 (w6 ((mget 0 v2 x2) + 1)) v2) x2)))
  have k3 := ka [(11, .d true), (12, .v (.ro [.val (.string x2)])), (16, .v (i6 (mget 0 v2 x2))), (7017, .r ud (Px a1 x2 v2))] (av h1 (apc (ig eStr 1 .i64 h2) (apc q0 (apc q1 apn))))
  apply bi h <;> intro h3 h
  ·
   rw [← sj h]
   exact xy (kH k3 ++ [(19, .d true), (6000, .d true)]) (k3.b (av h3 apn))
  ·
   apply bi h <;> intro h4 h
   ·
    rw [← sj h]
    exact xy (kH k3 ++ [(19, .d false), (23, .d true), (6000, .d true)]) (k3.b (av h3 (av h4 apn)))
   ·
    have k4 := k3.a [(19, .d false), (23, .d false), (28, .v (i6 (mget 0 (mput x2 (w6 ((mget 0 v2 x2) + 1)) v2) x2)))] (av h3 (av h4 (apc q2 apn)))
    apply bi h <;> intro h5 h
    ·
     rw [← sj h]
     exact xy (kH k4 ++ [(29, .d true), (6000, .d true)]) (k4.b (av h5 apn))
    ·
     rw [← sj h]
     exact rn (kH k4 ++ [(29, .d false), (6000, .d true)]) (k4.b (av h5 (apc (MW a1 a2 (w6 (v1 + 1)) (mput x2 (w6 ((mget 0 v2 x2) + 1)) v2)) apn)))
 ·
  rw [← sj h]
  exact xb [(11, .d false), (6000, .d true)] (av h1 apn)
theorem O7 (s0 : Int × (List (ByteArray × Int))) (e : E_L57_0) (h : runL (fun s => O6 a1 a2 s.1 s.2) s0 = some e) : MX a1 e (V5 a1 a2 s0.1 s0.2) := by
  have q := @Zb (Int × (List (ByteArray × Int))) E_L57_0 (fun s => O6 a1 a2 s.1 s.2) (fun s => V5 a1 a2 s.1 s.2) (MX a1) (fun s r h => Dt a1 a2 s.1 s.2 h) s0 e h
  exact q
end
def Zcd (a1 : GramD) (x0 : Bool) : AV := (vb x0)
def F57 (a1 : GramD) : Option Bool :=
  ((runL (fun s => O6 a1 (a1.sorts.length : Int) s.1 s.2) (0, [])).bind fun r1 => match r1 with | .k0 => (some false) | .k1 x1_0 => (bif (decide ((a1.sorts.length : Int) ≥ 1)) then (bif (decide ((a1.sorts.length : Int) ≤ 1000)) then (bif (decide (a1.start ≥ 0)) then (some (decide (a1.start < (a1.sorts.length : Int)))) else (some false)) else (some false)) else (some false)))
abbrev CF (g1 : Nat → AV) (a1 : GramD) (x1_0 : List (ByteArray × Int)) : St := ⟨fr 55 g1 [(1, .ptr 0 0), (8, ls 1 eStr a1.sorts)], [bG a1, mSI x1_0]⟩
theorem CG (a1 : GramD) {r : Bool} (h : F57 a1 = some r) : PR1 prg 57 [aG a1] (Zcd a1 r) := by
 unfold F57 at h
 have k0 := ka [(9, .v (i6 (lS a1)))] (apc (lg a1.sorts eStr 1) apn)
 apply bn h; intro r1 h1 h
 cases r1 with
 | k0 =>
  obtain ⟨g1, y1, e1⟩ := O7 a1 (lS a1) (0, []) _ h1
  rw [← sj h]
  exact fq (kH k0 ++ [(2000, .l .ret ⟨fr 55 g1 [(2, vb false)], y1⟩), (6000, .d true)]) (k0.b (apc (MW a1 (lS a1) 0 ([])) (apc (e1 : V5 a1 (lS a1) 0 ([]) = some (.ret, ⟨fr 55 g1 [(2, vb false)], y1⟩)) apn)))
 | k1 x1_0 =>
  obtain ⟨g1, e1⟩ := O7 a1 (lS a1) (0, []) _ h1
  have q1 := (e1 : V5 a1 (lS a1) 0 ([]) = some ((.brk 0), CF g1 a1 x1_0))
  have k2 := k0.a [(2000, .l (.brk 0) (CF g1 a1 x1_0)), (34, .v (i6 (lS a1)))] (apc (MW a1 (lS a1) 0 ([])) (apc q1 (apc (lg a1.sorts eStr 1) apn)))
  apply bi h <;> intro h2 h
  ·
   have k3 := k2.a [(35, .d true), (39, .v (i6 (lS a1)))] (av h2 (apc (lg a1.sorts eStr 1) apn))
   apply bi h <;> intro h3 h
   ·
    apply bi h <;> intro h4 h
    ·
     rw [← sj h]
     exact fq (kH k3 ++ [(40, .d true), (45, .d true), (52, .v (i6 (lS a1))), (6000, .d true)]) (k3.b (av h3 (av h4 (apc (lg a1.sorts eStr 1) apn))))
    ·
     rw [← sj h]
     exact fq (kH k3 ++ [(40, .d true), (45, .d false), (6000, .d true)]) (k3.b (av h3 (av h4 apn)))
   ·
    rw [← sj h]
    exact fq (kH k3 ++ [(40, .d false), (6000, .d true)]) (k3.b (av h3 apn))
  ·
   rw [← sj h]
   exact fq (kH k2 ++ [(35, .d false), (6000, .d true)]) (k2.b (av h2 apn))
def Zce (a1 : ProdD) (a2 : GramD) (x0 : Bool) : AV := (vb x0)
def F73 (a1 : ProdD) (a2 : GramD) : Option Bool :=
  (bif (decide (a1.left ≥ 0)) then (some (decide (a1.left < (a2.sorts.length : Int)))) else (some false))
theorem CH (a1 : ProdD) (a2 : GramD) {r : Bool} (h : F73 a1 a2 = some r) : PR1 prg 73 [i6 a1.left, (.ro (Yc a2))] (Zce a1 a2 r) := by
 unfold F73 at h
 apply bi h <;> intro h1 h
 ·
  rw [← sj h]
  exact fq [(5, .d true), (10, .v (i6 (lS a2)))] (av h1 (apc (lg a2.sorts eStr 1) apn))
 ·
  rw [← sj h]
  exact fq [(5, .d false)] (av h1 apn)
def A8 (a1 : SymD) (a2 : GramD) (x0 : Bool) : AV := (vb x0)
def Du (a1 : SymD) (a2 : GramD) : Option Bool :=
  (bif (decide (a1.sort ≥ 0)) then (some (decide (a1.sort < (a2.sorts.length : Int)))) else (some false))
theorem KG (a1 : SymD) (a2 : GramD) {r : Bool} (h : Du a1 a2 = some r) : PR1 prg 73 [i6 a1.sort, (.ro (Yc a2))] (A8 a1 a2 r) := by
 unfold Du at h
 apply bi h <;> intro h1 h
 ·
  rw [← sj h]
  exact fq [(5, .d true), (10, .v (i6 (lS a2)))] (av h1 (apc (lg a2.sorts eStr 1) apn))
 ·
  rw [← sj h]
  exact fq [(5, .d false)] (av h1 apn)
inductive E_L58_0 where
  | k0
  | k1
section
variable (a1 : GramD) (a2 a3 : Int) (a4 : ProdD) (a5 : Int)
abbrev MY (l : List AB) : List AB := bG a1 :: yY0 :: bP a4 :: l
def Rb (v1 : Int) : Option (E_L58_0 ⊕ (Int)) :=
  (bif (decide (v1 < a5)) then ((getI a4.right v1).bind fun x2 => (bif (x2.kind == 0) then (bif ((x2.a == 0) && ((x2.b == 0) && ((x2.c == 0) && ((x2.d == 0) && true)))) then (some (.inl (.k0))) else (bif (x2.sort != 0) then (some (.inl (.k0))) else (some (.inr ((IntKind.wrap .i64 (v1 + 1))))))) else (bif (x2.kind == 1) then (bif (!((x2.a == 0) && ((x2.b == 0) && ((x2.c == 0) && ((x2.d == 0) && true))))) then (some (.inl (.k0))) else ((Du x2 a1).bind fun x6 => (bif x6 then (bif (a4.role == 11) then (some (.inl (.k0))) else (some (.inr ((IntKind.wrap .i64 (v1 + 1)))))) else (some (.inl (.k0)))))) else (some (.inl (.k0)))))) else (some (.inl (.k1))))
def GK (v1 : Int) : St := ⟨fr 110 ug [(1, .ptr 0 0), (3, (.fn 73 [.ptr 0 0])), (5, .ptr 2 0), (10, ls 7 Zl a1.prods), (11, i6 a2), (12, i6 a3), (67, ls 6 eSym a4.right), (68, i6 a5), (69, i6 v1)], (MY a1 a4 [])⟩
theorem XY (v1 : Int) : okT 3 (GK a1 a2 a3 a4 a5 v1).h = true := (Zr rfl (ac (ar (ac rfl))))
abbrev YM (v1 : Int) := evH prg 3 [1, 3, 5, 10, 11, 12, 67, 68, 69] Gm (GK a1 a2 a3 a4 a5 v1)
def MZ (e : E_L58_0) (r : Option (Out × St)) : Prop := match e with | .k0 => ∃ g y, r = some (.ret, ⟨fr 110 g [(2, vb false)], y⟩) | .k1 => ∃ g, r = some ((.brk 2), ⟨fr 110 g [(1, .ptr 0 0), (3, (.fn 73 [.ptr 0 0])), (5, .ptr 2 0), (10, ls 7 Zl a1.prods), (11, i6 a2), (12, i6 a3), (67, ls 6 eSym a4.right)], (MY a1 a4 [])⟩)
abbrev KH (x2 : SymD) : List AB := (MY a1 a4 [.cells 48 ((eSym x2).map .p)])
theorem Dv (v1 : Int) {r : E_L58_0 ⊕ (Int)} (h : Rb a1 a4 a5 v1 = some r) : OkR (fun e => MZ a1 a2 a3 a4 e (YM a1 a2 a3 a4 a5 v1)) (fun s => YM a1 a2 a3 a4 a5 v1 = YM a1 a2 a3 a4 a5 s) r := by
 unfold Rb at h
 apply bi h <;> intro h1 h
 ·
  apply bn h; intro x2 h2 h
  have k0 := ka [(70, .d true), (71, .v (.ro (eSym x2)))] (av h1 (apc (ig eSym 6 .i64 h2) apn))
  apply bi h <;> intro h3 h
  ·
   apply bi h <;> intro h4 h
   ·
    rw [← sj h]
    exact xy (kH k0 ++ [(76, .d true), (80, .d true), (6000, .d true)]) (k0.b (av h3 (av h4 apn)))
   ·
    have k1 := k0.a [(76, .d true), (80, .d false)] (av h3 (av h4 apn))
    apply bi h <;> intro h5 h
    ·
     rw [← sj h]
     exact xy (kH k1 ++ [(84, .d true), (6000, .d true)]) (k1.b (av h5 apn))
    ·
     rw [← sj h]
     exact rn (kH k1 ++ [(84, .d false), (6000, .d true)]) (k1.b (av h5 (apc (XY a1 a2 a3 a4 a5 (w6 (v1 + 1))) apn)))
  ·
   apply bi h <;> intro h4 h
   ·
    have k2 := k0.a [(76, .d false), (87, .d true)] (av h3 (av h4 apn))
    apply bi h <;> intro h5 h
    ·
     rw [← sj h]
     exact xy (kH k2 ++ [(91, .d true), (6000, .d true)]) (k2.b (av h5 apn))
    ·
     apply bn h; intro x6 h6 h
     apply bi h <;> intro h7 h
     ·
      have q3 := ((((KG x2 a1 h6).own rfl (Zg rfl (Zg (YX rfl (Zf rfl (Zf rfl (Zf rfl (Zf rfl (Zf rfl rfl)))))) Zv)) rfl).trans (congrArg (fun z => some (vb z)) h7)) : CP prg 73 [i6 x2.sort, .ptr 0 0] (KH a1 a4 x2) = some (vb true))
      have k4 := k2.a [(91, .d false), (96, .v (vb true))] (av h5 (apc q3 apn))
      apply bi h <;> intro h8 h
      ·
       rw [← sj h]
       exact xy (kH k4 ++ [(102, .d true), (6000, .d true)]) (k4.b (av h8 apn))
      ·
       rw [← sj h]
       exact rn (kH k4 ++ [(102, .d false), (6000, .d true)]) (k4.b (av h8 (apc (XY a1 a2 a3 a4 a5 (w6 (v1 + 1))) apn)))
     ·
      rw [← sj h]
      exact xy (kH k2 ++ [(91, .d false), (96, .v (vb false)), (6000, .d true)]) (k2.b (av h5 (apc ((((KG x2 a1 h6).own rfl (Zg rfl (Zg (YX rfl (Zf rfl (Zf rfl (Zf rfl (Zf rfl (Zf rfl rfl)))))) Zv)) rfl).trans (congrArg (fun z => some (vb z)) h7)) : CP prg 73 [i6 x2.sort, .ptr 0 0] (KH a1 a4 x2) = some (vb false)) apn)))
   ·
    rw [← sj h]
    exact xy (kH k0 ++ [(76, .d false), (87, .d false), (6000, .d true)]) (k0.b (av h3 (av h4 apn)))
 ·
  rw [← sj h]
  exact xb [(70, .d false), (6000, .d true)] (av h1 apn)
theorem Y4 (s0 : Int) (e : E_L58_0) (h : runL (fun s => Rb a1 a4 a5 s) s0 = some e) : MZ a1 a2 a3 a4 e (YM a1 a2 a3 a4 a5 s0) := by
  have q := @Zb (Int) E_L58_0 (fun s => Rb a1 a4 a5 s) (fun s => YM a1 a2 a3 a4 a5 s) (MZ a1 a2 a3 a4) (fun s r h => Dv a1 a2 a3 a4 a5 s h) s0 e h
  exact q
end
inductive E_L58_1 where
  | k0
  | k1
section
variable (a1 : GramD) (a2 : Int)
abbrev Py (l : List AB) : List AB := bG a1 :: yY0 :: l
def O8 (v1 : Int) : Option (E_L58_1 ⊕ (Int)) :=
  (bif (decide (v1 < a2)) then ((getI a1.prods v1).bind fun x2 => ((F73 x2 a1).bind fun x3 => (bif x3 then (bif (decide ((x2.right.length : Int) > 30)) then (some (.inl (.k0))) else (bif (decide (x2.role < 0)) then (some (.inl (.k0))) else (bif (decide (x2.role > 11)) then (some (.inl (.k0))) else (bif (decide (x2.frm < (-1))) then (some (.inl (.k0))) else (bif (decide ((x2.cons.size : Int) > 64)) then (some (.inl (.k0))) else (bif (!(x2.cons.toList == (⟨([] : List UInt8).toArray⟩ : ByteArray).toList)) then (bif (x2.role != 0) then (some (.inl (.k0))) else (bif x2.prefer then (bif x2.avoid then (some (.inl (.k0))) else ((runL (fun s => Rb a1 x2 (x2.right.length : Int) s) 0).bind fun r14 => match r14 with | .k0 => (some (.inl (.k0))) | .k1 => (some (.inr ((IntKind.wrap .i64 (v1 + 1))))))) else ((runL (fun s => Rb a1 x2 (x2.right.length : Int) s) 0).bind fun r13 => match r13 with | .k0 => (some (.inl (.k0))) | .k1 => (some (.inr ((IntKind.wrap .i64 (v1 + 1)))))))) else (bif x2.prefer then (bif x2.avoid then (some (.inl (.k0))) else ((runL (fun s => Rb a1 x2 (x2.right.length : Int) s) 0).bind fun r13 => match r13 with | .k0 => (some (.inl (.k0))) | .k1 => (some (.inr ((IntKind.wrap .i64 (v1 + 1))))))) else ((runL (fun s => Rb a1 x2 (x2.right.length : Int) s) 0).bind fun r12 => match r12 with | .k0 => (some (.inl (.k0))) | .k1 => (some (.inr ((IntKind.wrap .i64 (v1 + 1))))))))))))) else (some (.inl (.k0)))))) else (some (.inl (.k1))))
def GL (v1 : Int) : St := ⟨fr 110 ug [(1, .ptr 0 0), (3, (.fn 73 [.ptr 0 0])), (10, ls 7 Zl a1.prods), (11, i6 a2), (12, i6 v1)], [bG a1]⟩
theorem Tb (v1 : Int) : okT 1 (GL a1 a2 v1).h = true := (Zr rfl (ac rfl))
abbrev V6 (v1 : Int) := evH prg 1 [1, 3, 10, 11, 12] Gn (GL a1 a2 v1)
def M0 (e : E_L58_1) (r : Option (Out × St)) : Prop := match e with | .k0 => ∃ g y, r = some (.ret, ⟨fr 110 g [(2, vb false)], y⟩) | .k1 => ∃ g, r = some ((.brk 0), ⟨fr 110 g [(1, .ptr 0 0), (10, ls 7 Zl a1.prods)], [bG a1]⟩)
abbrev KI (x2 : ProdD) : List AB := (Py a1 [bP x2])
abbrev KJ (g14 : Nat → AV) (v1 : Int) (x2 : ProdD) : St := ⟨fr 110 g14 [(1, .ptr 0 0), (3, (.fn 73 [.ptr 0 0])), (5, .ptr 2 0), (10, ls 7 Zl a1.prods), (11, i6 a2), (12, i6 v1), (67, ls 6 eSym x2.right)], (Py a1 [bP x2])⟩
abbrev Sa (g13 : Nat → AV) (v1 : Int) (x2 : ProdD) : St := ⟨fr 110 g13 [(1, .ptr 0 0), (3, (.fn 73 [.ptr 0 0])), (5, .ptr 2 0), (10, ls 7 Zl a1.prods), (11, i6 a2), (12, i6 v1), (67, ls 6 eSym x2.right)], (Py a1 [bP x2])⟩
abbrev KK (g12 : Nat → AV) (v1 : Int) (x2 : ProdD) : St := ⟨fr 110 g12 [(1, .ptr 0 0), (3, (.fn 73 [.ptr 0 0])), (5, .ptr 2 0), (10, ls 7 Zl a1.prods), (11, i6 a2), (12, i6 v1), (67, ls 6 eSym x2.right)], (Py a1 [bP x2])⟩
theorem Dw (v1 : Int) {r : E_L58_1 ⊕ (Int)} (h : O8 a1 a2 v1 = some r) : OkR (fun e => M0 a1 e (V6 a1 a2 v1)) (fun s => V6 a1 a2 v1 = V6 a1 a2 s) r := by
 unfold O8 at h
 apply bi h <;> intro h1 h
 ·
  apply bn h; intro x2 h2 h
  have k0 := ka [(13, .d true), (14, .v (.ro (Zl x2)))] (av h1 (apc (ig Zl 7 .i64 h2) apn))
  apply bn h; intro x3 h3 h
  apply bi h <;> intro h4 h
  ·
   have q1 := ((((CH x2 a1 h3).own rfl (Zg rfl (Zg (YX rfl (Zf rfl (Zf rfl (Zf rfl (Zf rfl (Zf rfl rfl)))))) Zv)) rfl).trans (congrArg (fun z => some (vb z)) h4)) : CP prg 73 [i6 x2.left, .ptr 0 0] (KI a1 x2) = some (vb true))
   have k2 := k0.a [(19, .v (vb true)), (24, .v (i6 (x2.right.length : Int)))] (apc q1 (apc (lg x2.right eSym 6) apn))
   apply bi h <;> intro h5 h
   ·
    rw [← sj h]
    exact xy (kH k2 ++ [(25, .d true), (6000, .d true)]) (k2.b (av h5 apn))
   ·
    apply bi h <;> intro h6 h
    ·
     rw [← sj h]
     exact xy (kH k2 ++ [(25, .d false), (30, .d true), (6000, .d true)]) (k2.b (av h5 (av h6 apn)))
    ·
     have k3 := k2.a [(25, .d false), (30, .d false)] (av h5 (av h6 apn))
     apply bi h <;> intro h7 h
     ·
      rw [← sj h]
      exact xy (kH k3 ++ [(35, .d true), (6000, .d true)]) (k3.b (av h7 apn))
     ·
      apply bi h <;> intro h8 h
      ·
       rw [← sj h]
       exact xy (kH k3 ++ [(35, .d false), (40, .d true), (6000, .d true)]) (k3.b (av h7 (av h8 apn)))
      ·
       have k4 := k3.a [(35, .d false), (40, .d false)] (av h7 (av h8 apn))
       apply bi h <;> intro h9 h
       ·
        rw [← sj h]
        exact xy (kH k4 ++ [(46, .d true), (6000, .d true)]) (k4.b (av h9 apn))
       ·
        apply bi h <;> intro h10 h
        ·
         have k5 := k4.a [(46, .d false), (51, .d true)] (av h9 (av h10 apn))
         apply bi h <;> intro h11 h
         ·
          rw [← sj h]
          exact xy (kH k5 ++ [(55, .d true), (6000, .d true)]) (k5.b (av h11 apn))
         ·
          apply bi h <;> intro h12 h
          ·
           have k6 := k5.a [(55, .d false), (60, .d true)] (av h11 (av h12 apn))
           apply bi h <;> intro h13 h
           ·
            rw [← sj h]
            exact xy (kH k6 ++ [(63, .d true), (6000, .d true)]) (k6.b (av h13 apn))
           ·
            have k7 := k6.a [(63, .d false), (68, .v (i6 (x2.right.length : Int)))] (av h13 (apc (lg x2.right eSym 6) apn))
            apply bn h; intro r14 h14 h
            cases r14 with
            | k0 =>
             obtain ⟨g14, y14, e14⟩ := Y4 a1 a2 v1 x2 (x2.right.length : Int) 0 _ h14
             rw [← sj h]
             exact xy (kH k7 ++ [(2002, .l .ret ⟨fr 110 g14 [(2, vb false)], y14⟩), (6000, .d true)]) (k7.b (apc (XY a1 a2 v1 x2 (x2.right.length : Int) 0) (apc (e14 : YM a1 a2 v1 x2 (x2.right.length : Int) 0 = some (.ret, ⟨fr 110 g14 [(2, vb false)], y14⟩)) apn)))
            | k1 =>
             obtain ⟨g14, e14⟩ := Y4 a1 a2 v1 x2 (x2.right.length : Int) 0 _ h14
             rw [← sj h]
             exact rn (kH k7 ++ [(2002, .l (.brk 2) (KJ a1 a2 g14 v1 x2)), (6000, .d true)]) (k7.b (apc (XY a1 a2 v1 x2 (x2.right.length : Int) 0) (apc (e14 : YM a1 a2 v1 x2 (x2.right.length : Int) 0 = some ((.brk 2), KJ a1 a2 g14 v1 x2)) (apc (Tb a1 a2 (w6 (v1 + 1))) apn))))
          ·
           have k8 := k5.a [(55, .d false), (60, .d false), (68, .v (i6 (x2.right.length : Int)))] (av h11 (av h12 (apc (lg x2.right eSym 6) apn)))
           apply bn h; intro r13 h13 h
           cases r13 with
           | k0 =>
            obtain ⟨g13, y13, e13⟩ := Y4 a1 a2 v1 x2 (x2.right.length : Int) 0 _ h13
            rw [← sj h]
            exact xy (kH k8 ++ [(2002, .l .ret ⟨fr 110 g13 [(2, vb false)], y13⟩), (6000, .d true)]) (k8.b (apc (XY a1 a2 v1 x2 (x2.right.length : Int) 0) (apc (e13 : YM a1 a2 v1 x2 (x2.right.length : Int) 0 = some (.ret, ⟨fr 110 g13 [(2, vb false)], y13⟩)) apn)))
           | k1 =>
            obtain ⟨g13, e13⟩ := Y4 a1 a2 v1 x2 (x2.right.length : Int) 0 _ h13
            rw [← sj h]
            exact rn (kH k8 ++ [(2002, .l (.brk 2) (Sa a1 a2 g13 v1 x2)), (6000, .d true)]) (k8.b (apc (XY a1 a2 v1 x2 (x2.right.length : Int) 0) (apc (e13 : YM a1 a2 v1 x2 (x2.right.length : Int) 0 = some ((.brk 2), Sa a1 a2 g13 v1 x2)) (apc (Tb a1 a2 (w6 (v1 + 1))) apn))))
        ·
         have k9 := k4.a [(46, .d false), (51, .d false)] (av h9 (av h10 apn))
         apply bi h <;> intro h11 h
         ·
          apply bi h <;> intro h12 h
          ·
           rw [← sj h]
           exact xy (kH k9 ++ [(60, .d true), (63, .d true), (6000, .d true)]) (k9.b (av h11 (av h12 apn)))
          ·
           have k10 := k9.a [(60, .d true), (63, .d false), (68, .v (i6 (x2.right.length : Int)))] (av h11 (av h12 (apc (lg x2.right eSym 6) apn)))
           apply bn h; intro r13 h13 h
           cases r13 with
           | k0 =>
            obtain ⟨g13, y13, e13⟩ := Y4 a1 a2 v1 x2 (x2.right.length : Int) 0 _ h13
            rw [← sj h]
            exact xy (kH k10 ++ [(2002, .l .ret ⟨fr 110 g13 [(2, vb false)], y13⟩), (6000, .d true)]) (k10.b (apc (XY a1 a2 v1 x2 (x2.right.length : Int) 0) (apc (e13 : YM a1 a2 v1 x2 (x2.right.length : Int) 0 = some (.ret, ⟨fr 110 g13 [(2, vb false)], y13⟩)) apn)))
           | k1 =>
            obtain ⟨g13, e13⟩ := Y4 a1 a2 v1 x2 (x2.right.length : Int) 0 _ h13
            rw [← sj h]
            exact rn (kH k10 ++ [(2002, .l (.brk 2) (Sa a1 a2 g13 v1 x2)), (6000, .d true)]) (k10.b (apc (XY a1 a2 v1 x2 (x2.right.length : Int) 0) (apc (e13 : YM a1 a2 v1 x2 (x2.right.length : Int) 0 = some ((.brk 2), Sa a1 a2 g13 v1 x2)) (apc (Tb a1 a2 (w6 (v1 + 1))) apn))))
         ·
          have k11 := k9.a [(60, .d false), (68, .v (i6 (x2.right.length : Int)))] (av h11 (apc (lg x2.right eSym 6) apn))
          apply bn h; intro r12 h12 h
          cases r12 with
          | k0 =>
           obtain ⟨g12, y12, e12⟩ := Y4 a1 a2 v1 x2 (x2.right.length : Int) 0 _ h12
           rw [← sj h]
           exact xy (kH k11 ++ [(2002, .l .ret ⟨fr 110 g12 [(2, vb false)], y12⟩), (6000, .d true)]) (k11.b (apc (XY a1 a2 v1 x2 (x2.right.length : Int) 0) (apc (e12 : YM a1 a2 v1 x2 (x2.right.length : Int) 0 = some (.ret, ⟨fr 110 g12 [(2, vb false)], y12⟩)) apn)))
          | k1 =>
           obtain ⟨g12, e12⟩ := Y4 a1 a2 v1 x2 (x2.right.length : Int) 0 _ h12
           rw [← sj h]
           exact rn (kH k11 ++ [(2002, .l (.brk 2) (KK a1 a2 g12 v1 x2)), (6000, .d true)]) (k11.b (apc (XY a1 a2 v1 x2 (x2.right.length : Int) 0) (apc (e12 : YM a1 a2 v1 x2 (x2.right.length : Int) 0 = some ((.brk 2), KK a1 a2 g12 v1 x2)) (apc (Tb a1 a2 (w6 (v1 + 1))) apn))))
  ·
   rw [← sj h]
   exact xy (kH k0 ++ [(19, .v (vb false)), (6000, .d true)]) (k0.b (apc ((((CH x2 a1 h3).own rfl (Zg rfl (Zg (YX rfl (Zf rfl (Zf rfl (Zf rfl (Zf rfl (Zf rfl rfl)))))) Zv)) rfl).trans (congrArg (fun z => some (vb z)) h4)) : CP prg 73 [i6 x2.left, .ptr 0 0] (KI a1 x2) = some (vb false)) apn))
 ·
  rw [← sj h]
  exact xb [(13, .d false), (6000, .d true)] (av h1 apn)
theorem O9 (s0 : Int) (e : E_L58_1) (h : runL (fun s => O8 a1 a2 s) s0 = some e) : M0 a1 e (V6 a1 a2 s0) := by
  have q := @Zb (Int) E_L58_1 (fun s => O8 a1 a2 s) (fun s => V6 a1 a2 s) (M0 a1) (fun s r h => Dw a1 a2 s h) s0 e h
  exact q
end
def Zcf (a1 : GramD) (x0 : Bool) : AV := (vb x0)
def F58 (a1 : GramD) : Option Bool :=
  ((runL (fun s => O8 a1 (a1.prods.length : Int) s) 0).bind fun r1 => match r1 with | .k0 => (some false) | .k1 => (some (decide ((a1.prods.length : Int) ≤ 1000))))
abbrev CI (g1 : Nat → AV) (a1 : GramD) : St := ⟨fr 110 g1 [(1, .ptr 0 0), (10, ls 7 Zl a1.prods)], [bG a1]⟩
theorem CJ (a1 : GramD) {r : Bool} (h : F58 a1 = some r) : PR1 prg 58 [aG a1] (Zcf a1 r) := by
 unfold F58 at h
 have k0 := ka [(11, .v (i6 (lP a1)))] (apc (lg a1.prods Zl 7) apn)
 apply bn h; intro r1 h1 h
 cases r1 with
 | k0 =>
  obtain ⟨g1, y1, e1⟩ := O9 a1 (lP a1) 0 _ h1
  rw [← sj h]
  exact fq (kH k0 ++ [(2000, .l .ret ⟨fr 110 g1 [(2, vb false)], y1⟩), (6000, .d true)]) (k0.b (apc (Tb a1 (lP a1) 0) (apc (e1 : V6 a1 (lP a1) 0 = some (.ret, ⟨fr 110 g1 [(2, vb false)], y1⟩)) apn)))
 | k1 =>
  obtain ⟨g1, e1⟩ := O9 a1 (lP a1) 0 _ h1
  rw [← sj h]
  exact fq (kH k0 ++ [(2000, .l (.brk 0) (CI g1 a1)), (108, .v (i6 (lP a1))), (6000, .d true)]) (k0.b (apc (Tb a1 (lP a1) 0) (apc (e1 : V6 a1 (lP a1) 0 = some ((.brk 0), CI g1 a1)) (apc (lg a1.prods Zl 7) apn))))
def Zcg (a1 : ForbD) (a2 : GramD) (x0 : Bool) : AV := (vb x0)
def F74 (a1 : ForbD) (a2 : GramD) : Option Bool :=
  (bif (decide (a1.parent ≥ 0)) then (bif (decide (a1.parent < (a2.prods.length : Int))) then ((getI a2.prods a1.parent).bind fun x3 => (some (x3.role != 11))) else (some false)) else (some false))
theorem CK (a1 : ForbD) (a2 : GramD) {r : Bool} (h : F74 a1 a2 = some r) : PR1 prg 74 [i6 a1.parent, (.ro (Yc a2))] (Zcg a1 a2 r) := by
 unfold F74 at h
 apply bi h <;> intro h1 h
 ·
  have k0 := ka [(5, .d true), (10, .v (i6 (lP a2)))] (av h1 (apc (lg a2.prods Zl 7) apn))
  apply bi h <;> intro h2 h
  ·
   apply bn h; intro x3 h3 h
   rw [← sj h]
   exact fq (kH k0 ++ [(11, .d true), (17, .v (.ro (Zl x3)))]) (k0.b (av h2 (apc (ig Zl 7 .i64 h3) apn)))
  ·
   rw [← sj h]
   exact fq (kH k0 ++ [(11, .d false)]) (k0.b (av h2 apn))
 ·
  rw [← sj h]
  exact fq [(5, .d false)] (av h1 apn)
def A9 (a1 : ForbD) (a2 : GramD) (x0 : Bool) : AV := (vb x0)
def GM (a1 : ForbD) (a2 : GramD) : Option Bool :=
  (bif (decide (a1.child ≥ 0)) then (bif (decide (a1.child < (a2.prods.length : Int))) then ((getI a2.prods a1.child).bind fun x3 => (some (x3.role != 11))) else (some false)) else (some false))
theorem KL (a1 : ForbD) (a2 : GramD) {r : Bool} (h : GM a1 a2 = some r) : PR1 prg 74 [i6 a1.child, (.ro (Yc a2))] (A9 a1 a2 r) := by
 unfold GM at h
 apply bi h <;> intro h1 h
 ·
  have k0 := ka [(5, .d true), (10, .v (i6 (lP a2)))] (av h1 (apc (lg a2.prods Zl 7) apn))
  apply bi h <;> intro h2 h
  ·
   apply bn h; intro x3 h3 h
   rw [← sj h]
   exact fq (kH k0 ++ [(11, .d true), (17, .v (.ro (Zl x3)))]) (k0.b (av h2 (apc (ig Zl 7 .i64 h3) apn)))
  ·
   rw [← sj h]
   exact fq (kH k0 ++ [(11, .d false)]) (k0.b (av h2 apn))
 ·
  rw [← sj h]
  exact fq [(5, .d false)] (av h1 apn)
inductive E_L59_0 where
  | k0
  | k1 (x0 : List ((Int × Int × Int) × Int))
section
variable (a1 : GramD) (a2 : Int)
def Na (v1 : Int) (v2 : List ((Int × Int × Int) × Int)) : Option (E_L59_0 ⊕ (Int × (List ((Int × Int × Int) × Int)))) :=
  (bif (decide (v1 < a2)) then ((getI a1.forbid v1).bind fun x2 => (bif (decide ((mget 0 (mput (x2.parent, x2.at_, x2.child) (IntKind.wrap .i64 ((mget 0 v2 (x2.parent, x2.at_, x2.child)) + 1)) v2) (x2.parent, x2.at_, x2.child)) > 1)) then (some (.inl (.k0))) else ((F74 x2 a1).bind fun x4 => (bif x4 then ((GM x2 a1).bind fun x6 => (bif x6 then (bif (decide (x2.at_ < 1)) then (some (.inl (.k0))) else ((getI a1.prods x2.parent).bind fun x9 => (bif (decide (x2.at_ > (x9.right.length : Int))) then (some (.inl (.k0))) else ((getI x9.right (IntKind.wrap .i64 (x2.at_ - 1))).bind fun x11 => (bif (x11.kind != 1) then (some (.inl (.k0))) else ((getI a1.prods x2.child).bind fun x13 => (bif (x11.sort != x13.left) then (some (.inl (.k0))) else (some (.inr ((IntKind.wrap .i64 (v1 + 1)), (mput (x2.parent, x2.at_, x2.child) (IntKind.wrap .i64 ((mget 0 v2 (x2.parent, x2.at_, x2.child)) + 1)) v2))))))))))) else (some (.inl (.k0))))) else (some (.inl (.k0))))))) else (some (.inl (.k1 v2))))
def GN (v1 : Int) (v2 : List ((Int × Int × Int) × Int)) : St := ⟨fr 87 ug [(1, .ptr 0 0), (3, .mp 1), (4, (.fn 74 [.ptr 0 0])), (11, ls 3 Z6 a1.forbid), (12, i6 a2), (13, i6 v1)], [bG a1, mFI v2]⟩
theorem M2 (v1 : Int) (v2 : List ((Int × Int × Int) × Int)) : okT 2 (GN a1 a2 v1 v2).h = true := (Zr rfl (ac (UF (Mw (fun _ => rfl) (fun _ => rfl)) rfl)))
abbrev V7 (v1 : Int) (v2 : List ((Int × Int × Int) × Int)) := evH prg 2 [1, 3, 4, 11, 12, 13] Gp (GN a1 a2 v1 v2)
def M3 (e : E_L59_0) (r : Option (Out × St)) : Prop := match e with | .k0 => ∃ g y, r = some (.ret, ⟨fr 87 g [(2, vb false)], y⟩) | .k1 x0 => ∃ g, r = some ((.brk 0), ⟨fr 87 g [(1, .ptr 0 0), (11, ls 3 Z6 a1.forbid)], [bG a1, mFI x0]⟩)
abbrev KM (v2 : List ((Int × Int × Int) × Int)) (x2 : ForbD) : List AB := [bG a1, mFI v2, .cells 85 ((Z6 x2).map .p)]
abbrev Pz (v2 : List ((Int × Int × Int) × Int)) (x2 : ForbD) : List AB := [bG a1, mFI (ment 0 v2 (x2.parent, x2.at_, x2.child)), .cells 85 ((Z6 x2).map .p)]
abbrev WD (x2 : ForbD) (v2 : List ((Int × Int × Int) × Int)) : List AB := [bG a1, mFI (mput (x2.parent, x2.at_, x2.child) (w6 ((mget 0 v2 (x2.parent, x2.at_, x2.child)) + 1)) v2), .cells 85 ((Z6 x2).map .p)]
theorem Dx (v1 : Int) (v2 : List ((Int × Int × Int) × Int)) {r : E_L59_0 ⊕ (Int × (List ((Int × Int × Int) × Int)))} (h : Na a1 a2 v1 v2 = some r) : OkR (fun e => M3 a1 e (V7 a1 a2 v1 v2)) (fun s => V7 a1 a2 v1 v2 = V7 a1 a2 s.1 s.2) r := by
 unfold Na at h
 apply bi h <;> intro h1 h
 ·
  apply bn h; intro x2 h2 h
  have q0 := ((QA T6 (es := v2) (k := (x2.parent, x2.at_, x2.child)) (z := 0) rfl rfl) : lkA (KM a1 v2 x2) [1, 1, 1] .true .false [(.val (.int .i64 0))] .false (.mp 1) (.agg ((Z6 x2).map .p)) = some (i6 (mget 0 v2 (x2.parent, x2.at_, x2.child))))
  have q1 := ((Zba T6 (es := v2) (k := (x2.parent, x2.at_, x2.child)) (z := 0) rfl rfl) : enA (KM a1 v2 x2) [1, 1, 1] .true .false [(.val (.int .i64 0))] (.mp 1) (.agg ((Z6 x2).map .p)) = some ((.tup [(i6 (mget 0 v2 (x2.parent, x2.at_, x2.child))), (i6 (midx v2 (x2.parent, x2.at_, x2.child) : Int))]), Pz a1 v2 x2))
  have q2 := (⟨Zbb T6 (es := v2) (k := (x2.parent, x2.at_, x2.child)) (v := (w6 ((mget 0 v2 (x2.parent, x2.at_, x2.child)) + 1))) (z := 0) rfl, rfl⟩ : esA (Pz a1 v2 x2) (.mp 1) (i6 (midx v2 (x2.parent, x2.at_, x2.child) : Int)) (i6 (w6 ((mget 0 v2 (x2.parent, x2.at_, x2.child)) + 1))) = some (WD a1 x2 v2) ∧ ud = ud)
  have q3 := ((QA T6 (es := (mput (x2.parent, x2.at_, x2.child) (w6 ((mget 0 v2 (x2.parent, x2.at_, x2.child)) + 1)) v2)) (k := (x2.parent, x2.at_, x2.child)) (z := 0) rfl rfl) : lkA (WD a1 x2 v2) [1, 1, 1] .true .false [(.val (.int .i64 0))] .false (.mp 1) (.agg ((Z6 x2).map .p)) = some (i6 (mget 0 (mput (x2.parent, x2.at_, x2.child) (w6 ((mget 0 v2 (x2.parent, x2.at_, x2.child)) + 1)) v2) (x2.parent, x2.at_, x2.child))))
  have k4 := ka [(14, .d true), (15, .v (.ro (Z6 x2))), (19, .v (i6 (mget 0 v2 (x2.parent, x2.at_, x2.child)))), (21, .r (.tup [(i6 (mget 0 v2 (x2.parent, x2.at_, x2.child))), (i6 (midx v2 (x2.parent, x2.at_, x2.child) : Int))]) (Pz a1 v2 x2)), (8020, .r ud (WD a1 x2 v2)), (25, .v (i6 (mget 0 (mput (x2.parent, x2.at_, x2.child) (w6 ((mget 0 v2 (x2.parent, x2.at_, x2.child)) + 1)) v2) (x2.parent, x2.at_, x2.child))))] (av h1 (apc (ig Z6 3 .i64 h2) (apc q0 (apc q1 (apc q2 (apc q3 apn))))))
  apply bi h <;> intro h3 h
  ·
   rw [← sj h]
   exact xy (kH k4 ++ [(26, .d true), (6000, .d true)]) (k4.b (av h3 apn))
  ·
   apply bn h; intro x4 h4 h
   apply bi h <;> intro h5 h
   ·
    have q5 := ((((CK x2 a1 h4).own rfl (Zg rfl (Zg (YX rfl (Zf rfl (Zf rfl (Zf rfl (Zf rfl (Zf rfl rfl)))))) Zv)) rfl).trans (congrArg (fun z => some (vb z)) h5)) : CP prg 74 [i6 x2.parent, .ptr 0 0] (WD a1 x2 v2) = some (vb true))
    have k6 := k4.a [(26, .d false), (31, .v (vb true))] (av h3 (apc q5 apn))
    apply bn h; intro x6 h6 h
    apply bi h <;> intro h7 h
    ·
     have q7 := ((((KL x2 a1 h6).own rfl (Zg rfl (Zg (YX rfl (Zf rfl (Zf rfl (Zf rfl (Zf rfl (Zf rfl rfl)))))) Zv)) rfl).trans (congrArg (fun z => some (vb z)) h7)) : CP prg 74 [i6 x2.child, .ptr 0 0] (WD a1 x2 v2) = some (vb true))
     apply bi h <;> intro h8 h
     ·
      rw [← sj h]
      exact xy (kH k6 ++ [(38, .v (vb true)), (44, .d true), (6000, .d true)]) (k6.b (apc q7 (av h8 apn)))
     ·
      have k8 := k6.a [(38, .v (vb true)), (44, .d false)] (apc q7 (av h8 apn))
      apply bn h; intro x9 h9 h
      have k9 := k8.a [(53, .v (.ro (Zl x9))), (56, .v (i6 (x9.right.length : Int)))] (apc (ig Zl 7 .i64 h9) (apc (lg x9.right eSym 6) apn))
      apply bi h <;> intro h10 h
      ·
       rw [← sj h]
       exact xy (kH k9 ++ [(57, .d true), (6000, .d true)]) (k9.b (av h10 apn))
      ·
       have k10 := k9.a [(57, .d false), (63, .v (.ro (Zl x9)))] (av h10 (apc (ig Zl 7 .i64 h9) apn))
       apply bn h; intro x11 h11 h
       apply bi h <;> intro h12 h
       ·
        rw [← sj h]
        exact xy (kH k10 ++ [(69, .v (.ro (eSym x11))), (73, .d true), (6000, .d true)]) (k10.b (apc (ig eSym 6 .i64 h11) (av h12 apn)))
       ·
        have k11 := k10.a [(69, .v (.ro (eSym x11))), (73, .d false)] (apc (ig eSym 6 .i64 h11) (av h12 apn))
        apply bn h; intro x13 h13 h
        apply bi h <;> intro h14 h
        ·
         rw [← sj h]
         exact xy (kH k11 ++ [(81, .v (.ro (Zl x13))), (84, .d true), (6000, .d true)]) (k11.b (apc (ig Zl 7 .i64 h13) (av h14 apn)))
        ·
         rw [← sj h]
         exact rn (kH k11 ++ [(81, .v (.ro (Zl x13))), (84, .d false), (6000, .d true)]) (k11.b (apc (ig Zl 7 .i64 h13) (av h14 (apc (M2 a1 a2 (w6 (v1 + 1)) (mput (x2.parent, x2.at_, x2.child) (w6 ((mget 0 v2 (x2.parent, x2.at_, x2.child)) + 1)) v2)) apn))))
    ·
     rw [← sj h]
     exact xy (kH k6 ++ [(38, .v (vb false)), (6000, .d true)]) (k6.b (apc ((((KL x2 a1 h6).own rfl (Zg rfl (Zg (YX rfl (Zf rfl (Zf rfl (Zf rfl (Zf rfl (Zf rfl rfl)))))) Zv)) rfl).trans (congrArg (fun z => some (vb z)) h7)) : CP prg 74 [i6 x2.child, .ptr 0 0] (WD a1 x2 v2) = some (vb false)) apn))
   ·
    rw [← sj h]
    exact xy (kH k4 ++ [(26, .d false), (31, .v (vb false)), (6000, .d true)]) (k4.b (av h3 (apc ((((CK x2 a1 h4).own rfl (Zg rfl (Zg (YX rfl (Zf rfl (Zf rfl (Zf rfl (Zf rfl (Zf rfl rfl)))))) Zv)) rfl).trans (congrArg (fun z => some (vb z)) h5)) : CP prg 74 [i6 x2.parent, .ptr 0 0] (WD a1 x2 v2) = some (vb false)) apn)))
 ·
  rw [← sj h]
  exact xb [(14, .d false), (6000, .d true)] (av h1 apn)
theorem Nb (s0 : Int × (List ((Int × Int × Int) × Int))) (e : E_L59_0) (h : runL (fun s => Na a1 a2 s.1 s.2) s0 = some e) : M3 a1 e (V7 a1 a2 s0.1 s0.2) := by
  have q := @Zb (Int × (List ((Int × Int × Int) × Int))) E_L59_0 (fun s => Na a1 a2 s.1 s.2) (fun s => V7 a1 a2 s.1 s.2) (M3 a1) (fun s r h => Dx a1 a2 s.1 s.2 h) s0 e h
  exact q
end
def Zch (a1 : GramD) (x0 : Bool) : AV := (vb x0)
def F59 (a1 : GramD) : Option Bool :=
  ((runL (fun s => Na a1 (a1.forbid.length : Int) s.1 s.2) (0, [])).bind fun r1 => match r1 with | .k0 => (some false) | .k1 x1_0 => (some true))
abbrev CL (g1 : Nat → AV) (a1 : GramD) (x1_0 : List ((Int × Int × Int) × Int)) : St := ⟨fr 87 g1 [(1, .ptr 0 0), (11, ls 3 Z6 a1.forbid)], [bG a1, mFI x1_0]⟩
theorem CM (a1 : GramD) {r : Bool} (h : F59 a1 = some r) : PR1 prg 59 [aG a1] (Zch a1 r) := by
 unfold F59 at h
 have k0 := ka [(12, .v (i6 (lF a1)))] (apc (lg a1.forbid Z6 3) apn)
 apply bn h; intro r1 h1 h
 cases r1 with
 | k0 =>
  obtain ⟨g1, y1, e1⟩ := Nb a1 (lF a1) (0, []) _ h1
  rw [← sj h]
  exact fq (kH k0 ++ [(2000, .l .ret ⟨fr 87 g1 [(2, vb false)], y1⟩), (6000, .d true)]) (k0.b (apc (M2 a1 (lF a1) 0 ([])) (apc (e1 : V7 a1 (lF a1) 0 ([]) = some (.ret, ⟨fr 87 g1 [(2, vb false)], y1⟩)) apn)))
 | k1 x1_0 =>
  obtain ⟨g1, e1⟩ := Nb a1 (lF a1) (0, []) _ h1
  rw [← sj h]
  exact fq (kH k0 ++ [(2000, .l (.brk 0) (CL g1 a1 x1_0)), (6000, .d true)]) (k0.b (apc (M2 a1 (lF a1) 0 ([])) (apc (e1 : V7 a1 (lF a1) 0 ([]) = some ((.brk 0), CL g1 a1 x1_0)) apn)))
inductive E_L60_0 where
  | k0
  | k1 (x0 : List (Int × Int))
section
variable (a1 : GramD) (a2 : Int)
def Nc (v1 : Int) (v2 : List (Int × Int)) : Option (E_L60_0 ⊕ (Int × (List (Int × Int)))) :=
  (bif (decide (v1 < a2)) then ((getI a1.follow v1).bind fun x2 => (bif (decide ((mget 0 (mput x2.sort (IntKind.wrap .i64 ((mget 0 v2 x2.sort) + 1)) v2) x2.sort) > 1)) then (some (.inl (.k0))) else (bif (decide (x2.sort < 0)) then (some (.inl (.k0))) else (bif (decide (x2.sort ≥ (a1.sorts.length : Int))) then (some (.inl (.k0))) else (bif ((x2.a == 0) && ((x2.b == 0) && ((x2.c == 0) && ((x2.d == 0) && true)))) then (some (.inl (.k0))) else (some (.inr ((IntKind.wrap .i64 (v1 + 1)), (mput x2.sort (IntKind.wrap .i64 ((mget 0 v2 x2.sort) + 1)) v2))))))))) else (some (.inl (.k1 v2))))
def GO (v1 : Int) (v2 : List (Int × Int)) : St := ⟨fr 44 ug [(1, .ptr 0 0), (3, .mp 1), (8, ls 5 Z8 a1.follow), (9, i6 a2), (10, i6 v1)], [bG a1, mII v2]⟩
theorem M4 (v1 : Int) (v2 : List (Int × Int)) : okT 2 (GO a1 a2 v1 v2).h = true := (Zr rfl (ac (UF (Mw (fun _ => rfl) (fun _ => rfl)) rfl)))
abbrev V8 (v1 : Int) (v2 : List (Int × Int)) := evH prg 2 [1, 3, 8, 9, 10] Gq (GO a1 a2 v1 v2)
def M5 (e : E_L60_0) (r : Option (Out × St)) : Prop := match e with | .k0 => ∃ g y, r = some (.ret, ⟨fr 44 g [(2, vb false)], y⟩) | .k1 x0 => ∃ g, r = some ((.brk 0), ⟨fr 44 g [(1, .ptr 0 0), (8, ls 5 Z8 a1.follow)], [bG a1, mII x0]⟩)
abbrev KN (v2 : List (Int × Int)) (x2 : FollD) : List AB := [bG a1, mII v2, .cells 87 ((Z8 x2).map .p)]
abbrev PA (x2 : FollD) (v2 : List (Int × Int)) : List AB := [bG a1, mII (mput x2.sort (w6 ((mget 0 v2 x2.sort) + 1)) v2), .cells 87 ((Z8 x2).map .p)]
theorem Dy (v1 : Int) (v2 : List (Int × Int)) {r : E_L60_0 ⊕ (Int × (List (Int × Int)))} (h : Nc a1 a2 v1 v2 = some r) : OkR (fun e => M5 a1 e (V8 a1 a2 v1 v2)) (fun s => V8 a1 a2 v1 v2 = V8 a1 a2 s.1 s.2) r := by
 unfold Nc at h
 apply bi h <;> intro h1 h
 ·
  apply bn h; intro x2 h2 h
  have q0 := ((QA My (es := v2) (k := x2.sort) (z := 0) rfl rfl) : lkA (KN a1 v2 x2) [1] .false .false [(.val (.int .i64 0))] .false (.mp 1) (i6 x2.sort) = some (i6 (mget 0 v2 x2.sort)))
  have q1 := (⟨Cu My (es := v2) (k := x2.sort) (v := (w6 ((mget 0 v2 x2.sort) + 1))) rfl, rfl⟩ : upA (KN a1 v2 x2) [1] .false (.mp 1) (i6 x2.sort) (i6 (w6 ((mget 0 v2 x2.sort) + 1))) = some (PA a1 x2 v2) ∧ ud = ud)
  have q2 := ((QA My (es := (mput x2.sort (w6 ((mget 0 v2 x2.sort) + 1)) v2)) (k := x2.sort) (z := 0) rfl rfl) : lkA (PA a1 x2 v2) [1] .false .false [(.val (.int .i64 0))] .false (.mp 1) (i6 x2.sort) = some (i6 (mget 0 (mput x2.sort (w6 ((mget 0 v2 x2.sort) + 1)) v2) x2.sort)))
  have k3 := ka [(11, .d true), (12, .v (.ro (Z8 x2))), (17, .v (i6 (mget 0 v2 x2.sort))), (7018, .r ud (PA a1 x2 v2)), (22, .v (i6 (mget 0 (mput x2.sort (w6 ((mget 0 v2 x2.sort) + 1)) v2) x2.sort)))] (av h1 (apc (ig Z8 5 .i64 h2) (apc q0 (apc q1 (apc q2 apn)))))
  apply bi h <;> intro h3 h
  ·
   rw [← sj h]
   exact xy (kH k3 ++ [(23, .d true), (6000, .d true)]) (k3.b (av h3 apn))
  ·
   apply bi h <;> intro h4 h
   ·
    rw [← sj h]
    exact xy (kH k3 ++ [(23, .d false), (27, .d true), (6000, .d true)]) (k3.b (av h3 (av h4 apn)))
   ·
    have k4 := k3.a [(23, .d false), (27, .d false), (34, .v (i6 (lS a1)))] (av h3 (av h4 (apc (lg a1.sorts eStr 1) apn)))
    apply bi h <;> intro h5 h
    ·
     rw [← sj h]
     exact xy (kH k4 ++ [(35, .d true), (6000, .d true)]) (k4.b (av h5 apn))
    ·
     apply bi h <;> intro h6 h
     ·
      rw [← sj h]
      exact xy (kH k4 ++ [(35, .d false), (41, .d true), (6000, .d true)]) (k4.b (av h5 (av h6 apn)))
     ·
      rw [← sj h]
      exact rn (kH k4 ++ [(35, .d false), (41, .d false), (6000, .d true)]) (k4.b (av h5 (av h6 (apc (M4 a1 a2 (w6 (v1 + 1)) (mput x2.sort (w6 ((mget 0 v2 x2.sort) + 1)) v2)) apn))))
 ·
  rw [← sj h]
  exact xb [(11, .d false), (6000, .d true)] (av h1 apn)
theorem Nd (s0 : Int × (List (Int × Int))) (e : E_L60_0) (h : runL (fun s => Nc a1 a2 s.1 s.2) s0 = some e) : M5 a1 e (V8 a1 a2 s0.1 s0.2) := by
  have q := @Zb (Int × (List (Int × Int))) E_L60_0 (fun s => Nc a1 a2 s.1 s.2) (fun s => V8 a1 a2 s.1 s.2) (M5 a1) (fun s r h => Dy a1 a2 s.1 s.2 h) s0 e h
  exact q
end
def Zci (a1 : GramD) (x0 : Bool) : AV := (vb x0)
def F60 (a1 : GramD) : Option Bool :=
  ((runL (fun s => Nc a1 (a1.follow.length : Int) s.1 s.2) (0, [])).bind fun r1 => match r1 with | .k0 => (some false) | .k1 x1_0 => (some true))
abbrev CN (g1 : Nat → AV) (a1 : GramD) (x1_0 : List (Int × Int)) : St := ⟨fr 44 g1 [(1, .ptr 0 0), (8, ls 5 Z8 a1.follow)], [bG a1, mII x1_0]⟩
theorem CO (a1 : GramD) {r : Bool} (h : F60 a1 = some r) : PR1 prg 60 [aG a1] (Zci a1 r) := by
 unfold F60 at h
 have k0 := ka [(9, .v (i6 (lW a1)))] (apc (lg a1.follow Z8 5) apn)
 apply bn h; intro r1 h1 h
 cases r1 with
 | k0 =>
  obtain ⟨g1, y1, e1⟩ := Nd a1 (lW a1) (0, []) _ h1
  rw [← sj h]
  exact fq (kH k0 ++ [(2000, .l .ret ⟨fr 44 g1 [(2, vb false)], y1⟩), (6000, .d true)]) (k0.b (apc (M4 a1 (lW a1) 0 ([])) (apc (e1 : V8 a1 (lW a1) 0 ([]) = some (.ret, ⟨fr 44 g1 [(2, vb false)], y1⟩)) apn)))
 | k1 x1_0 =>
  obtain ⟨g1, e1⟩ := Nd a1 (lW a1) (0, []) _ h1
  rw [← sj h]
  exact fq (kH k0 ++ [(2000, .l (.brk 0) (CN g1 a1 x1_0)), (6000, .d true)]) (k0.b (apc (M4 a1 (lW a1) 0 ([])) (apc (e1 : V8 a1 (lW a1) 0 ([]) = some ((.brk 0), CN g1 a1 x1_0)) apn)))
inductive E_L29_0 where
  | k0
  | k1
section
variable (a1 : GramD)
def RZ (v1 : Int) : Option (E_L29_0 ⊕ (Int)) :=
  (bif (decide (v1 < 4)) then (bif (v1 == 0) then ((F57 a1).bind fun x3 => (bif x3 then (some (.inr ((IntKind.wrap .i64 (v1 + 1))))) else (some (.inl (.k0))))) else (bif (v1 == 1) then ((F58 a1).bind fun x4 => (bif x4 then (some (.inr ((IntKind.wrap .i64 (v1 + 1))))) else (some (.inl (.k0))))) else (bif (v1 == 2) then ((F59 a1).bind fun x5 => (bif x5 then (some (.inr ((IntKind.wrap .i64 (v1 + 1))))) else (some (.inl (.k0))))) else (bif (v1 == 3) then ((F60 a1).bind fun x6 => (bif x6 then (some (.inr ((IntKind.wrap .i64 (v1 + 1))))) else (some (.inl (.k0))))) else none)))) else (some (.inl (.k1))))
def GP (v1 : Int) : St := ⟨fr 14 ug [(1, .ptr 0 0), (5, (.agg [(.fn 57 []), (.fn 58 []), (.fn 59 []), (.fn 60 [])])), (6, i6 v1)], [bG a1]⟩
theorem Tc (v1 : Int) : okT 1 (GP a1 v1).h = true := (Zr rfl (ac rfl))
abbrev V9 (v1 : Int) := evH prg 1 [1, 5, 6] H9 (GP a1 v1)
def M6 (e : E_L29_0) (r : Option (Out × St)) : Prop := match e with | .k0 => ∃ g y, r = some (.ret, ⟨fr 14 g [(2, i6 160)], y⟩) | .k1 => ∃ g, r = some ((.brk 0), ⟨fr 14 g [], [bG a1]⟩)
theorem Dz (v1 : Int) {r : E_L29_0 ⊕ (Int)} (h : RZ a1 v1 = some r) : OkR (fun e => M6 a1 e (V9 a1 v1)) (fun s => V9 a1 v1 = V9 a1 s) r := by
 unfold RZ at h
 apply bi h <;> intro h1 h
 ·
  apply bi h <;> intro h2 h
  ·
   have q0 := ((ZX h2 (fun z => ixG false 4 1 (.agg [(.fn 57 []), (.fn 58 []), (.fn 59 []), (.fn 60 [])]) (i6 z)) rfl) : ixG false 4 1 (.agg [(.fn 57 []), (.fn 58 []), (.fn 59 []), (.fn 60 [])]) (i6 v1) = some (.fn 57 []))
   have k1 := ka [(7, .d true), (8, .v (.fn 57 []))] (av h1 (apc q0 apn))
   apply bn h; intro x3 h3 h
   apply bi h <;> intro h4 h
   ·
    rw [← sj h]
    exact rn (kH k1 ++ [(11, .v (vb true)), (6000, .d true)]) (k1.b (apc ((((CG a1 h3).cp rfl _).trans (congrArg (fun z => some (vb z)) h4)) : CP prg 57 [aG a1] [bG a1] = some (vb true)) (apc (Tc a1 (w6 (v1 + 1))) apn)))
   ·
    rw [← sj h]
    exact xy (kH k1 ++ [(11, .v (vb false)), (6000, .d true)]) (k1.b (apc ((((CG a1 h3).cp rfl _).trans (congrArg (fun z => some (vb z)) h4)) : CP prg 57 [aG a1] [bG a1] = some (vb false)) apn))
  ·
   apply bi h <;> intro h3 h
   ·
    have q2 := ((ZX h3 (fun z => ixG false 4 1 (.agg [(.fn 57 []), (.fn 58 []), (.fn 59 []), (.fn 60 [])]) (i6 z)) rfl) : ixG false 4 1 (.agg [(.fn 57 []), (.fn 58 []), (.fn 59 []), (.fn 60 [])]) (i6 v1) = some (.fn 58 []))
    have k3 := ka [(7, .d true), (8, .v (.fn 58 []))] (av h1 (apc q2 apn))
    apply bn h; intro x4 h4 h
    apply bi h <;> intro h5 h
    ·
     rw [← sj h]
     exact rn (kH k3 ++ [(11, .v (vb true)), (6000, .d true)]) (k3.b (apc ((((CJ a1 h4).cp rfl _).trans (congrArg (fun z => some (vb z)) h5)) : CP prg 58 [aG a1] [bG a1] = some (vb true)) (apc (Tc a1 (w6 (v1 + 1))) apn)))
    ·
     rw [← sj h]
     exact xy (kH k3 ++ [(11, .v (vb false)), (6000, .d true)]) (k3.b (apc ((((CJ a1 h4).cp rfl _).trans (congrArg (fun z => some (vb z)) h5)) : CP prg 58 [aG a1] [bG a1] = some (vb false)) apn))
   ·
    apply bi h <;> intro h4 h
    ·
     have q4 := ((ZX h4 (fun z => ixG false 4 1 (.agg [(.fn 57 []), (.fn 58 []), (.fn 59 []), (.fn 60 [])]) (i6 z)) rfl) : ixG false 4 1 (.agg [(.fn 57 []), (.fn 58 []), (.fn 59 []), (.fn 60 [])]) (i6 v1) = some (.fn 59 []))
     have k5 := ka [(7, .d true), (8, .v (.fn 59 []))] (av h1 (apc q4 apn))
     apply bn h; intro x5 h5 h
     apply bi h <;> intro h6 h
     ·
      rw [← sj h]
      exact rn (kH k5 ++ [(11, .v (vb true)), (6000, .d true)]) (k5.b (apc ((((CM a1 h5).cp rfl _).trans (congrArg (fun z => some (vb z)) h6)) : CP prg 59 [aG a1] [bG a1] = some (vb true)) (apc (Tc a1 (w6 (v1 + 1))) apn)))
     ·
      rw [← sj h]
      exact xy (kH k5 ++ [(11, .v (vb false)), (6000, .d true)]) (k5.b (apc ((((CM a1 h5).cp rfl _).trans (congrArg (fun z => some (vb z)) h6)) : CP prg 59 [aG a1] [bG a1] = some (vb false)) apn))
    ·
     apply bi h <;> intro h5 h
     ·
      have q6 := ((ZX h5 (fun z => ixG false 4 1 (.agg [(.fn 57 []), (.fn 58 []), (.fn 59 []), (.fn 60 [])]) (i6 z)) rfl) : ixG false 4 1 (.agg [(.fn 57 []), (.fn 58 []), (.fn 59 []), (.fn 60 [])]) (i6 v1) = some (.fn 60 []))
      have k7 := ka [(7, .d true), (8, .v (.fn 60 []))] (av h1 (apc q6 apn))
      apply bn h; intro x6 h6 h
      apply bi h <;> intro h7 h
      ·
       rw [← sj h]
       exact rn (kH k7 ++ [(11, .v (vb true)), (6000, .d true)]) (k7.b (apc ((((CO a1 h6).cp rfl _).trans (congrArg (fun z => some (vb z)) h7)) : CP prg 60 [aG a1] [bG a1] = some (vb true)) (apc (Tc a1 (w6 (v1 + 1))) apn)))
      ·
       rw [← sj h]
       exact xy (kH k7 ++ [(11, .v (vb false)), (6000, .d true)]) (k7.b (apc ((((CO a1 h6).cp rfl _).trans (congrArg (fun z => some (vb z)) h7)) : CP prg 60 [aG a1] [bG a1] = some (vb false)) apn))
     ·
      cases h
 ·
  rw [← sj h]
  exact xb [(7, .d false), (6000, .d true)] (av h1 apn)
theorem Nf (s0 : Int) (e : E_L29_0) (h : runL (fun s => RZ a1 s) s0 = some e) : M6 a1 e (V9 a1 s0) := by
  have q := @Zb (Int) E_L29_0 (fun s => RZ a1 s) (fun s => V9 a1 s) (M6 a1) (fun s r h => Dz a1 s h) s0 e h
  exact q
end
def Zcj (a1 : GramD) (x0 : Int) : AV := (i6 x0)
def F29 (a1 : GramD) : Option Int :=
  ((runL (fun s => RZ a1 s) 0).bind fun r1 => match r1 with | .k0 => (some 160) | .k1 => (some 0))
theorem Zbg (a1 : GramD) {r : Int} (h : F29 a1 = some r) : PR1 prg 29 [aG a1] (Zcj a1 r) := by
 unfold F29 at h
 apply bn h; intro r1 h1 h
 cases r1 with
 | k0 =>
  obtain ⟨g1, y1, e1⟩ := Nf a1 0 _ h1
  rw [← sj h]
  exact fq [(2000, .l .ret ⟨fr 14 g1 [(2, i6 160)], y1⟩), (6000, .d true)] (apc (Tc a1 0) (apc (e1 : V9 a1 0 = some (.ret, ⟨fr 14 g1 [(2, i6 160)], y1⟩)) apn))
 | k1 =>
  obtain ⟨g1, e1⟩ := Nf a1 0 _ h1
  rw [← sj h]
  exact fq [(2000, .l (.brk 0) ⟨fr 14 g1 [], [bG a1]⟩), (6000, .d true)] (apc (Tc a1 0) (apc (e1 : V9 a1 0 = some ((.brk 0), ⟨fr 14 g1 [], [bG a1]⟩)) apn))
inductive E_L45_0 where
  | k0 (x0 : List Int)
section
variable (a1 : Int) (a2 : GramD) (a4 : List Bool) (a5 : Nat)
def PB (v1 : Int) (v2 : List Int) : Option (E_L45_0 ⊕ (Int × (List Int))) :=
  (bif (decide (v1 < a1)) then ((ixN a5 v1).bind fun x2 => ((v2[x2]?).bind fun x3 => (some (.inr ((IntKind.wrap .i64 (v1 + 1)), (v2.set x2 (-1))))))) else (some (.inl (.k0 v2))))
def GQ (v1 : Int) (v2 : List Int) : St := ⟨fr 42 ug [(5, .ptr 4 0), (27, i6 a1), (28, i6 v1)], [bG a2, bI v2, bB a4, .cells 93 (ap (Yc a2) [.sl 1 0 1 0 a5, .sl 2 0 1 0 a5]), .cells 89 [.ptr 3 0]]⟩
theorem GS (v1 : Int) (v2 : List Int) : okT 5 (GQ a1 a2 a4 a5 v1 v2).h = true := (Zr rfl (ac (ar (ar (ac (ac rfl))))))
abbrev Td (v1 : Int) (v2 : List Int) := evH prg 5 [5, 27, 28] Gi (GQ a1 a2 a4 a5 v1 v2)
def M7 (e : E_L45_0) (r : Option (Out × St)) : Prop := match e with | .k0 x0 => ∃ g, r = some ((.brk 0), ⟨fr 42 g [(5, .ptr 4 0)], [bG a2, bI x0, bB a4, .cells 93 (ap (Yc a2) [.sl 1 0 1 0 a5, .sl 2 0 1 0 a5]), .cells 89 [.ptr 3 0]]⟩)
abbrev KO (v2 : List Int) (x2 : Nat) : List AB := [bG a2, bI (v2.set x2 (-1)), bB a4, .cells 93 (ap (Yc a2) [.sl 1 0 1 0 a5, .sl 2 0 1 0 a5]), .cells 89 [.ptr 3 0]]
theorem DA (v1 : Int) (v2 : List Int) {r : E_L45_0 ⊕ (Int × (List Int))} (h : PB a1 a5 v1 v2 = some r) : OkR (fun e => M7 a2 a4 a5 e (Td a1 a2 a4 a5 v1 v2)) (fun s => Td a1 a2 a4 a5 v1 v2 = Td a1 a2 a4 a5 s.1 s.2) r := by
 unfold PB at h
 apply bi h <;> intro h1 h
 ·
  apply bn h; intro x2 h2 h
  apply bn h; intro x3 h3 h
  rw [← sj h]
  exact rn [(29, .d true), (36, .v (.rp 1 0 1 x2 0)), (1036, .r ud (KO a2 a4 a5 v2 x2)), (6000, .d true)] (av h1 (apc ((ZW h2) : idxA 1 (.sl 1 0 1 0 a5) (i6 v1) = some (.rp 1 0 1 x2 0)) (apc (⟨Zt (v' := (-1)) rfl h3 rfl rfl (Nat.le_of_ble_eq_true rfl) rfl, rfl⟩ : stA [bG a2, bI v2, bB a4, .cells 93 (ap (Yc a2) [.sl 1 0 1 0 a5, .sl 2 0 1 0 a5]), .cells 89 [.ptr 3 0]] 1 (.rp 1 0 1 x2 0) (i6 (-1)) = some (KO a2 a4 a5 v2 x2) ∧ ud = ud) (apc (GS a1 a2 a4 a5 (w6 (v1 + 1)) (v2.set x2 (-1))) apn))))
 ·
  rw [← sj h]
  exact xb [(29, .d false), (6000, .d true)] (av h1 apn)
theorem GT (s0 : Int × (List Int)) (e : E_L45_0) (h : runL (fun s => PB a1 a5 s.1 s.2) s0 = some e) : M7 a2 a4 a5 e (Td a1 a2 a4 a5 s0.1 s0.2) := by
  have q := @Zb (Int × (List Int)) E_L45_0 (fun s => PB a1 a5 s.1 s.2) (fun s => Td a1 a2 a4 a5 s.1 s.2) (M7 a2 a4 a5) (fun s r h => DA a1 a2 a4 a5 s.1 s.2 h) s0 e h
  exact q
end
def Zck (a1 : ProdD) (x0 : Bool) : AV := (vb x0)
def F54 (a1 : ProdD) : Option Bool :=
  (some (a1.role != 11))
theorem TG (a1 : ProdD) {r : Bool} (h : F54 a1 = some r) : PR1 prg 54 [aP a1] (Zck a1 r) := by
 unfold F54 at h
 rw [← sj h]
 exact fq [] apn
inductive E_L48_0 where
  | k0
  | k1 (x0 : Int)
section
variable (a1 : GramD) (a2 : List Int) (a3 : List Bool) (a4 : ProdD) (a5 : Int)
def Ng (v1 v2 : Int) : Option (E_L48_0 ⊕ (Int × Int)) :=
  (bif (decide (v2 < a5)) then ((getI a4.right v2).bind fun x2 => (bif (x2.kind == 1) then ((getI a2 x2.sort).bind fun x4 => (bif (decide (x4 < 0)) then (some (.inl (.k0))) else (some (.inr ((if 1048577 < (IntKind.wrap .i64 (v1 + x4)) then 1048577 else (IntKind.wrap .i64 (v1 + x4))), (IntKind.wrap .i64 (v2 + 1))))))) else (some (.inr ((if 1048577 < (IntKind.wrap .i64 (v1 + 1)) then 1048577 else (IntKind.wrap .i64 (v1 + 1))), (IntKind.wrap .i64 (v2 + 1))))))) else (some (.inl (.k1 v1))))
def GU (v1 v2 : Int) : St := ⟨fr 35 ug [(0, (.ro (eOp a1 a2 a3))), (5, i6 v1), (10, ls 6 eSym a4.right), (11, i6 a5), (12, i6 v2)], [bP a4]⟩
theorem PC (v1 v2 : Int) : okT 1 (GU a1 a2 a3 a4 a5 v1 v2).h = true := (Zr rfl (ac rfl))
abbrev Ua (v1 v2 : Int) := evH prg 1 [0, 5, 10, 11, 12] Gj (GU a1 a2 a3 a4 a5 v1 v2)
def M8 (e : E_L48_0) (r : Option (Out × St)) : Prop := match e with | .k0 => ∃ g y, r = some (.ret, ⟨fr 35 g [(4, (i6 (-1)))], y⟩) | .k1 x0 => ∃ g, r = some ((.brk 0), ⟨fr 35 g [(5, i6 x0), (10, ls 6 eSym a4.right)], [bP a4]⟩)
theorem DB (v1 v2 : Int) {r : E_L48_0 ⊕ (Int × Int)} (h : Ng a2 a4 a5 v1 v2 = some r) : OkR (fun e => M8 a4 e (Ua a1 a2 a3 a4 a5 v1 v2)) (fun s => Ua a1 a2 a3 a4 a5 v1 v2 = Ua a1 a2 a3 a4 a5 s.1 s.2) r := by
 unfold Ng at h
 apply bi h <;> intro h1 h
 ·
  apply bn h; intro x2 h2 h
  have k0 := ka [(13, .d true), (14, .v (.ro (eSym x2)))] (av h1 (apc (ig eSym 6 .i64 h2) apn))
  apply bi h <;> intro h3 h
  ·
   apply bn h; intro x4 h4 h
   have k1 := k0.a [(18, .d true), (25, .v (.ro [.val (.int .i64 x4)]))] (av h3 (apc (ig eI64 1 .i64 h4) apn))
   apply bi h <;> intro h5 h
   ·
    rw [← sj h]
    exact xy (kH k1 ++ [(28, .d true), (6000, .d true)]) (k1.b (av h5 apn))
   ·
    rw [← sj h]
    exact rn (kH k1 ++ [(28, .d false), (6000, .d true)]) (k1.b (av h5 (apc (PC a1 a2 a3 a4 a5 (if 1048577 < (w6 (v1 + x4)) then 1048577 else (w6 (v1 + x4))) (w6 (v2 + 1))) apn)))
  ·
   rw [← sj h]
   exact rn (kH k0 ++ [(18, .d false), (6000, .d true)]) (k0.b (av h3 (apc (PC a1 a2 a3 a4 a5 (if 1048577 < (w6 (v1 + 1)) then 1048577 else (w6 (v1 + 1))) (w6 (v2 + 1))) apn)))
 ·
  rw [← sj h]
  exact xb [(13, .d false), (6000, .d true)] (av h1 apn)
theorem Nh (s0 : Int × Int) (e : E_L48_0) (h : runL (fun s => Ng a2 a4 a5 s.1 s.2) s0 = some e) : M8 a4 e (Ua a1 a2 a3 a4 a5 s0.1 s0.2) := by
  have q := @Zb (Int × Int) E_L48_0 (fun s => Ng a2 a4 a5 s.1 s.2) (fun s => Ua a1 a2 a3 a4 a5 s.1 s.2) (M8 a4) (fun s r h => DB a1 a2 a3 a4 a5 s.1 s.2 h) s0 e h
  exact q
end
def Zcl (a1 : GramD) (a2 : List Int) (a3 : List Bool) (a4 : ProdD) (x0 : Int) : AV := (i6 x0)
def F48 (a2 : List Int) (a4 : ProdD) : Option Int :=
  ((runL (fun s => Ng a2 a4 (a4.right.length : Int) s.1 s.2) (0, 0)).bind fun r1 => match r1 with | .k0 => (some (-1)) | .k1 x1_0 => (some x1_0))
abbrev CQ (g1 : Nat → AV) (x1_0 : Int) (a4 : ProdD) : St := ⟨fr 35 g1 [(5, i6 x1_0), (10, ls 6 eSym a4.right)], [bP a4]⟩
theorem KQ (a1 : GramD) (a2 : List Int) (a3 : List Bool) (a4 : ProdD) {r : Int} (h : F48 a2 a4 = some r) : PR1 prg 48 [(.ro (eOp a1 a2 a3)), aP a4] (Zcl a1 a2 a3 a4 r) := by
 unfold F48 at h
 have k0 := ka [(11, .v (i6 (a4.right.length : Int)))] (apc (lg a4.right eSym 6) apn)
 apply bn h; intro r1 h1 h
 cases r1 with
 | k0 =>
  obtain ⟨g1, y1, e1⟩ := Nh a1 a2 a3 a4 (a4.right.length : Int) (0, 0) _ h1
  rw [← sj h]
  exact fq (kH k0 ++ [(2000, .l .ret ⟨fr 35 g1 [(4, (i6 (-1)))], y1⟩), (6000, .d true)]) (k0.b (apc (PC a1 a2 a3 a4 (a4.right.length : Int) 0 0) (apc (e1 : Ua a1 a2 a3 a4 (a4.right.length : Int) 0 0 = some (.ret, ⟨fr 35 g1 [(4, (i6 (-1)))], y1⟩)) apn)))
 | k1 x1_0 =>
  obtain ⟨g1, e1⟩ := Nh a1 a2 a3 a4 (a4.right.length : Int) (0, 0) _ h1
  rw [← sj h]
  exact fq (kH k0 ++ [(2000, .l (.brk 0) (CQ g1 x1_0 a4)), (6000, .d true)]) (k0.b (apc (PC a1 a2 a3 a4 (a4.right.length : Int) 0 0) (apc (e1 : Ua a1 a2 a3 a4 (a4.right.length : Int) 0 0 = some ((.brk 0), CQ g1 x1_0 a4)) apn)))
inductive R_F69 where
  | k0 (x0 : Bool) (x1 : List Int) (x2 : List Bool)
def Zcm (a1 : ProdD) (a2 : GramD) (a3 : List Int) (a4 : List Bool) (a5 : Nat) (r : R_F69) : AV := match r with | .k0 x0 x1 x2 => (vb x0)
def Zcn (a1 : ProdD) (a2 : GramD) (a3 : List Int) (a4 : List Bool) (a5 : Nat) (r : R_F69) : List AB := match r with | .k0 x0 x1 x2 => [bG a2, bI x1, bB x2, .cells 93 (ap (Yc a2) [.sl 1 0 1 0 a5, .sl 2 0 1 0 a5]), .cells 89 [.ptr 3 0], yY0, bP a1, bP a1]
def F69 (a1 : ProdD) (a3 : List Int) (a4 : List Bool) (a5 : Nat) : Option R_F69 :=
  (bif (decide (a5 ≤ a3.length)) then (bif (decide (a5 ≤ a4.length)) then ((F48 (a3.take a5) a1).bind fun x3 => ((ixN a5 a1.left).bind fun x4 => ((a3[x4]?).bind fun x5 => (bif (decide (x3 < 0)) then (some (.k0 false a3 a4)) else (bif (decide (x5 ≥ 0)) then (bif (decide (x5 ≤ x3)) then (some (.k0 false a3 a4)) else ((a4[x4]?).bind fun x9 => (some (.k0 true (a3.set x4 x3) (a4.set x4 (x3 == 0)))))) else ((a4[x4]?).bind fun x8 => (some (.k0 true (a3.set x4 x3) (a4.set x4 (x3 == 0)))))))))) else none) else none)
abbrev GV (a2 : GramD) (a3 : List Int) (a4 : List Bool) (a5 : Nat) (a1 : ProdD) : List AB := [bG a2, bI a3, bB a4, .cells 93 (ap (Yc a2) [.sl 1 0 1 0 a5, .sl 2 0 1 0 a5]), .cells 89 [.ptr 3 0], yY0, bP a1, bP a1]
abbrev Ni (a2 : GramD) (a3 : List Int) (x4 : Nat) (x3 : Int) (a4 : List Bool) (a5 : Nat) (a1 : ProdD) : List AB := [bG a2, bI (a3.set x4 x3), bB a4, .cells 93 (ap (Yc a2) [.sl 1 0 1 0 a5, .sl 2 0 1 0 a5]), .cells 89 [.ptr 3 0], yY0, bP a1, bP a1]
abbrev KR (a2 : GramD) (a3 : List Int) (x4 : Nat) (x3 : Int) (a4 : List Bool) (a5 : Nat) (a1 : ProdD) : List AB := [bG a2, bI (a3.set x4 x3), bB (a4.set x4 (x3 == 0)), .cells 93 (ap (Yc a2) [.sl 1 0 1 0 a5, .sl 2 0 1 0 a5]), .cells 89 [.ptr 3 0], yY0, bP a1, bP a1]
theorem CR (a1 : ProdD) (a2 : GramD) (a3 : List Int) (a4 : List Bool) (a5 : Nat) {r : R_F69} (h : F69 a1 a3 a4 a5 = some r) : CS prg 69 [aP a1, .ptr 4 0] [bG a2, bI a3, bB a4, .cells 93 (ap (Yc a2) [.sl 1 0 1 0 a5, .sl 2 0 1 0 a5]), .cells 89 [.ptr 3 0], yY0, bP a1] = some (Zcm a1 a2 a3 a4 a5 r, Zcn a1 a2 a3 a4 a5 r) := by
 unfold F69 at h
 apply bi h <;> intro h1 h
 ·
  apply bi h <;> intro h2 h
  ·
   apply bn h; intro x3 h3 h
   have q0 := (((KQ a2 (a3.take a5) (a4.take a5) a1 h3).own rfl (Zg (YX rfl (Zf rfl (Zf rfl (Zf rfl (Zf rfl (Zf rfl (Zf (S4 (e := eI64) rfl h1) (Zf (S4 (e := Zk) rfl h2) rfl)))))))) (Zg rfl Zv)) rfl) : CP prg 48 [.ptr 3 0, aP a1] (GV a2 a3 a4 a5 a1) = some (i6 x3))
   apply bn h; intro x4 h4 h
   have q1 := ((ZW h4) : idxA 1 (.sl 1 0 1 0 a5) (i6 a1.left) = some (.rp 1 0 1 x4 0))
   have q2 := ((ZW h4) : idxA 1 (.sl 2 0 1 0 a5) (i6 a1.left) = some (.rp 2 0 1 x4 0))
   have k3 := ka [(8, .v (i6 x3)), (15, .v (.rp 1 0 1 x4 0))] (apc q0 (apc q1 apn))
   apply bn h; intro x5 h5 h
   have q4 := ((Zp rfl h5 rfl) : ldA (GV a2 a3 a4 a5 a1) .false 1 (.rp 1 0 1 x4 0) = some (i6 x5))
   have q5 := (⟨Zt (v' := x3) rfl h5 rfl rfl (Nat.le_of_ble_eq_true rfl) rfl, rfl⟩ : stA (GV a2 a3 a4 a5 a1) 1 (.rp 1 0 1 x4 0) (i6 x3) = some (Ni a2 a3 x4 x3 a4 a5 a1) ∧ ud = ud)
   apply bi h <;> intro h6 h
   ·
    rw [← sj h]
    exact fc (kH k3 ++ [(16, .v (i6 x5)), (18, .d true)]) (k3.b (apc q4 (av h6 apn)))
   ·
    have k6 := k3.a [(16, .v (i6 x5)), (18, .d false)] (apc q4 (av h6 apn))
    apply bi h <;> intro h7 h
    ·
     apply bi h <;> intro h8 h
     ·
      rw [← sj h]
      exact fc (kH k6 ++ [(21, .d true), (25, .d true)]) (k6.b (av h7 (av h8 apn)))
     ·
      apply bn h; intro x9 h9 h
      rw [← sj h]
      exact fc (kH k6 ++ [(21, .d true), (25, .d false), (35, .v (.rp 1 0 1 x4 0)), (1035, .r ud (Ni a2 a3 x4 x3 a4 a5 a1)), (44, .v (.rp 2 0 1 x4 0)), (1044, .r ud (KR a2 a3 x4 x3 a4 a5 a1))]) (k6.b (av h7 (av h8 (apc q1 (apc q5 (apc q2 (apc (⟨Zt (v' := (x3 == 0)) rfl h9 rfl rfl (Nat.le_of_ble_eq_true rfl) rfl, rfl⟩ : stA (Ni a2 a3 x4 x3 a4 a5 a1) 1 (.rp 2 0 1 x4 0) (vb (x3 == 0)) = some (KR a2 a3 x4 x3 a4 a5 a1) ∧ ud = ud) apn)))))))
    ·
     apply bn h; intro x8 h8 h
     rw [← sj h]
     exact fc (kH k6 ++ [(21, .d false), (35, .v (.rp 1 0 1 x4 0)), (1035, .r ud (Ni a2 a3 x4 x3 a4 a5 a1)), (44, .v (.rp 2 0 1 x4 0)), (1044, .r ud (KR a2 a3 x4 x3 a4 a5 a1))]) (k6.b (av h7 (apc q1 (apc q5 (apc q2 (apc (⟨Zt (v' := (x3 == 0)) rfl h8 rfl rfl (Nat.le_of_ble_eq_true rfl) rfl, rfl⟩ : stA (Ni a2 a3 x4 x3 a4 a5 a1) 1 (.rp 2 0 1 x4 0) (vb (x3 == 0)) = some (KR a2 a3 x4 x3 a4 a5 a1) ∧ ud = ud) apn))))))
  ·
   cases h
 ·
  cases h
inductive E_L46_0 where
  | k0 (x0 : Bool) (x1 : List Int) (x2 : List Bool)
section
variable (a1 : GramD) (a2 : Int) (a5 : Nat)
def PD (v1 : Bool) (v2 : Int) (v3 : List Int) (v4 : List Bool) : Option (E_L46_0 ⊕ (Bool × Int × (List Int) × (List Bool))) :=
  (bif (decide (v2 < a2)) then ((getI a1.prods v2).bind fun x2 => ((F54 x2).bind fun x3 => (bif x3 then ((F69 x2 v3 v4 a5).bind fun r5 => match r5 with | .k0 x5_0 x5_1 x5_2 => (bif x5_0 then (some (.inr (true, (IntKind.wrap .i64 (v2 + 1)), x5_1, x5_2))) else (some (.inr (v1, (IntKind.wrap .i64 (v2 + 1)), x5_1, x5_2))))) else (some (.inr (v1, (IntKind.wrap .i64 (v2 + 1)), v3, v4)))))) else (some (.inl (.k0 v1 v3 v4))))
def GW (v1 : Bool) (v2 : Int) (v3 : List Int) (v4 : List Bool) : St := ⟨fr 27 ug [(0, .ptr 3 0), (1, (.fn 69 [.ptr 4 0])), (4, vb v1), (11, ls 7 Zl a1.prods), (12, i6 a2), (13, i6 v2)], [bG a1, bI v3, bB v4, .cells 93 (ap (Yc a1) [.sl 1 0 1 0 a5, .sl 2 0 1 0 a5]), .cells 89 [.ptr 3 0]]⟩
theorem PE (v1 : Bool) (v2 : Int) (v3 : List Int) (v4 : List Bool) : okT 5 (GW a1 a2 a5 v1 v2 v3 v4).h = true := (Zr rfl (ac (ar (ar (ac (ac rfl))))))
abbrev Te (v1 : Bool) (v2 : Int) (v3 : List Int) (v4 : List Bool) := evH prg 5 [0, 1, 4, 11, 12, 13] S7 (GW a1 a2 a5 v1 v2 v3 v4)
def M9 (e : E_L46_0) (r : Option (Out × St)) : Prop := match e with | .k0 x0 x1 x2 => ∃ g, r = some ((.brk 2), ⟨fr 27 g [(0, .ptr 3 0), (1, (.fn 69 [.ptr 4 0])), (4, vb x0), (11, ls 7 Zl a1.prods)], [bG a1, bI x1, bB x2, .cells 93 (ap (Yc a1) [.sl 1 0 1 0 a5, .sl 2 0 1 0 a5]), .cells 89 [.ptr 3 0]]⟩)
abbrev Sb (v3 : List Int) (v4 : List Bool) (x2 : ProdD) : List AB := [bG a1, bI v3, bB v4, .cells 93 (ap (Yc a1) [.sl 1 0 1 0 a5, .sl 2 0 1 0 a5]), .cells 89 [.ptr 3 0], yY0, bP x2]
abbrev Vu (x5_1 : List Int) (x5_2 : List Bool) (x2 : ProdD) : List AB := [bG a1, bI x5_1, bB x5_2, .cells 93 (ap (Yc a1) [.sl 1 0 1 0 a5, .sl 2 0 1 0 a5]), .cells 89 [.ptr 3 0], yY0, bP x2, bP x2]
theorem DC (v1 : Bool) (v2 : Int) (v3 : List Int) (v4 : List Bool) {r : E_L46_0 ⊕ (Bool × Int × (List Int) × (List Bool))} (h : PD a1 a2 a5 v1 v2 v3 v4 = some r) : OkR (fun e => M9 a1 a5 e (Te a1 a2 a5 v1 v2 v3 v4)) (fun s => Te a1 a2 a5 v1 v2 v3 v4 = Te a1 a2 a5 s.1 s.2.1 s.2.2.1 s.2.2.2) r := by
 unfold PD at h
 apply bi h <;> intro h1 h
 ·
  apply bn h; intro x2 h2 h
  have k0 := ka [(14, .d true), (15, .v (.ro (Zl x2)))] (av h1 (apc (ig Zl 7 .i64 h2) apn))
  apply bn h; intro x3 h3 h
  apply bi h <;> intro h4 h
  ·
   have q1 := ((((TG x2 h3).cp rfl _).trans (congrArg (fun z => some (vb z)) h4)) : CP prg 54 [aP x2] (Sb a1 a5 v3 v4 x2) = some (vb true))
   apply bn h; intro r5 h5 h
   cases r5 with
   | k0 x5_0 x5_1 x5_2 =>
    apply bi h <;> intro h6 h
    ·
     rw [← sj h]
     exact rn (kH k0 ++ [(18, .v (vb true)), (22, .r (vb true) (Vu a1 a5 x5_1 x5_2 x2)), (6000, .d true)]) (k0.b (apc q1 (apc (((CR x2 a1 v3 v4 a5 h5).trans (congrArg (fun z => some (vb z, ((Vu a1 a5 x5_1 x5_2 x2) : List AB))) h6)) : CS prg 69 [aP x2, .ptr 4 0] (Sb a1 a5 v3 v4 x2) = some (vb true, Vu a1 a5 x5_1 x5_2 x2)) (apc (PE a1 a2 a5 true (w6 (v2 + 1)) x5_1 x5_2) apn))))
    ·
     rw [← sj h]
     exact rn (kH k0 ++ [(18, .v (vb true)), (22, .r (vb false) (Vu a1 a5 x5_1 x5_2 x2)), (6000, .d true)]) (k0.b (apc q1 (apc (((CR x2 a1 v3 v4 a5 h5).trans (congrArg (fun z => some (vb z, ((Vu a1 a5 x5_1 x5_2 x2) : List AB))) h6)) : CS prg 69 [aP x2, .ptr 4 0] (Sb a1 a5 v3 v4 x2) = some (vb false, Vu a1 a5 x5_1 x5_2 x2)) (apc (PE a1 a2 a5 v1 (w6 (v2 + 1)) x5_1 x5_2) apn))))
  ·
   rw [← sj h]
   exact rn (kH k0 ++ [(18, .v (vb false)), (6000, .d true)]) (k0.b (apc ((((TG x2 h3).cp rfl _).trans (congrArg (fun z => some (vb z)) h4)) : CP prg 54 [aP x2] (Sb a1 a5 v3 v4 x2) = some (vb false)) (apc (PE a1 a2 a5 v1 (w6 (v2 + 1)) v3 v4) apn)))
 ·
  rw [← sj h]
  exact xb [(14, .d false), (6000, .d true)] (av h1 apn)
theorem GX (s0 : Bool × Int × (List Int) × (List Bool)) (e : E_L46_0) (h : runL (fun s => PD a1 a2 a5 s.1 s.2.1 s.2.2.1 s.2.2.2) s0 = some e) : M9 a1 a5 e (Te a1 a2 a5 s0.1 s0.2.1 s0.2.2.1 s0.2.2.2) := by
  have q := @Zb (Bool × Int × (List Int) × (List Bool)) E_L46_0 (fun s => PD a1 a2 a5 s.1 s.2.1 s.2.2.1 s.2.2.2) (fun s => Te a1 a2 a5 s.1 s.2.1 s.2.2.1 s.2.2.2) (M9 a1 a5) (fun s r h => DC a1 a2 a5 s.1 s.2.1 s.2.2.1 s.2.2.2 h) s0 e h
  exact q
end
inductive E_L46_1 where
  | k0 (x0 : List Int) (x1 : List Bool)
section
variable (a1 : GramD) (a4 : Nat)
def PF (v1 : List Int) (v2 : List Bool) : Option (E_L46_1 ⊕ ((List Int) × (List Bool))) :=
  ((runL (fun s => PD a1 (a1.prods.length : Int) a4 s.1 s.2.1 s.2.2.1 s.2.2.2) (false, 0, v1, v2)).bind fun r1 => match r1 with | .k0 x1_0 x1_1 x1_2 => (bif x1_0 then (some (.inr (x1_1, x1_2))) else (some (.inl (.k0 x1_1 x1_2)))))
def GY (v1 : List Int) (v2 : List Bool) : St := ⟨fr 27 ug [(0, .ptr 3 0), (1, (.fn 69 [.ptr 4 0]))], [bG a1, bI v1, bB v2, .cells 93 (ap (Yc a1) [.sl 1 0 1 0 a4, .sl 2 0 1 0 a4]), .cells 89 [.ptr 3 0]]⟩
theorem GZ (v1 : List Int) (v2 : List Bool) : okT 5 (GY a1 a4 v1 v2).h = true := (Zr rfl (ac (ar (ar (ac (ac rfl))))))
abbrev Tf (v1 : List Int) (v2 : List Bool) := evH prg 5 [0, 1] S8 (GY a1 a4 v1 v2)
def La (e : E_L46_1) (r : Option (Out × St)) : Prop := match e with | .k0 x0 x1 => ∃ g, r = some ((.brk 0), ⟨fr 27 g [(0, .ptr 3 0), (1, (.fn 69 [.ptr 4 0]))], [bG a1, bI x0, bB x1, .cells 93 (ap (Yc a1) [.sl 1 0 1 0 a4, .sl 2 0 1 0 a4]), .cells 89 [.ptr 3 0]]⟩)
abbrev KS (g1 : Nat → AV) (x1_0 : Bool) (x1_1 : List Int) (x1_2 : List Bool) : St := ⟨fr 27 g1 [(0, .ptr 3 0), (1, (.fn 69 [.ptr 4 0])), (4, vb x1_0), (11, ls 7 Zl a1.prods)], [bG a1, bI x1_1, bB x1_2, .cells 93 (ap (Yc a1) [.sl 1 0 1 0 a4, .sl 2 0 1 0 a4]), .cells 89 [.ptr 3 0]]⟩
theorem DD (v1 : List Int) (v2 : List Bool) {r : E_L46_1 ⊕ ((List Int) × (List Bool))} (h : PF a1 a4 v1 v2 = some r) : OkR (fun e => La a1 a4 e (Tf a1 a4 v1 v2)) (fun s => Tf a1 a4 v1 v2 = Tf a1 a4 s.1 s.2) r := by
 unfold PF at h
 have k0 := ka [(12, .v (i6 (lP a1)))] (apc (lg a1.prods Zl 7) apn)
 apply bn h; intro r1 h1 h
 cases r1 with
 | k0 x1_0 x1_1 x1_2 =>
  obtain ⟨g1, e1⟩ := GX a1 (lP a1) a4 (false, 0, v1, v2) _ h1
  have q1 := (e1 : Te a1 (lP a1) a4 false 0 v1 v2 = some ((.brk 2), KS a1 a4 g1 x1_0 x1_1 x1_2))
  have k2 := k0.a [(2002, .l (.brk 2) (KS a1 a4 g1 x1_0 x1_1 x1_2))] (apc (PE a1 (lP a1) a4 false 0 v1 v2) (apc q1 apn))
  apply bi h <;> intro h2 h
  ·
   rw [← sj h]
   exact rn (kH k2 ++ [(25, .d true), (6000, .d true)]) (k2.b (av h2 (apc (GZ a1 a4 x1_1 x1_2) apn)))
  ·
   rw [← sj h]
   exact xb (kH k2 ++ [(25, .d false), (6000, .d true)]) (k2.b (av h2 apn))
theorem G1 (s0 : (List Int) × (List Bool)) (e : E_L46_1) (h : runL (fun s => PF a1 a4 s.1 s.2) s0 = some e) : La a1 a4 e (Tf a1 a4 s0.1 s0.2) := by
  have q := @Zb ((List Int) × (List Bool)) E_L46_1 (fun s => PF a1 a4 s.1 s.2) (fun s => Tf a1 a4 s.1 s.2) (La a1 a4) (fun s r h => DD a1 a4 s.1 s.2 h) s0 e h
  exact q
end
inductive E_L46_2 where
  | k0 (x0 : List Int) (x1 : List Bool)
section
variable (a1 : GramD) (a2 : List Int) (a3 : List Bool) (a4 : Nat)
def Lb : Option (E_L46_2 ⊕ (Unit)) :=
  ((runL (fun s => PF a1 a4 s.1 s.2) (a2, a3)).bind fun r1 => match r1 with | .k0 x1_0 x1_1 => (some (.inl (.k0 x1_0 x1_1))))
def G2 : St := ⟨fr 27 ug [(0, .ptr 3 0), (1, (.fn 69 [.ptr 4 0]))], [bG a1, bI a2, bB a3, .cells 93 (ap (Yc a1) [.sl 1 0 1 0 a4, .sl 2 0 1 0 a4]), .cells 89 [.ptr 3 0]]⟩
theorem Zaa : okT 5 (G2 a1 a2 a3 a4).h = true := (Zr rfl (ac (ar (ar (ac (ac rfl))))))
abbrev Tg := evH prg 5 [0, 1] S9 (G2 a1 a2 a3 a4)
def Lc (e : E_L46_2) (r : Option (Out × St)) : Prop := match e with | .k0 x0 x1 => ∃ g, r = some ((.brk 2000000), ⟨fr 27 g [], [bG a1, bI x0, bB x1, .cells 93 (ap (Yc a1) [.sl 1 0 1 0 a4, .sl 2 0 1 0 a4]), .cells 89 [.ptr 3 0]]⟩)
abbrev KT (g1 : Nat → AV) (x1_0 : List Int) (x1_1 : List Bool) : St := ⟨fr 27 g1 [(0, .ptr 3 0), (1, (.fn 69 [.ptr 4 0]))], [bG a1, bI x1_0, bB x1_1, .cells 93 (ap (Yc a1) [.sl 1 0 1 0 a4, .sl 2 0 1 0 a4]), .cells 89 [.ptr 3 0]]⟩
theorem DE {r : E_L46_2 ⊕ (Unit)} (h : Lb a1 a2 a3 a4 = some r) : OkR (fun e => Lc a1 a4 e (Tg a1 a2 a3 a4)) (fun s => Tg a1 a2 a3 a4 = Tg a1 a2 a3 a4) r := by
 unfold Lb at h
 apply bn h; intro r1 h1 h
 cases r1 with
 | k0 x1_0 x1_1 =>
  obtain ⟨g1, e1⟩ := G1 a1 a4 (a2, a3) _ h1
  rw [← sj h]
  exact xb [(2000, .l (.brk 0) (KT a1 a4 g1 x1_0 x1_1)), (6000, .d true)] (apc (GZ a1 a4 a2 a3) (apc (e1 : Tf a1 a4 a2 a3 = some ((.brk 0), KT a1 a4 g1 x1_0 x1_1)) apn))
theorem G3 (s0 : Unit) (e : E_L46_2) (h : runL (fun s => Lb a1 a2 a3 a4) s0 = some e) : Lc a1 a4 e (Tg a1 a2 a3 a4) := by
  have q := @Zb (Unit) E_L46_2 (fun s => Lb a1 a2 a3 a4) (fun s => Tg a1 a2 a3 a4) (Lc a1 a4) (fun s r h => DE a1 a2 a3 a4 h) s0 e h
  exact q
end
inductive R_F46 where
  | k0 (x0 : List Int) (x1 : List Bool)
def Zco (a1 : GramD) (a2 : List Int) (a3 : List Bool) (a4 : Nat) (r : R_F46) : AV := match r with | .k0 x0 x1 => (.tup [])
def Zcp (a1 : GramD) (a2 : List Int) (a3 : List Bool) (a4 : Nat) (r : R_F46) : List AB := match r with | .k0 x0 x1 => [bG a1, bI x0, bB x1, .cells 93 (ap (Yc a1) [.sl 1 0 1 0 a4, .sl 2 0 1 0 a4]), .cells 89 [.ptr 3 0]]
def F46 (a1 : GramD) (a2 : List Int) (a3 : List Bool) (a4 : Nat) : Option R_F46 :=
  ((runL (fun s => Lb a1 a2 a3 a4) ()).bind fun r1 => match r1 with | .k0 x1_0 x1_1 => (some (.k0 x1_0 x1_1)))
abbrev CT (g1 : Nat → AV) (a1 : GramD) (x1_0 : List Int) (x1_1 : List Bool) (a4 : Nat) : St := ⟨fr 27 g1 [], [bG a1, bI x1_0, bB x1_1, .cells 93 (ap (Yc a1) [.sl 1 0 1 0 a4, .sl 2 0 1 0 a4]), .cells 89 [.ptr 3 0]]⟩
theorem Zbh (a1 : GramD) (a2 : List Int) (a3 : List Bool) (a4 : Nat) {r : R_F46} (h : F46 a1 a2 a3 a4 = some r) : CS prg 46 [.ptr 3 0, (.fn 69 [.ptr 4 0])] [bG a1, bI a2, bB a3, .cells 93 (ap (Yc a1) [.sl 1 0 1 0 a4, .sl 2 0 1 0 a4]), .cells 89 [.ptr 3 0]] = some (Zco a1 a2 a3 a4 r, Zcp a1 a2 a3 a4 r) := by
 unfold F46 at h
 apply bn h; intro r1 h1 h
 cases r1 with
 | k0 x1_0 x1_1 =>
  obtain ⟨g1, e1⟩ := G3 a1 a2 a3 a4 () _ h1
  rw [← sj h]
  exact fc [(2002000, .l (.brk 2000000) (CT g1 a1 x1_0 x1_1 a4)), (6000, .d true)] (apc (Zaa a1 a2 a3 a4) (apc (e1 : Tg a1 a2 a3 a4 = some ((.brk 2000000), CT g1 a1 x1_0 x1_1 a4)) apn))
inductive R_F45 where
  | k0 (x0 : Int)
  | k1 (x0 : List ByteArray) (x1 : List ProdD) (x2 : Int) (x3 : List ForbD) (x4 : List FollD) (x5 : List Int) (x6 : List Bool)
def Zcq (a1 : GramD) (r : R_F45) : AV := match r with | .k0 x0 => (.tup [(.p (.val (.pointer .none))), i6 x0]) | .k1 x0 x1 x2 x3 x4 x5 x6 => (.tup [(.ro [.lst 1 (x0.map eStr), .lst 7 (x1.map Zl), .val (.int .i64 x2), .lst 3 (x3.map Z6), .lst 5 (x4.map Z8), .lst 1 (x5.map eI64), .lst 1 (x6.map Zk)]), i6 0])
def F45 (a1 : GramD) : Option R_F45 :=
  ((F29 a1).bind fun x1 => (bif (x1 != 0) then (some (.k0 x1)) else (bif (mkOk (a1.sorts.length : Int) 8) then (bif (mkOk (a1.sorts.length : Int) 1) then ((runL (fun s => PB (((Int.toNat (a1.sorts.length : Int)) : Nat) : Int) (Int.toNat (a1.sorts.length : Int)) s.1 s.2) (0, (List.replicate (Int.toNat (a1.sorts.length : Int)) 0))).bind fun r5 => match r5 with | .k0 x5_0 => ((F46 a1 x5_0 (List.replicate (Int.toNat (a1.sorts.length : Int)) false) (Int.toNat (a1.sorts.length : Int))).bind fun r6 => match r6 with | .k0 x6_0 x6_1 => (bif (decide ((Int.toNat (a1.sorts.length : Int)) ≤ x6_0.length)) then (bif (decide ((Int.toNat (a1.sorts.length : Int)) ≤ x6_1.length)) then (some (.k1 a1.sorts a1.prods a1.start a1.forbid a1.follow (x6_0.take (Int.toNat (a1.sorts.length : Int))) (x6_1.take (Int.toNat (a1.sorts.length : Int))))) else none) else none))) else none) else none)))
abbrev CU (g5 : Nat → AV) (a1 : GramD) (x5_0 : List Int) : St := ⟨fr 42 g5 [(5, .ptr 4 0)], [bG a1, bI x5_0, bB (List.replicate (tS a1) false), .cells 93 (ap (Yc a1) [(.sl 1 0 1 0 (tS a1)), (.sl 2 0 1 0 (tS a1))]), .cells 89 [.ptr 3 0]]⟩
abbrev G4 (a1 : GramD) (x6_0 : List Int) (x6_1 : List Bool) : List AB := [bG a1, bI x6_0, bB x6_1, .cells 93 (ap (Yc a1) [(.sl 1 0 1 0 (tS a1)), (.sl 2 0 1 0 (tS a1))]), .cells 89 [.ptr 3 0]]
theorem QE (a1 : GramD) {r : R_F45} (h : F45 a1 = some r) : PR1 prg 45 [aG a1] (Zcq a1 r) := by
 unfold F45 at h
 have q0 := (GS (((tS a1) : Nat) : Int) a1 (List.replicate (tS a1) false) (tS a1) 0 (List.replicate (tS a1) 0))
 apply bn h; intro x1 h1 h
 have q1 := (((Zbg a1 h1).cp rfl _) : CP prg 29 [aG a1] [bG a1] = some (i6 x1))
 apply bi h <;> intro h2 h
 ·
  rw [← sj h]
  exact fq [(8, .v (i6 x1)), (10, .d true)] (apc q1 (av h2 apn))
 ·
  have k2 := ka [(8, .v (i6 x1)), (10, .d false), (15, .v (i6 (lS a1)))] (apc q1 (av h2 (apc (lg a1.sorts eStr 1) apn)))
  apply bi h <;> intro h3 h
  ·
   have q3 := ((S3 (e := eI64) (z := 0) h3 rfl) : mkA 3 1 8 [.val (.int .i64 0)] (i6 (lS a1)) (i6 (lS a1)) 1 = some ((.sl 1 0 1 0 (tS a1)), bI (List.replicate (tS a1) 0)))
   have k4 := k2.a [(16, .r (.sl 1 0 1 0 (tS a1)) [bI (List.replicate (tS a1) 0)]), (19, .v (i6 (lS a1)))] (apc q3 (apc (lg a1.sorts eStr 1) apn))
   apply bi h <;> intro h4 h
   ·
    have q5 := ((S3 (e := Zk) (z := false) h4 rfl) : mkA 4 1 1 [.val (.bool false)] (i6 (lS a1)) (i6 (lS a1)) 2 = some ((.sl 2 0 1 0 (tS a1)), bB (List.replicate (tS a1) false)))
    have k6 := k4.a [(20, .r (.sl 2 0 1 0 (tS a1)) [bB (List.replicate (tS a1) false)])] (apc q5 apn)
    apply bn h; intro r5 h5 h
    cases r5 with
    | k0 x5_0 =>
     obtain ⟨g5, e5⟩ := GT (((tS a1) : Nat) : Int) a1 (List.replicate (tS a1) false) (tS a1) (0, (List.replicate (tS a1) 0)) _ h5
     have q7 := (e5 : Td (((tS a1) : Nat) : Int) a1 (List.replicate (tS a1) false) (tS a1) 0 (List.replicate (tS a1) 0) = some ((.brk 0), CU g5 a1 x5_0))
     have k8 := k6.a [(2000, .l (.brk 0) (CU g5 a1 x5_0))] (apc q0 (apc q7 apn))
     apply bn h; intro r6 h6 h
     cases r6 with
     | k0 x6_0 x6_1 =>
      have q9 := ((Zbh a1 x5_0 (List.replicate (tS a1) false) (tS a1) h6) : CS prg 46 [.ptr 3 0, (.fn 69 [.ptr 4 0])] [bG a1, bI x5_0, bB (List.replicate (tS a1) false), .cells 93 (ap (Yc a1) [(.sl 1 0 1 0 (tS a1)), (.sl 2 0 1 0 (tS a1))]), .cells 89 [.ptr 3 0]] = some ((.tup []), G4 a1 x6_0 x6_1))
      have k10 := k8.a [(40, .r (.tup []) (G4 a1 x6_0 x6_1))] (apc q9 apn)
      apply bi h <;> intro h7 h
      ·
       apply bi h <;> intro h8 h
       ·
        rw [← sj h]
        exact fpo (v := (.tup [.ptr 3 0, i6 0])) (h' := (G4 a1 x6_0 x6_1)) (kH k10 ++ [(6000, .d true)]) (k10.b apn) (XR (Zg (YX rfl (Zf rfl (Zf rfl (Zf rfl (Zf rfl (Zf rfl (Zf (S4 (e := eI64) rfl h7) (Zf (S4 (e := Zk) rfl h8) rfl)))))))) (Zg rfl Zv))) (by kernel_rfl)
       ·
        cases h
      ·
       cases h
   ·
    cases h
  ·
   cases h
inductive E_L76_0 where
  | k0 (x0 x1 x2 x3 : Int)
section
variable (a1 : List SetD) (a2 a3 : Int) (a8 : SetD)
def R0 (v1 v2 v3 v4 v5 : Int) : Option (E_L76_0 ⊕ (Int × Int × Int × Int × Int)) :=
  (bif (decide (v1 < 4)) then (bif (v1 == 0) then (some (.inr ((IntKind.wrap .i64 (v1 + 1)), (IntKind.wrap .u64 ((BitVec.ofInt (IntKind.bits .u64) v2 ||| BitVec.ofInt (IntKind.bits .u64) a8.a).toNat : Int)), v3, v4, v5))) else (bif (v1 == 1) then (some (.inr ((IntKind.wrap .i64 (v1 + 1)), v2, (IntKind.wrap .u64 ((BitVec.ofInt (IntKind.bits .u64) v3 ||| BitVec.ofInt (IntKind.bits .u64) a8.b).toNat : Int)), v4, v5))) else (bif (v1 == 2) then (some (.inr ((IntKind.wrap .i64 (v1 + 1)), v2, v3, (IntKind.wrap .u64 ((BitVec.ofInt (IntKind.bits .u64) v4 ||| BitVec.ofInt (IntKind.bits .u64) a8.c).toNat : Int)), v5))) else (bif (v1 == 3) then (some (.inr ((IntKind.wrap .i64 (v1 + 1)), v2, v3, v4, (IntKind.wrap .u64 ((BitVec.ofInt (IntKind.bits .u64) v5 ||| BitVec.ofInt (IntKind.bits .u64) a8.d).toNat : Int))))) else none)))) else (some (.inl (.k0 v2 v3 v4 v5))))
def G5 (v1 v2 v3 v4 v5 : Int) : St := ⟨fr 27 ug [(2, .ptr 0 0), (3, .ptr 1 0), (5, .ptr 2 0), (7, ls 4 eSet a1), (8, i6 a2), (9, i6 a3), (13, i6 v1)], [.cells 46 [vi .u64 0, vi .u64 0, vi .u64 0, vi .u64 0], .cells 46 [vi .u64 v2, vi .u64 v3, vi .u64 v4, vi .u64 v5], .cells 46 ((eSet a8).map .p)]⟩
theorem Rc (v1 v2 v3 v4 v5 : Int) : okT 3 (G5 a1 a2 a3 a8 v1 v2 v3 v4 v5).h = true := (Zr rfl (ac (ac (ac rfl))))
abbrev Th (v1 v2 v3 v4 v5 : Int) := evH prg 3 [2, 3, 5, 7, 8, 9, 13] Gt (G5 a1 a2 a3 a8 v1 v2 v3 v4 v5)
def Ld (e : E_L76_0) (r : Option (Out × St)) : Prop := match e with | .k0 x0 x1 x2 x3 => ∃ g, r = some ((.brk 2), ⟨fr 27 g [(2, .ptr 0 0), (3, .ptr 1 0), (5, .ptr 2 0), (7, ls 4 eSet a1), (8, i6 a2), (9, i6 a3)], [.cells 46 [vi .u64 0, vi .u64 0, vi .u64 0, vi .u64 0], .cells 46 [vi .u64 x0, vi .u64 x1, vi .u64 x2, vi .u64 x3], .cells 46 ((eSet a8).map .p)]⟩)
theorem DF (v1 v2 v3 v4 v5 : Int) {r : E_L76_0 ⊕ (Int × Int × Int × Int × Int)} (h : R0 a8 v1 v2 v3 v4 v5 = some r) : OkR (fun e => Ld a1 a2 a3 a8 e (Th a1 a2 a3 a8 v1 v2 v3 v4 v5)) (fun s => Th a1 a2 a3 a8 v1 v2 v3 v4 v5 = Th a1 a2 a3 a8 s.1 s.2.1 s.2.2.1 s.2.2.2.1 s.2.2.2.2) r := by
 unfold R0 at h
 apply bi h <;> intro h1 h
 ·
  apply bi h <;> intro h2 h
  ·
   have q0 := ((ZX h2 (fun z => ixP 4 1 (.ptr 1 0) (i6 z)) rfl) : ixP 4 1 (.ptr 1 0) (i6 v1) = some (.ptr 1 0))
   rw [← sj h]
   exact rn [(14, .d true), (17, .v (.ptr 1 0)), (20, .v (.ptr 2 0)), (23, .v (.ptr 1 0)), (6000, .d true)] (av h1 (apc q0 (apc ((ZX h2 (fun z => ixP 4 1 (.ptr 2 0) (i6 z)) rfl) : ixP 4 1 (.ptr 2 0) (i6 v1) = some (.ptr 2 0)) (apc q0 (apc (Rc a1 a2 a3 a8 (w6 (v1 + 1)) (IntKind.wrap .u64 ((BitVec.ofInt (IntKind.bits .u64) v2 ||| BitVec.ofInt (IntKind.bits .u64) a8.a).toNat : Int)) v3 v4 v5) apn)))))
  ·
   apply bi h <;> intro h3 h
   ·
    have q1 := ((ZX h3 (fun z => ixP 4 1 (.ptr 1 0) (i6 z)) rfl) : ixP 4 1 (.ptr 1 0) (i6 v1) = some (.ptr 1 1))
    rw [← sj h]
    exact rn [(14, .d true), (17, .v (.ptr 1 1)), (20, .v (.ptr 2 1)), (23, .v (.ptr 1 1)), (6000, .d true)] (av h1 (apc q1 (apc ((ZX h3 (fun z => ixP 4 1 (.ptr 2 0) (i6 z)) rfl) : ixP 4 1 (.ptr 2 0) (i6 v1) = some (.ptr 2 1)) (apc q1 (apc (Rc a1 a2 a3 a8 (w6 (v1 + 1)) v2 (IntKind.wrap .u64 ((BitVec.ofInt (IntKind.bits .u64) v3 ||| BitVec.ofInt (IntKind.bits .u64) a8.b).toNat : Int)) v4 v5) apn)))))
   ·
    apply bi h <;> intro h4 h
    ·
     have q2 := ((ZX h4 (fun z => ixP 4 1 (.ptr 1 0) (i6 z)) rfl) : ixP 4 1 (.ptr 1 0) (i6 v1) = some (.ptr 1 2))
     rw [← sj h]
     exact rn [(14, .d true), (17, .v (.ptr 1 2)), (20, .v (.ptr 2 2)), (23, .v (.ptr 1 2)), (6000, .d true)] (av h1 (apc q2 (apc ((ZX h4 (fun z => ixP 4 1 (.ptr 2 0) (i6 z)) rfl) : ixP 4 1 (.ptr 2 0) (i6 v1) = some (.ptr 2 2)) (apc q2 (apc (Rc a1 a2 a3 a8 (w6 (v1 + 1)) v2 v3 (IntKind.wrap .u64 ((BitVec.ofInt (IntKind.bits .u64) v4 ||| BitVec.ofInt (IntKind.bits .u64) a8.c).toNat : Int)) v5) apn)))))
    ·
     apply bi h <;> intro h5 h
     ·
      have q3 := ((ZX h5 (fun z => ixP 4 1 (.ptr 1 0) (i6 z)) rfl) : ixP 4 1 (.ptr 1 0) (i6 v1) = some (.ptr 1 3))
      rw [← sj h]
      exact rn [(14, .d true), (17, .v (.ptr 1 3)), (20, .v (.ptr 2 3)), (23, .v (.ptr 1 3)), (6000, .d true)] (av h1 (apc q3 (apc ((ZX h5 (fun z => ixP 4 1 (.ptr 2 0) (i6 z)) rfl) : ixP 4 1 (.ptr 2 0) (i6 v1) = some (.ptr 2 3)) (apc q3 (apc (Rc a1 a2 a3 a8 (w6 (v1 + 1)) v2 v3 v4 (IntKind.wrap .u64 ((BitVec.ofInt (IntKind.bits .u64) v5 ||| BitVec.ofInt (IntKind.bits .u64) a8.d).toNat : Int))) apn)))))
     ·
      cases h
 ·
  rw [← sj h]
  exact xb [(14, .d false), (6000, .d true)] (av h1 apn)
theorem G6 (s0 : Int × Int × Int × Int × Int) (e : E_L76_0) (h : runL (fun s => R0 a8 s.1 s.2.1 s.2.2.1 s.2.2.2.1 s.2.2.2.2) s0 = some e) : Ld a1 a2 a3 a8 e (Th a1 a2 a3 a8 s0.1 s0.2.1 s0.2.2.1 s0.2.2.2.1 s0.2.2.2.2) := by
  have q := @Zb (Int × Int × Int × Int × Int) E_L76_0 (fun s => R0 a8 s.1 s.2.1 s.2.2.1 s.2.2.2.1 s.2.2.2.2) (fun s => Th a1 a2 a3 a8 s.1 s.2.1 s.2.2.1 s.2.2.2.1 s.2.2.2.2) (Ld a1 a2 a3 a8) (fun s r h => DF a1 a2 a3 a8 s.1 s.2.1 s.2.2.1 s.2.2.2.1 s.2.2.2.2 h) s0 e h
  exact q
end
inductive E_L76_1 where
  | k0 (x0 x1 x2 x3 : Int)
section
variable (a1 : List SetD) (a2 : Int)
def TO (v1 v2 v3 v4 v5 : Int) : Option (E_L76_1 ⊕ (Int × Int × Int × Int × Int)) :=
  (bif (decide (v1 < a2)) then ((getI a1 v1).bind fun x2 => ((runL (fun s => R0 x2 s.1 s.2.1 s.2.2.1 s.2.2.2.1 s.2.2.2.2) (0, v2, v3, v4, v5)).bind fun r3 => match r3 with | .k0 x3_0 x3_1 x3_2 x3_3 => (some (.inr ((IntKind.wrap .i64 (v1 + 1)), x3_0, x3_1, x3_2, x3_3))))) else (some (.inl (.k0 v2 v3 v4 v5))))
def G7 (v1 v2 v3 v4 v5 : Int) : St := ⟨fr 27 ug [(2, .ptr 0 0), (3, .ptr 1 0), (7, ls 4 eSet a1), (8, i6 a2), (9, i6 v1)], [.cells 46 [vi .u64 0, vi .u64 0, vi .u64 0, vi .u64 0], .cells 46 [vi .u64 v2, vi .u64 v3, vi .u64 v4, vi .u64 v5]]⟩
theorem G8 (v1 v2 v3 v4 v5 : Int) : okT 2 (G7 a1 a2 v1 v2 v3 v4 v5).h = true := (Zr rfl (ac (ac rfl)))
abbrev Ti (v1 v2 v3 v4 v5 : Int) := evH prg 2 [2, 3, 7, 8, 9] Gu (G7 a1 a2 v1 v2 v3 v4 v5)
def Le (e : E_L76_1) (r : Option (Out × St)) : Prop := match e with | .k0 x0 x1 x2 x3 => ∃ g, r = some ((.brk 0), ⟨fr 27 g [(2, .ptr 0 0), (3, .ptr 1 0), (7, ls 4 eSet a1)], [.cells 46 [vi .u64 0, vi .u64 0, vi .u64 0, vi .u64 0], .cells 46 [vi .u64 x0, vi .u64 x1, vi .u64 x2, vi .u64 x3]]⟩)
abbrev KU (g3 : Nat → AV) (v1 x3_0 x3_1 x3_2 x3_3 : Int) (x2 : SetD) : St := ⟨fr 27 g3 [(2, .ptr 0 0), (3, .ptr 1 0), (5, .ptr 2 0), (7, ls 4 eSet a1), (8, i6 a2), (9, i6 v1)], [.cells 46 [vi .u64 0, vi .u64 0, vi .u64 0, vi .u64 0], .cells 46 [vi .u64 x3_0, vi .u64 x3_1, vi .u64 x3_2, vi .u64 x3_3], .cells 46 ((eSet x2).map .p)]⟩
theorem DG (v1 v2 v3 v4 v5 : Int) {r : E_L76_1 ⊕ (Int × Int × Int × Int × Int)} (h : TO a1 a2 v1 v2 v3 v4 v5 = some r) : OkR (fun e => Le a1 e (Ti a1 a2 v1 v2 v3 v4 v5)) (fun s => Ti a1 a2 v1 v2 v3 v4 v5 = Ti a1 a2 s.1 s.2.1 s.2.2.1 s.2.2.2.1 s.2.2.2.2) r := by
 unfold TO at h
 apply bi h <;> intro h1 h
 ·
  apply bn h; intro x2 h2 h
  apply bn h; intro r3 h3 h
  cases r3 with
  | k0 x3_0 x3_1 x3_2 x3_3 =>
   obtain ⟨g3, e3⟩ := G6 a1 a2 v1 x2 (0, v2, v3, v4, v5) _ h3
   rw [← sj h]
   exact rn [(10, .d true), (11, .v (.ro (eSet x2))), (2002, .l (.brk 2) (KU a1 a2 g3 v1 x3_0 x3_1 x3_2 x3_3 x2)), (6000, .d true)] (av h1 (apc (ig eSet 4 .i64 h2) (apc (Rc a1 a2 v1 x2 0 v2 v3 v4 v5) (apc (e3 : Th a1 a2 v1 x2 0 v2 v3 v4 v5 = some ((.brk 2), KU a1 a2 g3 v1 x3_0 x3_1 x3_2 x3_3 x2)) (apc (G8 a1 a2 (w6 (v1 + 1)) x3_0 x3_1 x3_2 x3_3) apn)))))
 ·
  rw [← sj h]
  exact xb [(10, .d false), (6000, .d true)] (av h1 apn)
theorem G9 (s0 : Int × Int × Int × Int × Int) (e : E_L76_1) (h : runL (fun s => TO a1 a2 s.1 s.2.1 s.2.2.1 s.2.2.2.1 s.2.2.2.2) s0 = some e) : Le a1 e (Ti a1 a2 s0.1 s0.2.1 s0.2.2.1 s0.2.2.2.1 s0.2.2.2.2) := by
  have q := @Zb (Int × Int × Int × Int × Int) E_L76_1 (fun s => TO a1 a2 s.1 s.2.1 s.2.2.1 s.2.2.2.1 s.2.2.2.2) (fun s => Ti a1 a2 s.1 s.2.1 s.2.2.1 s.2.2.2.1 s.2.2.2.2) (Le a1) (fun s r h => DG a1 a2 s.1 s.2.1 s.2.2.1 s.2.2.2.1 s.2.2.2.2 h) s0 e h
  exact q
end
inductive R_F76 where
  | k0 (x0 x1 x2 x3 : Int)
def Zcr (a1 : List SetD) (r : R_F76) : AV := match r with | .k0 x0 x1 x2 x3 => (.agg [vi .u64 x0, vi .u64 x1, vi .u64 x2, vi .u64 x3])
def F76 (a1 : List SetD) : Option R_F76 :=
  ((runL (fun s => TO a1 (a1.length : Int) s.1 s.2.1 s.2.2.1 s.2.2.2.1 s.2.2.2.2) (0, 0, 0, 0, 0)).bind fun r1 => match r1 with | .k0 x1_0 x1_1 x1_2 x1_3 => (some (.k0 x1_0 x1_1 x1_2 x1_3)))
abbrev CV (g1 : Nat → AV) (a1 : List SetD) (x1_0 x1_1 x1_2 x1_3 : Int) : St := ⟨fr 27 g1 [(2, .ptr 0 0), (3, .ptr 1 0), (7, ls 4 eSet a1)], [.cells 46 [vi .u64 0, vi .u64 0, vi .u64 0, vi .u64 0], .cells 46 [vi .u64 x1_0, vi .u64 x1_1, vi .u64 x1_2, vi .u64 x1_3]]⟩
theorem W5 (a1 : List SetD) {r : R_F76} (h : F76 a1 = some r) : PR1 prg 76 [ls 4 eSet a1] (Zcr a1 r) := by
 unfold F76 at h
 apply bn h; intro r1 h1 h
 cases r1 with
 | k0 x1_0 x1_1 x1_2 x1_3 =>
  obtain ⟨g1, e1⟩ := G9 a1 (a1.length : Int) (0, 0, 0, 0, 0) _ h1
  rw [← sj h]
  exact fq [(8, .v (i6 (a1.length : Int))), (2000, .l (.brk 0) (CV g1 a1 x1_0 x1_1 x1_2 x1_3)), (6000, .d true)] (apc (lg a1 eSet 4) (apc (G8 a1 (a1.length : Int) 0 0 0 0 0) (apc (e1 : Ti a1 (a1.length : Int) 0 0 0 0 0 = some ((.brk 0), CV g1 a1 x1_0 x1_1 x1_2 x1_3)) apn)))
def Zcs (a1 : GramD) (a2 : List Int) (a3 : List Bool) (a4 : SymD) (x0 : Bool) : AV := (vb x0)
def F55 (a3 : List Bool) (a4 : SymD) : Option Bool :=
  (bif (a4.kind == 1) then ((getI a3 a4.sort).bind fun x2 => (some x2)) else (some false))
theorem YF (a1 : GramD) (a2 : List Int) (a3 : List Bool) (a4 : SymD) {r : Bool} (h : F55 a3 a4 = some r) : PR1 prg 55 [(.ro (eOp a1 a2 a3)), (.agg ((eSym a4).map .p))] (Zcs a1 a2 a3 a4 r) := by
 unfold F55 at h
 apply bi h <;> intro h1 h
 ·
  apply bn h; intro x2 h2 h
  rw [← sj h]
  exact fq [(7, .d true), (15, .v (.ro [.val (.bool x2)]))] (av h1 (apc (ig Zk 1 .i64 h2) apn))
 ·
  rw [← sj h]
  exact fq [(7, .d false)] (av h1 apn)
inductive E_L75_0 where
  | k0 (x0 : List SetD) (x1 x2 x3 x4 x5 x6 x7 x8 x9 x10 x11 x12 x13 x14 : Int)
  | k1 (x0 : List SetD)
section
variable (a1 : ProdD) (a2 : Int) (a3 : GramD) (a4 : List Int) (a5 : List Bool) (a7 : Nat) (a8 : SetD)
abbrev W6 (l : List AB) : List AB := .cells 89 [(.ro (eOp a3 a4 a5))] :: bS [] :: l
def UH (v1 : Int) (v2 : List SetD) : Option (E_L75_0 ⊕ (Int × (List SetD))) :=
  (bif (decide (v1 < a2)) then ((getI a1.right v1).bind fun x2 => (bif (x2.kind == 0) then ((ixN a7 a1.left).bind fun x4 => ((v2[x4]?).bind fun x5 => ((F76 ([(⟨x5.a, x5.b, x5.c, x5.d⟩ : SetD), (⟨x2.a, x2.b, x2.c, x2.d⟩ : SetD)])).bind fun r6 => match r6 with | .k0 x6_0 x6_1 x6_2 x6_3 => (some (.inl (.k0 (v2.set x4 (⟨x6_0, x6_1, x6_2, x6_3⟩ : SetD)) x2.kind x2.a x2.b x2.c x2.d x2.sort x5.a x5.b x5.c x5.d x2.a x2.b x2.c x2.d)))))) else ((ixN a7 a1.left).bind fun x4 => ((v2[x4]?).bind fun x5 => ((ixN a7 x2.sort).bind fun x6 => ((v2[x6]?).bind fun x7 => ((F76 ([(⟨x5.a, x5.b, x5.c, x5.d⟩ : SetD), (⟨x7.a, x7.b, x7.c, x7.d⟩ : SetD)])).bind fun r8 => match r8 with | .k0 x8_0 x8_1 x8_2 x8_3 => ((F55 a5 x2).bind fun x9 => (bif x9 then (some (.inr ((IntKind.wrap .i64 (v1 + 1)), (v2.set x4 (⟨x8_0, x8_1, x8_2, x8_3⟩ : SetD))))) else (some (.inl (.k0 (v2.set x4 (⟨x8_0, x8_1, x8_2, x8_3⟩ : SetD)) x2.kind x2.a x2.b x2.c x2.d x2.sort x5.a x5.b x5.c x5.d x7.a x7.b x7.c x7.d)))))))))))) else (some (.inl (.k1 v2))))
def Fa (v1 : Int) (v2 : List SetD) : St := ⟨fr 68 ug [(1, .ptr 0 0), (2, .ptr 4 0), (3, .ptr 7 0), (5, .ptr 8 0), (18, ls 6 eSym a1.right), (19, i6 a2), (20, i6 v1)], (W6 a3 a4 a5 [bS v2, bS [], .cells 63 [.sl 2 0 4 0 a7], yY0, bP a1, bP a1, .cells 46 ((eSet a8).map .p)])⟩
theorem Lf (v1 : Int) (v2 : List SetD) : okT 9 (Fa a1 a2 a3 a4 a5 a7 a8 v1 v2).h = true := (Zr rfl (ac (ar (ar (ar (ac (ar (ac (ac (ac rfl))))))))))
abbrev Ub (v1 : Int) (v2 : List SetD) := evH prg 9 [1, 2, 3, 5, 18, 19, 20] Gs (Fa a1 a2 a3 a4 a5 a7 a8 v1 v2)
def Lg (e : E_L75_0) (r : Option (Out × St)) : Prop := match e with | .k0 x0 x1 x2 x3 x4 x5 x6 x7 x8 x9 x10 x11 x12 x13 x14 => ∃ g, r = some ((.brk 0), ⟨fr 68 g [(1, .ptr 0 0), (2, .ptr 4 0), (3, .ptr 7 0), (5, .ptr 8 0), (18, ls 6 eSym a1.right)], (W6 a3 a4 a5 [bS x0, bS [], .cells 63 [.sl 2 0 4 0 a7], yY0, bP a1, bP a1, .cells 46 ((eSet a8).map .p), .cells 48 [i6 x1, vi .u64 x2, vi .u64 x3, vi .u64 x4, vi .u64 x5, i6 x6], .row 46 4 0 [[vi .u64 x7, vi .u64 x8, vi .u64 x9, vi .u64 x10], [vi .u64 x11, vi .u64 x12, vi .u64 x13, vi .u64 x14]]])⟩) | .k1 x0 => ∃ g, r = some ((.brk 0), ⟨fr 68 g [(1, .ptr 0 0), (2, .ptr 4 0), (3, .ptr 7 0), (5, .ptr 8 0), (18, ls 6 eSym a1.right)], (W6 a3 a4 a5 [bS x0, bS [], .cells 63 [.sl 2 0 4 0 a7], yY0, bP a1, bP a1, .cells 46 ((eSet a8).map .p)])⟩)
abbrev KV (v2 : List SetD) (x4 : Nat) (x6_0 x6_1 x6_2 x6_3 : Int) (x2 : SymD) (x5 : SetD) : List AB := (W6 a3 a4 a5 [bS (v2.set x4 (⟨x6_0, x6_1, x6_2, x6_3⟩ : SetD)), bS [], .cells 63 [.sl 2 0 4 0 a7], yY0, bP a1, bP a1, .cells 46 ((eSet a8).map .p), .cells 48 ((eSym x2).map .p), .row 46 4 0 [[vi .u64 x5.a, vi .u64 x5.b, vi .u64 x5.c, vi .u64 x5.d], [vi .u64 x2.a, vi .u64 x2.b, vi .u64 x2.c, vi .u64 x2.d]]])
abbrev PG (v2 : List SetD) (x2 : SymD) : List AB := (W6 a3 a4 a5 [bS v2, bS [], .cells 63 [.sl 2 0 4 0 a7], yY0, bP a1, bP a1, .cells 46 ((eSet a8).map .p), .cells 48 ((eSym x2).map .p)])
abbrev KW (v2 : List SetD) (x2 : SymD) (x5 : SetD) : List AB := (W6 a3 a4 a5 [bS v2, bS [], .cells 63 [.sl 2 0 4 0 a7], yY0, bP a1, bP a1, .cells 46 ((eSet a8).map .p), .cells 48 ((eSym x2).map .p), .row 46 4 0 [[vi .u64 x5.a, vi .u64 x5.b, vi .u64 x5.c, vi .u64 x5.d], [vi .u64 x2.a, vi .u64 x2.b, vi .u64 x2.c, vi .u64 x2.d]]])
abbrev KX (v2 : List SetD) (x2 : SymD) (x5 x7 : SetD) : List AB := (W6 a3 a4 a5 [bS v2, bS [], .cells 63 [.sl 2 0 4 0 a7], yY0, bP a1, bP a1, .cells 46 ((eSet a8).map .p), .cells 48 ((eSym x2).map .p), .row 46 4 0 [[vi .u64 x5.a, vi .u64 x5.b, vi .u64 x5.c, vi .u64 x5.d], [vi .u64 x7.a, vi .u64 x7.b, vi .u64 x7.c, vi .u64 x7.d]]])
abbrev Sc (v2 : List SetD) (x4 : Nat) (x8_0 x8_1 x8_2 x8_3 : Int) (x2 : SymD) (x5 x7 : SetD) : List AB := (W6 a3 a4 a5 [bS (v2.set x4 (⟨x8_0, x8_1, x8_2, x8_3⟩ : SetD)), bS [], .cells 63 [.sl 2 0 4 0 a7], yY0, bP a1, bP a1, .cells 46 ((eSet a8).map .p), .cells 48 ((eSym x2).map .p), .row 46 4 0 [[vi .u64 x5.a, vi .u64 x5.b, vi .u64 x5.c, vi .u64 x5.d], [vi .u64 x7.a, vi .u64 x7.b, vi .u64 x7.c, vi .u64 x7.d]]])
theorem DH (v1 : Int) (v2 : List SetD) {r : E_L75_0 ⊕ (Int × (List SetD))} (h : UH a1 a2 a5 a7 v1 v2 = some r) : OkR (fun e => Lg a1 a3 a4 a5 a7 a8 e (Ub a1 a2 a3 a4 a5 a7 a8 v1 v2)) (fun s => Ub a1 a2 a3 a4 a5 a7 a8 v1 v2 = Ub a1 a2 a3 a4 a5 a7 a8 s.1 s.2) r := by
 unfold UH at h
 apply bi h <;> intro h1 h
 ·
  apply bn h; intro x2 h2 h
  have k0 := ka [(21, .d true), (22, .v (.ro (eSym x2)))] (av h1 (apc (ig eSym 6 .i64 h2) apn))
  apply bi h <;> intro h3 h
  ·
   apply bn h; intro x4 h4 h
   have q1 := ((ZW h4) : idxA 4 (.sl 2 0 4 0 a7) (i6 a1.left) = some (.rp 2 0 4 x4 0))
   apply bn h; intro x5 h5 h
   apply bn h; intro r6 h6 h
   cases r6 with
   | k0 x6_0 x6_1 x6_2 x6_3 =>
    rw [← sj h]
    exact xb (kH k0 ++ [(26, .d true), (33, .v (.rp 2 0 4 x4 0)), (34, .v (.agg ((eSet x5).map .p))), (38, .v (.agg [vi .u64 x6_0, vi .u64 x6_1, vi .u64 x6_2, vi .u64 x6_3])), (39, .v (.rp 2 0 4 x4 0)), (1039, .r ud (KV a1 a3 a4 a5 a7 a8 v2 x4 x6_0 x6_1 x6_2 x6_3 x2 x5)), (6000, .d true)]) (k0.b (av h3 (apc q1 (apc ((Zp rfl h5 rfl) : ldA (PG a1 a3 a4 a5 a7 a8 v2 x2) .true 4 (.rp 2 0 4 x4 0) = some (.agg ((eSet x5).map .p))) (apc (((W5 ([(⟨x5.a, x5.b, x5.c, x5.d⟩ : SetD), (⟨x2.a, x2.b, x2.c, x2.d⟩ : SetD)]) h6).own rfl (Zg (ZR (e := eSet) (xs := [(⟨x5.a, x5.b, x5.c, x5.d⟩ : SetD), (⟨x2.a, x2.b, x2.c, x2.d⟩ : SetD)]) rfl rfl) Zv) rfl) : CP prg 76 [.sl 10 0 4 0 2] (KW a1 a3 a4 a5 a7 a8 v2 x2 x5) = some (.agg [vi .u64 x6_0, vi .u64 x6_1, vi .u64 x6_2, vi .u64 x6_3])) (apc q1 (apc (⟨Zt (v' := (⟨x6_0, x6_1, x6_2, x6_3⟩ : SetD)) rfl h5 rfl rfl (Nat.le_of_ble_eq_true rfl) rfl, rfl⟩ : stA (KW a1 a3 a4 a5 a7 a8 v2 x2 x5) 4 (.rp 2 0 4 x4 0) (.agg [vi .u64 x6_0, vi .u64 x6_1, vi .u64 x6_2, vi .u64 x6_3]) = some (KV a1 a3 a4 a5 a7 a8 v2 x4 x6_0 x6_1 x6_2 x6_3 x2 x5) ∧ ud = ud) apn)))))))
  ·
   apply bn h; intro x4 h4 h
   have q2 := ((ZW h4) : idxA 4 (.sl 2 0 4 0 a7) (i6 a1.left) = some (.rp 2 0 4 x4 0))
   have k3 := k0.a [(26, .d false), (46, .v (.rp 2 0 4 x4 0))] (av h3 (apc q2 apn))
   apply bn h; intro x5 h5 h
   have q4 := ((Zp rfl h5 rfl) : ldA (PG a1 a3 a4 a5 a7 a8 v2 x2) .true 4 (.rp 2 0 4 x4 0) = some (.agg ((eSet x5).map .p)))
   apply bn h; intro x6 h6 h
   have q5 := ((ZW h6) : idxA 4 (.sl 2 0 4 0 a7) (i6 x2.sort) = some (.rp 2 0 4 x6 0))
   have k6 := k3.a [(47, .v (.agg ((eSet x5).map .p))), (51, .v (.rp 2 0 4 x6 0))] (apc q4 (apc q5 apn))
   apply bn h; intro x7 h7 h
   have q7 := ((Zp rfl h7 rfl) : ldA (PG a1 a3 a4 a5 a7 a8 v2 x2) .true 4 (.rp 2 0 4 x6 0) = some (.agg ((eSet x7).map .p)))
   apply bn h; intro r8 h8 h
   cases r8 with
   | k0 x8_0 x8_1 x8_2 x8_3 =>
    have q8 := (((W5 ([(⟨x5.a, x5.b, x5.c, x5.d⟩ : SetD), (⟨x7.a, x7.b, x7.c, x7.d⟩ : SetD)]) h8).own rfl (Zg (ZR (e := eSet) (xs := [(⟨x5.a, x5.b, x5.c, x5.d⟩ : SetD), (⟨x7.a, x7.b, x7.c, x7.d⟩ : SetD)]) rfl rfl) Zv) rfl) : CP prg 76 [.sl 10 0 4 0 2] (KX a1 a3 a4 a5 a7 a8 v2 x2 x5 x7) = some (.agg [vi .u64 x8_0, vi .u64 x8_1, vi .u64 x8_2, vi .u64 x8_3]))
    have q9 := (⟨Zt (v' := (⟨x8_0, x8_1, x8_2, x8_3⟩ : SetD)) rfl h5 rfl rfl (Nat.le_of_ble_eq_true rfl) rfl, rfl⟩ : stA (KX a1 a3 a4 a5 a7 a8 v2 x2 x5 x7) 4 (.rp 2 0 4 x4 0) (.agg [vi .u64 x8_0, vi .u64 x8_1, vi .u64 x8_2, vi .u64 x8_3]) = some (Sc a1 a3 a4 a5 a7 a8 v2 x4 x8_0 x8_1 x8_2 x8_3 x2 x5 x7) ∧ ud = ud)
    have k10 := k6.a [(52, .v (.agg ((eSet x7).map .p))), (54, .v (.agg [vi .u64 x8_0, vi .u64 x8_1, vi .u64 x8_2, vi .u64 x8_3])), (55, .v (.rp 2 0 4 x4 0)), (1055, .r ud (Sc a1 a3 a4 a5 a7 a8 v2 x4 x8_0 x8_1 x8_2 x8_3 x2 x5 x7))] (apc q7 (apc q8 (apc q2 (apc q9 apn))))
    apply bn h; intro x9 h9 h
    apply bi h <;> intro h10 h
    ·
     rw [← sj h]
     exact rn (kH k10 ++ [(58, .v (vb true)), (6000, .d true)]) (k10.b (apc ((((YF a3 a4 a5 x2 h9).cp rfl _).trans (congrArg (fun z => some (vb z)) h10)) : CP prg 55 [(.ro (eOp a3 a4 a5)), (.agg ((eSym x2).map .p))] (Sc a1 a3 a4 a5 a7 a8 v2 x4 x8_0 x8_1 x8_2 x8_3 x2 x5 x7) = some (vb true)) (apc (Lf a1 a2 a3 a4 a5 a7 a8 (w6 (v1 + 1)) (v2.set x4 (⟨x8_0, x8_1, x8_2, x8_3⟩ : SetD))) apn)))
    ·
     rw [← sj h]
     exact xb (kH k10 ++ [(58, .v (vb false)), (6000, .d true)]) (k10.b (apc ((((YF a3 a4 a5 x2 h9).cp rfl _).trans (congrArg (fun z => some (vb z)) h10)) : CP prg 55 [(.ro (eOp a3 a4 a5)), (.agg ((eSym x2).map .p))] (Sc a1 a3 a4 a5 a7 a8 v2 x4 x8_0 x8_1 x8_2 x8_3 x2 x5 x7) = some (vb false)) apn))
 ·
  rw [← sj h]
  exact xb [(21, .d false), (6000, .d true)] (av h1 apn)
theorem Nj (s0 : Int × (List SetD)) (e : E_L75_0) (h : runL (fun s => UH a1 a2 a5 a7 s.1 s.2) s0 = some e) : Lg a1 a3 a4 a5 a7 a8 e (Ub a1 a2 a3 a4 a5 a7 a8 s0.1 s0.2) := by
  have q := @Zb (Int × (List SetD)) E_L75_0 (fun s => UH a1 a2 a5 a7 s.1 s.2) (fun s => Ub a1 a2 a3 a4 a5 a7 a8 s.1 s.2) (Lg a1 a3 a4 a5 a7 a8) (fun s r h => DH a1 a2 a3 a4 a5 a7 a8 s.1 s.2 h) s0 e h
  exact q
end
inductive R_F75 where
  | k0
  | k1 (x0 : Bool) (x1 : List SetD) (x2 x3 x4 x5 x6 x7 x8 x9 x10 x11 x12 x13 x14 x15 x16 x17 x18 x19 : Int)
  | k2 (x0 : Bool) (x1 : List SetD) (x2 x3 x4 x5 : Int)
def Zct (a1 : ProdD) (a2 : GramD) (a3 : List Int) (a4 : List Bool) (a5 : List SetD) (a6 : Nat) (r : R_F75) : AV := match r with | .k0 => (vb false) | .k1 x0 x1 x2 x3 x4 x5 x6 x7 x8 x9 x10 x11 x12 x13 x14 x15 x16 x17 x18 x19 => (vb x0) | .k2 x0 x1 x2 x3 x4 x5 => (vb x0)
def Zcu (a1 : ProdD) (a2 : GramD) (a3 : List Int) (a4 : List Bool) (a5 : List SetD) (a6 : Nat) (r : R_F75) : List AB := match r with | .k0 => [.cells 89 [(.ro (eOp a2 a3 a4))], bS [], bS a5, bS [], .cells 63 [.sl 2 0 4 0 a6], yY0, bP a1, bP a1] | .k1 x0 x1 x2 x3 x4 x5 x6 x7 x8 x9 x10 x11 x12 x13 x14 x15 x16 x17 x18 x19 => [.cells 89 [(.ro (eOp a2 a3 a4))], bS [], bS x1, bS [], .cells 63 [.sl 2 0 4 0 a6], yY0, bP a1, bP a1, .cells 46 [vi .u64 x2, vi .u64 x3, vi .u64 x4, vi .u64 x5], .cells 48 [i6 x6, vi .u64 x7, vi .u64 x8, vi .u64 x9, vi .u64 x10, i6 x11], .row 46 4 0 [[vi .u64 x12, vi .u64 x13, vi .u64 x14, vi .u64 x15], [vi .u64 x16, vi .u64 x17, vi .u64 x18, vi .u64 x19]]] | .k2 x0 x1 x2 x3 x4 x5 => [.cells 89 [(.ro (eOp a2 a3 a4))], bS [], bS x1, bS [], .cells 63 [.sl 2 0 4 0 a6], yY0, bP a1, bP a1, .cells 46 [vi .u64 x2, vi .u64 x3, vi .u64 x4, vi .u64 x5]]
def F75 (a1 : ProdD) (a3 : List Int) (a4 : List Bool) (a5 : List SetD) (a6 : Nat) : Option R_F75 :=
  ((F48 a3 a1).bind fun x1 => (bif (decide (x1 < 0)) then (some (.k0)) else ((ixN a6 a1.left).bind fun x3 => ((a5[x3]?).bind fun x4 => ((runL (fun s => UH a1 (a1.right.length : Int) a4 a6 s.1 s.2) (0, a5)).bind fun r5 => match r5 with | .k0 x5_0 x5_1 x5_2 x5_3 x5_4 x5_5 x5_6 x5_7 x5_8 x5_9 x5_10 x5_11 x5_12 x5_13 x5_14 => ((x5_0[x3]?).bind fun x6 => (some (.k1 (!((x6.a == x4.a) && ((x6.b == x4.b) && ((x6.c == x4.c) && ((x6.d == x4.d) && true))))) x5_0 x4.a x4.b x4.c x4.d x5_1 x5_2 x5_3 x5_4 x5_5 x5_6 x5_7 x5_8 x5_9 x5_10 x5_11 x5_12 x5_13 x5_14))) | .k1 x5_0 => ((x5_0[x3]?).bind fun x6 => (some (.k2 (!((x6.a == x4.a) && ((x6.b == x4.b) && ((x6.c == x4.c) && ((x6.d == x4.d) && true))))) x5_0 x4.a x4.b x4.c x4.d))))))))
abbrev CW (a2 : GramD) (a3 : List Int) (a4 : List Bool) (a5 : List SetD) (a6 : Nat) (a1 : ProdD) : List AB := [.cells 89 [(.ro (eOp a2 a3 a4))], bS [], bS a5, bS [], .cells 63 [.sl 2 0 4 0 a6], yY0, bP a1, bP a1]
abbrev CX (g5 : Nat → AV) (a1 : ProdD) (a2 : GramD) (a3 : List Int) (a4 : List Bool) (x5_0 : List SetD) (a6 : Nat) (x4 : SetD) (x5_1 x5_2 x5_3 x5_4 x5_5 x5_6 x5_7 x5_8 x5_9 x5_10 x5_11 x5_12 x5_13 x5_14 : Int) : St := ⟨fr 68 g5 [(1, .ptr 0 0), (2, .ptr 4 0), (3, .ptr 7 0), (5, .ptr 8 0), (18, ls 6 eSym a1.right)], [.cells 89 [(.ro (eOp a2 a3 a4))], bS [], bS x5_0, bS [], .cells 63 [.sl 2 0 4 0 a6], yY0, bP a1, bP a1, .cells 46 ((eSet x4).map .p), .cells 48 [i6 x5_1, vi .u64 x5_2, vi .u64 x5_3, vi .u64 x5_4, vi .u64 x5_5, i6 x5_6], .row 46 4 0 [[vi .u64 x5_7, vi .u64 x5_8, vi .u64 x5_9, vi .u64 x5_10], [vi .u64 x5_11, vi .u64 x5_12, vi .u64 x5_13, vi .u64 x5_14]]]⟩
abbrev CY (g5 : Nat → AV) (a1 : ProdD) (a2 : GramD) (a3 : List Int) (a4 : List Bool) (x5_0 : List SetD) (a6 : Nat) (x4 : SetD) : St := ⟨fr 68 g5 [(1, .ptr 0 0), (2, .ptr 4 0), (3, .ptr 7 0), (5, .ptr 8 0), (18, ls 6 eSym a1.right)], [.cells 89 [(.ro (eOp a2 a3 a4))], bS [], bS x5_0, bS [], .cells 63 [.sl 2 0 4 0 a6], yY0, bP a1, bP a1, .cells 46 ((eSet x4).map .p)]⟩
theorem Nk (a1 : ProdD) (a2 : GramD) (a3 : List Int) (a4 : List Bool) (a5 : List SetD) (a6 : Nat) {r : R_F75} (h : F75 a1 a3 a4 a5 a6 = some r) : CS prg 75 [aP a1, .ptr 0 0, .ptr 4 0] [.cells 89 [(.ro (eOp a2 a3 a4))], bS [], bS a5, bS [], .cells 63 [.sl 2 0 4 0 a6], yY0, bP a1] = some (Zct a1 a2 a3 a4 a5 a6 r, Zcu a1 a2 a3 a4 a5 a6 r) := by
 unfold F75 at h
 apply bn h; intro x1 h1 h
 have q0 := (((KQ a2 a3 a4 a1 h1).cp rfl _) : CP prg 48 [(.ro (eOp a2 a3 a4)), aP a1] (CW a2 a3 a4 a5 a6 a1) = some (i6 x1))
 apply bi h <;> intro h2 h
 ·
  rw [← sj h]
  exact fc [(10, .v (i6 x1)), (11, .d true)] (apc q0 (av h2 apn))
 ·
  have k1 := ka [(10, .v (i6 x1)), (11, .d false)] (apc q0 (av h2 apn))
  apply bn h; intro x3 h3 h
  have q2 := ((ZW h3) : idxA 4 (.sl 2 0 4 0 a6) (i6 a1.left) = some (.rp 2 0 4 x3 0))
  apply bn h; intro x4 h4 h
  have q3 := ((Zp rfl h4 rfl) : ldA (CW a2 a3 a4 a5 a6 a1) .true 4 (.rp 2 0 4 x3 0) = some (.agg ((eSet x4).map .p)))
  have k4 := k1.a [(15, .v (.rp 2 0 4 x3 0)), (16, .v (.agg ((eSet x4).map .p))), (19, .v (i6 (a1.right.length : Int)))] (apc q2 (apc q3 (apc (lg a1.right eSym 6) apn)))
  apply bn h; intro r5 h5 h
  cases r5 with
  | k0 x5_0 x5_1 x5_2 x5_3 x5_4 x5_5 x5_6 x5_7 x5_8 x5_9 x5_10 x5_11 x5_12 x5_13 x5_14 =>
   obtain ⟨g5, e5⟩ := Nj a1 (a1.right.length : Int) a2 a3 a4 a6 x4 (0, a5) _ h5
   apply bn h; intro x6 h6 h
   rw [← sj h]
   exact fc (kH k4 ++ [(2000, .l (.brk 0) (CX g5 a1 a2 a3 a4 x5_0 a6 x4 x5_1 x5_2 x5_3 x5_4 x5_5 x5_6 x5_7 x5_8 x5_9 x5_10 x5_11 x5_12 x5_13 x5_14)), (64, .v (.rp 2 0 4 x3 0)), (65, .v (.agg ((eSet x6).map .p))), (6000, .d true)]) (k4.b (apc (Lf a1 (a1.right.length : Int) a2 a3 a4 a6 x4 0 a5) (apc (e5 : Ub a1 (a1.right.length : Int) a2 a3 a4 a6 x4 0 a5 = some ((.brk 0), CX g5 a1 a2 a3 a4 x5_0 a6 x4 x5_1 x5_2 x5_3 x5_4 x5_5 x5_6 x5_7 x5_8 x5_9 x5_10 x5_11 x5_12 x5_13 x5_14)) (apc q2 (apc ((Zp rfl h6 rfl) : ldA [.cells 89 [(.ro (eOp a2 a3 a4))], bS [], bS x5_0, bS [], .cells 63 [.sl 2 0 4 0 a6], yY0, bP a1, bP a1, .cells 46 ((eSet x4).map .p), .cells 48 [i6 x5_1, vi .u64 x5_2, vi .u64 x5_3, vi .u64 x5_4, vi .u64 x5_5, i6 x5_6], .row 46 4 0 [[vi .u64 x5_7, vi .u64 x5_8, vi .u64 x5_9, vi .u64 x5_10], [vi .u64 x5_11, vi .u64 x5_12, vi .u64 x5_13, vi .u64 x5_14]]] .true 4 (.rp 2 0 4 x3 0) = some (.agg ((eSet x6).map .p))) apn)))))
  | k1 x5_0 =>
   obtain ⟨g5, e5⟩ := Nj a1 (a1.right.length : Int) a2 a3 a4 a6 x4 (0, a5) _ h5
   apply bn h; intro x6 h6 h
   rw [← sj h]
   exact fc (kH k4 ++ [(2000, .l (.brk 0) (CY g5 a1 a2 a3 a4 x5_0 a6 x4)), (64, .v (.rp 2 0 4 x3 0)), (65, .v (.agg ((eSet x6).map .p))), (6000, .d true)]) (k4.b (apc (Lf a1 (a1.right.length : Int) a2 a3 a4 a6 x4 0 a5) (apc (e5 : Ub a1 (a1.right.length : Int) a2 a3 a4 a6 x4 0 a5 = some ((.brk 0), CY g5 a1 a2 a3 a4 x5_0 a6 x4)) (apc q2 (apc ((Zp rfl h6 rfl) : ldA [.cells 89 [(.ro (eOp a2 a3 a4))], bS [], bS x5_0, bS [], .cells 63 [.sl 2 0 4 0 a6], yY0, bP a1, bP a1, .cells 46 ((eSet x4).map .p)] .true 4 (.rp 2 0 4 x3 0) = some (.agg ((eSet x6).map .p))) apn)))))
inductive E_L46_0_3 where
  | k0 (x0 : Bool) (x1 : List SetD)
section
variable (a1 : GramD) (a2 : List Int) (a3 : List Bool) (a4 : Int) (a6 : Nat)
abbrev We (l : List AB) : List AB := .cells 89 [(.ro (eOp a1 a2 a3))] :: bS [] :: l
def XZ (v1 : Bool) (v2 : Int) (v3 : List SetD) : Option (E_L46_0_3 ⊕ (Bool × Int × (List SetD))) :=
  (bif (decide (v2 < a4)) then ((getI a1.prods v2).bind fun x2 => ((F54 x2).bind fun x3 => (bif x3 then ((F75 x2 a2 a3 v3 a6).bind fun r5 => match r5 with | .k0 => (some (.inr (v1, (IntKind.wrap .i64 (v2 + 1)), v3))) | .k1 x5_0 x5_1 x5_2 x5_3 x5_4 x5_5 x5_6 x5_7 x5_8 x5_9 x5_10 x5_11 x5_12 x5_13 x5_14 x5_15 x5_16 x5_17 x5_18 x5_19 => (bif x5_0 then (some (.inr (true, (IntKind.wrap .i64 (v2 + 1)), x5_1))) else (some (.inr (v1, (IntKind.wrap .i64 (v2 + 1)), x5_1)))) | .k2 x5_0 x5_1 x5_2 x5_3 x5_4 x5_5 => (bif x5_0 then (some (.inr (true, (IntKind.wrap .i64 (v2 + 1)), x5_1))) else (some (.inr (v1, (IntKind.wrap .i64 (v2 + 1)), x5_1))))) else (some (.inr (v1, (IntKind.wrap .i64 (v2 + 1)), v3)))))) else (some (.inl (.k0 v1 v3))))
def Nl (v1 : Bool) (v2 : Int) (v3 : List SetD) : St := ⟨fr 27 ug [(0, (.ro (eOp a1 a2 a3))), (1, (.fn 75 [.ptr 0 0, .ptr 4 0])), (4, vb v1), (11, ls 7 Zl a1.prods), (12, i6 a4), (13, i6 v2)], (We a1 a2 a3 [bS v3, bS [], .cells 63 [.sl 2 0 4 0 a6]])⟩
theorem Wf (v1 : Bool) (v2 : Int) (v3 : List SetD) : okT 5 (Nl a1 a2 a3 a4 a6 v1 v2 v3).h = true := (Zr rfl (ac (ar (ar (ar (ac rfl))))))
abbrev Wg (v1 : Bool) (v2 : Int) (v3 : List SetD) := evH prg 5 [0, 1, 4, 11, 12, 13] S7 (Nl a1 a2 a3 a4 a6 v1 v2 v3)
def Rd (e : E_L46_0_3) (r : Option (Out × St)) : Prop := match e with | .k0 x0 x1 => ∃ g, r = some ((.brk 2), ⟨fr 27 g [(0, (.ro (eOp a1 a2 a3))), (1, (.fn 75 [.ptr 0 0, .ptr 4 0])), (4, vb x0), (11, ls 7 Zl a1.prods)], (We a1 a2 a3 [bS x1, bS [], .cells 63 [.sl 2 0 4 0 a6]])⟩)
abbrev YN (v3 : List SetD) (x2 : ProdD) : List AB := (We a1 a2 a3 [bS v3, bS [], .cells 63 [.sl 2 0 4 0 a6], yY0, bP x2])
abbrev QF (v3 : List SetD) (x2 : ProdD) : List AB := (We a1 a2 a3 [bS v3, bS [], .cells 63 [.sl 2 0 4 0 a6], yY0, bP x2, bP x2])
abbrev Xj (x5_1 : List SetD) (x2 : ProdD) (x5_2 x5_3 x5_4 x5_5 x5_6 x5_7 x5_8 x5_9 x5_10 x5_11 x5_12 x5_13 x5_14 x5_15 x5_16 x5_17 x5_18 x5_19 : Int) : List AB := (We a1 a2 a3 [bS x5_1, bS [], .cells 63 [.sl 2 0 4 0 a6], yY0, bP x2, bP x2, .cells 46 [vi .u64 x5_2, vi .u64 x5_3, vi .u64 x5_4, vi .u64 x5_5], .cells 48 [i6 x5_6, vi .u64 x5_7, vi .u64 x5_8, vi .u64 x5_9, vi .u64 x5_10, i6 x5_11], .row 46 4 0 [[vi .u64 x5_12, vi .u64 x5_13, vi .u64 x5_14, vi .u64 x5_15], [vi .u64 x5_16, vi .u64 x5_17, vi .u64 x5_18, vi .u64 x5_19]]])
abbrev Xk (x5_1 : List SetD) (x2 : ProdD) (x5_2 x5_3 x5_4 x5_5 : Int) : List AB := (We a1 a2 a3 [bS x5_1, bS [], .cells 63 [.sl 2 0 4 0 a6], yY0, bP x2, bP x2, .cells 46 [vi .u64 x5_2, vi .u64 x5_3, vi .u64 x5_4, vi .u64 x5_5]])
theorem Iu (v1 : Bool) (v2 : Int) (v3 : List SetD) {r : E_L46_0_3 ⊕ (Bool × Int × (List SetD))} (h : XZ a1 a2 a3 a4 a6 v1 v2 v3 = some r) : OkR (fun e => Rd a1 a2 a3 a6 e (Wg a1 a2 a3 a4 a6 v1 v2 v3)) (fun s => Wg a1 a2 a3 a4 a6 v1 v2 v3 = Wg a1 a2 a3 a4 a6 s.1 s.2.1 s.2.2) r := by
 unfold XZ at h
 have q0 := (Wf a1 a2 a3 a4 a6 v1 (w6 (v2 + 1)) v3)
 apply bi h <;> intro h1 h
 ·
  apply bn h; intro x2 h2 h
  have k1 := ka [(14, .d true), (15, .v (.ro (Zl x2)))] (av h1 (apc (ig Zl 7 .i64 h2) apn))
  apply bn h; intro x3 h3 h
  apply bi h <;> intro h4 h
  ·
   have q2 := ((((TG x2 h3).cp rfl _).trans (congrArg (fun z => some (vb z)) h4)) : CP prg 54 [aP x2] (YN a1 a2 a3 a6 v3 x2) = some (vb true))
   apply bn h; intro r5 h5 h
   cases r5 with
   | k0 =>
    rw [← sj h]
    exact rn (kH k1 ++ [(18, .v (vb true)), (22, .r (vb false) (QF a1 a2 a3 a6 v3 x2)), (6000, .d true)]) (k1.b (apc q2 (apc ((Nk x2 a1 a2 a3 v3 a6 h5) : CS prg 75 [aP x2, .ptr 0 0, .ptr 4 0] (YN a1 a2 a3 a6 v3 x2) = some ((vb false), QF a1 a2 a3 a6 v3 x2)) (apc q0 apn))))
   | k1 x5_0 x5_1 x5_2 x5_3 x5_4 x5_5 x5_6 x5_7 x5_8 x5_9 x5_10 x5_11 x5_12 x5_13 x5_14 x5_15 x5_16 x5_17 x5_18 x5_19 =>
    apply bi h <;> intro h6 h
    ·
     rw [← sj h]
     exact rn (kH k1 ++ [(18, .v (vb true)), (22, .r (vb true) (Xj a1 a2 a3 a6 x5_1 x2 x5_2 x5_3 x5_4 x5_5 x5_6 x5_7 x5_8 x5_9 x5_10 x5_11 x5_12 x5_13 x5_14 x5_15 x5_16 x5_17 x5_18 x5_19)), (6000, .d true)]) (k1.b (apc q2 (apc (((Nk x2 a1 a2 a3 v3 a6 h5).trans (congrArg (fun z => some (vb z, ((Xj a1 a2 a3 a6 x5_1 x2 x5_2 x5_3 x5_4 x5_5 x5_6 x5_7 x5_8 x5_9 x5_10 x5_11 x5_12 x5_13 x5_14 x5_15 x5_16 x5_17 x5_18 x5_19) : List AB))) h6)) : CS prg 75 [aP x2, .ptr 0 0, .ptr 4 0] (YN a1 a2 a3 a6 v3 x2) = some (vb true, Xj a1 a2 a3 a6 x5_1 x2 x5_2 x5_3 x5_4 x5_5 x5_6 x5_7 x5_8 x5_9 x5_10 x5_11 x5_12 x5_13 x5_14 x5_15 x5_16 x5_17 x5_18 x5_19)) (apc (Wf a1 a2 a3 a4 a6 true (w6 (v2 + 1)) x5_1) apn))))
    ·
     rw [← sj h]
     exact rn (kH k1 ++ [(18, .v (vb true)), (22, .r (vb false) (Xj a1 a2 a3 a6 x5_1 x2 x5_2 x5_3 x5_4 x5_5 x5_6 x5_7 x5_8 x5_9 x5_10 x5_11 x5_12 x5_13 x5_14 x5_15 x5_16 x5_17 x5_18 x5_19)), (6000, .d true)]) (k1.b (apc q2 (apc (((Nk x2 a1 a2 a3 v3 a6 h5).trans (congrArg (fun z => some (vb z, ((Xj a1 a2 a3 a6 x5_1 x2 x5_2 x5_3 x5_4 x5_5 x5_6 x5_7 x5_8 x5_9 x5_10 x5_11 x5_12 x5_13 x5_14 x5_15 x5_16 x5_17 x5_18 x5_19) : List AB))) h6)) : CS prg 75 [aP x2, .ptr 0 0, .ptr 4 0] (YN a1 a2 a3 a6 v3 x2) = some (vb false, Xj a1 a2 a3 a6 x5_1 x2 x5_2 x5_3 x5_4 x5_5 x5_6 x5_7 x5_8 x5_9 x5_10 x5_11 x5_12 x5_13 x5_14 x5_15 x5_16 x5_17 x5_18 x5_19)) (apc (Wf a1 a2 a3 a4 a6 v1 (w6 (v2 + 1)) x5_1) apn))))
   | k2 x5_0 x5_1 x5_2 x5_3 x5_4 x5_5 =>
    apply bi h <;> intro h6 h
    ·
     rw [← sj h]
     exact rn (kH k1 ++ [(18, .v (vb true)), (22, .r (vb true) (Xk a1 a2 a3 a6 x5_1 x2 x5_2 x5_3 x5_4 x5_5)), (6000, .d true)]) (k1.b (apc q2 (apc (((Nk x2 a1 a2 a3 v3 a6 h5).trans (congrArg (fun z => some (vb z, ((Xk a1 a2 a3 a6 x5_1 x2 x5_2 x5_3 x5_4 x5_5) : List AB))) h6)) : CS prg 75 [aP x2, .ptr 0 0, .ptr 4 0] (YN a1 a2 a3 a6 v3 x2) = some (vb true, Xk a1 a2 a3 a6 x5_1 x2 x5_2 x5_3 x5_4 x5_5)) (apc (Wf a1 a2 a3 a4 a6 true (w6 (v2 + 1)) x5_1) apn))))
    ·
     rw [← sj h]
     exact rn (kH k1 ++ [(18, .v (vb true)), (22, .r (vb false) (Xk a1 a2 a3 a6 x5_1 x2 x5_2 x5_3 x5_4 x5_5)), (6000, .d true)]) (k1.b (apc q2 (apc (((Nk x2 a1 a2 a3 v3 a6 h5).trans (congrArg (fun z => some (vb z, ((Xk a1 a2 a3 a6 x5_1 x2 x5_2 x5_3 x5_4 x5_5) : List AB))) h6)) : CS prg 75 [aP x2, .ptr 0 0, .ptr 4 0] (YN a1 a2 a3 a6 v3 x2) = some (vb false, Xk a1 a2 a3 a6 x5_1 x2 x5_2 x5_3 x5_4 x5_5)) (apc (Wf a1 a2 a3 a4 a6 v1 (w6 (v2 + 1)) x5_1) apn))))
  ·
   rw [← sj h]
   exact rn (kH k1 ++ [(18, .v (vb false)), (6000, .d true)]) (k1.b (apc ((((TG x2 h3).cp rfl _).trans (congrArg (fun z => some (vb z)) h4)) : CP prg 54 [aP x2] (YN a1 a2 a3 a6 v3 x2) = some (vb false)) (apc q0 apn)))
 ·
  rw [← sj h]
  exact xb [(14, .d false), (6000, .d true)] (av h1 apn)
theorem Lh (s0 : Bool × Int × (List SetD)) (e : E_L46_0_3) (h : runL (fun s => XZ a1 a2 a3 a4 a6 s.1 s.2.1 s.2.2) s0 = some e) : Rd a1 a2 a3 a6 e (Wg a1 a2 a3 a4 a6 s0.1 s0.2.1 s0.2.2) := by
  have q := @Zb (Bool × Int × (List SetD)) E_L46_0_3 (fun s => XZ a1 a2 a3 a4 a6 s.1 s.2.1 s.2.2) (fun s => Wg a1 a2 a3 a4 a6 s.1 s.2.1 s.2.2) (Rd a1 a2 a3 a6) (fun s r h => Iu a1 a2 a3 a4 a6 s.1 s.2.1 s.2.2 h) s0 e h
  exact q
end
inductive E_L46_1_4 where
  | k0 (x0 : List SetD)
section
variable (a1 : GramD) (a2 : List Int) (a3 : List Bool) (a5 : Nat)
abbrev Re (l : List AB) : List AB := .cells 89 [(.ro (eOp a1 a2 a3))] :: bS [] :: l
def XB (v1 : List SetD) : Option (E_L46_1_4 ⊕ ((List SetD))) :=
  ((runL (fun s => XZ a1 a2 a3 (a1.prods.length : Int) a5 s.1 s.2.1 s.2.2) (false, 0, v1)).bind fun r1 => match r1 with | .k0 x1_0 x1_1 => (bif x1_0 then (some (.inr (x1_1))) else (some (.inl (.k0 x1_1)))))
def Nm (v1 : List SetD) : St := ⟨fr 27 ug [(0, (.ro (eOp a1 a2 a3))), (1, (.fn 75 [.ptr 0 0, .ptr 4 0]))], (Re a1 a2 a3 [bS v1, bS [], .cells 63 [.sl 2 0 4 0 a5]])⟩
theorem Nn (v1 : List SetD) : okT 5 (Nm a1 a2 a3 a5 v1).h = true := (Zr rfl (ac (ar (ar (ar (ac rfl))))))
abbrev Wh (v1 : List SetD) := evH prg 5 [0, 1] S8 (Nm a1 a2 a3 a5 v1)
def Rf (e : E_L46_1_4) (r : Option (Out × St)) : Prop := match e with | .k0 x0 => ∃ g, r = some ((.brk 0), ⟨fr 27 g [(0, (.ro (eOp a1 a2 a3))), (1, (.fn 75 [.ptr 0 0, .ptr 4 0]))], (Re a1 a2 a3 [bS x0, bS [], .cells 63 [.sl 2 0 4 0 a5]])⟩)
abbrev QG (g1 : Nat → AV) (x1_0 : Bool) (x1_1 : List SetD) : St := ⟨fr 27 g1 [(0, (.ro (eOp a1 a2 a3))), (1, (.fn 75 [.ptr 0 0, .ptr 4 0])), (4, vb x1_0), (11, ls 7 Zl a1.prods)], (Re a1 a2 a3 [bS x1_1, bS [], .cells 63 [.sl 2 0 4 0 a5]])⟩
theorem Iv (v1 : List SetD) {r : E_L46_1_4 ⊕ ((List SetD))} (h : XB a1 a2 a3 a5 v1 = some r) : OkR (fun e => Rf a1 a2 a3 a5 e (Wh a1 a2 a3 a5 v1)) (fun s => Wh a1 a2 a3 a5 v1 = Wh a1 a2 a3 a5 s) r := by
 unfold XB at h
 have k0 := ka [(12, .v (i6 (lP a1)))] (apc (lg a1.prods Zl 7) apn)
 apply bn h; intro r1 h1 h
 cases r1 with
 | k0 x1_0 x1_1 =>
  obtain ⟨g1, e1⟩ := Lh a1 a2 a3 (lP a1) a5 (false, 0, v1) _ h1
  have q1 := (e1 : Wg a1 a2 a3 (lP a1) a5 false 0 v1 = some ((.brk 2), QG a1 a2 a3 a5 g1 x1_0 x1_1))
  have k2 := k0.a [(2002, .l (.brk 2) (QG a1 a2 a3 a5 g1 x1_0 x1_1))] (apc (Wf a1 a2 a3 (lP a1) a5 false 0 v1) (apc q1 apn))
  apply bi h <;> intro h2 h
  ·
   rw [← sj h]
   exact rn (kH k2 ++ [(25, .d true), (6000, .d true)]) (k2.b (av h2 (apc (Nn a1 a2 a3 a5 x1_1) apn)))
  ·
   rw [← sj h]
   exact xb (kH k2 ++ [(25, .d false), (6000, .d true)]) (k2.b (av h2 apn))
theorem Li (s0 : (List SetD)) (e : E_L46_1_4) (h : runL (fun s => XB a1 a2 a3 a5 s) s0 = some e) : Rf a1 a2 a3 a5 e (Wh a1 a2 a3 a5 s0) := by
  have q := @Zb ((List SetD)) E_L46_1_4 (fun s => XB a1 a2 a3 a5 s) (fun s => Wh a1 a2 a3 a5 s) (Rf a1 a2 a3 a5) (fun s r h => Iv a1 a2 a3 a5 s h) s0 e h
  exact q
end
inductive E_L46_2_2 where
  | k0 (x0 : List SetD)
section
variable (a1 : GramD) (a2 : List Int) (a3 : List Bool) (a4 : List SetD) (a5 : Nat)
abbrev Rg (l : List AB) : List AB := .cells 89 [(.ro (eOp a1 a2 a3))] :: bS [] :: l
def Uc : Option (E_L46_2_2 ⊕ (Unit)) :=
  ((runL (fun s => XB a1 a2 a3 a5 s) a4).bind fun r1 => match r1 with | .k0 x1_0 => (some (.inl (.k0 x1_0))))
def Np : St := ⟨fr 27 ug [(0, (.ro (eOp a1 a2 a3))), (1, (.fn 75 [.ptr 0 0, .ptr 4 0]))], (Rg a1 a2 a3 [bS a4, bS [], .cells 63 [.sl 2 0 4 0 a5]])⟩
theorem Fb : okT 5 (Np a1 a2 a3 a4 a5).h = true := (Zr rfl (ac (ar (ar (ar (ac rfl))))))
abbrev Wi := evH prg 5 [0, 1] S9 (Np a1 a2 a3 a4 a5)
def Rh (e : E_L46_2_2) (r : Option (Out × St)) : Prop := match e with | .k0 x0 => ∃ g, r = some ((.brk 2000000), ⟨fr 27 g [], (Rg a1 a2 a3 [bS x0, bS [], .cells 63 [.sl 2 0 4 0 a5]])⟩)
abbrev QH (g1 : Nat → AV) (x1_0 : List SetD) : St := ⟨fr 27 g1 [(0, (.ro (eOp a1 a2 a3))), (1, (.fn 75 [.ptr 0 0, .ptr 4 0]))], (Rg a1 a2 a3 [bS x1_0, bS [], .cells 63 [.sl 2 0 4 0 a5]])⟩
theorem Iw {r : E_L46_2_2 ⊕ (Unit)} (h : Uc a1 a2 a3 a4 a5 = some r) : OkR (fun e => Rh a1 a2 a3 a5 e (Wi a1 a2 a3 a4 a5)) (fun s => Wi a1 a2 a3 a4 a5 = Wi a1 a2 a3 a4 a5) r := by
 unfold Uc at h
 apply bn h; intro r1 h1 h
 cases r1 with
 | k0 x1_0 =>
  obtain ⟨g1, e1⟩ := Li a1 a2 a3 a5 a4 _ h1
  rw [← sj h]
  exact xb [(2000, .l (.brk 0) (QH a1 a2 a3 a5 g1 x1_0)), (6000, .d true)] (apc (Nn a1 a2 a3 a5 a4) (apc (e1 : Wh a1 a2 a3 a5 a4 = some ((.brk 0), QH a1 a2 a3 a5 g1 x1_0)) apn))
theorem Lj (s0 : Unit) (e : E_L46_2_2) (h : runL (fun s => Uc a1 a2 a3 a4 a5) s0 = some e) : Rh a1 a2 a3 a5 e (Wi a1 a2 a3 a4 a5) := by
  have q := @Zb (Unit) E_L46_2_2 (fun s => Uc a1 a2 a3 a4 a5) (fun s => Wi a1 a2 a3 a4 a5) (Rh a1 a2 a3 a5) (fun s r h => Iw a1 a2 a3 a4 a5 h) s0 e h
  exact q
end
def Zab (a1 : GramD) (a2 : List Int) (a3 : List Bool) (a4 : List SetD) (a5 : Nat) (x0 : (List SetD)) : AV := (.tup [])
def Zac (a1 : GramD) (a2 : List Int) (a3 : List Bool) (a4 : List SetD) (a5 : Nat) (x0 : (List SetD)) : List AB := [.cells 89 [(.ro (eOp a1 a2 a3))], bS [], bS x0, bS [], .cells 63 [.sl 2 0 4 0 a5]]
def DI (a1 : GramD) (a2 : List Int) (a3 : List Bool) (a4 : List SetD) (a5 : Nat) : Option (List SetD) :=
  ((runL (fun s => Uc a1 a2 a3 a4 a5) ()).bind fun r1 => match r1 with | .k0 x1_0 => (some x1_0))
abbrev KY (g1 : Nat → AV) (a1 : GramD) (a2 : List Int) (a3 : List Bool) (x1_0 : List SetD) (a5 : Nat) : St := ⟨fr 27 g1 [], [.cells 89 [(.ro (eOp a1 a2 a3))], bS [], bS x1_0, bS [], .cells 63 [.sl 2 0 4 0 a5]]⟩
theorem DJ (a1 : GramD) (a2 : List Int) (a3 : List Bool) (a4 : List SetD) (a5 : Nat) {r : (List SetD)} (h : DI a1 a2 a3 a4 a5 = some r) : CS prg 46 [(.ro (eOp a1 a2 a3)), (.fn 75 [.ptr 0 0, .ptr 4 0])] [.cells 89 [(.ro (eOp a1 a2 a3))], bS [], bS a4, bS [], .cells 63 [.sl 2 0 4 0 a5]] = some (Zab a1 a2 a3 a4 a5 r, Zac a1 a2 a3 a4 a5 r) := by
 unfold DI at h
 apply bn h; intro r1 h1 h
 cases r1 with
 | k0 x1_0 =>
  obtain ⟨g1, e1⟩ := Lj a1 a2 a3 a4 a5 () _ h1
  rw [← sj h]
  exact fc [(2002000, .l (.brk 2000000) (KY g1 a1 a2 a3 x1_0 a5)), (6000, .d true)] (apc (Fb a1 a2 a3 a4 a5) (apc (e1 : Wi a1 a2 a3 a4 a5 = some ((.brk 2000000), KY g1 a1 a2 a3 x1_0 a5)) apn))
def Zad (a1 : GramD) (a2 : List Int) (a3 : List Bool) (x0 : (List SetD)) : AV := (ls 4 eSet x0)
def Lk (a1 : GramD) (a2 : List Int) (a3 : List Bool) : Option (List SetD) :=
  (bif (mkOk (a1.sorts.length : Int) 32) then ((DI a1 a2 a3 (List.replicate (Int.toNat (a1.sorts.length : Int)) (⟨0, 0, 0, 0⟩ : SetD)) (Int.toNat (a1.sorts.length : Int))).bind fun x2 => (bif (decide ((Int.toNat (a1.sorts.length : Int)) ≤ x2.length)) then (some (x2.take (Int.toNat (a1.sorts.length : Int)))) else none)) else none)
abbrev KZ (a1 : GramD) (a2 : List Int) (a3 : List Bool) : List AB := [.cells 89 [(.ro (eOp a1 a2 a3))], bS []]
abbrev K0 (a1 : GramD) (a2 : List Int) (a3 : List Bool) : List AB := [.cells 89 [(.ro (eOp a1 a2 a3))], bS [], bS (List.replicate (tS a1) (⟨0, 0, 0, 0⟩ : SetD))]
abbrev PH (a1 : GramD) (a2 : List Int) (a3 : List Bool) (x2 : List SetD) : List AB := [.cells 89 [(.ro (eOp a1 a2 a3))], bS [], bS x2, bS [], .cells 63 [(.sl 2 0 4 0 (tS a1))]]
theorem K2 (a1 : GramD) (a2 : List Int) (a3 : List Bool) {r : (List SetD)} (h : Lk a1 a2 a3 = some r) : PR2 prg 61 [(.ro (eOp a1 a2 a3))] (Zad a1 a2 a3 r) := by
 unfold Lk at h
 have k0 := ka [(9, .v (i6 (lS a1)))] (apc (lg a1.sorts eStr 1) apn)
 apply bi h <;> intro h1 h
 ·
  have q1 := ((U5 (h := (KZ a1 a2 a3)) (e := eSet) (z := (⟨0, 0, 0, 0⟩ : SetD)) h1 rfl) : (mkA 46 4 32 [.val (.int .u64 0), .val (.int .u64 0), .val (.int .u64 0), .val (.int .u64 0)] (i6 (lS a1)) (i6 (lS a1)) 2).map (fun x => (x.1, (KZ a1 a2 a3) ++ [x.2])) = some ((.sl 2 0 4 0 (tS a1)), K0 a1 a2 a3))
  have k2 := k0.a [(10, .r (.sl 2 0 4 0 (tS a1)) (K0 a1 a2 a3))] (apc q1 apn)
  apply bn h; intro x2 h2 h
  have q3 := ((DJ a1 a2 a3 (List.replicate (tS a1) (⟨0, 0, 0, 0⟩ : SetD)) (tS a1) h2) : CS prg 46 [(.ro (eOp a1 a2 a3)), (.fn 75 [.ptr 0 0, .ptr 4 0])] [.cells 89 [(.ro (eOp a1 a2 a3))], bS [], bS (List.replicate (tS a1) (⟨0, 0, 0, 0⟩ : SetD)), bS [], .cells 63 [(.sl 2 0 4 0 (tS a1))]] = some ((.tup []), PH a1 a2 a3 x2))
  have k4 := k2.a [(13, .r (.tup []) (PH a1 a2 a3 x2))] (apc q3 apn)
  apply bi h <;> intro h3 h
  ·
   rw [← sj h]
   exact fpn (v := (.sl 2 0 4 0 (tS a1))) (h' := (PH a1 a2 a3 x2)) (kH k4) (k4.b apn) (ZR (e := eSet) rfl h3) rfl (ZR (e := eSet) (getq rfl (W4 (fun _ => rfl))) h3) (by kernel_rfl)
  ·
   cases h
 ·
  cases h
inductive R_F30 where
  | k0 (x0 : List SetD) (x1 : Int)
def Zcv (a1 : GramD) (r : R_F30) : AV := match r with | .k0 x0 x1 => (.tup [ls 4 eSet x0, i6 x1])
def F30 (a1 : GramD) : Option R_F30 :=
  ((F45 a1).bind fun r1 => match r1 with | .k0 x1_0 => (bif (x1_0 != 0) then (some (.k0 ([]) x1_0)) else none) | .k1 x1_0 x1_1 x1_2 x1_3 x1_4 x1_5 x1_6 => ((Lk (⟨x1_0, x1_1, x1_2, x1_3, x1_4⟩ : GramD) x1_5 x1_6).bind fun x2 => (some (.k0 x2 0))))
theorem Zbi (a1 : GramD) {r : R_F30} (h : F30 a1 = some r) : PR1 prg 30 [aG a1] (Zcv a1 r) := by
 unfold F30 at h
 apply bn h; intro r1 h1 h
 cases r1 with
 | k0 x1_0 =>
  have q0 := (((QE a1 h1).cp rfl _) : CP prg 45 [aG a1] [bG a1, bS []] = some (.tup [(.p (.val (.pointer .none))), i6 x1_0]))
  have k1 := ka [(8, .v (.tup [(.p (.val (.pointer .none))), i6 x1_0]))] (apc q0 apn)
  apply bi h <;> intro h2 h
  ·
   rw [← sj h]
   exact fpo (v := (.tup [.sl 2 0 4 0 0, i6 x1_0])) (h' := [bG a1, bS [], bS []]) (kH k1 ++ [(12, .d true)]) (k1.b (av h2 apn)) (XR (Zg (ZR (e := eSet) (xs := []) rfl rfl) (Zg rfl Zv))) (by kernel_rfl)
  ·
   cases h
 | k1 x1_0 x1_1 x1_2 x1_3 x1_4 x1_5 x1_6 =>
  apply bn h; intro x2 h2 h
  rw [← sj h]
  exact fq [(8, .v (.tup [(.ro [.lst 1 (x1_0.map eStr), .lst 7 (x1_1.map Zl), .val (.int .i64 x1_2), .lst 3 (x1_3.map Z6), .lst 5 (x1_4.map Z8), .lst 1 (x1_5.map eI64), .lst 1 (x1_6.map Zk)]), i6 0])), (15, .v (ls 4 eSet x2))] (apc (((QE a1 h1).cp rfl _) : CP prg 45 [aG a1] [bG a1, bS []] = some (.tup [(.ro [.lst 1 (x1_0.map eStr), .lst 7 (x1_1.map Zl), .val (.int .i64 x1_2), .lst 3 (x1_3.map Z6), .lst 5 (x1_4.map Z8), .lst 1 (x1_5.map eI64), .lst 1 (x1_6.map Zk)]), i6 0])) (apc (((K2 (⟨x1_0, x1_1, x1_2, x1_3, x1_4⟩ : GramD) x1_5 x1_6 h2).cp rfl _) : CP prg 61 [(.ro [.lst 1 (x1_0.map eStr), .lst 7 (x1_1.map Zl), .val (.int .i64 x1_2), .lst 3 (x1_3.map Z6), .lst 5 (x1_4.map Z8), .lst 1 (x1_5.map eI64), .lst 1 (x1_6.map Zk)])] [bG a1, bS []] = some (ls 4 eSet x2)) apn))
def Zcw (a1 : ProdD) (a2 : GramD) (a3 : List Int) (a4 : List Bool) (a5 : List SetD) (a6 : List Bool) (a7 : Nat) (a8 : SymD) (x0 : Bool) : AV := (vb x0)
def Zcx (a1 : ProdD) (a2 : GramD) (a3 : List Int) (a4 : List Bool) (a5 : List SetD) (a6 : List Bool) (a7 : Nat) (a8 : SymD) (x0 : Bool) : List AB := [.cells 89 [(.ro (eOp a2 a3 a4))], bS [], bB [], bS [], .cells 63 [ls 4 eSet a5], .cells 100 [(.fn 77 [.ptr 0 0])], .cells 100 [(.fn 77 [.ptr 0 0])], bB [], bB a6, bB [], .cells 56 [.sl 8 0 1 0 a7], yY0, bP a1, bP a1, .cells 48 ((eSym a8).map .p), bP a1]
def F77 (a1 : ProdD) (a3 : List Int) : Option Bool :=
  ((F48 a3 a1).bind fun x1 => (some (decide (x1 ≥ 0))))
theorem CZ (a1 : ProdD) (a2 : GramD) (a3 : List Int) (a4 : List Bool) (a5 : List SetD) (a6 : List Bool) (a7 : Nat) (a8 : SymD) {r : Bool} (h : F77 a1 a3 = some r) : CS prg 77 [aP a1, .ptr 0 0] [.cells 89 [(.ro (eOp a2 a3 a4))], bS [], bB [], bS [], .cells 63 [ls 4 eSet a5], .cells 100 [(.fn 77 [.ptr 0 0])], .cells 100 [(.fn 77 [.ptr 0 0])], bB [], bB a6, bB [], .cells 56 [.sl 8 0 1 0 a7], yY0, bP a1, bP a1, .cells 48 ((eSym a8).map .p)] = some (Zcw a1 a2 a3 a4 a5 a6 a7 a8 r, Zcx a1 a2 a3 a4 a5 a6 a7 a8 r) := by
 unfold F77 at h
 apply bn h; intro x1 h1 h
 rw [← sj h]
 exact fc [(6, .v (i6 x1))] (apc (((KQ a2 a3 a4 a1 h1).cp rfl _) : CP prg 48 [(.ro (eOp a2 a3 a4)), aP a1] [.cells 89 [(.ro (eOp a2 a3 a4))], bS [], bB [], bS [], .cells 63 [ls 4 eSet a5], .cells 100 [(.fn 77 [.ptr 0 0])], .cells 100 [(.fn 77 [.ptr 0 0])], bB [], bB a6, bB [], .cells 56 [.sl 8 0 1 0 a7], yY0, bP a1, bP a1, .cells 48 ((eSym a8).map .p), bP a1] = some (i6 x1)) apn)
inductive E_L72_0_2 where
  | k0 (x0 : Bool) (x1 : List Bool)
section
variable (a1 : ProdD) (a2 : Int) (a3 : GramD) (a4 : List Int) (a5 : List Bool) (a6 : List SetD) (a8 : Nat)
abbrev W7 (l : List AB) : List AB := .cells 89 [(.ro (eOp a3 a4 a5))] :: bS [] :: bB [] :: bS [] :: .cells 63 [ls 4 eSet a6] :: .cells 100 [(.fn 77 [.ptr 0 0])] :: .cells 100 [(.fn 77 [.ptr 0 0])] :: bB [] :: l
def X0 (v1 : Bool) (v2 : Int) (v3 : List Bool) : Option (E_L72_0_2 ⊕ (Bool × Int × (List Bool))) :=
  (bif (decide (v2 < a2)) then ((getI a1.right v2).bind fun x2 => (bif (x2.kind == 1) then ((ixN a8 a1.left).bind fun x4 => ((v3[x4]?).bind fun x5 => (bif x5 then ((F77 a1 a4).bind fun x7 => (bif x7 then ((ixN a8 x2.sort).bind fun x9 => ((v3[x9]?).bind fun x10 => (bif x10 then (some (.inr (v1, (IntKind.wrap .i64 (v2 + 1)), v3))) else (some (.inr (true, (IntKind.wrap .i64 (v2 + 1)), v3.set x9 true)))))) else (some (.inr (v1, (IntKind.wrap .i64 (v2 + 1)), v3))))) else (some (.inr (v1, (IntKind.wrap .i64 (v2 + 1)), v3)))))) else (some (.inr (v1, (IntKind.wrap .i64 (v2 + 1)), v3))))) else (some (.inl (.k0 v1 v3))))
def Nq (v1 : Bool) (v2 : Int) (v3 : List Bool) : St := ⟨fr 44 ug [(1, .ptr 10 0), (2, .ptr 6 0), (3, .ptr 13 0), (5, vb v1), (9, ls 6 eSym a1.right), (10, i6 a2), (11, i6 v2)], (W7 a3 a4 a5 a6 [bB v3, bB [], .cells 56 [.sl 8 0 1 0 a8], yY0, bP a1, bP a1])⟩
theorem Ri (v1 : Bool) (v2 : Int) (v3 : List Bool) : okT 14 (Nq a1 a2 a3 a4 a5 a6 a8 v1 v2 v3).h = true := (Zr rfl (ac (ar (ar (ar (ac (ac (ac (ar (ar (ar (ac (ar (ac (ac rfl)))))))))))))))
abbrev Wj (v1 : Bool) (v2 : Int) (v3 : List Bool) := evH prg 14 [1, 2, 3, 5, 9, 10, 11] Gr (Nq a1 a2 a3 a4 a5 a6 a8 v1 v2 v3)
def Rj (e : E_L72_0_2) (r : Option (Out × St)) : Prop := match e with | .k0 x0 x1 => ∃ g, r = some ((.brk 0), ⟨fr 44 g [(3, .ptr 13 0), (5, vb x0), (9, ls 6 eSym a1.right)], (W7 a3 a4 a5 a6 [bB x1, bB [], .cells 56 [.sl 8 0 1 0 a8], yY0, bP a1, bP a1])⟩)
abbrev Vv (v3 : List Bool) (x2 : SymD) : List AB := (W7 a3 a4 a5 a6 [bB v3, bB [], .cells 56 [.sl 8 0 1 0 a8], yY0, bP a1, bP a1, .cells 48 ((eSym x2).map .p)])
abbrev Yf (v3 : List Bool) (x2 : SymD) : List AB := (W7 a3 a4 a5 a6 [bB v3, bB [], .cells 56 [.sl 8 0 1 0 a8], yY0, bP a1, bP a1, .cells 48 ((eSym x2).map .p), bP a1])
abbrev QI (v3 : List Bool) (x9 : Nat) (x2 : SymD) : List AB := (W7 a3 a4 a5 a6 [bB (v3.set x9 true), bB [], .cells 56 [.sl 8 0 1 0 a8], yY0, bP a1, bP a1, .cells 48 ((eSym x2).map .p), bP a1])
theorem Ix (v1 : Bool) (v2 : Int) (v3 : List Bool) {r : E_L72_0_2 ⊕ (Bool × Int × (List Bool))} (h : X0 a1 a2 a4 a8 v1 v2 v3 = some r) : OkR (fun e => Rj a1 a3 a4 a5 a6 a8 e (Wj a1 a2 a3 a4 a5 a6 a8 v1 v2 v3)) (fun s => Wj a1 a2 a3 a4 a5 a6 a8 v1 v2 v3 = Wj a1 a2 a3 a4 a5 a6 a8 s.1 s.2.1 s.2.2) r := by
 unfold X0 at h
 have q0 := (Ri a1 a2 a3 a4 a5 a6 a8 v1 (w6 (v2 + 1)) v3)
 apply bi h <;> intro h1 h
 ·
  apply bn h; intro x2 h2 h
  have k1 := ka [(12, .d true), (13, .v (.ro (eSym x2)))] (av h1 (apc (ig eSym 6 .i64 h2) apn))
  apply bi h <;> intro h3 h
  ·
   apply bn h; intro x4 h4 h
   have q2 := ((ZW h4) : idxA 1 (.sl 8 0 1 0 a8) (i6 a1.left) = some (.rp 8 0 1 x4 0))
   have k3 := k1.a [(17, .d true), (22, .v (.rp 8 0 1 x4 0))] (av h3 (apc q2 apn))
   apply bn h; intro x5 h5 h
   apply bi h <;> intro h6 h
   ·
    have q4 := (((Zp (V := vb x5) rfl h5 rfl).trans (congrArg (fun z => some (vb z)) h6)) : ldA (Vv a1 a3 a4 a5 a6 a8 v3 x2) .false 1 (.rp 8 0 1 x4 0) = some (vb true))
    apply bn h; intro x7 h7 h
    apply bi h <;> intro h8 h
    ·
     have q5 := (((CZ a1 a3 a4 a5 a6 v3 a8 x2 h7).trans (congrArg (fun z => some (vb z, ((Yf a1 a3 a4 a5 a6 a8 v3 x2) : List AB))) h8)) : CS prg 77 [aP a1, .ptr 0 0] (Vv a1 a3 a4 a5 a6 a8 v3 x2) = some (vb true, Yf a1 a3 a4 a5 a6 a8 v3 x2))
     have k6 := k3.a [(23, .v (vb true)), (28, .r (vb true) (Yf a1 a3 a4 a5 a6 a8 v3 x2))] (apc q4 (apc q5 apn))
     apply bn h; intro x9 h9 h
     have q7 := ((ZW h9) : idxA 1 (.sl 8 0 1 0 a8) (i6 x2.sort) = some (.rp 8 0 1 x9 0))
     apply bn h; intro x10 h10 h
     apply bi h <;> intro h11 h
     ·
      rw [← sj h]
      exact rn (kH k6 ++ [(34, .v (.rp 8 0 1 x9 0)), (35, .v (vb true)), (6000, .d true)]) (k6.b (apc q7 (apc (((Zp (V := vb x10) rfl h10 rfl).trans (congrArg (fun z => some (vb z)) h11)) : ldA (Yf a1 a3 a4 a5 a6 a8 v3 x2) .false 1 (.rp 8 0 1 x9 0) = some (vb true)) (apc q0 apn))))
     ·
      rw [← sj h]
      exact rn (kH k6 ++ [(34, .v (.rp 8 0 1 x9 0)), (35, .v (vb false)), (41, .v (.rp 8 0 1 x9 0)), (1041, .r ud (QI a1 a3 a4 a5 a6 a8 v3 x9 x2)), (6000, .d true)]) (k6.b (apc q7 (apc (((Zp (V := vb x10) rfl h10 rfl).trans (congrArg (fun z => some (vb z)) h11)) : ldA (Yf a1 a3 a4 a5 a6 a8 v3 x2) .false 1 (.rp 8 0 1 x9 0) = some (vb false)) (apc q7 (apc (⟨Zt (v' := true) rfl h10 rfl rfl (Nat.le_of_ble_eq_true rfl) rfl, rfl⟩ : stA (Yf a1 a3 a4 a5 a6 a8 v3 x2) 1 (.rp 8 0 1 x9 0) (vb true) = some (QI a1 a3 a4 a5 a6 a8 v3 x9 x2) ∧ ud = ud) (apc (Ri a1 a2 a3 a4 a5 a6 a8 true (w6 (v2 + 1)) (v3.set x9 true)) apn))))))
    ·
     rw [← sj h]
     exact rn (kH k3 ++ [(23, .v (vb true)), (28, .r (vb false) (Yf a1 a3 a4 a5 a6 a8 v3 x2)), (6000, .d true)]) (k3.b (apc q4 (apc (((CZ a1 a3 a4 a5 a6 v3 a8 x2 h7).trans (congrArg (fun z => some (vb z, ((Yf a1 a3 a4 a5 a6 a8 v3 x2) : List AB))) h8)) : CS prg 77 [aP a1, .ptr 0 0] (Vv a1 a3 a4 a5 a6 a8 v3 x2) = some (vb false, Yf a1 a3 a4 a5 a6 a8 v3 x2)) (apc q0 apn))))
   ·
    rw [← sj h]
    exact rn (kH k3 ++ [(23, .v (vb false)), (6000, .d true)]) (k3.b (apc (((Zp (V := vb x5) rfl h5 rfl).trans (congrArg (fun z => some (vb z)) h6)) : ldA (Vv a1 a3 a4 a5 a6 a8 v3 x2) .false 1 (.rp 8 0 1 x4 0) = some (vb false)) (apc q0 apn)))
  ·
   rw [← sj h]
   exact rn (kH k1 ++ [(17, .d false), (6000, .d true)]) (k1.b (av h3 (apc q0 apn)))
 ·
  rw [← sj h]
  exact xb [(12, .d false), (6000, .d true)] (av h1 apn)
theorem Ll (s0 : Bool × Int × (List Bool)) (e : E_L72_0_2) (h : runL (fun s => X0 a1 a2 a4 a8 s.1 s.2.1 s.2.2) s0 = some e) : Rj a1 a3 a4 a5 a6 a8 e (Wj a1 a2 a3 a4 a5 a6 a8 s0.1 s0.2.1 s0.2.2) := by
  have q := @Zb (Bool × Int × (List Bool)) E_L72_0_2 (fun s => X0 a1 a2 a4 a8 s.1 s.2.1 s.2.2) (fun s => Wj a1 a2 a3 a4 a5 a6 a8 s.1 s.2.1 s.2.2) (Rj a1 a3 a4 a5 a6 a8) (fun s r h => Ix a1 a2 a3 a4 a5 a6 a8 s.1 s.2.1 s.2.2 h) s0 e h
  exact q
end
inductive R_F72_2 where
  | k0 (x0 : Bool) (x1 : List Bool)
def Zae (a1 : ProdD) (a2 : GramD) (a3 : List Int) (a4 : List Bool) (a5 : List SetD) (a6 : List Bool) (a7 : Nat) (r : R_F72_2) : AV := match r with | .k0 x0 x1 => (vb x0)
def Zaf (a1 : ProdD) (a2 : GramD) (a3 : List Int) (a4 : List Bool) (a5 : List SetD) (a6 : List Bool) (a7 : Nat) (r : R_F72_2) : List AB := match r with | .k0 x0 x1 => [.cells 89 [(.ro (eOp a2 a3 a4))], bS [], bB [], bS [], .cells 63 [ls 4 eSet a5], .cells 100 [(.fn 77 [.ptr 0 0])], .cells 100 [(.fn 77 [.ptr 0 0])], bB [], bB x1, bB [], .cells 56 [.sl 8 0 1 0 a7], yY0, bP a1, bP a1]
def Fc (a1 : ProdD) (a3 : List Int) (a6 : List Bool) (a7 : Nat) : Option R_F72_2 :=
  ((runL (fun s => X0 a1 (a1.right.length : Int) a3 a7 s.1 s.2.1 s.2.2) (false, 0, a6)).bind fun r1 => match r1 with | .k0 x1_0 x1_1 => (some (.k0 x1_0 x1_1)))
abbrev K3 (g1 : Nat → AV) (x1_0 : Bool) (a1 : ProdD) (a2 : GramD) (a3 : List Int) (a4 : List Bool) (a5 : List SetD) (x1_1 : List Bool) (a7 : Nat) : St := ⟨fr 44 g1 [(3, .ptr 13 0), (5, vb x1_0), (9, ls 6 eSym a1.right)], [.cells 89 [(.ro (eOp a2 a3 a4))], bS [], bB [], bS [], .cells 63 [ls 4 eSet a5], .cells 100 [(.fn 77 [.ptr 0 0])], .cells 100 [(.fn 77 [.ptr 0 0])], bB [], bB x1_1, bB [], .cells 56 [.sl 8 0 1 0 a7], yY0, bP a1, bP a1]⟩
theorem K4 (a1 : ProdD) (a2 : GramD) (a3 : List Int) (a4 : List Bool) (a5 : List SetD) (a6 : List Bool) (a7 : Nat) {r : R_F72_2} (h : Fc a1 a3 a6 a7 = some r) : CS prg 72 [aP a1, .ptr 10 0, .ptr 6 0] [.cells 89 [(.ro (eOp a2 a3 a4))], bS [], bB [], bS [], .cells 63 [ls 4 eSet a5], .cells 100 [(.fn 77 [.ptr 0 0])], .cells 100 [(.fn 77 [.ptr 0 0])], bB [], bB a6, bB [], .cells 56 [.sl 8 0 1 0 a7], yY0, bP a1] = some (Zae a1 a2 a3 a4 a5 a6 a7 r, Zaf a1 a2 a3 a4 a5 a6 a7 r) := by
 unfold Fc at h
 apply bn h; intro r1 h1 h
 cases r1 with
 | k0 x1_0 x1_1 =>
  obtain ⟨g1, e1⟩ := Ll a1 (a1.right.length : Int) a2 a3 a4 a5 a7 (false, 0, a6) _ h1
  rw [← sj h]
  exact fc [(10, .v (i6 (a1.right.length : Int))), (2000, .l (.brk 0) (K3 g1 x1_0 a1 a2 a3 a4 a5 x1_1 a7)), (6000, .d true)] (apc (lg a1.right eSym 6) (apc (Ri a1 (a1.right.length : Int) a2 a3 a4 a5 a7 false 0 a6) (apc (e1 : Wj a1 (a1.right.length : Int) a2 a3 a4 a5 a7 false 0 a6 = some ((.brk 0), K3 g1 x1_0 a1 a2 a3 a4 a5 x1_1 a7)) apn)))
inductive E_L46_0_10 where
  | k0 (x0 : Bool) (x1 : List Bool)
section
variable (a1 : GramD) (a2 : List Int) (a3 : List Bool) (a4 : Int) (a5 : List SetD) (a7 : Nat)
abbrev Vw (l : List AB) : List AB := .cells 89 [(.ro (eOp a1 a2 a3))] :: bS [] :: bB [] :: bS [] :: .cells 63 [ls 4 eSet a5] :: .cells 100 [(.fn 77 [.ptr 0 0])] :: .cells 100 [(.fn 77 [.ptr 0 0])] :: bB [] :: l
def YZ (v1 : Bool) (v2 : Int) (v3 : List Bool) : Option (E_L46_0_10 ⊕ (Bool × Int × (List Bool))) :=
  (bif (decide (v2 < a4)) then ((getI a1.prods v2).bind fun x2 => ((F54 x2).bind fun x3 => (bif x3 then ((Fc x2 a2 v3 a7).bind fun r5 => match r5 with | .k0 x5_0 x5_1 => (bif x5_0 then (some (.inr (true, (IntKind.wrap .i64 (v2 + 1)), x5_1))) else (some (.inr (v1, (IntKind.wrap .i64 (v2 + 1)), x5_1))))) else (some (.inr (v1, (IntKind.wrap .i64 (v2 + 1)), v3)))))) else (some (.inl (.k0 v1 v3))))
def QJ (v1 : Bool) (v2 : Int) (v3 : List Bool) : St := ⟨fr 27 ug [(0, (.ro (eOp a1 a2 a3))), (1, (.fn 72 [.ptr 10 0, .ptr 6 0])), (4, vb v1), (11, ls 7 Zl a1.prods), (12, i6 a4), (13, i6 v2)], (Vw a1 a2 a3 a5 [bB v3, bB [], .cells 56 [.sl 8 0 1 0 a7]])⟩
theorem Vx (v1 : Bool) (v2 : Int) (v3 : List Bool) : okT 11 (QJ a1 a2 a3 a4 a5 a7 v1 v2 v3).h = true := (Zr rfl (ac (ar (ar (ar (ac (ac (ac (ar (ar (ar (ac rfl))))))))))))
abbrev Xl (v1 : Bool) (v2 : Int) (v3 : List Bool) := evH prg 11 [0, 1, 4, 11, 12, 13] S7 (QJ a1 a2 a3 a4 a5 a7 v1 v2 v3)
def Tj (e : E_L46_0_10) (r : Option (Out × St)) : Prop := match e with | .k0 x0 x1 => ∃ g, r = some ((.brk 2), ⟨fr 27 g [(0, (.ro (eOp a1 a2 a3))), (1, (.fn 72 [.ptr 10 0, .ptr 6 0])), (4, vb x0), (11, ls 7 Zl a1.prods)], (Vw a1 a2 a3 a5 [bB x1, bB [], .cells 56 [.sl 8 0 1 0 a7]])⟩)
abbrev WE (v3 : List Bool) (x2 : ProdD) : List AB := (Vw a1 a2 a3 a5 [bB v3, bB [], .cells 56 [.sl 8 0 1 0 a7], yY0, bP x2])
abbrev YO (x5_1 : List Bool) (x2 : ProdD) : List AB := (Vw a1 a2 a3 a5 [bB x5_1, bB [], .cells 56 [.sl 8 0 1 0 a7], yY0, bP x2, bP x2])
theorem Lm (v1 : Bool) (v2 : Int) (v3 : List Bool) {r : E_L46_0_10 ⊕ (Bool × Int × (List Bool))} (h : YZ a1 a2 a4 a7 v1 v2 v3 = some r) : OkR (fun e => Tj a1 a2 a3 a5 a7 e (Xl a1 a2 a3 a4 a5 a7 v1 v2 v3)) (fun s => Xl a1 a2 a3 a4 a5 a7 v1 v2 v3 = Xl a1 a2 a3 a4 a5 a7 s.1 s.2.1 s.2.2) r := by
 unfold YZ at h
 apply bi h <;> intro h1 h
 ·
  apply bn h; intro x2 h2 h
  have k0 := ka [(14, .d true), (15, .v (.ro (Zl x2)))] (av h1 (apc (ig Zl 7 .i64 h2) apn))
  apply bn h; intro x3 h3 h
  apply bi h <;> intro h4 h
  ·
   have q1 := ((((TG x2 h3).cp rfl _).trans (congrArg (fun z => some (vb z)) h4)) : CP prg 54 [aP x2] (WE a1 a2 a3 a5 a7 v3 x2) = some (vb true))
   apply bn h; intro r5 h5 h
   cases r5 with
   | k0 x5_0 x5_1 =>
    apply bi h <;> intro h6 h
    ·
     rw [← sj h]
     exact rn (kH k0 ++ [(18, .v (vb true)), (22, .r (vb true) (YO a1 a2 a3 a5 a7 x5_1 x2)), (6000, .d true)]) (k0.b (apc q1 (apc (((K4 x2 a1 a2 a3 a5 v3 a7 h5).trans (congrArg (fun z => some (vb z, ((YO a1 a2 a3 a5 a7 x5_1 x2) : List AB))) h6)) : CS prg 72 [aP x2, .ptr 10 0, .ptr 6 0] (WE a1 a2 a3 a5 a7 v3 x2) = some (vb true, YO a1 a2 a3 a5 a7 x5_1 x2)) (apc (Vx a1 a2 a3 a4 a5 a7 true (w6 (v2 + 1)) x5_1) apn))))
    ·
     rw [← sj h]
     exact rn (kH k0 ++ [(18, .v (vb true)), (22, .r (vb false) (YO a1 a2 a3 a5 a7 x5_1 x2)), (6000, .d true)]) (k0.b (apc q1 (apc (((K4 x2 a1 a2 a3 a5 v3 a7 h5).trans (congrArg (fun z => some (vb z, ((YO a1 a2 a3 a5 a7 x5_1 x2) : List AB))) h6)) : CS prg 72 [aP x2, .ptr 10 0, .ptr 6 0] (WE a1 a2 a3 a5 a7 v3 x2) = some (vb false, YO a1 a2 a3 a5 a7 x5_1 x2)) (apc (Vx a1 a2 a3 a4 a5 a7 v1 (w6 (v2 + 1)) x5_1) apn))))
  ·
   rw [← sj h]
   exact rn (kH k0 ++ [(18, .v (vb false)), (6000, .d true)]) (k0.b (apc ((((TG x2 h3).cp rfl _).trans (congrArg (fun z => some (vb z)) h4)) : CP prg 54 [aP x2] (WE a1 a2 a3 a5 a7 v3 x2) = some (vb false)) (apc (Vx a1 a2 a3 a4 a5 a7 v1 (w6 (v2 + 1)) v3) apn)))
 ·
  rw [← sj h]
  exact xb [(14, .d false), (6000, .d true)] (av h1 apn)
theorem Nr (s0 : Bool × Int × (List Bool)) (e : E_L46_0_10) (h : runL (fun s => YZ a1 a2 a4 a7 s.1 s.2.1 s.2.2) s0 = some e) : Tj a1 a2 a3 a5 a7 e (Xl a1 a2 a3 a4 a5 a7 s0.1 s0.2.1 s0.2.2) := by
  have q := @Zb (Bool × Int × (List Bool)) E_L46_0_10 (fun s => YZ a1 a2 a4 a7 s.1 s.2.1 s.2.2) (fun s => Xl a1 a2 a3 a4 a5 a7 s.1 s.2.1 s.2.2) (Tj a1 a2 a3 a5 a7) (fun s r h => Lm a1 a2 a3 a4 a5 a7 s.1 s.2.1 s.2.2 h) s0 e h
  exact q
end
inductive E_L46_1_6 where
  | k0 (x0 : List Bool)
section
variable (a1 : GramD) (a2 : List Int) (a3 : List Bool) (a4 : List SetD) (a6 : Nat)
abbrev Rk (l : List AB) : List AB := .cells 89 [(.ro (eOp a1 a2 a3))] :: bS [] :: bB [] :: bS [] :: .cells 63 [ls 4 eSet a4] :: .cells 100 [(.fn 77 [.ptr 0 0])] :: .cells 100 [(.fn 77 [.ptr 0 0])] :: bB [] :: l
def X1 (v1 : List Bool) : Option (E_L46_1_6 ⊕ ((List Bool))) :=
  ((runL (fun s => YZ a1 a2 (a1.prods.length : Int) a6 s.1 s.2.1 s.2.2) (false, 0, v1)).bind fun r1 => match r1 with | .k0 x1_0 x1_1 => (bif x1_0 then (some (.inr (x1_1))) else (some (.inl (.k0 x1_1)))))
def Ns (v1 : List Bool) : St := ⟨fr 27 ug [(0, (.ro (eOp a1 a2 a3))), (1, (.fn 72 [.ptr 10 0, .ptr 6 0]))], (Rk a1 a2 a3 a4 [bB v1, bB [], .cells 56 [.sl 8 0 1 0 a6]])⟩
theorem Nt (v1 : List Bool) : okT 11 (Ns a1 a2 a3 a4 a6 v1).h = true := (Zr rfl (ac (ar (ar (ar (ac (ac (ac (ar (ar (ar (ac rfl))))))))))))
abbrev Wk (v1 : List Bool) := evH prg 11 [0, 1] S8 (Ns a1 a2 a3 a4 a6 v1)
def Rl (e : E_L46_1_6) (r : Option (Out × St)) : Prop := match e with | .k0 x0 => ∃ g, r = some ((.brk 0), ⟨fr 27 g [(0, (.ro (eOp a1 a2 a3))), (1, (.fn 72 [.ptr 10 0, .ptr 6 0]))], (Rk a1 a2 a3 a4 [bB x0, bB [], .cells 56 [.sl 8 0 1 0 a6]])⟩)
abbrev QK (g1 : Nat → AV) (x1_0 : Bool) (x1_1 : List Bool) : St := ⟨fr 27 g1 [(0, (.ro (eOp a1 a2 a3))), (1, (.fn 72 [.ptr 10 0, .ptr 6 0])), (4, vb x1_0), (11, ls 7 Zl a1.prods)], (Rk a1 a2 a3 a4 [bB x1_1, bB [], .cells 56 [.sl 8 0 1 0 a6]])⟩
theorem Iy (v1 : List Bool) {r : E_L46_1_6 ⊕ ((List Bool))} (h : X1 a1 a2 a6 v1 = some r) : OkR (fun e => Rl a1 a2 a3 a4 a6 e (Wk a1 a2 a3 a4 a6 v1)) (fun s => Wk a1 a2 a3 a4 a6 v1 = Wk a1 a2 a3 a4 a6 s) r := by
 unfold X1 at h
 have q0 := (Vx a1 a2 a3 (lP a1) a4 a6 false 0 v1)
 have k1 := ka [(12, .v (i6 (lP a1)))] (apc (lg a1.prods Zl 7) apn)
 apply bn h; intro r1 h1 h
 cases r1 with
 | k0 x1_0 x1_1 =>
  obtain ⟨g1, e1⟩ := Nr a1 a2 a3 (lP a1) a4 a6 (false, 0, v1) _ h1
  have q2 := (e1 : Xl a1 a2 a3 (lP a1) a4 a6 false 0 v1 = some ((.brk 2), QK a1 a2 a3 a4 a6 g1 x1_0 x1_1))
  have k3 := k1.a [(2002, .l (.brk 2) (QK a1 a2 a3 a4 a6 g1 x1_0 x1_1))] (apc q0 (apc q2 apn))
  apply bi h <;> intro h2 h
  ·
   rw [← sj h]
   exact rn (kH k3 ++ [(25, .d true), (6000, .d true)]) (k3.b (av h2 (apc (Nt a1 a2 a3 a4 a6 x1_1) apn)))
  ·
   rw [← sj h]
   exact xb (kH k3 ++ [(25, .d false), (6000, .d true)]) (k3.b (av h2 apn))
theorem Ln (s0 : (List Bool)) (e : E_L46_1_6) (h : runL (fun s => X1 a1 a2 a6 s) s0 = some e) : Rl a1 a2 a3 a4 a6 e (Wk a1 a2 a3 a4 a6 s0) := by
  have q := @Zb ((List Bool)) E_L46_1_6 (fun s => X1 a1 a2 a6 s) (fun s => Wk a1 a2 a3 a4 a6 s) (Rl a1 a2 a3 a4 a6) (fun s r h => Iy a1 a2 a3 a4 a6 s h) s0 e h
  exact q
end
inductive E_L46_2_5 where
  | k0 (x0 : List Bool)
section
variable (a1 : GramD) (a2 : List Int) (a3 : List Bool) (a4 : List SetD) (a5 : List Bool) (a6 : Nat)
abbrev Rm (l : List AB) : List AB := .cells 89 [(.ro (eOp a1 a2 a3))] :: bS [] :: bB [] :: bS [] :: .cells 63 [ls 4 eSet a4] :: .cells 100 [(.fn 77 [.ptr 0 0])] :: .cells 100 [(.fn 77 [.ptr 0 0])] :: bB [] :: l
def Ud : Option (E_L46_2_5 ⊕ (Unit)) :=
  ((runL (fun s => X1 a1 a2 a6 s) a5).bind fun r1 => match r1 with | .k0 x1_0 => (some (.inl (.k0 x1_0))))
def Nu : St := ⟨fr 27 ug [(0, (.ro (eOp a1 a2 a3))), (1, (.fn 72 [.ptr 10 0, .ptr 6 0]))], (Rm a1 a2 a3 a4 [bB a5, bB [], .cells 56 [.sl 8 0 1 0 a6]])⟩
theorem Fd : okT 11 (Nu a1 a2 a3 a4 a5 a6).h = true := (Zr rfl (ac (ar (ar (ar (ac (ac (ac (ar (ar (ar (ac rfl))))))))))))
abbrev Wl := evH prg 11 [0, 1] S9 (Nu a1 a2 a3 a4 a5 a6)
def Rn (e : E_L46_2_5) (r : Option (Out × St)) : Prop := match e with | .k0 x0 => ∃ g, r = some ((.brk 2000000), ⟨fr 27 g [], (Rm a1 a2 a3 a4 [bB x0, bB [], .cells 56 [.sl 8 0 1 0 a6]])⟩)
abbrev QL (g1 : Nat → AV) (x1_0 : List Bool) : St := ⟨fr 27 g1 [(0, (.ro (eOp a1 a2 a3))), (1, (.fn 72 [.ptr 10 0, .ptr 6 0]))], (Rm a1 a2 a3 a4 [bB x1_0, bB [], .cells 56 [.sl 8 0 1 0 a6]])⟩
theorem Iz {r : E_L46_2_5 ⊕ (Unit)} (h : Ud a1 a2 a5 a6 = some r) : OkR (fun e => Rn a1 a2 a3 a4 a6 e (Wl a1 a2 a3 a4 a5 a6)) (fun s => Wl a1 a2 a3 a4 a5 a6 = Wl a1 a2 a3 a4 a5 a6) r := by
 unfold Ud at h
 apply bn h; intro r1 h1 h
 cases r1 with
 | k0 x1_0 =>
  obtain ⟨g1, e1⟩ := Ln a1 a2 a3 a4 a6 a5 _ h1
  rw [← sj h]
  exact xb [(2000, .l (.brk 0) (QL a1 a2 a3 a4 a6 g1 x1_0)), (6000, .d true)] (apc (Nt a1 a2 a3 a4 a6 a5) (apc (e1 : Wk a1 a2 a3 a4 a6 a5 = some ((.brk 0), QL a1 a2 a3 a4 a6 g1 x1_0)) apn))
theorem Lo (s0 : Unit) (e : E_L46_2_5) (h : runL (fun s => Ud a1 a2 a5 a6) s0 = some e) : Rn a1 a2 a3 a4 a6 e (Wl a1 a2 a3 a4 a5 a6) := by
  have q := @Zb (Unit) E_L46_2_5 (fun s => Ud a1 a2 a5 a6) (fun s => Wl a1 a2 a3 a4 a5 a6) (Rn a1 a2 a3 a4 a6) (fun s r h => Iz a1 a2 a3 a4 a5 a6 h) s0 e h
  exact q
end
def Zag (a1 : GramD) (a2 : List Int) (a3 : List Bool) (a4 : List SetD) (a5 : List Bool) (a6 : Nat) (x0 : (List Bool)) : AV := (.tup [])
def Zah (a1 : GramD) (a2 : List Int) (a3 : List Bool) (a4 : List SetD) (a5 : List Bool) (a6 : Nat) (x0 : (List Bool)) : List AB := [.cells 89 [(.ro (eOp a1 a2 a3))], bS [], bB [], bS [], .cells 63 [ls 4 eSet a4], .cells 100 [(.fn 77 [.ptr 0 0])], .cells 100 [(.fn 77 [.ptr 0 0])], bB [], bB x0, bB [], .cells 56 [.sl 8 0 1 0 a6]]
def Fe (a1 : GramD) (a2 : List Int) (a5 : List Bool) (a6 : Nat) : Option (List Bool) :=
  ((runL (fun s => Ud a1 a2 a5 a6) ()).bind fun r1 => match r1 with | .k0 x1_0 => (some x1_0))
abbrev K5 (g1 : Nat → AV) (a1 : GramD) (a2 : List Int) (a3 : List Bool) (a4 : List SetD) (x1_0 : List Bool) (a6 : Nat) : St := ⟨fr 27 g1 [], [.cells 89 [(.ro (eOp a1 a2 a3))], bS [], bB [], bS [], .cells 63 [ls 4 eSet a4], .cells 100 [(.fn 77 [.ptr 0 0])], .cells 100 [(.fn 77 [.ptr 0 0])], bB [], bB x1_0, bB [], .cells 56 [.sl 8 0 1 0 a6]]⟩
theorem DK (a1 : GramD) (a2 : List Int) (a3 : List Bool) (a4 : List SetD) (a5 : List Bool) (a6 : Nat) {r : (List Bool)} (h : Fe a1 a2 a5 a6 = some r) : CS prg 46 [(.ro (eOp a1 a2 a3)), (.fn 72 [.ptr 10 0, .ptr 6 0])] [.cells 89 [(.ro (eOp a1 a2 a3))], bS [], bB [], bS [], .cells 63 [ls 4 eSet a4], .cells 100 [(.fn 77 [.ptr 0 0])], .cells 100 [(.fn 77 [.ptr 0 0])], bB [], bB a5, bB [], .cells 56 [.sl 8 0 1 0 a6]] = some (Zag a1 a2 a3 a4 a5 a6 r, Zah a1 a2 a3 a4 a5 a6 r) := by
 unfold Fe at h
 apply bn h; intro r1 h1 h
 cases r1 with
 | k0 x1_0 =>
  obtain ⟨g1, e1⟩ := Lo a1 a2 a3 a4 a5 a6 () _ h1
  rw [← sj h]
  exact fc [(2002000, .l (.brk 2000000) (K5 g1 a1 a2 a3 a4 x1_0 a6)), (6000, .d true)] (apc (Fd a1 a2 a3 a4 a5 a6) (apc (e1 : Wl a1 a2 a3 a4 a5 a6 = some ((.brk 2000000), K5 g1 a1 a2 a3 a4 x1_0 a6)) apn))
inductive R_F53_3 where
  | k0 (x0 : Nat) (x1 : List Bool)
def Zai (a1 : GramD) (a2 : List Int) (a3 : List Bool) (a4 : List SetD) (r : R_F53_3) : AV := match r with | .k0 x0 x1 => (.sl 8 0 1 0 x0)
def Zaj (a1 : GramD) (a2 : List Int) (a3 : List Bool) (a4 : List SetD) (r : R_F53_3) : List AB := match r with | .k0 x0 x1 => [.cells 89 [(.ro (eOp a1 a2 a3))], bS [], bB [], bS [], .cells 63 [ls 4 eSet a4], .cells 100 [(.fn 77 [.ptr 0 0])], .cells 100 [(.fn 77 [.ptr 0 0])], bB [], bB x1, bB [], .cells 56 [(.sl 8 0 1 0 (tS a1))]]
def Ff (a1 : GramD) (a2 : List Int) : Option R_F53_3 :=
  (bif (mkOk (a1.sorts.length : Int) 1) then ((ixN (Int.toNat (a1.sorts.length : Int)) a1.start).bind fun x2 => (((List.replicate (Int.toNat (a1.sorts.length : Int)) false)[x2]?).bind fun x3 => ((Fe a1 a2 ((List.replicate (Int.toNat (a1.sorts.length : Int)) false).set x2 true) (Int.toNat (a1.sorts.length : Int))).bind fun x4 => (some (.k0 (Int.toNat (a1.sorts.length : Int)) x4))))) else none)
abbrev K6 (a1 : GramD) (a2 : List Int) (a3 : List Bool) (a4 : List SetD) : List AB := [.cells 89 [(.ro (eOp a1 a2 a3))], bS [], bB [], bS [], .cells 63 [ls 4 eSet a4], .cells 100 [(.fn 77 [.ptr 0 0])], .cells 100 [(.fn 77 [.ptr 0 0])], bB [], bB (List.replicate (tS a1) false)]
abbrev PI (a1 : GramD) (a2 : List Int) (a3 : List Bool) (a4 : List SetD) (x2 : Nat) : List AB := [.cells 89 [(.ro (eOp a1 a2 a3))], bS [], bB [], bS [], .cells 63 [ls 4 eSet a4], .cells 100 [(.fn 77 [.ptr 0 0])], .cells 100 [(.fn 77 [.ptr 0 0])], bB [], bB ((List.replicate (tS a1) false).set x2 true), bB [], .cells 56 [(.sl 8 0 1 0 (tS a1))]]
abbrev K7 (a1 : GramD) (a2 : List Int) (a3 : List Bool) (a4 : List SetD) (x4 : List Bool) : List AB := [.cells 89 [(.ro (eOp a1 a2 a3))], bS [], bB [], bS [], .cells 63 [ls 4 eSet a4], .cells 100 [(.fn 77 [.ptr 0 0])], .cells 100 [(.fn 77 [.ptr 0 0])], bB [], bB x4, bB [], .cells 56 [(.sl 8 0 1 0 (tS a1))]]
abbrev K8 (a1 : GramD) (a2 : List Int) (a3 : List Bool) (a4 : List SetD) : List AB := [.cells 89 [(.ro (eOp a1 a2 a3))], bS [], bB [], bS [], .cells 63 [ls 4 eSet a4], .cells 100 [(.fn 77 [.ptr 0 0])], .cells 100 [(.fn 77 [.ptr 0 0])], bB []]
theorem DL (a1 : GramD) (a2 : List Int) (a3 : List Bool) (a4 : List SetD) {r : R_F53_3} (h : Ff a1 a2 = some r) : CS prg 53 [(.ro (eOp a1 a2 a3)), (.fn 77 [.ptr 0 0])] [.cells 89 [(.ro (eOp a1 a2 a3))], bS [], bB [], bS [], .cells 63 [ls 4 eSet a4], .cells 100 [(.fn 77 [.ptr 0 0])]] = some (Zai a1 a2 a3 a4 r, Zaj a1 a2 a3 a4 r) := by
 unfold Ff at h
 have k0 := ka [(11, .v (i6 (lS a1)))] (apc (lg a1.sorts eStr 1) apn)
 apply bi h <;> intro h1 h
 ·
  apply bn h; intro x2 h2 h
  apply bn h; intro x3 h3 h
  apply bn h; intro x4 h4 h
  rw [← sj h]
  exact fc (kH k0 ++ [(12, .r (.sl 8 0 1 0 (tS a1)) (K6 a1 a2 a3 a4)), (19, .v (.rp 8 0 1 x2 0)), (1019, .r ud (PI a1 a2 a3 a4 x2)), (22, .r (.tup []) (K7 a1 a2 a3 a4 x4))]) (k0.b (apc ((U5 (h := (K8 a1 a2 a3 a4)) (e := Zk) (z := false) h1 rfl) : (mkA 4 1 1 [.val (.bool false)] (i6 (lS a1)) (i6 (lS a1)) 8).map (fun x => (x.1, (K8 a1 a2 a3 a4) ++ [x.2])) = some ((.sl 8 0 1 0 (tS a1)), K6 a1 a2 a3 a4)) (apc ((ZW h2) : idxA 1 (.sl 8 0 1 0 (tS a1)) (i6 a1.start) = some (.rp 8 0 1 x2 0)) (apc (⟨Zt (v' := true) rfl h3 rfl rfl (Nat.le_of_ble_eq_true rfl) rfl, rfl⟩ : stA [.cells 89 [(.ro (eOp a1 a2 a3))], bS [], bB [], bS [], .cells 63 [ls 4 eSet a4], .cells 100 [(.fn 77 [.ptr 0 0])], .cells 100 [(.fn 77 [.ptr 0 0])], bB [], bB (List.replicate (tS a1) false), bB [], .cells 56 [(.sl 8 0 1 0 (tS a1))]] 1 (.rp 8 0 1 x2 0) (vb true) = some (PI a1 a2 a3 a4 x2) ∧ ud = ud) (apc ((DK a1 a2 a3 a4 ((List.replicate (tS a1) false).set x2 true) (tS a1) h4) : CS prg 46 [(.ro (eOp a1 a2 a3)), (.fn 72 [.ptr 10 0, .ptr 6 0])] (PI a1 a2 a3 a4 x2) = some ((.tup []), K7 a1 a2 a3 a4 x4)) apn)))))
 ·
  cases h
def Zak (a1 : ProdD) (a2 : GramD) (a3 : List Int) (a4 : List Bool) (a5 : List SetD) (a6 : List Bool) (a7 a8 : Nat) (a9 : List SetD) (a10 : List Bool) (x0 : Bool) : AV := (vb x0)
def Zal (a1 : ProdD) (a2 : GramD) (a3 : List Int) (a4 : List Bool) (a5 : List SetD) (a6 : List Bool) (a7 a8 : Nat) (a9 : List SetD) (a10 : List Bool) (x0 : Bool) : List AB := [.cells 89 [(.ro (eOp a2 a3 a4))], bS [], bB [], bS [], .cells 63 [ls 4 eSet a5], .cells 100 [(.fn 77 [.ptr 0 0])], .cells 100 [(.fn 77 [.ptr 0 0])], bB [], bB a6, bB [], .cells 56 [.sl 8 0 1 0 a7], bB [], .cells 56 [.sl 8 0 1 0 a8], bS a9, bB a10, bS [], .cells 63 [.sl 13 0 4 0 a7], bB [], .cells 56 [.sl 14 0 1 0 a7], yY0, bP a1, bP a1, bP a1]
def DM (a1 : ProdD) (a3 : List Int) : Option Bool :=
  ((F48 a3 a1).bind fun x1 => (some (decide (x1 ≥ 0))))
theorem K9 (a1 : ProdD) (a2 : GramD) (a3 : List Int) (a4 : List Bool) (a5 : List SetD) (a6 : List Bool) (a7 a8 : Nat) (a9 : List SetD) (a10 : List Bool) {r : Bool} (h : DM a1 a3 = some r) : CS prg 77 [aP a1, .ptr 0 0] [.cells 89 [(.ro (eOp a2 a3 a4))], bS [], bB [], bS [], .cells 63 [ls 4 eSet a5], .cells 100 [(.fn 77 [.ptr 0 0])], .cells 100 [(.fn 77 [.ptr 0 0])], bB [], bB a6, bB [], .cells 56 [.sl 8 0 1 0 a7], bB [], .cells 56 [.sl 8 0 1 0 a8], bS a9, bB a10, bS [], .cells 63 [.sl 13 0 4 0 a7], bB [], .cells 56 [.sl 14 0 1 0 a7], yY0, bP a1, bP a1] = some (Zak a1 a2 a3 a4 a5 a6 a7 a8 a9 a10 r, Zal a1 a2 a3 a4 a5 a6 a7 a8 a9 a10 r) := by
 unfold DM at h
 apply bn h; intro x1 h1 h
 rw [← sj h]
 exact fc [(6, .v (i6 x1))] (apc (((KQ a2 a3 a4 a1 h1).cp rfl _) : CP prg 48 [(.ro (eOp a2 a3 a4)), aP a1] [.cells 89 [(.ro (eOp a2 a3 a4))], bS [], bB [], bS [], .cells 63 [ls 4 eSet a5], .cells 100 [(.fn 77 [.ptr 0 0])], .cells 100 [(.fn 77 [.ptr 0 0])], bB [], bB a6, bB [], .cells 56 [.sl 8 0 1 0 a7], bB [], .cells 56 [.sl 8 0 1 0 a8], bS a9, bB a10, bS [], .cells 63 [.sl 13 0 4 0 a7], bB [], .cells 56 [.sl 14 0 1 0 a7], yY0, bP a1, bP a1, bP a1] = some (i6 x1)) apn)
end
end Go.Proofs.Tryd
