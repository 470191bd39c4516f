/- Decompiled by a program: functions as plain data see them, part 2. -/
import Derived.Test.YtefidjmkfefilaaDoorH81
namespace Go.Proofs.Tryd
set_option linter.unusedSimpArgs false
set_option linter.unusedVariables false
open Go Go.Vs
noncomputable section
inductive E_L78_0 where
  | k0 (x0 : Bool) (x1 : List SetD) (x2 : List Bool) (x3 x4 x5 x6 : Int)
section
variable (a4 : GramD) (a5 : List Int) (a6 : List Bool) (a7 : List SetD) (a8 : List Bool) (a9 a10 : Nat) (a13 : ProdD)
abbrev Ue (l : List AB) : List AB := .cells 89 [(.ro (eOp a4 a5 a6))] :: bS [] :: bB [] :: bS [] :: .cells 63 [ls 4 eSet a7] :: .cells 100 [(.fn 77 [.ptr 0 0])] :: .cells 100 [(.fn 77 [.ptr 0 0])] :: bB [] :: bB a8 :: bB [] :: .cells 56 [.sl 8 0 1 0 a9] :: bB [] :: .cells 56 [.sl 8 0 1 0 a10] :: l
def TP (v1 v2 : Bool) (v3 : Int) (v4 : List SetD) (v5 : List Bool) (v6 v7 v8 v9 : Int) : Option (E_L78_0 ⊕ (Bool × Bool × Int × (List SetD) × (List Bool) × Int × Int × Int × Int)) :=
  (bif (decide (v3 ≥ 0)) then ((getI a13.right v3).bind fun x2 => (bif (x2.kind == 0) then (some (.inr (v1, false, (IntKind.wrap .i64 (v3 - 1)), v4, v5, x2.a, x2.b, x2.c, x2.d))) else ((ixN a9 x2.sort).bind fun x4 => ((v4[x4]?).bind fun x5 => ((F76 ([(⟨x5.a, x5.b, x5.c, x5.d⟩ : SetD), (⟨v6, v7, v8, v9⟩ : SetD)])).bind fun r6 => match r6 with | .k0 x6_0 x6_1 x6_2 x6_3 => (bif v1 then ((v5[x4]?).bind fun x8 => (bif x8 then ((F55 a6 x2).bind fun x10 => (bif x10 then ((getI a7 x2.sort).bind fun x12 => ((F76 ([(⟨v6, v7, v8, v9⟩ : SetD), (⟨x12.a, x12.b, x12.c, x12.d⟩ : SetD)])).bind fun r13 => match r13 with | .k0 x13_0 x13_1 x13_2 x13_3 => (some (.inr (true, v2, (IntKind.wrap .i64 (v3 - 1)), (v4.set x4 (⟨x6_0, x6_1, x6_2, x6_3⟩ : SetD)), v5.set x4 true, x13_0, x13_1, x13_2, x13_3))))) else ((getI a7 x2.sort).bind fun x12 => (some (.inr (true, false, (IntKind.wrap .i64 (v3 - 1)), (v4.set x4 (⟨x6_0, x6_1, x6_2, x6_3⟩ : SetD)), v5.set x4 true, x12.a, x12.b, x12.c, x12.d)))))) else ((F55 a6 x2).bind fun x10 => (bif x10 then ((getI a7 x2.sort).bind fun x12 => ((F76 ([(⟨v6, v7, v8, v9⟩ : SetD), (⟨x12.a, x12.b, x12.c, x12.d⟩ : SetD)])).bind fun r13 => match r13 with | .k0 x13_0 x13_1 x13_2 x13_3 => (some (.inr (true, v2, (IntKind.wrap .i64 (v3 - 1)), (v4.set x4 (⟨x6_0, x6_1, x6_2, x6_3⟩ : SetD)), v5.set x4 v2, x13_0, x13_1, x13_2, x13_3))))) else ((getI a7 x2.sort).bind fun x12 => (some (.inr (true, false, (IntKind.wrap .i64 (v3 - 1)), (v4.set x4 (⟨x6_0, x6_1, x6_2, x6_3⟩ : SetD)), v5.set x4 v2, x12.a, x12.b, x12.c, x12.d)))))))) else (bif (!((x6_0 == x5.a) && ((x6_1 == x5.b) && ((x6_2 == x5.c) && ((x6_3 == x5.d) && true))))) then ((v5[x4]?).bind fun x9 => (bif x9 then ((F55 a6 x2).bind fun x11 => (bif x11 then ((getI a7 x2.sort).bind fun x13 => ((F76 ([(⟨v6, v7, v8, v9⟩ : SetD), (⟨x13.a, x13.b, x13.c, x13.d⟩ : SetD)])).bind fun r14 => match r14 with | .k0 x14_0 x14_1 x14_2 x14_3 => (some (.inr (true, v2, (IntKind.wrap .i64 (v3 - 1)), (v4.set x4 (⟨x6_0, x6_1, x6_2, x6_3⟩ : SetD)), v5.set x4 true, x14_0, x14_1, x14_2, x14_3))))) else ((getI a7 x2.sort).bind fun x13 => (some (.inr (true, false, (IntKind.wrap .i64 (v3 - 1)), (v4.set x4 (⟨x6_0, x6_1, x6_2, x6_3⟩ : SetD)), v5.set x4 true, x13.a, x13.b, x13.c, x13.d)))))) else ((F55 a6 x2).bind fun x11 => (bif x11 then ((getI a7 x2.sort).bind fun x13 => ((F76 ([(⟨v6, v7, v8, v9⟩ : SetD), (⟨x13.a, x13.b, x13.c, x13.d⟩ : SetD)])).bind fun r14 => match r14 with | .k0 x14_0 x14_1 x14_2 x14_3 => (some (.inr (true, v2, (IntKind.wrap .i64 (v3 - 1)), (v4.set x4 (⟨x6_0, x6_1, x6_2, x6_3⟩ : SetD)), v5.set x4 v2, x14_0, x14_1, x14_2, x14_3))))) else ((getI a7 x2.sort).bind fun x13 => (some (.inr (true, false, (IntKind.wrap .i64 (v3 - 1)), (v4.set x4 (⟨x6_0, x6_1, x6_2, x6_3⟩ : SetD)), v5.set x4 v2, x13.a, x13.b, x13.c, x13.d)))))))) else (bif v2 then ((v5[x4]?).bind fun x10 => (bif x10 then ((F55 a6 x2).bind fun x12 => (bif x12 then ((getI a7 x2.sort).bind fun x14 => ((F76 ([(⟨v6, v7, v8, v9⟩ : SetD), (⟨x14.a, x14.b, x14.c, x14.d⟩ : SetD)])).bind fun r15 => match r15 with | .k0 x15_0 x15_1 x15_2 x15_3 => (some (.inr (false, v2, (IntKind.wrap .i64 (v3 - 1)), (v4.set x4 (⟨x6_0, x6_1, x6_2, x6_3⟩ : SetD)), v5.set x4 true, x15_0, x15_1, x15_2, x15_3))))) else ((getI a7 x2.sort).bind fun x14 => (some (.inr (false, false, (IntKind.wrap .i64 (v3 - 1)), (v4.set x4 (⟨x6_0, x6_1, x6_2, x6_3⟩ : SetD)), v5.set x4 true, x14.a, x14.b, x14.c, x14.d)))))) else ((F55 a6 x2).bind fun x12 => (bif x12 then ((getI a7 x2.sort).bind fun x14 => ((F76 ([(⟨v6, v7, v8, v9⟩ : SetD), (⟨x14.a, x14.b, x14.c, x14.d⟩ : SetD)])).bind fun r15 => match r15 with | .k0 x15_0 x15_1 x15_2 x15_3 => (some (.inr (true, v2, (IntKind.wrap .i64 (v3 - 1)), (v4.set x4 (⟨x6_0, x6_1, x6_2, x6_3⟩ : SetD)), v5.set x4 v2, x15_0, x15_1, x15_2, x15_3))))) else ((getI a7 x2.sort).bind fun x14 => (some (.inr (true, false, (IntKind.wrap .i64 (v3 - 1)), (v4.set x4 (⟨x6_0, x6_1, x6_2, x6_3⟩ : SetD)), v5.set x4 v2, x14.a, x14.b, x14.c, x14.d)))))))) else ((v5[x4]?).bind fun x10 => (bif x10 then ((F55 a6 x2).bind fun x12 => (bif x12 then ((getI a7 x2.sort).bind fun x14 => ((F76 ([(⟨v6, v7, v8, v9⟩ : SetD), (⟨x14.a, x14.b, x14.c, x14.d⟩ : SetD)])).bind fun r15 => match r15 with | .k0 x15_0 x15_1 x15_2 x15_3 => (some (.inr (false, v2, (IntKind.wrap .i64 (v3 - 1)), (v4.set x4 (⟨x6_0, x6_1, x6_2, x6_3⟩ : SetD)), v5.set x4 true, x15_0, x15_1, x15_2, x15_3))))) else ((getI a7 x2.sort).bind fun x14 => (some (.inr (false, false, (IntKind.wrap .i64 (v3 - 1)), (v4.set x4 (⟨x6_0, x6_1, x6_2, x6_3⟩ : SetD)), v5.set x4 true, x14.a, x14.b, x14.c, x14.d)))))) else ((F55 a6 x2).bind fun x12 => (bif x12 then ((getI a7 x2.sort).bind fun x14 => ((F76 ([(⟨v6, v7, v8, v9⟩ : SetD), (⟨x14.a, x14.b, x14.c, x14.d⟩ : SetD)])).bind fun r15 => match r15 with | .k0 x15_0 x15_1 x15_2 x15_3 => (some (.inr (false, v2, (IntKind.wrap .i64 (v3 - 1)), (v4.set x4 (⟨x6_0, x6_1, x6_2, x6_3⟩ : SetD)), v5.set x4 v2, x15_0, x15_1, x15_2, x15_3))))) else ((getI a7 x2.sort).bind fun x14 => (some (.inr (false, false, (IntKind.wrap .i64 (v3 - 1)), (v4.set x4 (⟨x6_0, x6_1, x6_2, x6_3⟩ : SetD)), v5.set x4 v2, x14.a, x14.b, x14.c, x14.d)))))))))))))))) else (some (.inl (.k0 v1 v4 v5 v6 v7 v8 v9))))
def Fg (v1 v2 : Bool) (v3 : Int) (v4 : List SetD) (v5 : List Bool) (v6 v7 v8 v9 : Int) : St := ⟨fr 132 ug [(3, .ptr 0 0), (4, .ptr 16 0), (5, .ptr 18 0), (6, .ptr 4 0), (7, .ptr 21 0), (9, vb v1), (10, .ptr 23 0), (11, vb v2), (12, i6 v3)], (Ue a4 a5 a6 a7 a8 a9 a10 [bS v4, bB v5, bS [], .cells 63 [.sl 13 0 4 0 a9], bB [], .cells 56 [.sl 14 0 1 0 a9], yY0, bP a13, bP a13, bP a13, .cells 46 [vi .u64 v6, vi .u64 v7, vi .u64 v8, vi .u64 v9]])⟩
theorem Z2 (v1 v2 : Bool) (v3 : Int) (v4 : List SetD) (v5 : List Bool) (v6 v7 v8 v9 : Int) : okT 24 (Fg a4 a5 a6 a7 a8 a9 a10 a13 v1 v2 v3 v4 v5 v6 v7 v8 v9).h = true := (Zr rfl (ac (ar (ar (ar (ac (ac (ac (ar (ar (ar (ac (ar (ac (ar (ar (ar (ac (ar (ac (ar (ac (ac (ac (ac rfl)))))))))))))))))))))))))
abbrev Uf (v1 v2 : Bool) (v3 : Int) (v4 : List SetD) (v5 : List Bool) (v6 v7 v8 v9 : Int) := evH prg 24 [3, 4, 5, 6, 7, 9, 10, 11, 12] Gv (Fg a4 a5 a6 a7 a8 a9 a10 a13 v1 v2 v3 v4 v5 v6 v7 v8 v9)
def Lp (e : E_L78_0) (r : Option (Out × St)) : Prop := match e with | .k0 x0 x1 x2 x3 x4 x5 x6 => ∃ g, r = some ((.brk 0), ⟨fr 132 g [(3, .ptr 0 0), (4, .ptr 16 0), (5, .ptr 18 0), (7, .ptr 21 0), (9, vb x0), (10, .ptr 23 0)], (Ue a4 a5 a6 a7 a8 a9 a10 [bS x1, bB x2, bS [], .cells 63 [.sl 13 0 4 0 a9], bB [], .cells 56 [.sl 14 0 1 0 a9], yY0, bP a13, bP a13, bP a13, .cells 46 [vi .u64 x3, vi .u64 x4, vi .u64 x5, vi .u64 x6]])⟩)
abbrev Ja (v4 : List SetD) (v5 : List Bool) (v6 v7 v8 v9 : Int) (x2 : SymD) : List AB := (Ue a4 a5 a6 a7 a8 a9 a10 [bS v4, bB v5, bS [], .cells 63 [.sl 13 0 4 0 a9], bB [], .cells 56 [.sl 14 0 1 0 a9], yY0, bP a13, bP a13, bP a13, .cells 46 [vi .u64 v6, vi .u64 v7, vi .u64 v8, vi .u64 v9], .cells 48 ((eSym x2).map .p), .hole])
abbrev Sd (v4 : List SetD) (v5 : List Bool) (v6 v7 v8 v9 : Int) (x2 : SymD) (x6_0 x6_1 x6_2 x6_3 : Int) : List AB := (Ue a4 a5 a6 a7 a8 a9 a10 [bS v4, bB v5, bS [], .cells 63 [.sl 13 0 4 0 a9], bB [], .cells 56 [.sl 14 0 1 0 a9], yY0, bP a13, bP a13, bP a13, .cells 46 [vi .u64 v6, vi .u64 v7, vi .u64 v8, vi .u64 v9], .cells 48 ((eSym x2).map .p), .cells 46 [vi .u64 x6_0, vi .u64 x6_1, vi .u64 x6_2, vi .u64 x6_3]])
abbrev Zz (v4 : List SetD) (x4 : Nat) (x6_0 x6_1 x6_2 x6_3 : Int) (v5 : List Bool) (v6 v7 v8 v9 : Int) (x2 : SymD) : List AB := (Ue a4 a5 a6 a7 a8 a9 a10 [bS (v4.set x4 (⟨x6_0, x6_1, x6_2, x6_3⟩ : SetD)), bB v5, bS [], .cells 63 [.sl 13 0 4 0 a9], bB [], .cells 56 [.sl 14 0 1 0 a9], yY0, bP a13, bP a13, bP a13, .cells 46 [vi .u64 v6, vi .u64 v7, vi .u64 v8, vi .u64 v9], .cells 48 ((eSym x2).map .p), .cells 46 [vi .u64 x6_0, vi .u64 x6_1, vi .u64 x6_2, vi .u64 x6_3]])
abbrev ZH (v4 : List SetD) (x4 : Nat) (x6_0 x6_1 x6_2 x6_3 : Int) (v5 : List Bool) (v6 v7 v8 v9 : Int) (x2 : SymD) : List AB := (Ue a4 a5 a6 a7 a8 a9 a10 [bS (v4.set x4 (⟨x6_0, x6_1, x6_2, x6_3⟩ : SetD)), bB (v5.set x4 true), bS [], .cells 63 [.sl 13 0 4 0 a9], bB [], .cells 56 [.sl 14 0 1 0 a9], yY0, bP a13, bP a13, bP a13, .cells 46 [vi .u64 v6, vi .u64 v7, vi .u64 v8, vi .u64 v9], .cells 48 ((eSym x2).map .p), .cells 46 [vi .u64 x6_0, vi .u64 x6_1, vi .u64 x6_2, vi .u64 x6_3]])
abbrev ZI (v4 : List SetD) (x4 : Nat) (x6_0 x6_1 x6_2 x6_3 : Int) (v5 : List Bool) (v2 : Bool) (v6 v7 v8 v9 : Int) (x2 : SymD) : List AB := (Ue a4 a5 a6 a7 a8 a9 a10 [bS (v4.set x4 (⟨x6_0, x6_1, x6_2, x6_3⟩ : SetD)), bB (v5.set x4 v2), bS [], .cells 63 [.sl 13 0 4 0 a9], bB [], .cells 56 [.sl 14 0 1 0 a9], yY0, bP a13, bP a13, bP a13, .cells 46 [vi .u64 v6, vi .u64 v7, vi .u64 v8, vi .u64 v9], .cells 48 ((eSym x2).map .p), .cells 46 [vi .u64 x6_0, vi .u64 x6_1, vi .u64 x6_2, vi .u64 x6_3]])
theorem DN (v1 v2 : Bool) (v3 : Int) (v4 : List SetD) (v5 : List Bool) (v6 v7 v8 v9 : Int) {r : E_L78_0 ⊕ (Bool × Bool × Int × (List SetD) × (List Bool) × Int × Int × Int × Int)} (h : TP a6 a7 a9 a13 v1 v2 v3 v4 v5 v6 v7 v8 v9 = some r) : OkR (fun e => Lp a4 a5 a6 a7 a8 a9 a10 a13 e (Uf a4 a5 a6 a7 a8 a9 a10 a13 v1 v2 v3 v4 v5 v6 v7 v8 v9)) (fun s => Uf a4 a5 a6 a7 a8 a9 a10 a13 v1 v2 v3 v4 v5 v6 v7 v8 v9 = Uf a4 a5 a6 a7 a8 a9 a10 a13 s.1 s.2.1 s.2.2.1 s.2.2.2.1 s.2.2.2.2.1 s.2.2.2.2.2.1 s.2.2.2.2.2.2.1 s.2.2.2.2.2.2.2.1 s.2.2.2.2.2.2.2.2) r := by
 unfold TP at h
 apply bi h <;> intro h1 h
 ·
  apply bn h; intro x2 h2 h
  have k0 := ka [(56, .d true), (62, .v (.ro (eSym x2)))] (av h1 (apc (ig eSym 6 .i64 h2) apn))
  apply bi h <;> intro h3 h
  ·
   rw [← sj h]
   exact rn (kH k0 ++ [(66, .d true), (6000, .d true)]) (k0.b (av h3 (apc (Z2 a4 a5 a6 a7 a8 a9 a10 a13 v1 false (w6 (v3 - 1)) v4 v5 x2.a x2.b x2.c x2.d) apn)))
  ·
   apply bn h; intro x4 h4 h
   have q1 := ((ZW h4) : idxA 4 (.sl 13 0 4 0 a9) (i6 x2.sort) = some (.rp 13 0 4 x4 0))
   have q2 := ((ZW h4) : idxA 1 (.sl 14 0 1 0 a9) (i6 x2.sort) = some (.rp 14 0 1 x4 0))
   have k3 := k0.a [(66, .d false), (72, .v (.rp 13 0 4 x4 0))] (av h3 (apc q1 apn))
   apply bn h; intro x5 h5 h
   have q4 := ((Zp rfl h5 rfl) : ldA (Ja a4 a5 a6 a7 a8 a9 a10 a13 v4 v5 v6 v7 v8 v9 x2) .true 4 (.rp 13 0 4 x4 0) = some (.agg ((eSet x5).map .p)))
   apply bn h; intro r6 h6 h
   cases r6 with
   | k0 x6_0 x6_1 x6_2 x6_3 =>
    have q5 := (((W5 ([(⟨x5.a, x5.b, x5.c, x5.d⟩ : SetD), (⟨v6, v7, v8, v9⟩ : SetD)]) h6).cp rfl _) : CP prg 76 [(.p (.lst 4 ([(⟨x5.a, x5.b, x5.c, x5.d⟩ : SetD), (⟨v6, v7, v8, v9⟩ : SetD)].map eSet)))] (Ja a4 a5 a6 a7 a8 a9 a10 a13 v4 v5 v6 v7 v8 v9 x2) = some (.agg [vi .u64 x6_0, vi .u64 x6_1, vi .u64 x6_2, vi .u64 x6_3]))
    have q6 := (⟨Zt (v' := (⟨x6_0, x6_1, x6_2, x6_3⟩ : SetD)) rfl h5 rfl rfl (Nat.le_of_ble_eq_true rfl) rfl, rfl⟩ : stA (Sd a4 a5 a6 a7 a8 a9 a10 a13 v4 v5 v6 v7 v8 v9 x2 x6_0 x6_1 x6_2 x6_3) 4 (.rp 13 0 4 x4 0) (.agg [vi .u64 x6_0, vi .u64 x6_1, vi .u64 x6_2, vi .u64 x6_3]) = some (Zz a4 a5 a6 a7 a8 a9 a10 a13 v4 x4 x6_0 x6_1 x6_2 x6_3 v5 v6 v7 v8 v9 x2) ∧ ud = ud)
    have q7 := ((Zp rfl h5 rfl) : ldA (Sd a4 a5 a6 a7 a8 a9 a10 a13 v4 v5 v6 v7 v8 v9 x2 x6_0 x6_1 x6_2 x6_3) .true 4 (.rp 13 0 4 x4 0) = some (.agg ((eSet x5).map .p)))
    have k8 := k3.a [(73, .v (.agg ((eSet x5).map .p))), (76, .v (.agg [vi .u64 x6_0, vi .u64 x6_1, vi .u64 x6_2, vi .u64 x6_3]))] (apc q4 (apc q5 apn))
    apply bi h <;> intro h7 h
    ·
     have k9 := k8.a [(77, .d true), (102, .v (.rp 13 0 4 x4 0)), (1102, .r ud (Zz a4 a5 a6 a7 a8 a9 a10 a13 v4 x4 x6_0 x6_1 x6_2 x6_3 v5 v6 v7 v8 v9 x2)), (109, .v (.rp 14 0 1 x4 0))] (av h7 (apc q1 (apc q6 (apc q2 apn))))
     apply bn h; intro x8 h8 h
     have q10 := (⟨Zt (v' := true) rfl h8 rfl rfl (Nat.le_of_ble_eq_true rfl) rfl, rfl⟩ : stA (Zz a4 a5 a6 a7 a8 a9 a10 a13 v4 x4 x6_0 x6_1 x6_2 x6_3 v5 v6 v7 v8 v9 x2) 1 (.rp 14 0 1 x4 0) (vb true) = some (ZH a4 a5 a6 a7 a8 a9 a10 a13 v4 x4 x6_0 x6_1 x6_2 x6_3 v5 v6 v7 v8 v9 x2) ∧ ud = ud)
     have q11 := (⟨Zt (v' := v2) rfl h8 rfl rfl (Nat.le_of_ble_eq_true rfl) rfl, rfl⟩ : stA (Zz a4 a5 a6 a7 a8 a9 a10 a13 v4 x4 x6_0 x6_1 x6_2 x6_3 v5 v6 v7 v8 v9 x2) 1 (.rp 14 0 1 x4 0) (vb v2) = some (ZI a4 a5 a6 a7 a8 a9 a10 a13 v4 x4 x6_0 x6_1 x6_2 x6_3 v5 v2 v6 v7 v8 v9 x2) ∧ ud = ud)
     apply bi h <;> intro h9 h
     ·
      have q12 := (((Zp (V := vb x8) rfl h8 rfl).trans (congrArg (fun z => some (vb z)) h9)) : ldA (Zz a4 a5 a6 a7 a8 a9 a10 a13 v4 x4 x6_0 x6_1 x6_2 x6_3 v5 v6 v7 v8 v9 x2) .false 1 (.rp 14 0 1 x4 0) = some (vb true))
      have k13 := k9.a [(110, .v (vb true)), (114, .v (.rp 14 0 1 x4 0)), (1114, .r ud (ZH a4 a5 a6 a7 a8 a9 a10 a13 v4 x4 x6_0 x6_1 x6_2 x6_3 v5 v6 v7 v8 v9 x2))] (apc q12 (apc q2 (apc q10 apn)))
      apply bn h; intro x10 h10 h
      apply bi h <;> intro h11 h
      ·
       apply bn h; intro x12 h12 h
       apply bn h; intro r13 h13 h
       cases r13 with
       | k0 x13_0 x13_1 x13_2 x13_3 =>
        rw [← sj h]
        exact rn (kH k13 ++ [(117, .v (vb true)), (122, .v (.ro (eSet x12))), (125, .v (.agg [vi .u64 x13_0, vi .u64 x13_1, vi .u64 x13_2, vi .u64 x13_3])), (6000, .d true)]) (k13.b (apc ((((YF a4 a5 a6 x2 h10).cp rfl _).trans (congrArg (fun z => some (vb z)) h11)) : CP prg 55 [(.ro (eOp a4 a5 a6)), (.agg ((eSym x2).map .p))] (ZH a4 a5 a6 a7 a8 a9 a10 a13 v4 x4 x6_0 x6_1 x6_2 x6_3 v5 v6 v7 v8 v9 x2) = some (vb true)) (apc (ig eSet 4 .i64 h12) (apc (((W5 ([(⟨v6, v7, v8, v9⟩ : SetD), (⟨x12.a, x12.b, x12.c, x12.d⟩ : SetD)]) h13).cp rfl _) : CP prg 76 [(.p (.lst 4 ([(⟨v6, v7, v8, v9⟩ : SetD), (⟨x12.a, x12.b, x12.c, x12.d⟩ : SetD)].map eSet)))] (ZH a4 a5 a6 a7 a8 a9 a10 a13 v4 x4 x6_0 x6_1 x6_2 x6_3 v5 v6 v7 v8 v9 x2) = some (.agg [vi .u64 x13_0, vi .u64 x13_1, vi .u64 x13_2, vi .u64 x13_3])) (apc (Z2 a4 a5 a6 a7 a8 a9 a10 a13 true v2 (w6 (v3 - 1)) (v4.set x4 (⟨x6_0, x6_1, x6_2, x6_3⟩ : SetD)) (v5.set x4 true) x13_0 x13_1 x13_2 x13_3) apn)))))
      ·
       apply bn h; intro x12 h12 h
       rw [← sj h]
       exact rn (kH k13 ++ [(117, .v (vb false)), (129, .v (.ro (eSet x12))), (6000, .d true)]) (k13.b (apc ((((YF a4 a5 a6 x2 h10).cp rfl _).trans (congrArg (fun z => some (vb z)) h11)) : CP prg 55 [(.ro (eOp a4 a5 a6)), (.agg ((eSym x2).map .p))] (ZH a4 a5 a6 a7 a8 a9 a10 a13 v4 x4 x6_0 x6_1 x6_2 x6_3 v5 v6 v7 v8 v9 x2) = some (vb false)) (apc (ig eSet 4 .i64 h12) (apc (Z2 a4 a5 a6 a7 a8 a9 a10 a13 true false (w6 (v3 - 1)) (v4.set x4 (⟨x6_0, x6_1, x6_2, x6_3⟩ : SetD)) (v5.set x4 true) x12.a x12.b x12.c x12.d) apn))))
     ·
      have q14 := (((Zp (V := vb x8) rfl h8 rfl).trans (congrArg (fun z => some (vb z)) h9)) : ldA (Zz a4 a5 a6 a7 a8 a9 a10 a13 v4 x4 x6_0 x6_1 x6_2 x6_3 v5 v6 v7 v8 v9 x2) .false 1 (.rp 14 0 1 x4 0) = some (vb false))
      have k15 := k9.a [(110, .v (vb false)), (114, .v (.rp 14 0 1 x4 0)), (1114, .r ud (ZI a4 a5 a6 a7 a8 a9 a10 a13 v4 x4 x6_0 x6_1 x6_2 x6_3 v5 v2 v6 v7 v8 v9 x2))] (apc q14 (apc q2 (apc q11 apn)))
      apply bn h; intro x10 h10 h
      apply bi h <;> intro h11 h
      ·
       apply bn h; intro x12 h12 h
       apply bn h; intro r13 h13 h
       cases r13 with
       | k0 x13_0 x13_1 x13_2 x13_3 =>
        rw [← sj h]
        exact rn (kH k15 ++ [(117, .v (vb true)), (122, .v (.ro (eSet x12))), (125, .v (.agg [vi .u64 x13_0, vi .u64 x13_1, vi .u64 x13_2, vi .u64 x13_3])), (6000, .d true)]) (k15.b (apc ((((YF a4 a5 a6 x2 h10).cp rfl _).trans (congrArg (fun z => some (vb z)) h11)) : CP prg 55 [(.ro (eOp a4 a5 a6)), (.agg ((eSym x2).map .p))] (ZI a4 a5 a6 a7 a8 a9 a10 a13 v4 x4 x6_0 x6_1 x6_2 x6_3 v5 v2 v6 v7 v8 v9 x2) = some (vb true)) (apc (ig eSet 4 .i64 h12) (apc (((W5 ([(⟨v6, v7, v8, v9⟩ : SetD), (⟨x12.a, x12.b, x12.c, x12.d⟩ : SetD)]) h13).cp rfl _) : CP prg 76 [(.p (.lst 4 ([(⟨v6, v7, v8, v9⟩ : SetD), (⟨x12.a, x12.b, x12.c, x12.d⟩ : SetD)].map eSet)))] (ZI a4 a5 a6 a7 a8 a9 a10 a13 v4 x4 x6_0 x6_1 x6_2 x6_3 v5 v2 v6 v7 v8 v9 x2) = some (.agg [vi .u64 x13_0, vi .u64 x13_1, vi .u64 x13_2, vi .u64 x13_3])) (apc (Z2 a4 a5 a6 a7 a8 a9 a10 a13 true v2 (w6 (v3 - 1)) (v4.set x4 (⟨x6_0, x6_1, x6_2, x6_3⟩ : SetD)) (v5.set x4 v2) x13_0 x13_1 x13_2 x13_3) apn)))))
      ·
       apply bn h; intro x12 h12 h
       rw [← sj h]
       exact rn (kH k15 ++ [(117, .v (vb false)), (129, .v (.ro (eSet x12))), (6000, .d true)]) (k15.b (apc ((((YF a4 a5 a6 x2 h10).cp rfl _).trans (congrArg (fun z => some (vb z)) h11)) : CP prg 55 [(.ro (eOp a4 a5 a6)), (.agg ((eSym x2).map .p))] (ZI a4 a5 a6 a7 a8 a9 a10 a13 v4 x4 x6_0 x6_1 x6_2 x6_3 v5 v2 v6 v7 v8 v9 x2) = some (vb false)) (apc (ig eSet 4 .i64 h12) (apc (Z2 a4 a5 a6 a7 a8 a9 a10 a13 true false (w6 (v3 - 1)) (v4.set x4 (⟨x6_0, x6_1, x6_2, x6_3⟩ : SetD)) (v5.set x4 v2) x12.a x12.b x12.c x12.d) apn))))
    ·
     have k16 := k8.a [(77, .d false), (83, .v (.rp 13 0 4 x4 0)), (84, .v (.agg ((eSet x5).map .p)))] (av h7 (apc q1 (apc q7 apn)))
     apply bi h <;> intro h8 h
     ·
      have k17 := k16.a [(85, .d true), (102, .v (.rp 13 0 4 x4 0)), (1102, .r ud (Zz a4 a5 a6 a7 a8 a9 a10 a13 v4 x4 x6_0 x6_1 x6_2 x6_3 v5 v6 v7 v8 v9 x2)), (109, .v (.rp 14 0 1 x4 0))] (av h8 (apc q1 (apc q6 (apc q2 apn))))
      apply bn h; intro x9 h9 h
      have q18 := (⟨Zt (v' := true) rfl h9 rfl rfl (Nat.le_of_ble_eq_true rfl) rfl, rfl⟩ : stA (Zz a4 a5 a6 a7 a8 a9 a10 a13 v4 x4 x6_0 x6_1 x6_2 x6_3 v5 v6 v7 v8 v9 x2) 1 (.rp 14 0 1 x4 0) (vb true) = some (ZH a4 a5 a6 a7 a8 a9 a10 a13 v4 x4 x6_0 x6_1 x6_2 x6_3 v5 v6 v7 v8 v9 x2) ∧ ud = ud)
      have q19 := (⟨Zt (v' := v2) rfl h9 rfl rfl (Nat.le_of_ble_eq_true rfl) rfl, rfl⟩ : stA (Zz a4 a5 a6 a7 a8 a9 a10 a13 v4 x4 x6_0 x6_1 x6_2 x6_3 v5 v6 v7 v8 v9 x2) 1 (.rp 14 0 1 x4 0) (vb v2) = some (ZI a4 a5 a6 a7 a8 a9 a10 a13 v4 x4 x6_0 x6_1 x6_2 x6_3 v5 v2 v6 v7 v8 v9 x2) ∧ ud = ud)
      apply bi h <;> intro h10 h
      ·
       have q20 := (((Zp (V := vb x9) rfl h9 rfl).trans (congrArg (fun z => some (vb z)) h10)) : ldA (Zz a4 a5 a6 a7 a8 a9 a10 a13 v4 x4 x6_0 x6_1 x6_2 x6_3 v5 v6 v7 v8 v9 x2) .false 1 (.rp 14 0 1 x4 0) = some (vb true))
       have k21 := k17.a [(110, .v (vb true)), (114, .v (.rp 14 0 1 x4 0)), (1114, .r ud (ZH a4 a5 a6 a7 a8 a9 a10 a13 v4 x4 x6_0 x6_1 x6_2 x6_3 v5 v6 v7 v8 v9 x2))] (apc q20 (apc q2 (apc q18 apn)))
       apply bn h; intro x11 h11 h
       apply bi h <;> intro h12 h
       ·
        apply bn h; intro x13 h13 h
        apply bn h; intro r14 h14 h
        cases r14 with
        | k0 x14_0 x14_1 x14_2 x14_3 =>
         rw [← sj h]
         exact rn (kH k21 ++ [(117, .v (vb true)), (122, .v (.ro (eSet x13))), (125, .v (.agg [vi .u64 x14_0, vi .u64 x14_1, vi .u64 x14_2, vi .u64 x14_3])), (6000, .d true)]) (k21.b (apc ((((YF a4 a5 a6 x2 h11).cp rfl _).trans (congrArg (fun z => some (vb z)) h12)) : CP prg 55 [(.ro (eOp a4 a5 a6)), (.agg ((eSym x2).map .p))] (ZH a4 a5 a6 a7 a8 a9 a10 a13 v4 x4 x6_0 x6_1 x6_2 x6_3 v5 v6 v7 v8 v9 x2) = some (vb true)) (apc (ig eSet 4 .i64 h13) (apc (((W5 ([(⟨v6, v7, v8, v9⟩ : SetD), (⟨x13.a, x13.b, x13.c, x13.d⟩ : SetD)]) h14).cp rfl _) : CP prg 76 [(.p (.lst 4 ([(⟨v6, v7, v8, v9⟩ : SetD), (⟨x13.a, x13.b, x13.c, x13.d⟩ : SetD)].map eSet)))] (ZH a4 a5 a6 a7 a8 a9 a10 a13 v4 x4 x6_0 x6_1 x6_2 x6_3 v5 v6 v7 v8 v9 x2) = some (.agg [vi .u64 x14_0, vi .u64 x14_1, vi .u64 x14_2, vi .u64 x14_3])) (apc (Z2 a4 a5 a6 a7 a8 a9 a10 a13 true v2 (w6 (v3 - 1)) (v4.set x4 (⟨x6_0, x6_1, x6_2, x6_3⟩ : SetD)) (v5.set x4 true) x14_0 x14_1 x14_2 x14_3) apn)))))
       ·
        apply bn h; intro x13 h13 h
        rw [← sj h]
        exact rn (kH k21 ++ [(117, .v (vb false)), (129, .v (.ro (eSet x13))), (6000, .d true)]) (k21.b (apc ((((YF a4 a5 a6 x2 h11).cp rfl _).trans (congrArg (fun z => some (vb z)) h12)) : CP prg 55 [(.ro (eOp a4 a5 a6)), (.agg ((eSym x2).map .p))] (ZH a4 a5 a6 a7 a8 a9 a10 a13 v4 x4 x6_0 x6_1 x6_2 x6_3 v5 v6 v7 v8 v9 x2) = some (vb false)) (apc (ig eSet 4 .i64 h13) (apc (Z2 a4 a5 a6 a7 a8 a9 a10 a13 true false (w6 (v3 - 1)) (v4.set x4 (⟨x6_0, x6_1, x6_2, x6_3⟩ : SetD)) (v5.set x4 true) x13.a x13.b x13.c x13.d) apn))))
      ·
       have q22 := (((Zp (V := vb x9) rfl h9 rfl).trans (congrArg (fun z => some (vb z)) h10)) : ldA (Zz a4 a5 a6 a7 a8 a9 a10 a13 v4 x4 x6_0 x6_1 x6_2 x6_3 v5 v6 v7 v8 v9 x2) .false 1 (.rp 14 0 1 x4 0) = some (vb false))
       have k23 := k17.a [(110, .v (vb false)), (114, .v (.rp 14 0 1 x4 0)), (1114, .r ud (ZI a4 a5 a6 a7 a8 a9 a10 a13 v4 x4 x6_0 x6_1 x6_2 x6_3 v5 v2 v6 v7 v8 v9 x2))] (apc q22 (apc q2 (apc q19 apn)))
       apply bn h; intro x11 h11 h
       apply bi h <;> intro h12 h
       ·
        apply bn h; intro x13 h13 h
        apply bn h; intro r14 h14 h
        cases r14 with
        | k0 x14_0 x14_1 x14_2 x14_3 =>
         rw [← sj h]
         exact rn (kH k23 ++ [(117, .v (vb true)), (122, .v (.ro (eSet x13))), (125, .v (.agg [vi .u64 x14_0, vi .u64 x14_1, vi .u64 x14_2, vi .u64 x14_3])), (6000, .d true)]) (k23.b (apc ((((YF a4 a5 a6 x2 h11).cp rfl _).trans (congrArg (fun z => some (vb z)) h12)) : CP prg 55 [(.ro (eOp a4 a5 a6)), (.agg ((eSym x2).map .p))] (ZI a4 a5 a6 a7 a8 a9 a10 a13 v4 x4 x6_0 x6_1 x6_2 x6_3 v5 v2 v6 v7 v8 v9 x2) = some (vb true)) (apc (ig eSet 4 .i64 h13) (apc (((W5 ([(⟨v6, v7, v8, v9⟩ : SetD), (⟨x13.a, x13.b, x13.c, x13.d⟩ : SetD)]) h14).cp rfl _) : CP prg 76 [(.p (.lst 4 ([(⟨v6, v7, v8, v9⟩ : SetD), (⟨x13.a, x13.b, x13.c, x13.d⟩ : SetD)].map eSet)))] (ZI a4 a5 a6 a7 a8 a9 a10 a13 v4 x4 x6_0 x6_1 x6_2 x6_3 v5 v2 v6 v7 v8 v9 x2) = some (.agg [vi .u64 x14_0, vi .u64 x14_1, vi .u64 x14_2, vi .u64 x14_3])) (apc (Z2 a4 a5 a6 a7 a8 a9 a10 a13 true v2 (w6 (v3 - 1)) (v4.set x4 (⟨x6_0, x6_1, x6_2, x6_3⟩ : SetD)) (v5.set x4 v2) x14_0 x14_1 x14_2 x14_3) apn)))))
       ·
        apply bn h; intro x13 h13 h
        rw [← sj h]
        exact rn (kH k23 ++ [(117, .v (vb false)), (129, .v (.ro (eSet x13))), (6000, .d true)]) (k23.b (apc ((((YF a4 a5 a6 x2 h11).cp rfl _).trans (congrArg (fun z => some (vb z)) h12)) : CP prg 55 [(.ro (eOp a4 a5 a6)), (.agg ((eSym x2).map .p))] (ZI a4 a5 a6 a7 a8 a9 a10 a13 v4 x4 x6_0 x6_1 x6_2 x6_3 v5 v2 v6 v7 v8 v9 x2) = some (vb false)) (apc (ig eSet 4 .i64 h13) (apc (Z2 a4 a5 a6 a7 a8 a9 a10 a13 true false (w6 (v3 - 1)) (v4.set x4 (⟨x6_0, x6_1, x6_2, x6_3⟩ : SetD)) (v5.set x4 v2) x13.a x13.b x13.c x13.d) apn))))
     ·
      apply bi h <;> intro h9 h
      ·
       have k24 := k16.a [(85, .d false), (88, .d true), (93, .v (.rp 14 0 1 x4 0))] (av h8 (av h9 (apc q2 apn)))
       apply bn h; intro x10 h10 h
       have q25 := (⟨Zt (v' := true) rfl h10 rfl rfl (Nat.le_of_ble_eq_true rfl) rfl, rfl⟩ : stA (Zz a4 a5 a6 a7 a8 a9 a10 a13 v4 x4 x6_0 x6_1 x6_2 x6_3 v5 v6 v7 v8 v9 x2) 1 (.rp 14 0 1 x4 0) (vb true) = some (ZH a4 a5 a6 a7 a8 a9 a10 a13 v4 x4 x6_0 x6_1 x6_2 x6_3 v5 v6 v7 v8 v9 x2) ∧ ud = ud)
       have q26 := (⟨Zt (v' := v2) rfl h10 rfl rfl (Nat.le_of_ble_eq_true rfl) rfl, rfl⟩ : stA (Zz a4 a5 a6 a7 a8 a9 a10 a13 v4 x4 x6_0 x6_1 x6_2 x6_3 v5 v6 v7 v8 v9 x2) 1 (.rp 14 0 1 x4 0) (vb v2) = some (ZI a4 a5 a6 a7 a8 a9 a10 a13 v4 x4 x6_0 x6_1 x6_2 x6_3 v5 v2 v6 v7 v8 v9 x2) ∧ ud = ud)
       apply bi h <;> intro h11 h
       ·
        have q27 := (((Zp (V := vb x10) rfl h10 rfl).trans (congrArg (fun z => some (vb z)) h11)) : ldA (Sd a4 a5 a6 a7 a8 a9 a10 a13 v4 v5 v6 v7 v8 v9 x2 x6_0 x6_1 x6_2 x6_3) .false 1 (.rp 14 0 1 x4 0) = some (vb true))
        have q28 := (((Zp (V := vb x10) rfl h10 rfl).trans (congrArg (fun z => some (vb z)) h11)) : ldA (Zz a4 a5 a6 a7 a8 a9 a10 a13 v4 x4 x6_0 x6_1 x6_2 x6_3 v5 v6 v7 v8 v9 x2) .false 1 (.rp 14 0 1 x4 0) = some (vb true))
        have k29 := k24.a [(94, .v (vb true)), (102, .v (.rp 13 0 4 x4 0)), (1102, .r ud (Zz a4 a5 a6 a7 a8 a9 a10 a13 v4 x4 x6_0 x6_1 x6_2 x6_3 v5 v6 v7 v8 v9 x2)), (109, .v (.rp 14 0 1 x4 0)), (110, .v (vb true)), (114, .v (.rp 14 0 1 x4 0)), (1114, .r ud (ZH a4 a5 a6 a7 a8 a9 a10 a13 v4 x4 x6_0 x6_1 x6_2 x6_3 v5 v6 v7 v8 v9 x2))] (apc q27 (apc q1 (apc q6 (apc q2 (apc q28 (apc q2 (apc q25 apn)))))))
        apply bn h; intro x12 h12 h
        apply bi h <;> intro h13 h
        ·
         apply bn h; intro x14 h14 h
         apply bn h; intro r15 h15 h
         cases r15 with
         | k0 x15_0 x15_1 x15_2 x15_3 =>
          rw [← sj h]
          exact rn (kH k29 ++ [(117, .v (vb true)), (122, .v (.ro (eSet x14))), (125, .v (.agg [vi .u64 x15_0, vi .u64 x15_1, vi .u64 x15_2, vi .u64 x15_3])), (6000, .d true)]) (k29.b (apc ((((YF a4 a5 a6 x2 h12).cp rfl _).trans (congrArg (fun z => some (vb z)) h13)) : CP prg 55 [(.ro (eOp a4 a5 a6)), (.agg ((eSym x2).map .p))] (ZH a4 a5 a6 a7 a8 a9 a10 a13 v4 x4 x6_0 x6_1 x6_2 x6_3 v5 v6 v7 v8 v9 x2) = some (vb true)) (apc (ig eSet 4 .i64 h14) (apc (((W5 ([(⟨v6, v7, v8, v9⟩ : SetD), (⟨x14.a, x14.b, x14.c, x14.d⟩ : SetD)]) h15).cp rfl _) : CP prg 76 [(.p (.lst 4 ([(⟨v6, v7, v8, v9⟩ : SetD), (⟨x14.a, x14.b, x14.c, x14.d⟩ : SetD)].map eSet)))] (ZH a4 a5 a6 a7 a8 a9 a10 a13 v4 x4 x6_0 x6_1 x6_2 x6_3 v5 v6 v7 v8 v9 x2) = some (.agg [vi .u64 x15_0, vi .u64 x15_1, vi .u64 x15_2, vi .u64 x15_3])) (apc (Z2 a4 a5 a6 a7 a8 a9 a10 a13 false v2 (w6 (v3 - 1)) (v4.set x4 (⟨x6_0, x6_1, x6_2, x6_3⟩ : SetD)) (v5.set x4 true) x15_0 x15_1 x15_2 x15_3) apn)))))
        ·
         apply bn h; intro x14 h14 h
         rw [← sj h]
         exact rn (kH k29 ++ [(117, .v (vb false)), (129, .v (.ro (eSet x14))), (6000, .d true)]) (k29.b (apc ((((YF a4 a5 a6 x2 h12).cp rfl _).trans (congrArg (fun z => some (vb z)) h13)) : CP prg 55 [(.ro (eOp a4 a5 a6)), (.agg ((eSym x2).map .p))] (ZH a4 a5 a6 a7 a8 a9 a10 a13 v4 x4 x6_0 x6_1 x6_2 x6_3 v5 v6 v7 v8 v9 x2) = some (vb false)) (apc (ig eSet 4 .i64 h14) (apc (Z2 a4 a5 a6 a7 a8 a9 a10 a13 false false (w6 (v3 - 1)) (v4.set x4 (⟨x6_0, x6_1, x6_2, x6_3⟩ : SetD)) (v5.set x4 true) x14.a x14.b x14.c x14.d) apn))))
       ·
        have q30 := (((Zp (V := vb x10) rfl h10 rfl).trans (congrArg (fun z => some (vb z)) h11)) : ldA (Sd a4 a5 a6 a7 a8 a9 a10 a13 v4 v5 v6 v7 v8 v9 x2 x6_0 x6_1 x6_2 x6_3) .false 1 (.rp 14 0 1 x4 0) = some (vb false))
        have q31 := (((Zp (V := vb x10) rfl h10 rfl).trans (congrArg (fun z => some (vb z)) h11)) : ldA (Zz a4 a5 a6 a7 a8 a9 a10 a13 v4 x4 x6_0 x6_1 x6_2 x6_3 v5 v6 v7 v8 v9 x2) .false 1 (.rp 14 0 1 x4 0) = some (vb false))
        have k32 := k24.a [(94, .v (vb false)), (102, .v (.rp 13 0 4 x4 0)), (1102, .r ud (Zz a4 a5 a6 a7 a8 a9 a10 a13 v4 x4 x6_0 x6_1 x6_2 x6_3 v5 v6 v7 v8 v9 x2)), (109, .v (.rp 14 0 1 x4 0)), (110, .v (vb false)), (114, .v (.rp 14 0 1 x4 0)), (1114, .r ud (ZI a4 a5 a6 a7 a8 a9 a10 a13 v4 x4 x6_0 x6_1 x6_2 x6_3 v5 v2 v6 v7 v8 v9 x2))] (apc q30 (apc q1 (apc q6 (apc q2 (apc q31 (apc q2 (apc q26 apn)))))))
        apply bn h; intro x12 h12 h
        apply bi h <;> intro h13 h
        ·
         apply bn h; intro x14 h14 h
         apply bn h; intro r15 h15 h
         cases r15 with
         | k0 x15_0 x15_1 x15_2 x15_3 =>
          rw [← sj h]
          exact rn (kH k32 ++ [(117, .v (vb true)), (122, .v (.ro (eSet x14))), (125, .v (.agg [vi .u64 x15_0, vi .u64 x15_1, vi .u64 x15_2, vi .u64 x15_3])), (6000, .d true)]) (k32.b (apc ((((YF a4 a5 a6 x2 h12).cp rfl _).trans (congrArg (fun z => some (vb z)) h13)) : CP prg 55 [(.ro (eOp a4 a5 a6)), (.agg ((eSym x2).map .p))] (ZI a4 a5 a6 a7 a8 a9 a10 a13 v4 x4 x6_0 x6_1 x6_2 x6_3 v5 v2 v6 v7 v8 v9 x2) = some (vb true)) (apc (ig eSet 4 .i64 h14) (apc (((W5 ([(⟨v6, v7, v8, v9⟩ : SetD), (⟨x14.a, x14.b, x14.c, x14.d⟩ : SetD)]) h15).cp rfl _) : CP prg 76 [(.p (.lst 4 ([(⟨v6, v7, v8, v9⟩ : SetD), (⟨x14.a, x14.b, x14.c, x14.d⟩ : SetD)].map eSet)))] (ZI a4 a5 a6 a7 a8 a9 a10 a13 v4 x4 x6_0 x6_1 x6_2 x6_3 v5 v2 v6 v7 v8 v9 x2) = some (.agg [vi .u64 x15_0, vi .u64 x15_1, vi .u64 x15_2, vi .u64 x15_3])) (apc (Z2 a4 a5 a6 a7 a8 a9 a10 a13 true v2 (w6 (v3 - 1)) (v4.set x4 (⟨x6_0, x6_1, x6_2, x6_3⟩ : SetD)) (v5.set x4 v2) x15_0 x15_1 x15_2 x15_3) apn)))))
        ·
         apply bn h; intro x14 h14 h
         rw [← sj h]
         exact rn (kH k32 ++ [(117, .v (vb false)), (129, .v (.ro (eSet x14))), (6000, .d true)]) (k32.b (apc ((((YF a4 a5 a6 x2 h12).cp rfl _).trans (congrArg (fun z => some (vb z)) h13)) : CP prg 55 [(.ro (eOp a4 a5 a6)), (.agg ((eSym x2).map .p))] (ZI a4 a5 a6 a7 a8 a9 a10 a13 v4 x4 x6_0 x6_1 x6_2 x6_3 v5 v2 v6 v7 v8 v9 x2) = some (vb false)) (apc (ig eSet 4 .i64 h14) (apc (Z2 a4 a5 a6 a7 a8 a9 a10 a13 true false (w6 (v3 - 1)) (v4.set x4 (⟨x6_0, x6_1, x6_2, x6_3⟩ : SetD)) (v5.set x4 v2) x14.a x14.b x14.c x14.d) apn))))
      ·
       have k33 := k16.a [(85, .d false), (88, .d false), (102, .v (.rp 13 0 4 x4 0)), (1102, .r ud (Zz a4 a5 a6 a7 a8 a9 a10 a13 v4 x4 x6_0 x6_1 x6_2 x6_3 v5 v6 v7 v8 v9 x2)), (109, .v (.rp 14 0 1 x4 0))] (av h8 (av h9 (apc q1 (apc q6 (apc q2 apn)))))
       apply bn h; intro x10 h10 h
       have q34 := (⟨Zt (v' := true) rfl h10 rfl rfl (Nat.le_of_ble_eq_true rfl) rfl, rfl⟩ : stA (Zz a4 a5 a6 a7 a8 a9 a10 a13 v4 x4 x6_0 x6_1 x6_2 x6_3 v5 v6 v7 v8 v9 x2) 1 (.rp 14 0 1 x4 0) (vb true) = some (ZH a4 a5 a6 a7 a8 a9 a10 a13 v4 x4 x6_0 x6_1 x6_2 x6_3 v5 v6 v7 v8 v9 x2) ∧ ud = ud)
       have q35 := (⟨Zt (v' := v2) rfl h10 rfl rfl (Nat.le_of_ble_eq_true rfl) rfl, rfl⟩ : stA (Zz a4 a5 a6 a7 a8 a9 a10 a13 v4 x4 x6_0 x6_1 x6_2 x6_3 v5 v6 v7 v8 v9 x2) 1 (.rp 14 0 1 x4 0) (vb v2) = some (ZI a4 a5 a6 a7 a8 a9 a10 a13 v4 x4 x6_0 x6_1 x6_2 x6_3 v5 v2 v6 v7 v8 v9 x2) ∧ ud = ud)
       apply bi h <;> intro h11 h
       ·
        have q36 := (((Zp (V := vb x10) rfl h10 rfl).trans (congrArg (fun z => some (vb z)) h11)) : ldA (Zz a4 a5 a6 a7 a8 a9 a10 a13 v4 x4 x6_0 x6_1 x6_2 x6_3 v5 v6 v7 v8 v9 x2) .false 1 (.rp 14 0 1 x4 0) = some (vb true))
        have k37 := k33.a [(110, .v (vb true)), (114, .v (.rp 14 0 1 x4 0)), (1114, .r ud (ZH a4 a5 a6 a7 a8 a9 a10 a13 v4 x4 x6_0 x6_1 x6_2 x6_3 v5 v6 v7 v8 v9 x2))] (apc q36 (apc q2 (apc q34 apn)))
        apply bn h; intro x12 h12 h
        apply bi h <;> intro h13 h
        ·
         apply bn h; intro x14 h14 h
         apply bn h; intro r15 h15 h
         cases r15 with
         | k0 x15_0 x15_1 x15_2 x15_3 =>
          rw [← sj h]
          exact rn (kH k37 ++ [(117, .v (vb true)), (122, .v (.ro (eSet x14))), (125, .v (.agg [vi .u64 x15_0, vi .u64 x15_1, vi .u64 x15_2, vi .u64 x15_3])), (6000, .d true)]) (k37.b (apc ((((YF a4 a5 a6 x2 h12).cp rfl _).trans (congrArg (fun z => some (vb z)) h13)) : CP prg 55 [(.ro (eOp a4 a5 a6)), (.agg ((eSym x2).map .p))] (ZH a4 a5 a6 a7 a8 a9 a10 a13 v4 x4 x6_0 x6_1 x6_2 x6_3 v5 v6 v7 v8 v9 x2) = some (vb true)) (apc (ig eSet 4 .i64 h14) (apc (((W5 ([(⟨v6, v7, v8, v9⟩ : SetD), (⟨x14.a, x14.b, x14.c, x14.d⟩ : SetD)]) h15).cp rfl _) : CP prg 76 [(.p (.lst 4 ([(⟨v6, v7, v8, v9⟩ : SetD), (⟨x14.a, x14.b, x14.c, x14.d⟩ : SetD)].map eSet)))] (ZH a4 a5 a6 a7 a8 a9 a10 a13 v4 x4 x6_0 x6_1 x6_2 x6_3 v5 v6 v7 v8 v9 x2) = some (.agg [vi .u64 x15_0, vi .u64 x15_1, vi .u64 x15_2, vi .u64 x15_3])) (apc (Z2 a4 a5 a6 a7 a8 a9 a10 a13 false v2 (w6 (v3 - 1)) (v4.set x4 (⟨x6_0, x6_1, x6_2, x6_3⟩ : SetD)) (v5.set x4 true) x15_0 x15_1 x15_2 x15_3) apn)))))
        ·
         apply bn h; intro x14 h14 h
         rw [← sj h]
         exact rn (kH k37 ++ [(117, .v (vb false)), (129, .v (.ro (eSet x14))), (6000, .d true)]) (k37.b (apc ((((YF a4 a5 a6 x2 h12).cp rfl _).trans (congrArg (fun z => some (vb z)) h13)) : CP prg 55 [(.ro (eOp a4 a5 a6)), (.agg ((eSym x2).map .p))] (ZH a4 a5 a6 a7 a8 a9 a10 a13 v4 x4 x6_0 x6_1 x6_2 x6_3 v5 v6 v7 v8 v9 x2) = some (vb false)) (apc (ig eSet 4 .i64 h14) (apc (Z2 a4 a5 a6 a7 a8 a9 a10 a13 false false (w6 (v3 - 1)) (v4.set x4 (⟨x6_0, x6_1, x6_2, x6_3⟩ : SetD)) (v5.set x4 true) x14.a x14.b x14.c x14.d) apn))))
       ·
        have q38 := (((Zp (V := vb x10) rfl h10 rfl).trans (congrArg (fun z => some (vb z)) h11)) : ldA (Zz a4 a5 a6 a7 a8 a9 a10 a13 v4 x4 x6_0 x6_1 x6_2 x6_3 v5 v6 v7 v8 v9 x2) .false 1 (.rp 14 0 1 x4 0) = some (vb false))
        have k39 := k33.a [(110, .v (vb false)), (114, .v (.rp 14 0 1 x4 0)), (1114, .r ud (ZI a4 a5 a6 a7 a8 a9 a10 a13 v4 x4 x6_0 x6_1 x6_2 x6_3 v5 v2 v6 v7 v8 v9 x2))] (apc q38 (apc q2 (apc q35 apn)))
        apply bn h; intro x12 h12 h
        apply bi h <;> intro h13 h
        ·
         apply bn h; intro x14 h14 h
         apply bn h; intro r15 h15 h
         cases r15 with
         | k0 x15_0 x15_1 x15_2 x15_3 =>
          rw [← sj h]
          exact rn (kH k39 ++ [(117, .v (vb true)), (122, .v (.ro (eSet x14))), (125, .v (.agg [vi .u64 x15_0, vi .u64 x15_1, vi .u64 x15_2, vi .u64 x15_3])), (6000, .d true)]) (k39.b (apc ((((YF a4 a5 a6 x2 h12).cp rfl _).trans (congrArg (fun z => some (vb z)) h13)) : CP prg 55 [(.ro (eOp a4 a5 a6)), (.agg ((eSym x2).map .p))] (ZI a4 a5 a6 a7 a8 a9 a10 a13 v4 x4 x6_0 x6_1 x6_2 x6_3 v5 v2 v6 v7 v8 v9 x2) = some (vb true)) (apc (ig eSet 4 .i64 h14) (apc (((W5 ([(⟨v6, v7, v8, v9⟩ : SetD), (⟨x14.a, x14.b, x14.c, x14.d⟩ : SetD)]) h15).cp rfl _) : CP prg 76 [(.p (.lst 4 ([(⟨v6, v7, v8, v9⟩ : SetD), (⟨x14.a, x14.b, x14.c, x14.d⟩ : SetD)].map eSet)))] (ZI a4 a5 a6 a7 a8 a9 a10 a13 v4 x4 x6_0 x6_1 x6_2 x6_3 v5 v2 v6 v7 v8 v9 x2) = some (.agg [vi .u64 x15_0, vi .u64 x15_1, vi .u64 x15_2, vi .u64 x15_3])) (apc (Z2 a4 a5 a6 a7 a8 a9 a10 a13 false v2 (w6 (v3 - 1)) (v4.set x4 (⟨x6_0, x6_1, x6_2, x6_3⟩ : SetD)) (v5.set x4 v2) x15_0 x15_1 x15_2 x15_3) apn)))))
        ·
         apply bn h; intro x14 h14 h
         rw [← sj h]
         exact rn (kH k39 ++ [(117, .v (vb false)), (129, .v (.ro (eSet x14))), (6000, .d true)]) (k39.b (apc ((((YF a4 a5 a6 x2 h12).cp rfl _).trans (congrArg (fun z => some (vb z)) h13)) : CP prg 55 [(.ro (eOp a4 a5 a6)), (.agg ((eSym x2).map .p))] (ZI a4 a5 a6 a7 a8 a9 a10 a13 v4 x4 x6_0 x6_1 x6_2 x6_3 v5 v2 v6 v7 v8 v9 x2) = some (vb false)) (apc (ig eSet 4 .i64 h14) (apc (Z2 a4 a5 a6 a7 a8 a9 a10 a13 false false (w6 (v3 - 1)) (v4.set x4 (⟨x6_0, x6_1, x6_2, x6_3⟩ : SetD)) (v5.set x4 v2) x14.a x14.b x14.c x14.d) apn))))
 ·
  rw [← sj h]
  exact xb [(56, .d false), (6000, .d true)] (av h1 apn)
theorem Nv (s0 : Bool × Bool × Int × (List SetD) × (List Bool) × Int × Int × Int × Int) (e : E_L78_0) (h : runL (fun s => TP a6 a7 a9 a13 s.1 s.2.1 s.2.2.1 s.2.2.2.1 s.2.2.2.2.1 s.2.2.2.2.2.1 s.2.2.2.2.2.2.1 s.2.2.2.2.2.2.2.1 s.2.2.2.2.2.2.2.2) s0 = some e) : Lp a4 a5 a6 a7 a8 a9 a10 a13 e (Uf a4 a5 a6 a7 a8 a9 a10 a13 s0.1 s0.2.1 s0.2.2.1 s0.2.2.2.1 s0.2.2.2.2.1 s0.2.2.2.2.2.1 s0.2.2.2.2.2.2.1 s0.2.2.2.2.2.2.2.1 s0.2.2.2.2.2.2.2.2) := by
  have q := @Zb (Bool × Bool × Int × (List SetD) × (List Bool) × Int × Int × Int × Int) E_L78_0 (fun s => TP a6 a7 a9 a13 s.1 s.2.1 s.2.2.1 s.2.2.2.1 s.2.2.2.2.1 s.2.2.2.2.2.1 s.2.2.2.2.2.2.1 s.2.2.2.2.2.2.2.1 s.2.2.2.2.2.2.2.2) (fun s => Uf a4 a5 a6 a7 a8 a9 a10 a13 s.1 s.2.1 s.2.2.1 s.2.2.2.1 s.2.2.2.2.1 s.2.2.2.2.2.1 s.2.2.2.2.2.2.1 s.2.2.2.2.2.2.2.1 s.2.2.2.2.2.2.2.2) (Lp a4 a5 a6 a7 a8 a9 a10 a13) (fun s r h => DN a4 a5 a6 a7 a8 a9 a10 a13 s.1 s.2.1 s.2.2.1 s.2.2.2.1 s.2.2.2.2.1 s.2.2.2.2.2.1 s.2.2.2.2.2.2.1 s.2.2.2.2.2.2.2.1 s.2.2.2.2.2.2.2.2 h) s0 e h
  exact q
end
inductive R_F78 where
  | k0
  | k1 (x0 : Bool) (x1 : List SetD) (x2 : List Bool) (x3 x4 x5 x6 : Int)
  | k2
def Zcy (a1 : ProdD) (a2 : GramD) (a3 : List Int) (a4 : List Bool) (a5 : List SetD) (a6 : List Bool) (a7 a8 : Nat) (a9 : List SetD) (a10 : List Bool) (r : R_F78) : AV := match r with | .k0 => (vb false) | .k1 x0 x1 x2 x3 x4 x5 x6 => (vb x0) | .k2 => (vb false)
def Zcz (a1 : ProdD) (a2 : GramD) (a3 : List Int) (a4 : List Bool) (a5 : List SetD) (a6 : List Bool) (a7 a8 : Nat) (a9 : List SetD) (a10 : List Bool) (r : R_F78) : List AB := match r with | .k0 => [.cells 89 [(.ro (eOp a2 a3 a4))], bS [], bB [], bS [], .cells 63 [ls 4 eSet a5], .cells 100 [(.fn 77 [.ptr 0 0])], .cells 100 [(.fn 77 [.ptr 0 0])], bB [], bB a6, bB [], .cells 56 [.sl 8 0 1 0 a7], bB [], .cells 56 [.sl 8 0 1 0 a8], bS a9, bB a10, bS [], .cells 63 [.sl 13 0 4 0 a7], bB [], .cells 56 [.sl 14 0 1 0 a7], yY0, bP a1, bP a1, bP a1] | .k1 x0 x1 x2 x3 x4 x5 x6 => [.cells 89 [(.ro (eOp a2 a3 a4))], bS [], bB [], bS [], .cells 63 [ls 4 eSet a5], .cells 100 [(.fn 77 [.ptr 0 0])], .cells 100 [(.fn 77 [.ptr 0 0])], bB [], bB a6, bB [], .cells 56 [.sl 8 0 1 0 a7], bB [], .cells 56 [.sl 8 0 1 0 a8], bS x1, bB x2, bS [], .cells 63 [.sl 13 0 4 0 a7], bB [], .cells 56 [.sl 14 0 1 0 a7], yY0, bP a1, bP a1, bP a1, .cells 46 [vi .u64 x3, vi .u64 x4, vi .u64 x5, vi .u64 x6]] | .k2 => [.cells 89 [(.ro (eOp a2 a3 a4))], bS [], bB [], bS [], .cells 63 [ls 4 eSet a5], .cells 100 [(.fn 77 [.ptr 0 0])], .cells 100 [(.fn 77 [.ptr 0 0])], bB [], bB a6, bB [], .cells 56 [.sl 8 0 1 0 a7], bB [], .cells 56 [.sl 8 0 1 0 a8], bS a9, bB a10, bS [], .cells 63 [.sl 13 0 4 0 a7], bB [], .cells 56 [.sl 14 0 1 0 a7], yY0, bP a1, bP a1]
def F78 (a1 : ProdD) (a2 : GramD) (a3 : List Int) (a4 : List Bool) (a5 : List SetD) (a6 : List Bool) (a7 a8 : Nat) (a9 : List SetD) (a10 : List Bool) : Option R_F78 :=
  ((ixN a8 a1.left).bind fun x1 => ((a6[x1]?).bind fun x2 => (bif x2 then ((DM a1 a3).bind fun x4 => (bif x4 then ((getI a3 a2.start).bind fun x6 => (bif (decide (x6 < 0)) then (some (.k0)) else ((ixN a7 a1.left).bind fun x8 => ((a9[x8]?).bind fun x9 => ((a10[x8]?).bind fun x10 => (bif x10 then ((runL (fun s => TP a4 a5 a7 a1 s.1 s.2.1 s.2.2.1 s.2.2.2.1 s.2.2.2.2.1 s.2.2.2.2.2.1 s.2.2.2.2.2.2.1 s.2.2.2.2.2.2.2.1 s.2.2.2.2.2.2.2.2) (false, true, (IntKind.wrap .i64 ((a1.right.length : Int) - 1)), a9, a10, x9.a, x9.b, x9.c, x9.d)).bind fun r12 => match r12 with | .k0 x12_0 x12_1 x12_2 x12_3 x12_4 x12_5 x12_6 => (some (.k1 x12_0 x12_1 x12_2 x12_3 x12_4 x12_5 x12_6))) else ((runL (fun s => TP a4 a5 a7 a1 s.1 s.2.1 s.2.2.1 s.2.2.2.1 s.2.2.2.2.1 s.2.2.2.2.2.1 s.2.2.2.2.2.2.1 s.2.2.2.2.2.2.2.1 s.2.2.2.2.2.2.2.2) (false, false, (IntKind.wrap .i64 ((a1.right.length : Int) - 1)), a9, a10, x9.a, x9.b, x9.c, x9.d)).bind fun r12 => match r12 with | .k0 x12_0 x12_1 x12_2 x12_3 x12_4 x12_5 x12_6 => (some (.k1 x12_0 x12_1 x12_2 x12_3 x12_4 x12_5 x12_6))))))))) else (some (.k0)))) else (some (.k2)))))
abbrev Jb (a2 : GramD) (a3 : List Int) (a4 : List Bool) (a5 : List SetD) (a6 : List Bool) (a7 a8 : Nat) (a9 : List SetD) (a10 : List Bool) (a1 : ProdD) : List AB := [.cells 89 [(.ro (eOp a2 a3 a4))], bS [], bB [], bS [], .cells 63 [ls 4 eSet a5], .cells 100 [(.fn 77 [.ptr 0 0])], .cells 100 [(.fn 77 [.ptr 0 0])], bB [], bB a6, bB [], .cells 56 [.sl 8 0 1 0 a7], bB [], .cells 56 [.sl 8 0 1 0 a8], bS a9, bB a10, bS [], .cells 63 [.sl 13 0 4 0 a7], bB [], .cells 56 [.sl 14 0 1 0 a7], yY0, bP a1, bP a1]
abbrev QM (a2 : GramD) (a3 : List Int) (a4 : List Bool) (a5 : List SetD) (a6 : List Bool) (a7 a8 : Nat) (a9 : List SetD) (a10 : List Bool) (a1 : ProdD) : List AB := [.cells 89 [(.ro (eOp a2 a3 a4))], bS [], bB [], bS [], .cells 63 [ls 4 eSet a5], .cells 100 [(.fn 77 [.ptr 0 0])], .cells 100 [(.fn 77 [.ptr 0 0])], bB [], bB a6, bB [], .cells 56 [.sl 8 0 1 0 a7], bB [], .cells 56 [.sl 8 0 1 0 a8], bS a9, bB a10, bS [], .cells 63 [.sl 13 0 4 0 a7], bB [], .cells 56 [.sl 14 0 1 0 a7], yY0, bP a1, bP a1, bP a1]
abbrev Fh (a2 : GramD) (a3 : List Int) (a4 : List Bool) (a5 : List SetD) (a6 : List Bool) (a7 a8 : Nat) (a9 : List SetD) (a10 : List Bool) (a1 : ProdD) : List AB := [.cells 89 [(.ro (eOp a2 a3 a4))], bS [], bB [], bS [], .cells 63 [ls 4 eSet a5], .cells 100 [(.fn 77 [.ptr 0 0])], .cells 100 [(.fn 77 [.ptr 0 0])], bB [], bB a6, bB [], .cells 56 [.sl 8 0 1 0 a7], bB [], .cells 56 [.sl 8 0 1 0 a8], bS a9, bB a10, bS [], .cells 63 [.sl 13 0 4 0 a7], bB [], .cells 56 [.sl 14 0 1 0 a7], yY0, bP a1, bP a1, bP a1, .hole]
abbrev Jc (g12 : Nat → AV) (x12_0 : Bool) (a2 : GramD) (a3 : List Int) (a4 : List Bool) (a5 : List SetD) (a6 : List Bool) (a7 a8 : Nat) (x12_1 : List SetD) (x12_2 : List Bool) (a1 : ProdD) (x12_3 x12_4 x12_5 x12_6 : Int) : St := ⟨fr 132 g12 [(3, .ptr 0 0), (4, .ptr 16 0), (5, .ptr 18 0), (7, .ptr 21 0), (9, vb x12_0), (10, .ptr 23 0)], [.cells 89 [(.ro (eOp a2 a3 a4))], bS [], bB [], bS [], .cells 63 [ls 4 eSet a5], .cells 100 [(.fn 77 [.ptr 0 0])], .cells 100 [(.fn 77 [.ptr 0 0])], bB [], bB a6, bB [], .cells 56 [.sl 8 0 1 0 a7], bB [], .cells 56 [.sl 8 0 1 0 a8], bS x12_1, bB x12_2, bS [], .cells 63 [.sl 13 0 4 0 a7], bB [], .cells 56 [.sl 14 0 1 0 a7], yY0, bP a1, bP a1, bP a1, .cells 46 [vi .u64 x12_3, vi .u64 x12_4, vi .u64 x12_5, vi .u64 x12_6]]⟩
theorem Jd (a1 : ProdD) (a2 : GramD) (a3 : List Int) (a4 : List Bool) (a5 : List SetD) (a6 : List Bool) (a7 a8 : Nat) (a9 : List SetD) (a10 : List Bool) {r : R_F78} (h : F78 a1 a2 a3 a4 a5 a6 a7 a8 a9 a10 = some r) : CS prg 78 [aP a1, .ptr 12 0, .ptr 5 0, .ptr 0 0, .ptr 16 0, .ptr 18 0, .ptr 4 0] [.cells 89 [(.ro (eOp a2 a3 a4))], bS [], bB [], bS [], .cells 63 [ls 4 eSet a5], .cells 100 [(.fn 77 [.ptr 0 0])], .cells 100 [(.fn 77 [.ptr 0 0])], bB [], bB a6, bB [], .cells 56 [.sl 8 0 1 0 a7], bB [], .cells 56 [.sl 8 0 1 0 a8], bS a9, bB a10, bS [], .cells 63 [.sl 13 0 4 0 a7], bB [], .cells 56 [.sl 14 0 1 0 a7], yY0, bP a1] = some (Zcy a1 a2 a3 a4 a5 a6 a7 a8 a9 a10 r, Zcz a1 a2 a3 a4 a5 a6 a7 a8 a9 a10 r) := by
 unfold F78 at h
 apply bn h; intro x1 h1 h
 have q0 := ((ZW h1) : idxA 1 (.sl 8 0 1 0 a8) (i6 a1.left) = some (.rp 8 0 1 x1 0))
 apply bn h; intro x2 h2 h
 apply bi h <;> intro h3 h
 ·
  have q1 := (((Zp (V := vb x2) rfl h2 rfl).trans (congrArg (fun z => some (vb z)) h3)) : ldA (Jb a2 a3 a4 a5 a6 a7 a8 a9 a10 a1) .false 1 (.rp 8 0 1 x1 0) = some (vb true))
  have k2 := ka [(18, .v (.rp 8 0 1 x1 0)), (19, .v (vb true))] (apc q0 (apc q1 apn))
  apply bn h; intro x4 h4 h
  apply bi h <;> intro h5 h
  ·
   have q3 := (((K9 a1 a2 a3 a4 a5 a6 a7 a8 a9 a10 h4).trans (congrArg (fun z => some (vb z, ((QM a2 a3 a4 a5 a6 a7 a8 a9 a10 a1) : List AB))) h5)) : CS prg 77 [aP a1, .ptr 0 0] (Jb a2 a3 a4 a5 a6 a7 a8 a9 a10 a1) = some (vb true, QM a2 a3 a4 a5 a6 a7 a8 a9 a10 a1))
   have k4 := k2.a [(24, .r (vb true) (QM a2 a3 a4 a5 a6 a7 a8 a9 a10 a1))] (apc q3 apn)
   apply bn h; intro x6 h6 h
   have k5 := k4.a [(37, .v (.ro [.val (.int .i64 x6)]))] (apc (ig eI64 1 .i64 h6) apn)
   apply bi h <;> intro h7 h
   ·
    rw [← sj h]
    exact fc (kH k5 ++ [(39, .d true)]) (k5.b (av h7 apn))
   ·
    apply bn h; intro x8 h8 h
    have q6 := ((ZW h8) : idxA 4 (.sl 13 0 4 0 a7) (i6 a1.left) = some (.rp 13 0 4 x8 0))
    have q7 := ((ZW h8) : idxA 1 (.sl 14 0 1 0 a7) (i6 a1.left) = some (.rp 14 0 1 x8 0))
    have k8 := k5.a [(39, .d false), (44, .v (.rp 13 0 4 x8 0))] (av h7 (apc q6 apn))
    apply bn h; intro x9 h9 h
    have q9 := ((Zp rfl h9 rfl) : ldA (Fh a2 a3 a4 a5 a6 a7 a8 a9 a10 a1) .true 4 (.rp 13 0 4 x8 0) = some (.agg ((eSet x9).map .p)))
    have k10 := k8.a [(45, .v (.agg ((eSet x9).map .p))), (49, .v (.rp 14 0 1 x8 0))] (apc q9 (apc q7 apn))
    apply bn h; intro x10 h10 h
    apply bi h <;> intro h11 h
    ·
     apply bn h; intro r12 h12 h
     cases r12 with
     | k0 x12_0 x12_1 x12_2 x12_3 x12_4 x12_5 x12_6 =>
      obtain ⟨g12, e12⟩ := Nv a2 a3 a4 a5 a6 a7 a8 a1 (false, true, (w6 ((a1.right.length : Int) - 1)), a9, a10, x9.a, x9.b, x9.c, x9.d) _ h12
      rw [← sj h]
      exact fc (kH k10 ++ [(50, .v (vb true)), (53, .v (i6 (a1.right.length : Int))), (2000, .l (.brk 0) (Jc g12 x12_0 a2 a3 a4 a5 a6 a7 a8 x12_1 x12_2 a1 x12_3 x12_4 x12_5 x12_6)), (6000, .d true)]) (k10.b (apc (((Zp (V := vb x10) rfl h10 rfl).trans (congrArg (fun z => some (vb z)) h11)) : ldA (Fh a2 a3 a4 a5 a6 a7 a8 a9 a10 a1) .false 1 (.rp 14 0 1 x8 0) = some (vb true)) (apc (lg a1.right eSym 6) (apc (Z2 a2 a3 a4 a5 a6 a7 a8 a1 false true (w6 ((a1.right.length : Int) - 1)) a9 a10 x9.a x9.b x9.c x9.d) (apc (e12 : Uf a2 a3 a4 a5 a6 a7 a8 a1 false true (w6 ((a1.right.length : Int) - 1)) a9 a10 x9.a x9.b x9.c x9.d = some ((.brk 0), Jc g12 x12_0 a2 a3 a4 a5 a6 a7 a8 x12_1 x12_2 a1 x12_3 x12_4 x12_5 x12_6)) apn)))))
    ·
     apply bn h; intro r12 h12 h
     cases r12 with
     | k0 x12_0 x12_1 x12_2 x12_3 x12_4 x12_5 x12_6 =>
      obtain ⟨g12, e12⟩ := Nv a2 a3 a4 a5 a6 a7 a8 a1 (false, false, (w6 ((a1.right.length : Int) - 1)), a9, a10, x9.a, x9.b, x9.c, x9.d) _ h12
      rw [← sj h]
      exact fc (kH k10 ++ [(50, .v (vb false)), (53, .v (i6 (a1.right.length : Int))), (2000, .l (.brk 0) (Jc g12 x12_0 a2 a3 a4 a5 a6 a7 a8 x12_1 x12_2 a1 x12_3 x12_4 x12_5 x12_6)), (6000, .d true)]) (k10.b (apc (((Zp (V := vb x10) rfl h10 rfl).trans (congrArg (fun z => some (vb z)) h11)) : ldA (Fh a2 a3 a4 a5 a6 a7 a8 a9 a10 a1) .false 1 (.rp 14 0 1 x8 0) = some (vb false)) (apc (lg a1.right eSym 6) (apc (Z2 a2 a3 a4 a5 a6 a7 a8 a1 false false (w6 ((a1.right.length : Int) - 1)) a9 a10 x9.a x9.b x9.c x9.d) (apc (e12 : Uf a2 a3 a4 a5 a6 a7 a8 a1 false false (w6 ((a1.right.length : Int) - 1)) a9 a10 x9.a x9.b x9.c x9.d = some ((.brk 0), Jc g12 x12_0 a2 a3 a4 a5 a6 a7 a8 x12_1 x12_2 a1 x12_3 x12_4 x12_5 x12_6)) apn)))))
  ·
   rw [← sj h]
   exact fc (kH k2 ++ [(24, .r (vb false) (QM a2 a3 a4 a5 a6 a7 a8 a9 a10 a1))]) (k2.b (apc (((K9 a1 a2 a3 a4 a5 a6 a7 a8 a9 a10 h4).trans (congrArg (fun z => some (vb z, ((QM a2 a3 a4 a5 a6 a7 a8 a9 a10 a1) : List AB))) h5)) : CS prg 77 [aP a1, .ptr 0 0] (Jb a2 a3 a4 a5 a6 a7 a8 a9 a10 a1) = some (vb false, QM a2 a3 a4 a5 a6 a7 a8 a9 a10 a1)) apn))
 ·
  rw [← sj h]
  exact fc [(18, .v (.rp 8 0 1 x1 0)), (19, .v (vb false))] (apc q0 (apc (((Zp (V := vb x2) rfl h2 rfl).trans (congrArg (fun z => some (vb z)) h3)) : ldA (Jb a2 a3 a4 a5 a6 a7 a8 a9 a10 a1) .false 1 (.rp 8 0 1 x1 0) = some (vb false)) apn))
inductive E_L46_0_11 where
  | k0 (x0 : Bool) (x1 : List SetD) (x2 : List Bool)
section
variable (a1 : GramD) (a2 : List Int) (a3 : List Bool) (a4 : Int) (a5 : List SetD) (a6 : List Bool) (a7 a8 : Nat)
abbrev Xm (l : List AB) : List AB := .cells 89 [(.ro (eOp a1 a2 a3))] :: bS [] :: bB [] :: bS [] :: .cells 63 [ls 4 eSet a5] :: .cells 100 [(.fn 77 [.ptr 0 0])] :: .cells 100 [(.fn 77 [.ptr 0 0])] :: bB [] :: bB a6 :: bB [] :: .cells 56 [.sl 8 0 1 0 a7] :: bB [] :: .cells 56 [.sl 8 0 1 0 a8] :: l
def Z3 (v1 : Bool) (v2 : Int) (v3 : List SetD) (v4 : List Bool) : Option (E_L46_0_11 ⊕ (Bool × Int × (List SetD) × (List Bool))) :=
  (bif (decide (v2 < a4)) then ((getI a1.prods v2).bind fun x2 => ((F54 x2).bind fun x3 => (bif x3 then ((F78 x2 a1 a2 a3 a5 a6 a7 a8 v3 v4).bind fun r5 => match r5 with | .k0 => (some (.inr (v1, (IntKind.wrap .i64 (v2 + 1)), v3, v4))) | .k1 x5_0 x5_1 x5_2 x5_3 x5_4 x5_5 x5_6 => (bif x5_0 then (some (.inr (true, (IntKind.wrap .i64 (v2 + 1)), x5_1, x5_2))) else (some (.inr (v1, (IntKind.wrap .i64 (v2 + 1)), x5_1, x5_2)))) | .k2 => (some (.inr (v1, (IntKind.wrap .i64 (v2 + 1)), v3, v4)))) else (some (.inr (v1, (IntKind.wrap .i64 (v2 + 1)), v3, v4)))))) else (some (.inl (.k0 v1 v3 v4))))
def QN (v1 : Bool) (v2 : Int) (v3 : List SetD) (v4 : List Bool) : St := ⟨fr 27 ug [(0, (.ro (eOp a1 a2 a3))), (1, (.fn 78 [.ptr 12 0, .ptr 5 0, .ptr 0 0, .ptr 16 0, .ptr 18 0, .ptr 4 0])), (4, vb v1), (11, ls 7 Zl a1.prods), (12, i6 a4), (13, i6 v2)], (Xm a1 a2 a3 a5 a6 a7 a8 [bS v3, bB v4, bS [], .cells 63 [.sl 13 0 4 0 a7], bB [], .cells 56 [.sl 14 0 1 0 a7]])⟩
theorem Vy (v1 : Bool) (v2 : Int) (v3 : List SetD) (v4 : List Bool) : okT 19 (QN a1 a2 a3 a4 a5 a6 a7 a8 v1 v2 v3 v4).h = true := (Zr rfl (ac (ar (ar (ar (ac (ac (ac (ar (ar (ar (ac (ar (ac (ar (ar (ar (ac (ar (ac rfl))))))))))))))))))))
abbrev Xn (v1 : Bool) (v2 : Int) (v3 : List SetD) (v4 : List Bool) := evH prg 19 [0, 1, 4, 11, 12, 13] S7 (QN a1 a2 a3 a4 a5 a6 a7 a8 v1 v2 v3 v4)
def Tk (e : E_L46_0_11) (r : Option (Out × St)) : Prop := match e with | .k0 x0 x1 x2 => ∃ g, r = some ((.brk 2), ⟨fr 27 g [(0, (.ro (eOp a1 a2 a3))), (1, (.fn 78 [.ptr 12 0, .ptr 5 0, .ptr 0 0, .ptr 16 0, .ptr 18 0, .ptr 4 0])), (4, vb x0), (11, ls 7 Zl a1.prods)], (Xm a1 a2 a3 a5 a6 a7 a8 [bS x1, bB x2, bS [], .cells 63 [.sl 13 0 4 0 a7], bB [], .cells 56 [.sl 14 0 1 0 a7]])⟩)
abbrev YP (v3 : List SetD) (v4 : List Bool) (x2 : ProdD) : List AB := (Xm a1 a2 a3 a5 a6 a7 a8 [bS v3, bB v4, bS [], .cells 63 [.sl 13 0 4 0 a7], bB [], .cells 56 [.sl 14 0 1 0 a7], yY0, bP x2])
abbrev Ro (v3 : List SetD) (v4 : List Bool) (x2 : ProdD) : List AB := (Xm a1 a2 a3 a5 a6 a7 a8 [bS v3, bB v4, bS [], .cells 63 [.sl 13 0 4 0 a7], bB [], .cells 56 [.sl 14 0 1 0 a7], yY0, bP x2, bP x2, bP x2])
abbrev YQ (x5_1 : List SetD) (x5_2 : List Bool) (x2 : ProdD) (x5_3 x5_4 x5_5 x5_6 : Int) : List AB := (Xm a1 a2 a3 a5 a6 a7 a8 [bS x5_1, bB x5_2, bS [], .cells 63 [.sl 13 0 4 0 a7], bB [], .cells 56 [.sl 14 0 1 0 a7], yY0, bP x2, bP x2, bP x2, .cells 46 [vi .u64 x5_3, vi .u64 x5_4, vi .u64 x5_5, vi .u64 x5_6]])
abbrev Rp (v3 : List SetD) (v4 : List Bool) (x2 : ProdD) : List AB := (Xm a1 a2 a3 a5 a6 a7 a8 [bS v3, bB v4, bS [], .cells 63 [.sl 13 0 4 0 a7], bB [], .cells 56 [.sl 14 0 1 0 a7], yY0, bP x2, bP x2])
theorem Lq (v1 : Bool) (v2 : Int) (v3 : List SetD) (v4 : List Bool) {r : E_L46_0_11 ⊕ (Bool × Int × (List SetD) × (List Bool))} (h : Z3 a1 a2 a3 a4 a5 a6 a7 a8 v1 v2 v3 v4 = some r) : OkR (fun e => Tk a1 a2 a3 a5 a6 a7 a8 e (Xn a1 a2 a3 a4 a5 a6 a7 a8 v1 v2 v3 v4)) (fun s => Xn a1 a2 a3 a4 a5 a6 a7 a8 v1 v2 v3 v4 = Xn a1 a2 a3 a4 a5 a6 a7 a8 s.1 s.2.1 s.2.2.1 s.2.2.2) r := by
 unfold Z3 at h
 have q0 := (Vy a1 a2 a3 a4 a5 a6 a7 a8 v1 (w6 (v2 + 1)) v3 v4)
 apply bi h <;> intro h1 h
 ·
  apply bn h; intro x2 h2 h
  have k1 := ka [(14, .d true), (15, .v (.ro (Zl x2)))] (av h1 (apc (ig Zl 7 .i64 h2) apn))
  apply bn h; intro x3 h3 h
  apply bi h <;> intro h4 h
  ·
   have q2 := ((((TG x2 h3).cp rfl _).trans (congrArg (fun z => some (vb z)) h4)) : CP prg 54 [aP x2] (YP a1 a2 a3 a5 a6 a7 a8 v3 v4 x2) = some (vb true))
   apply bn h; intro r5 h5 h
   cases r5 with
   | k0 =>
    rw [← sj h]
    exact rn (kH k1 ++ [(18, .v (vb true)), (22, .r (vb false) (Ro a1 a2 a3 a5 a6 a7 a8 v3 v4 x2)), (6000, .d true)]) (k1.b (apc q2 (apc ((Jd x2 a1 a2 a3 a5 a6 a7 a8 v3 v4 h5) : CS prg 78 [aP x2, .ptr 12 0, .ptr 5 0, .ptr 0 0, .ptr 16 0, .ptr 18 0, .ptr 4 0] (YP a1 a2 a3 a5 a6 a7 a8 v3 v4 x2) = some ((vb false), Ro a1 a2 a3 a5 a6 a7 a8 v3 v4 x2)) (apc q0 apn))))
   | k1 x5_0 x5_1 x5_2 x5_3 x5_4 x5_5 x5_6 =>
    apply bi h <;> intro h6 h
    ·
     rw [← sj h]
     exact rn (kH k1 ++ [(18, .v (vb true)), (22, .r (vb true) (YQ a1 a2 a3 a5 a6 a7 a8 x5_1 x5_2 x2 x5_3 x5_4 x5_5 x5_6)), (6000, .d true)]) (k1.b (apc q2 (apc (((Jd x2 a1 a2 a3 a5 a6 a7 a8 v3 v4 h5).trans (congrArg (fun z => some (vb z, ((YQ a1 a2 a3 a5 a6 a7 a8 x5_1 x5_2 x2 x5_3 x5_4 x5_5 x5_6) : List AB))) h6)) : CS prg 78 [aP x2, .ptr 12 0, .ptr 5 0, .ptr 0 0, .ptr 16 0, .ptr 18 0, .ptr 4 0] (YP a1 a2 a3 a5 a6 a7 a8 v3 v4 x2) = some (vb true, YQ a1 a2 a3 a5 a6 a7 a8 x5_1 x5_2 x2 x5_3 x5_4 x5_5 x5_6)) (apc (Vy a1 a2 a3 a4 a5 a6 a7 a8 true (w6 (v2 + 1)) x5_1 x5_2) apn))))
    ·
     rw [← sj h]
     exact rn (kH k1 ++ [(18, .v (vb true)), (22, .r (vb false) (YQ a1 a2 a3 a5 a6 a7 a8 x5_1 x5_2 x2 x5_3 x5_4 x5_5 x5_6)), (6000, .d true)]) (k1.b (apc q2 (apc (((Jd x2 a1 a2 a3 a5 a6 a7 a8 v3 v4 h5).trans (congrArg (fun z => some (vb z, ((YQ a1 a2 a3 a5 a6 a7 a8 x5_1 x5_2 x2 x5_3 x5_4 x5_5 x5_6) : List AB))) h6)) : CS prg 78 [aP x2, .ptr 12 0, .ptr 5 0, .ptr 0 0, .ptr 16 0, .ptr 18 0, .ptr 4 0] (YP a1 a2 a3 a5 a6 a7 a8 v3 v4 x2) = some (vb false, YQ a1 a2 a3 a5 a6 a7 a8 x5_1 x5_2 x2 x5_3 x5_4 x5_5 x5_6)) (apc (Vy a1 a2 a3 a4 a5 a6 a7 a8 v1 (w6 (v2 + 1)) x5_1 x5_2) apn))))
   | k2 =>
    rw [← sj h]
    exact rn (kH k1 ++ [(18, .v (vb true)), (22, .r (vb false) (Rp a1 a2 a3 a5 a6 a7 a8 v3 v4 x2)), (6000, .d true)]) (k1.b (apc q2 (apc ((Jd x2 a1 a2 a3 a5 a6 a7 a8 v3 v4 h5) : CS prg 78 [aP x2, .ptr 12 0, .ptr 5 0, .ptr 0 0, .ptr 16 0, .ptr 18 0, .ptr 4 0] (YP a1 a2 a3 a5 a6 a7 a8 v3 v4 x2) = some ((vb false), Rp a1 a2 a3 a5 a6 a7 a8 v3 v4 x2)) (apc q0 apn))))
  ·
   rw [← sj h]
   exact rn (kH k1 ++ [(18, .v (vb false)), (6000, .d true)]) (k1.b (apc ((((TG x2 h3).cp rfl _).trans (congrArg (fun z => some (vb z)) h4)) : CP prg 54 [aP x2] (YP a1 a2 a3 a5 a6 a7 a8 v3 v4 x2) = some (vb false)) (apc q0 apn)))
 ·
  rw [← sj h]
  exact xb [(14, .d false), (6000, .d true)] (av h1 apn)
theorem Nw (s0 : Bool × Int × (List SetD) × (List Bool)) (e : E_L46_0_11) (h : runL (fun s => Z3 a1 a2 a3 a4 a5 a6 a7 a8 s.1 s.2.1 s.2.2.1 s.2.2.2) s0 = some e) : Tk a1 a2 a3 a5 a6 a7 a8 e (Xn a1 a2 a3 a4 a5 a6 a7 a8 s0.1 s0.2.1 s0.2.2.1 s0.2.2.2) := by
  have q := @Zb (Bool × Int × (List SetD) × (List Bool)) E_L46_0_11 (fun s => Z3 a1 a2 a3 a4 a5 a6 a7 a8 s.1 s.2.1 s.2.2.1 s.2.2.2) (fun s => Xn a1 a2 a3 a4 a5 a6 a7 a8 s.1 s.2.1 s.2.2.1 s.2.2.2) (Tk a1 a2 a3 a5 a6 a7 a8) (fun s r h => Lq a1 a2 a3 a4 a5 a6 a7 a8 s.1 s.2.1 s.2.2.1 s.2.2.2 h) s0 e h
  exact q
end
inductive E_L46_1_7 where
  | k0 (x0 : List SetD) (x1 : List Bool)
section
variable (a1 : GramD) (a2 : List Int) (a3 : List Bool) (a4 : List SetD) (a5 : List Bool) (a6 a7 : Nat)
abbrev Rq (l : List AB) : List AB := .cells 89 [(.ro (eOp a1 a2 a3))] :: bS [] :: bB [] :: bS [] :: .cells 63 [ls 4 eSet a4] :: .cells 100 [(.fn 77 [.ptr 0 0])] :: .cells 100 [(.fn 77 [.ptr 0 0])] :: bB [] :: bB a5 :: bB [] :: .cells 56 [.sl 8 0 1 0 a6] :: bB [] :: .cells 56 [.sl 8 0 1 0 a7] :: l
def Y7 (v1 : List SetD) (v2 : List Bool) : Option (E_L46_1_7 ⊕ ((List SetD) × (List Bool))) :=
  ((runL (fun s => Z3 a1 a2 a3 (a1.prods.length : Int) a4 a5 a6 a7 s.1 s.2.1 s.2.2.1 s.2.2.2) (false, 0, v1, v2)).bind fun r1 => match r1 with | .k0 x1_0 x1_1 x1_2 => (bif x1_0 then (some (.inr (x1_1, x1_2))) else (some (.inl (.k0 x1_1 x1_2)))))
def Nx (v1 : List SetD) (v2 : List Bool) : St := ⟨fr 27 ug [(0, (.ro (eOp a1 a2 a3))), (1, (.fn 78 [.ptr 12 0, .ptr 5 0, .ptr 0 0, .ptr 16 0, .ptr 18 0, .ptr 4 0]))], (Rq a1 a2 a3 a4 a5 a6 a7 [bS v1, bB v2, bS [], .cells 63 [.sl 13 0 4 0 a6], bB [], .cells 56 [.sl 14 0 1 0 a6]])⟩
theorem Ny (v1 : List SetD) (v2 : List Bool) : okT 19 (Nx a1 a2 a3 a4 a5 a6 a7 v1 v2).h = true := (Zr rfl (ac (ar (ar (ar (ac (ac (ac (ar (ar (ar (ac (ar (ac (ar (ar (ar (ac (ar (ac rfl))))))))))))))))))))
abbrev Wm (v1 : List SetD) (v2 : List Bool) := evH prg 19 [0, 1] S8 (Nx a1 a2 a3 a4 a5 a6 a7 v1 v2)
def Rr (e : E_L46_1_7) (r : Option (Out × St)) : Prop := match e with | .k0 x0 x1 => ∃ g, r = some ((.brk 0), ⟨fr 27 g [(0, (.ro (eOp a1 a2 a3))), (1, (.fn 78 [.ptr 12 0, .ptr 5 0, .ptr 0 0, .ptr 16 0, .ptr 18 0, .ptr 4 0]))], (Rq a1 a2 a3 a4 a5 a6 a7 [bS x0, bB x1, bS [], .cells 63 [.sl 13 0 4 0 a6], bB [], .cells 56 [.sl 14 0 1 0 a6]])⟩)
abbrev QO (g1 : Nat → AV) (x1_0 : Bool) (x1_1 : List SetD) (x1_2 : List Bool) : St := ⟨fr 27 g1 [(0, (.ro (eOp a1 a2 a3))), (1, (.fn 78 [.ptr 12 0, .ptr 5 0, .ptr 0 0, .ptr 16 0, .ptr 18 0, .ptr 4 0])), (4, vb x1_0), (11, ls 7 Zl a1.prods)], (Rq a1 a2 a3 a4 a5 a6 a7 [bS x1_1, bB x1_2, bS [], .cells 63 [.sl 13 0 4 0 a6], bB [], .cells 56 [.sl 14 0 1 0 a6]])⟩
theorem IA (v1 : List SetD) (v2 : List Bool) {r : E_L46_1_7 ⊕ ((List SetD) × (List Bool))} (h : Y7 a1 a2 a3 a4 a5 a6 a7 v1 v2 = some r) : OkR (fun e => Rr a1 a2 a3 a4 a5 a6 a7 e (Wm a1 a2 a3 a4 a5 a6 a7 v1 v2)) (fun s => Wm a1 a2 a3 a4 a5 a6 a7 v1 v2 = Wm a1 a2 a3 a4 a5 a6 a7 s.1 s.2) r := by
 unfold Y7 at h
 have q0 := (Vy a1 a2 a3 (lP a1) a4 a5 a6 a7 false 0 v1 v2)
 have k1 := ka [(12, .v (i6 (lP a1)))] (apc (lg a1.prods Zl 7) apn)
 apply bn h; intro r1 h1 h
 cases r1 with
 | k0 x1_0 x1_1 x1_2 =>
  obtain ⟨g1, e1⟩ := Nw a1 a2 a3 (lP a1) a4 a5 a6 a7 (false, 0, v1, v2) _ h1
  have q2 := (e1 : Xn a1 a2 a3 (lP a1) a4 a5 a6 a7 false 0 v1 v2 = some ((.brk 2), QO a1 a2 a3 a4 a5 a6 a7 g1 x1_0 x1_1 x1_2))
  have k3 := k1.a [(2002, .l (.brk 2) (QO a1 a2 a3 a4 a5 a6 a7 g1 x1_0 x1_1 x1_2))] (apc q0 (apc q2 apn))
  apply bi h <;> intro h2 h
  ·
   rw [← sj h]
   exact rn (kH k3 ++ [(25, .d true), (6000, .d true)]) (k3.b (av h2 (apc (Ny a1 a2 a3 a4 a5 a6 a7 x1_1 x1_2) apn)))
  ·
   rw [← sj h]
   exact xb (kH k3 ++ [(25, .d false), (6000, .d true)]) (k3.b (av h2 apn))
theorem Lr (s0 : (List SetD) × (List Bool)) (e : E_L46_1_7) (h : runL (fun s => Y7 a1 a2 a3 a4 a5 a6 a7 s.1 s.2) s0 = some e) : Rr a1 a2 a3 a4 a5 a6 a7 e (Wm a1 a2 a3 a4 a5 a6 a7 s0.1 s0.2) := by
  have q := @Zb ((List SetD) × (List Bool)) E_L46_1_7 (fun s => Y7 a1 a2 a3 a4 a5 a6 a7 s.1 s.2) (fun s => Wm a1 a2 a3 a4 a5 a6 a7 s.1 s.2) (Rr a1 a2 a3 a4 a5 a6 a7) (fun s r h => IA a1 a2 a3 a4 a5 a6 a7 s.1 s.2 h) s0 e h
  exact q
end
inductive E_L46_2_6 where
  | k0 (x0 : List SetD) (x1 : List Bool)
section
variable (a1 : GramD) (a2 : List Int) (a3 : List Bool) (a4 : List SetD) (a5 : List Bool) (a6 a7 : Nat) (a8 : List SetD) (a9 : List Bool)
abbrev Rs (l : List AB) : List AB := .cells 89 [(.ro (eOp a1 a2 a3))] :: bS [] :: bB [] :: bS [] :: .cells 63 [ls 4 eSet a4] :: .cells 100 [(.fn 77 [.ptr 0 0])] :: .cells 100 [(.fn 77 [.ptr 0 0])] :: bB [] :: bB a5 :: bB [] :: .cells 56 [.sl 8 0 1 0 a6] :: bB [] :: .cells 56 [.sl 8 0 1 0 a7] :: l
def Ug : Option (E_L46_2_6 ⊕ (Unit)) :=
  ((runL (fun s => Y7 a1 a2 a3 a4 a5 a6 a7 s.1 s.2) (a8, a9)).bind fun r1 => match r1 with | .k0 x1_0 x1_1 => (some (.inl (.k0 x1_0 x1_1))))
def Nz : St := ⟨fr 27 ug [(0, (.ro (eOp a1 a2 a3))), (1, (.fn 78 [.ptr 12 0, .ptr 5 0, .ptr 0 0, .ptr 16 0, .ptr 18 0, .ptr 4 0]))], (Rs a1 a2 a3 a4 a5 a6 a7 [bS a8, bB a9, bS [], .cells 63 [.sl 13 0 4 0 a6], bB [], .cells 56 [.sl 14 0 1 0 a6]])⟩
theorem Fi : okT 19 (Nz a1 a2 a3 a4 a5 a6 a7 a8 a9).h = true := (Zr rfl (ac (ar (ar (ar (ac (ac (ac (ar (ar (ar (ac (ar (ac (ar (ar (ar (ac (ar (ac rfl))))))))))))))))))))
abbrev Wn := evH prg 19 [0, 1] S9 (Nz a1 a2 a3 a4 a5 a6 a7 a8 a9)
def Rt (e : E_L46_2_6) (r : Option (Out × St)) : Prop := match e with | .k0 x0 x1 => ∃ g, r = some ((.brk 2000000), ⟨fr 27 g [], (Rs a1 a2 a3 a4 a5 a6 a7 [bS x0, bB x1, bS [], .cells 63 [.sl 13 0 4 0 a6], bB [], .cells 56 [.sl 14 0 1 0 a6]])⟩)
abbrev QP (g1 : Nat → AV) (x1_0 : List SetD) (x1_1 : List Bool) : St := ⟨fr 27 g1 [(0, (.ro (eOp a1 a2 a3))), (1, (.fn 78 [.ptr 12 0, .ptr 5 0, .ptr 0 0, .ptr 16 0, .ptr 18 0, .ptr 4 0]))], (Rs a1 a2 a3 a4 a5 a6 a7 [bS x1_0, bB x1_1, bS [], .cells 63 [.sl 13 0 4 0 a6], bB [], .cells 56 [.sl 14 0 1 0 a6]])⟩
theorem IB {r : E_L46_2_6 ⊕ (Unit)} (h : Ug a1 a2 a3 a4 a5 a6 a7 a8 a9 = some r) : OkR (fun e => Rt a1 a2 a3 a4 a5 a6 a7 e (Wn a1 a2 a3 a4 a5 a6 a7 a8 a9)) (fun s => Wn a1 a2 a3 a4 a5 a6 a7 a8 a9 = Wn a1 a2 a3 a4 a5 a6 a7 a8 a9) r := by
 unfold Ug at h
 apply bn h; intro r1 h1 h
 cases r1 with
 | k0 x1_0 x1_1 =>
  obtain ⟨g1, e1⟩ := Lr a1 a2 a3 a4 a5 a6 a7 (a8, a9) _ h1
  rw [← sj h]
  exact xb [(2000, .l (.brk 0) (QP a1 a2 a3 a4 a5 a6 a7 g1 x1_0 x1_1)), (6000, .d true)] (apc (Ny a1 a2 a3 a4 a5 a6 a7 a8 a9) (apc (e1 : Wm a1 a2 a3 a4 a5 a6 a7 a8 a9 = some ((.brk 0), QP a1 a2 a3 a4 a5 a6 a7 g1 x1_0 x1_1)) apn))
theorem Ls (s0 : Unit) (e : E_L46_2_6) (h : runL (fun s => Ug a1 a2 a3 a4 a5 a6 a7 a8 a9) s0 = some e) : Rt a1 a2 a3 a4 a5 a6 a7 e (Wn a1 a2 a3 a4 a5 a6 a7 a8 a9) := by
  have q := @Zb (Unit) E_L46_2_6 (fun s => Ug a1 a2 a3 a4 a5 a6 a7 a8 a9) (fun s => Wn a1 a2 a3 a4 a5 a6 a7 a8 a9) (Rt a1 a2 a3 a4 a5 a6 a7) (fun s r h => IB a1 a2 a3 a4 a5 a6 a7 a8 a9 h) s0 e h
  exact q
end
inductive R_F46_7 where
  | k0 (x0 : List SetD) (x1 : List Bool)
def Zam (a1 : GramD) (a2 : List Int) (a3 : List Bool) (a4 : List SetD) (a5 : List Bool) (a6 a7 : Nat) (a8 : List SetD) (a9 : List Bool) (r : R_F46_7) : AV := match r with | .k0 x0 x1 => (.tup [])
def Zan (a1 : GramD) (a2 : List Int) (a3 : List Bool) (a4 : List SetD) (a5 : List Bool) (a6 a7 : Nat) (a8 : List SetD) (a9 : List Bool) (r : R_F46_7) : List AB := match r with | .k0 x0 x1 => [.cells 89 [(.ro (eOp a1 a2 a3))], bS [], bB [], bS [], .cells 63 [ls 4 eSet a4], .cells 100 [(.fn 77 [.ptr 0 0])], .cells 100 [(.fn 77 [.ptr 0 0])], bB [], bB a5, bB [], .cells 56 [.sl 8 0 1 0 a6], bB [], .cells 56 [.sl 8 0 1 0 a7], bS x0, bB x1, bS [], .cells 63 [.sl 13 0 4 0 a6], bB [], .cells 56 [.sl 14 0 1 0 a6]]
def Fj (a1 : GramD) (a2 : List Int) (a3 : List Bool) (a4 : List SetD) (a5 : List Bool) (a6 a7 : Nat) (a8 : List SetD) (a9 : List Bool) : Option R_F46_7 :=
  ((runL (fun s => Ug a1 a2 a3 a4 a5 a6 a7 a8 a9) ()).bind fun r1 => match r1 with | .k0 x1_0 x1_1 => (some (.k0 x1_0 x1_1)))
abbrev Je (g1 : Nat → AV) (a1 : GramD) (a2 : List Int) (a3 : List Bool) (a4 : List SetD) (a5 : List Bool) (a6 a7 : Nat) (x1_0 : List SetD) (x1_1 : List Bool) : St := ⟨fr 27 g1 [], [.cells 89 [(.ro (eOp a1 a2 a3))], bS [], bB [], bS [], .cells 63 [ls 4 eSet a4], .cells 100 [(.fn 77 [.ptr 0 0])], .cells 100 [(.fn 77 [.ptr 0 0])], bB [], bB a5, bB [], .cells 56 [.sl 8 0 1 0 a6], bB [], .cells 56 [.sl 8 0 1 0 a7], bS x1_0, bB x1_1, bS [], .cells 63 [.sl 13 0 4 0 a6], bB [], .cells 56 [.sl 14 0 1 0 a6]]⟩
theorem DO (a1 : GramD) (a2 : List Int) (a3 : List Bool) (a4 : List SetD) (a5 : List Bool) (a6 a7 : Nat) (a8 : List SetD) (a9 : List Bool) {r : R_F46_7} (h : Fj a1 a2 a3 a4 a5 a6 a7 a8 a9 = some r) : CS prg 46 [(.ro (eOp a1 a2 a3)), (.fn 78 [.ptr 12 0, .ptr 5 0, .ptr 0 0, .ptr 16 0, .ptr 18 0, .ptr 4 0])] [.cells 89 [(.ro (eOp a1 a2 a3))], bS [], bB [], bS [], .cells 63 [ls 4 eSet a4], .cells 100 [(.fn 77 [.ptr 0 0])], .cells 100 [(.fn 77 [.ptr 0 0])], bB [], bB a5, bB [], .cells 56 [.sl 8 0 1 0 a6], bB [], .cells 56 [.sl 8 0 1 0 a7], bS a8, bB a9, bS [], .cells 63 [.sl 13 0 4 0 a6], bB [], .cells 56 [.sl 14 0 1 0 a6]] = some (Zam a1 a2 a3 a4 a5 a6 a7 a8 a9 r, Zan a1 a2 a3 a4 a5 a6 a7 a8 a9 r) := by
 unfold Fj at h
 apply bn h; intro r1 h1 h
 cases r1 with
 | k0 x1_0 x1_1 =>
  obtain ⟨g1, e1⟩ := Ls a1 a2 a3 a4 a5 a6 a7 a8 a9 () _ h1
  rw [← sj h]
  exact fc [(2002000, .l (.brk 2000000) (Je g1 a1 a2 a3 a4 a5 a6 a7 x1_0 x1_1)), (6000, .d true)] (apc (Fi a1 a2 a3 a4 a5 a6 a7 a8 a9) (apc (e1 : Wn a1 a2 a3 a4 a5 a6 a7 a8 a9 = some ((.brk 2000000), Je g1 a1 a2 a3 a4 a5 a6 a7 x1_0 x1_1)) apn))
inductive R_F62_2 where
  | k0 (x0 : List SetD) (x1 : List Bool)
def Zao (a1 : GramD) (a2 : List Int) (a3 : List Bool) (r : R_F62_2) : AV := match r with | .k0 x0 x1 => (.tup [ls 4 eSet x0, ls 1 Zk x1])
def Lt (a1 : GramD) (a2 : List Int) (a3 : List Bool) : Option R_F62_2 :=
  ((Lk a1 a2 a3).bind fun x1 => ((Ff a1 a2).bind fun r2 => match r2 with | .k0 x2_0 x2_1 => (bif (mkOk (a1.sorts.length : Int) 32) then (bif (mkOk (a1.sorts.length : Int) 1) then ((getI a2 a1.start).bind fun x5 => ((ixN (Int.toNat (a1.sorts.length : Int)) a1.start).bind fun x6 => (((List.replicate (Int.toNat (a1.sorts.length : Int)) false)[x6]?).bind fun x7 => ((Fj a1 a2 a3 x1 x2_1 (Int.toNat (a1.sorts.length : Int)) x2_0 (List.replicate (Int.toNat (a1.sorts.length : Int)) (⟨0, 0, 0, 0⟩ : SetD)) ((List.replicate (Int.toNat (a1.sorts.length : Int)) false).set x6 (decide (x5 ≥ 0)))).bind fun r8 => match r8 with | .k0 x8_0 x8_1 => (bif (decide ((Int.toNat (a1.sorts.length : Int)) ≤ x8_0.length)) then (bif (decide ((Int.toNat (a1.sorts.length : Int)) ≤ x8_1.length)) then (some (.k0 (x8_0.take (Int.toNat (a1.sorts.length : Int))) (x8_1.take (Int.toNat (a1.sorts.length : Int))))) else none) else none))))) else none) else none)))
abbrev Jf (a1 : GramD) (a2 : List Int) (a3 : List Bool) (x1 : List SetD) (x2_1 : List Bool) : List AB := [.cells 89 [(.ro (eOp a1 a2 a3))], bS [], bB [], bS [], .cells 63 [ls 4 eSet x1], .cells 100 [(.fn 77 [.ptr 0 0])], .cells 100 [(.fn 77 [.ptr 0 0])], bB [], bB x2_1, bB [], .cells 56 [(.sl 8 0 1 0 (tS a1))]]
abbrev PJ (a1 : GramD) (a2 : List Int) (a3 : List Bool) (x1 : List SetD) (x2_1 : List Bool) (x2_0 x6 : Nat) (x5 : Int) : List AB := [.cells 89 [(.ro (eOp a1 a2 a3))], bS [], bB [], bS [], .cells 63 [ls 4 eSet x1], .cells 100 [(.fn 77 [.ptr 0 0])], .cells 100 [(.fn 77 [.ptr 0 0])], bB [], bB x2_1, bB [], .cells 56 [(.sl 8 0 1 0 (tS a1))], bB [], .cells 56 [.sl 8 0 1 0 x2_0], bS (List.replicate (tS a1) (⟨0, 0, 0, 0⟩ : SetD)), bB ((List.replicate (tS a1) false).set x6 (decide (x5 ≥ 0))), bS [], .cells 63 [(.sl 13 0 4 0 (tS a1))], bB [], .cells 56 [(.sl 14 0 1 0 (tS a1))]]
abbrev PK (a1 : GramD) (a2 : List Int) (a3 : List Bool) (x1 : List SetD) (x2_1 : List Bool) (x2_0 : Nat) (x8_0 : List SetD) (x8_1 : List Bool) : List AB := [.cells 89 [(.ro (eOp a1 a2 a3))], bS [], bB [], bS [], .cells 63 [ls 4 eSet x1], .cells 100 [(.fn 77 [.ptr 0 0])], .cells 100 [(.fn 77 [.ptr 0 0])], bB [], bB x2_1, bB [], .cells 56 [(.sl 8 0 1 0 (tS a1))], bB [], .cells 56 [.sl 8 0 1 0 x2_0], bS x8_0, bB x8_1, bS [], .cells 63 [(.sl 13 0 4 0 (tS a1))], bB [], .cells 56 [(.sl 14 0 1 0 (tS a1))]]
theorem Jg (a1 : GramD) (a2 : List Int) (a3 : List Bool) {r : R_F62_2} (h : Lt a1 a2 a3 = some r) : PR2 prg 62 [(.ro (eOp a1 a2 a3))] (Zao a1 a2 a3 r) := by
 unfold Lt at h
 apply bn h; intro x1 h1 h
 have q0 := (((K2 a1 a2 a3 h1).cp rfl _) : CP prg 61 [(.ro (eOp a1 a2 a3))] [.cells 89 [(.ro (eOp a1 a2 a3))], bS [], bB []] = some (ls 4 eSet x1))
 apply bn h; intro r2 h2 h
 cases r2 with
 | k0 x2_0 x2_1 =>
  have q1 := ((DL a1 a2 a3 x1 h2) : CS prg 53 [(.ro (eOp a1 a2 a3)), (.fn 77 [.ptr 0 0])] [.cells 89 [(.ro (eOp a1 a2 a3))], bS [], bB [], bS [], .cells 63 [ls 4 eSet x1], .cells 100 [(.fn 77 [.ptr 0 0])]] = some ((.sl 8 0 1 0 x2_0), Jf a1 a2 a3 x1 x2_1))
  have k2 := ka [(10, .v (ls 4 eSet x1)), (14, .r (.sl 8 0 1 0 x2_0) (Jf a1 a2 a3 x1 x2_1)), (20, .v (i6 (lS a1)))] (apc q0 (apc q1 (apc (lg a1.sorts eStr 1) apn)))
  apply bi h <;> intro h3 h
  ·
   have q3 := ((S3 (e := eSet) (z := (⟨0, 0, 0, 0⟩ : SetD)) h3 rfl) : mkA 46 4 32 [.val (.int .u64 0), .val (.int .u64 0), .val (.int .u64 0), .val (.int .u64 0)] (i6 (lS a1)) (i6 (lS a1)) 13 = some ((.sl 13 0 4 0 (tS a1)), bS (List.replicate (tS a1) (⟨0, 0, 0, 0⟩ : SetD))))
   have k4 := k2.a [(21, .r (.sl 13 0 4 0 (tS a1)) [bS (List.replicate (tS a1) (⟨0, 0, 0, 0⟩ : SetD))]), (27, .v (i6 (lS a1)))] (apc q3 (apc (lg a1.sorts eStr 1) apn))
   apply bi h <;> intro h4 h
   ·
    have q5 := ((S3 (e := Zk) (z := false) h4 rfl) : mkA 4 1 1 [.val (.bool false)] (i6 (lS a1)) (i6 (lS a1)) 14 = some ((.sl 14 0 1 0 (tS a1)), bB (List.replicate (tS a1) false)))
    have k6 := k4.a [(28, .r (.sl 14 0 1 0 (tS a1)) [bB (List.replicate (tS a1) false)])] (apc q5 apn)
    apply bn h; intro x5 h5 h
    have k7 := k6.a [(44, .v (.ro [.val (.int .i64 x5)]))] (apc (ig eI64 1 .i64 h5) apn)
    apply bn h; intro x6 h6 h
    have q8 := ((ZW h6) : idxA 1 (.sl 14 0 1 0 (tS a1)) (i6 a1.start) = some (.rp 14 0 1 x6 0))
    apply bn h; intro x7 h7 h
    have q9 := (⟨Zt (v' := (decide (x5 ≥ 0))) rfl h7 rfl rfl (Nat.le_of_ble_eq_true rfl) rfl, rfl⟩ : stA [.cells 89 [(.ro (eOp a1 a2 a3))], bS [], bB [], bS [], .cells 63 [ls 4 eSet x1], .cells 100 [(.fn 77 [.ptr 0 0])], .cells 100 [(.fn 77 [.ptr 0 0])], bB [], bB x2_1, bB [], .cells 56 [(.sl 8 0 1 0 (tS a1))], bB [], .cells 56 [.sl 8 0 1 0 x2_0], bS (List.replicate (tS a1) (⟨0, 0, 0, 0⟩ : SetD)), bB (List.replicate (tS a1) false), bS [], .cells 63 [(.sl 13 0 4 0 (tS a1))], bB [], .cells 56 [(.sl 14 0 1 0 (tS a1))]] 1 (.rp 14 0 1 x6 0) (vb (decide (x5 ≥ 0))) = some (PJ a1 a2 a3 x1 x2_1 x2_0 x6 x5) ∧ ud = ud)
    have k10 := k7.a [(47, .v (.rp 14 0 1 x6 0)), (1047, .r ud (PJ a1 a2 a3 x1 x2_1 x2_0 x6 x5))] (apc q8 (apc q9 apn))
    apply bn h; intro r8 h8 h
    cases r8 with
    | k0 x8_0 x8_1 =>
     have q11 := ((DO a1 a2 a3 x1 x2_1 (tS a1) x2_0 (List.replicate (tS a1) (⟨0, 0, 0, 0⟩ : SetD)) ((List.replicate (tS a1) false).set x6 (decide (x5 ≥ 0))) h8) : CS prg 46 [(.ro (eOp a1 a2 a3)), (.fn 78 [.ptr 12 0, .ptr 5 0, .ptr 0 0, .ptr 16 0, .ptr 18 0, .ptr 4 0])] (PJ a1 a2 a3 x1 x2_1 x2_0 x6 x5) = some ((.tup []), PK a1 a2 a3 x1 x2_1 x2_0 x8_0 x8_1))
     have k12 := k10.a [(50, .r (.tup []) (PK a1 a2 a3 x1 x2_1 x2_0 x8_0 x8_1))] (apc q11 apn)
     apply bi h <;> intro h9 h
     ·
      apply bi h <;> intro h10 h
      ·
       rw [← sj h]
       exact fpn (v := (.tup [(.sl 13 0 4 0 (tS a1)), (.sl 14 0 1 0 (tS a1))])) (h' := (PK a1 a2 a3 x1 x2_1 x2_0 x8_0 x8_1)) (kH k12) (k12.b apn) (XR (Zg (ZR (e := eSet) rfl h9) (Zg (ZR (e := Zk) rfl h10) Zv))) rfl (XR (Zg (ZR (e := eSet) (getq rfl (W4 (fun _ => rfl))) h9) (Zg (ZR (e := Zk) (getq rfl (W4 (fun _ => rfl))) h10) Zv))) (by kernel_rfl)
      ·
       cases h
     ·
      cases h
   ·
    cases h
  ·
   cases h
inductive R_F32 where
  | k0 (x0 : List SetD) (x1 : Int)
def ZcA (a1 : GramD) (r : R_F32) : AV := match r with | .k0 x0 x1 => (.tup [ls 4 eSet x0, i6 x1])
def F32 (a1 : GramD) : Option R_F32 :=
  ((F45 a1).bind fun r1 => match r1 with | .k0 x1_0 => (bif (x1_0 != 0) then (some (.k0 ([]) x1_0)) else none) | .k1 x1_0 x1_1 x1_2 x1_3 x1_4 x1_5 x1_6 => ((Lt (⟨x1_0, x1_1, x1_2, x1_3, x1_4⟩ : GramD) x1_5 x1_6).bind fun r2 => match r2 with | .k0 x2_0 x2_1 => (some (.k0 x2_0 0))))
theorem Zbj (a1 : GramD) {r : R_F32} (h : F32 a1 = some r) : PR1 prg 32 [aG a1] (ZcA a1 r) := by
 unfold F32 at h
 apply bn h; intro r1 h1 h
 cases r1 with
 | k0 x1_0 =>
  have q0 := (((QE a1 h1).cp rfl _) : CP prg 45 [aG a1] [bG a1, bS []] = some (.tup [(.p (.val (.pointer .none))), i6 x1_0]))
  have k1 := ka [(10, .v (.tup [(.p (.val (.pointer .none))), i6 x1_0]))] (apc q0 apn)
  apply bi h <;> intro h2 h
  ·
   rw [← sj h]
   exact fpo (v := (.tup [.sl 2 0 4 0 0, i6 x1_0])) (h' := [bG a1, bS [], bS []]) (kH k1 ++ [(14, .d true)]) (k1.b (av h2 apn)) (XR (Zg (ZR (e := eSet) (xs := []) rfl rfl) (Zg rfl Zv))) (by kernel_rfl)
  ·
   cases h
 | k1 x1_0 x1_1 x1_2 x1_3 x1_4 x1_5 x1_6 =>
  apply bn h; intro r2 h2 h
  cases r2 with
  | k0 x2_0 x2_1 =>
   rw [← sj h]
   exact fq [(10, .v (.tup [(.ro [.lst 1 (x1_0.map eStr), .lst 7 (x1_1.map Zl), .val (.int .i64 x1_2), .lst 3 (x1_3.map Z6), .lst 5 (x1_4.map Z8), .lst 1 (x1_5.map eI64), .lst 1 (x1_6.map Zk)]), i6 0])), (18, .v (.tup [ls 4 eSet x2_0, ls 1 Zk x2_1]))] (apc (((QE a1 h1).cp rfl _) : CP prg 45 [aG a1] [bG a1, bS []] = some (.tup [(.ro [.lst 1 (x1_0.map eStr), .lst 7 (x1_1.map Zl), .val (.int .i64 x1_2), .lst 3 (x1_3.map Z6), .lst 5 (x1_4.map Z8), .lst 1 (x1_5.map eI64), .lst 1 (x1_6.map Zk)]), i6 0])) (apc (((Jg (⟨x1_0, x1_1, x1_2, x1_3, x1_4⟩ : GramD) x1_5 x1_6 h2).cp rfl _) : CP prg 62 [(.ro [.lst 1 (x1_0.map eStr), .lst 7 (x1_1.map Zl), .val (.int .i64 x1_2), .lst 3 (x1_3.map Z6), .lst 5 (x1_4.map Z8), .lst 1 (x1_5.map eI64), .lst 1 (x1_6.map Zk)])] [bG a1, bS []] = some (.tup [ls 4 eSet x2_0, ls 1 Zk x2_1])) apn))
inductive R_F33 where
  | k0 (x0 : List Bool) (x1 : Int)
def ZcB (a1 : GramD) (r : R_F33) : AV := match r with | .k0 x0 x1 => (.tup [ls 1 Zk x0, i6 x1])
def F33 (a1 : GramD) : Option R_F33 :=
  ((F45 a1).bind fun r1 => match r1 with | .k0 x1_0 => (bif (x1_0 != 0) then (some (.k0 ([]) x1_0)) else none) | .k1 x1_0 x1_1 x1_2 x1_3 x1_4 x1_5 x1_6 => ((Lt (⟨x1_0, x1_1, x1_2, x1_3, x1_4⟩ : GramD) x1_5 x1_6).bind fun r2 => match r2 with | .k0 x2_0 x2_1 => (some (.k0 x2_1 0))))
theorem Zbk (a1 : GramD) {r : R_F33} (h : F33 a1 = some r) : PR1 prg 33 [aG a1] (ZcB a1 r) := by
 unfold F33 at h
 apply bn h; intro r1 h1 h
 cases r1 with
 | k0 x1_0 =>
  have q0 := (((QE a1 h1).cp rfl _) : CP prg 45 [aG a1] [bG a1, bB []] = some (.tup [(.p (.val (.pointer .none))), i6 x1_0]))
  have k1 := ka [(10, .v (.tup [(.p (.val (.pointer .none))), i6 x1_0]))] (apc q0 apn)
  apply bi h <;> intro h2 h
  ·
   rw [← sj h]
   exact fpo (v := (.tup [.sl 2 0 1 0 0, i6 x1_0])) (h' := [bG a1, bB [], bB []]) (kH k1 ++ [(14, .d true)]) (k1.b (av h2 apn)) (XR (Zg (ZR (e := Zk) (xs := []) rfl rfl) (Zg rfl Zv))) (by kernel_rfl)
  ·
   cases h
 | k1 x1_0 x1_1 x1_2 x1_3 x1_4 x1_5 x1_6 =>
  apply bn h; intro r2 h2 h
  cases r2 with
  | k0 x2_0 x2_1 =>
   rw [← sj h]
   exact fq [(10, .v (.tup [(.ro [.lst 1 (x1_0.map eStr), .lst 7 (x1_1.map Zl), .val (.int .i64 x1_2), .lst 3 (x1_3.map Z6), .lst 5 (x1_4.map Z8), .lst 1 (x1_5.map eI64), .lst 1 (x1_6.map Zk)]), i6 0])), (18, .v (.tup [ls 4 eSet x2_0, ls 1 Zk x2_1]))] (apc (((QE a1 h1).cp rfl _) : CP prg 45 [aG a1] [bG a1, bB []] = some (.tup [(.ro [.lst 1 (x1_0.map eStr), .lst 7 (x1_1.map Zl), .val (.int .i64 x1_2), .lst 3 (x1_3.map Z6), .lst 5 (x1_4.map Z8), .lst 1 (x1_5.map eI64), .lst 1 (x1_6.map Zk)]), i6 0])) (apc (((Jg (⟨x1_0, x1_1, x1_2, x1_3, x1_4⟩ : GramD) x1_5 x1_6 h2).cp rfl _) : CP prg 62 [(.ro [.lst 1 (x1_0.map eStr), .lst 7 (x1_1.map Zl), .val (.int .i64 x1_2), .lst 3 (x1_3.map Z6), .lst 5 (x1_4.map Z8), .lst 1 (x1_5.map eI64), .lst 1 (x1_6.map Zk)])] [bG a1, bB []] = some (.tup [ls 4 eSet x2_0, ls 1 Zk x2_1])) apn))
def ZcC (a1 : Int) (x0 : Int) : AV := (i6 x0)
def F15 (a1 : Int) : Option Int :=
  (some a1)
theorem UI (a1 : Int) {r : Int} (h : F15 a1 = some r) : PR1 prg 15 [i6 a1] (ZcC a1 r) := by
 unfold F15 at h
 rw [← sj h]
 exact fq [] apn
inductive E_L24_0 where
  | k0
section
variable (a1 : List Bool)
def Fk : Option (E_L24_0 ⊕ (Unit)) :=
  (bif (decide (0 < (a1.length : Int))) then ((getI a1 0).bind fun x2 => none) else (some (.inl (.k0))))
def Fl : St := ⟨fr 47 ug [(0, ls 1 Zk a1), (1, n0), (9, i6 0)], []⟩
theorem Zap : okT 0 (Fl a1).h = true := (Zr rfl rfl)
abbrev Tl := evH prg 0 [0, 1, 9] MC (Fl a1)
def Lu (e : E_L24_0) (r : Option (Out × St)) : Prop := match e with | .k0 => ∃ g, r = some ((.brk 0), ⟨fr 47 g [(0, ls 1 Zk a1), (1, n0)], []⟩)
theorem DP {r : E_L24_0 ⊕ (Unit)} (h : Fk a1 = some r) : OkR (fun e => Lu a1 e (Tl a1)) (fun s => Tl a1 = Tl a1) r := by
 unfold Fk at h
 have k0 := ka [(34, .v (i6 (a1.length : Int)))] (apc (lg a1 Zk 1) apn)
 apply bi h <;> intro h1 h
 ·
  apply bn h; intro x2 h2 h
  cases h
 ·
  rw [← sj h]
  exact xb (kH k0 ++ [(35, .d false), (6000, .d true)]) (k0.b (av h1 apn))
theorem Fm (s0 : Unit) (e : E_L24_0) (h : runL (fun s => Fk a1) s0 = some e) : Lu a1 e (Tl a1) := by
  have q := @Zb (Unit) E_L24_0 (fun s => Fk a1) (fun s => Tl a1) (Lu a1) (fun s r h => DP a1 h) s0 e h
  exact q
end
def ZcD (a1 : List Bool) (a2 a3 : Int) (x0 : Bool) : AV := (vb x0)
def F24 (a1 : List Bool) (a2 a3 : Int) : Option Bool :=
  ((F15 a2).bind fun x1 => (bif (x1 != a3) then ((F15 a2).bind fun x3 => (bif (x3 == a3) then (some ((a1.length : Int) == 0)) else (some false))) else (bif (a3 != 0) then ((F15 a2).bind fun x4 => (bif (x4 == a3) then (some ((a1.length : Int) == 0)) else (some false))) else (bif ((a1.length : Int) != 0) then (some false) else ((runL (fun s => Fk a1) ()).bind fun r5 => match r5 with | .k0 => (some true))))))
abbrev C0 (g5 : Nat → AV) (a1 : List Bool) : St := ⟨fr 47 g5 [(0, ls 1 Zk a1), (1, n0)], []⟩
theorem C1 (a1 : List Bool) (a2 a3 : Int) {r : Bool} (h : F24 a1 a2 a3 = some r) : PR1 prg 24 [ls 1 Zk a1, n0, i6 a2, i6 a3] (ZcD a1 a2 a3 r) := by
 unfold F24 at h
 apply bn h; intro x1 h1 h
 have q0 := (((UI a2 h1).cp rfl _) : CP prg 15 [i6 a2] [] = some (i6 x1))
 apply bi h <;> intro h2 h
 ·
  have k1 := ka [(11, .v (i6 x1)), (13, .d true)] (apc q0 (av h2 apn))
  apply bn h; intro x3 h3 h
  have q2 := (((UI a2 h3).cp rfl _) : CP prg 15 [i6 a2] [] = some (i6 x3))
  apply bi h <;> intro h4 h
  ·
   rw [← sj h]
   exact fq (kH k1 ++ [(19, .v (i6 x3)), (21, .d true), (24, .v (i6 (a1.length : Int)))]) (k1.b (apc q2 (av h4 (apc (lg a1 Zk 1) apn))))
  ·
   rw [← sj h]
   exact fq (kH k1 ++ [(19, .v (i6 x3)), (21, .d false)]) (k1.b (apc q2 (av h4 apn)))
 ·
  have k3 := ka [(11, .v (i6 x1)), (13, .d false)] (apc q0 (av h2 apn))
  apply bi h <;> intro h3 h
  ·
   apply bn h; intro x4 h4 h
   have q4 := (((UI a2 h4).cp rfl _) : CP prg 15 [i6 a2] [] = some (i6 x4))
   have k5 := k3.a [(16, .d true), (19, .v (i6 x4))] (av h3 (apc q4 apn))
   apply bi h <;> intro h5 h
   ·
    rw [← sj h]
    exact fq (kH k5 ++ [(21, .d true), (24, .v (i6 (a1.length : Int)))]) (k5.b (av h5 (apc (lg a1 Zk 1) apn)))
   ·
    rw [← sj h]
    exact fq (kH k5 ++ [(21, .d false)]) (k5.b (av h5 apn))
  ·
   have k6 := k3.a [(16, .d false), (28, .v (i6 (a1.length : Int)))] (av h3 (apc (lg a1 Zk 1) apn))
   apply bi h <;> intro h4 h
   ·
    rw [← sj h]
    exact fq (kH k6 ++ [(31, .d true)]) (k6.b (av h4 apn))
   ·
    apply bn h; intro r5 h5 h
    cases r5 with
    | k0 =>
     obtain ⟨g5, e5⟩ := Fm a1 () _ h5
     rw [← sj h]
     exact fq (kH k6 ++ [(31, .d false), (2000, .l (.brk 0) (C0 g5 a1)), (6000, .d true)]) (k6.b (av h4 (apc (Zap a1) (apc (e5 : Tl a1 = some ((.brk 0), C0 g5 a1)) apn))))
inductive E_L16_2 where
  | k0 (x0 : List Int)
section
variable (a1 : Nat) (a2 : GramD)
abbrev PL (l : List AB) : List AB := bG a2 :: bI [] :: l
def PM (v1 : Int) (v2 : List Int) : Option (E_L16_2 ⊕ (Int × (List Int))) :=
  (bif (decide (v1 < ((a1 : Nat) : Int))) then ((ixN a1 v1).bind fun x2 => ((v2[x2]?).bind fun x3 => (some (.inr ((IntKind.wrap .i64 (v1 + 1)), (v2.set x2 (-1))))))) else (some (.inl (.k0 v2))))
def Fn (v1 : Int) (v2 : List Int) : St := ⟨fr 67 ug [(1, .ptr 0 0), (3, .sl 2 0 1 0 a1), (4, i6 v1)], (PL a2 [bI v2])⟩
theorem Fo (v1 : Int) (v2 : List Int) : okT 3 (Fn a1 a2 v1 v2).h = true := (Zr rfl (ac (ar (ar rfl))))
abbrev Tm (v1 : Int) (v2 : List Int) := evH prg 3 [1, 3, 4] H7 (Fn a1 a2 v1 v2)
def Lv (e : E_L16_2) (r : Option (Out × St)) : Prop := match e with | .k0 x0 => ∃ g, r = some ((.brk 0), ⟨fr 67 g [(1, .ptr 0 0), (3, .sl 2 0 1 0 a1)], (PL a2 [bI x0])⟩)
abbrev Jh (v2 : List Int) (x2 : Nat) : List AB := (PL a2 [bI (v2.set x2 (-1))])
theorem DQ (v1 : Int) (v2 : List Int) {r : E_L16_2 ⊕ (Int × (List Int))} (h : PM a1 v1 v2 = some r) : OkR (fun e => Lv a1 a2 e (Tm a1 a2 v1 v2)) (fun s => Tm a1 a2 v1 v2 = Tm a1 a2 s.1 s.2) r := by
 unfold PM at h
 apply bi h <;> intro h1 h
 ·
  apply bn h; intro x2 h2 h
  apply bn h; intro x3 h3 h
  rw [← sj h]
  exact rn [(16, .d true), (21, .v (.rp 2 0 1 x2 0)), (1021, .r ud (Jh a2 v2 x2)), (6000, .d true)] (av h1 (apc ((ZW h2) : idxA 1 (.sl 2 0 1 0 a1) (i6 v1) = some (.rp 2 0 1 x2 0)) (apc (⟨Zt (v' := (-1)) rfl h3 rfl rfl (Nat.le_of_ble_eq_true rfl) rfl, rfl⟩ : stA (PL a2 [bI v2]) 1 (.rp 2 0 1 x2 0) (i6 (-1)) = some (Jh a2 v2 x2) ∧ ud = ud) (apc (Fo a1 a2 (w6 (v1 + 1)) (v2.set x2 (-1))) apn))))
 ·
  rw [← sj h]
  exact xb [(16, .d false), (6000, .d true)] (av h1 apn)
theorem Fp (s0 : Int × (List Int)) (e : E_L16_2) (h : runL (fun s => PM a1 s.1 s.2) s0 = some e) : Lv a1 a2 e (Tm a1 a2 s0.1 s0.2) := by
  have q := @Zb (Int × (List Int)) E_L16_2 (fun s => PM a1 s.1 s.2) (fun s => Tm a1 a2 s.1 s.2) (Lv a1 a2) (fun s r h => DQ a1 a2 s.1 s.2 h) s0 e h
  exact q
end
inductive E_L50_0 where
  | k0
  | k1 (x0 : Int)
section
variable (a1 : List Int) (a2 : ProdD)
def TQ (v1 v2 : Int) : Option (E_L50_0 ⊕ (Int × Int)) :=
  (bif (decide (v2 < (a2.right.length : Int))) then ((getI a2.right v2).bind fun x2 => (bif (x2.kind == 1) then ((getI a1 x2.sort).bind fun x4 => (bif (decide (x4 < 0)) then (some (.inl (.k0))) else (some (.inr ((if 1048577 < (IntKind.wrap .i64 (v1 + x4)) then 1048577 else (IntKind.wrap .i64 (v1 + x4))), (IntKind.wrap .i64 (v2 + 1))))))) else (some (.inr ((if 1048577 < (IntKind.wrap .i64 (v1 + 1)) then 1048577 else (IntKind.wrap .i64 (v1 + 1))), (IntKind.wrap .i64 (v2 + 1))))))) else (some (.inl (.k1 v1))))
def Fq (v1 v2 : Int) : St := ⟨fr 38 ug [(1, ls 1 eI64 a1), (2, .ptr 0 0), (5, i6 v1), (6, i6 v2)], [bP a2]⟩
theorem PN (v1 v2 : Int) : okT 1 (Fq a1 a2 v1 v2).h = true := (Zr rfl (ac rfl))
abbrev Uh (v1 v2 : Int) := evH prg 1 [1, 2, 5, 6] Gk (Fq a1 a2 v1 v2)
def Lw (e : E_L50_0) (r : Option (Out × St)) : Prop := match e with | .k0 => ∃ g y, r = some (.ret, ⟨fr 38 g [(4, (i6 (-1)))], y⟩) | .k1 x0 => ∃ g, r = some ((.brk 0), ⟨fr 38 g [(5, i6 x0)], [bP a2]⟩)
theorem DR (v1 v2 : Int) {r : E_L50_0 ⊕ (Int × Int)} (h : TQ a1 a2 v1 v2 = some r) : OkR (fun e => Lw a2 e (Uh a1 a2 v1 v2)) (fun s => Uh a1 a2 v1 v2 = Uh a1 a2 s.1 s.2) r := by
 unfold TQ at h
 have k0 := ka [(11, .v (i6 (a2.right.length : Int)))] (apc (lg a2.right eSym 6) apn)
 apply bi h <;> intro h1 h
 ·
  apply bn h; intro x2 h2 h
  have k1 := k0.a [(12, .d true), (18, .v (.ro (eSym x2)))] (av h1 (apc (ig eSym 6 .i64 h2) apn))
  apply bi h <;> intro h3 h
  ·
   have k2 := k1.a [(21, .d true), (26, .v (.ro (eSym x2)))] (av h3 (apc (ig eSym 6 .i64 h2) apn))
   apply bn h; intro x4 h4 h
   have k3 := k2.a [(29, .v (.ro [.val (.int .i64 x4)]))] (apc (ig eI64 1 .i64 h4) apn)
   apply bi h <;> intro h5 h
   ·
    rw [← sj h]
    exact xy (kH k3 ++ [(32, .d true), (6000, .d true)]) (k3.b (av h5 apn))
   ·
    rw [← sj h]
    exact rn (kH k3 ++ [(32, .d false), (6000, .d true)]) (k3.b (av h5 (apc (PN a1 a2 (if 1048577 < (w6 (v1 + x4)) then 1048577 else (w6 (v1 + x4))) (w6 (v2 + 1))) apn)))
  ·
   rw [← sj h]
   exact rn (kH k1 ++ [(21, .d false), (6000, .d true)]) (k1.b (av h3 (apc (PN a1 a2 (if 1048577 < (w6 (v1 + 1)) then 1048577 else (w6 (v1 + 1))) (w6 (v2 + 1))) apn)))
 ·
  rw [← sj h]
  exact xb (kH k0 ++ [(12, .d false), (6000, .d true)]) (k0.b (av h1 apn))
theorem NA (s0 : Int × Int) (e : E_L50_0) (h : runL (fun s => TQ a1 a2 s.1 s.2) s0 = some e) : Lw a2 e (Uh a1 a2 s0.1 s0.2) := by
  have q := @Zb (Int × Int) E_L50_0 (fun s => TQ a1 a2 s.1 s.2) (fun s => Uh a1 a2 s.1 s.2) (Lw a2) (fun s r h => DR a1 a2 s.1 s.2 h) s0 e h
  exact q
end
def ZcE (a1 : ProdD) (a2 : List Int) (x0 : Int) : AV := (i6 x0)
def F50 (a1 : ProdD) (a2 : List Int) : Option Int :=
  ((runL (fun s => TQ a2 a1 s.1 s.2) (0, 0)).bind fun r1 => match r1 with | .k0 => (some (-1)) | .k1 x1_0 => (some x1_0))
theorem Fr (a1 : ProdD) (a2 : List Int) {r : Int} (h : F50 a1 a2 = some r) : PR1 prg 50 [aP a1, ls 1 eI64 a2] (ZcE a1 a2 r) := by
 unfold F50 at h
 apply bn h; intro r1 h1 h
 cases r1 with
 | k0 =>
  obtain ⟨g1, y1, e1⟩ := NA a2 a1 (0, 0) _ h1
  rw [← sj h]
  exact fq [(2000, .l .ret ⟨fr 38 g1 [(4, (i6 (-1)))], y1⟩), (6000, .d true)] (apc (PN a2 a1 0 0) (apc (e1 : Uh a2 a1 0 0 = some (.ret, ⟨fr 38 g1 [(4, (i6 (-1)))], y1⟩)) apn))
 | k1 x1_0 =>
  obtain ⟨g1, e1⟩ := NA a2 a1 (0, 0) _ h1
  rw [← sj h]
  exact fq [(2000, .l (.brk 0) ⟨fr 38 g1 [(5, i6 x1_0)], [bP a1]⟩), (6000, .d true)] (apc (PN a2 a1 0 0) (apc (e1 : Uh a2 a1 0 0 = some ((.brk 0), ⟨fr 38 g1 [(5, i6 x1_0)], [bP a1]⟩)) apn))
def ZcF (a1 : ProdD) (x0 : Bool) : AV := (vb x0)
def F51 (a1 : ProdD) : Option Bool :=
  (some (a1.role != 11))
theorem QQ (a1 : ProdD) {r : Bool} (h : F51 a1 = some r) : PR1 prg 51 [aP a1] (ZcF a1 r) := by
 unfold F51 at h
 rw [← sj h]
 exact fq [] apn
inductive E_L16_0 where
  | k0 (x0 : Bool) (x1 : List Int)
section
variable (a1 : Nat) (a2 : GramD)
abbrev PO (l : List AB) : List AB := bG a2 :: bI [] :: l
def PP (v1 : Bool) (v2 : Int) (v3 : List Int) : Option (E_L16_0 ⊕ (Bool × Int × (List Int))) :=
  (bif (decide (v2 < (a2.prods.length : Int))) then ((getI a2.prods v2).bind fun x2 => (bif (decide (a1 ≤ v3.length)) then ((F50 x2 (v3.take a1)).bind fun x4 => ((F51 x2).bind fun x5 => (bif x5 then (bif (decide (x4 ≥ 0)) then ((ixN a1 x2.left).bind fun x8 => ((v3[x8]?).bind fun x9 => (bif (decide (x9 < 0)) then (some (.inr (true, (IntKind.wrap .i64 (v2 + 1)), v3.set x8 x4))) else (bif (decide (x4 < x9)) then (some (.inr (true, (IntKind.wrap .i64 (v2 + 1)), v3.set x8 x4))) else (some (.inr (v1, (IntKind.wrap .i64 (v2 + 1)), v3))))))) else (some (.inr (v1, (IntKind.wrap .i64 (v2 + 1)), v3)))) else (some (.inr (v1, (IntKind.wrap .i64 (v2 + 1)), v3)))))) else none)) else (some (.inl (.k0 v1 v3))))
def Fs (v1 : Bool) (v2 : Int) (v3 : List Int) : St := ⟨fr 67 ug [(1, .ptr 0 0), (3, .sl 2 0 1 0 a1), (5, vb v1), (6, i6 v2)], (PO a2 [bI v3])⟩
theorem Ru (v1 : Bool) (v2 : Int) (v3 : List Int) : okT 3 (Fs a1 a2 v1 v2 v3).h = true := (Zr rfl (ac (ar (ar rfl))))
abbrev Tn (v1 : Bool) (v2 : Int) (v3 : List Int) := evH prg 3 [1, 3, 5, 6] H5 (Fs a1 a2 v1 v2 v3)
def Lx (e : E_L16_0) (r : Option (Out × St)) : Prop := match e with | .k0 x0 x1 => ∃ g, r = some ((.brk 4), ⟨fr 67 g [(1, .ptr 0 0), (3, .sl 2 0 1 0 a1), (5, vb x0)], (PO a2 [bI x1])⟩)
abbrev UJ (v3 : List Int) (x2 : ProdD) : List AB := (PO a2 [bI v3, yY0, bP x2])
abbrev PQ (v3 : List Int) (x8 : Nat) (x4 : Int) (x2 : ProdD) : List AB := (PO a2 [bI (v3.set x8 x4), yY0, bP x2])
theorem DT (v1 : Bool) (v2 : Int) (v3 : List Int) {r : E_L16_0 ⊕ (Bool × Int × (List Int))} (h : PP a1 a2 v1 v2 v3 = some r) : OkR (fun e => Lx a1 a2 e (Tn a1 a2 v1 v2 v3)) (fun s => Tn a1 a2 v1 v2 v3 = Tn a1 a2 s.1 s.2.1 s.2.2) r := by
 unfold PP at h
 have k0 := ka [(26, .v (i6 (lP a2)))] (apc (lg a2.prods Zl 7) apn)
 apply bi h <;> intro h1 h
 ·
  apply bn h; intro x2 h2 h
  have k1 := k0.a [(27, .d true), (33, .v (.ro (Zl x2)))] (av h1 (apc (ig Zl 7 .i64 h2) apn))
  apply bi h <;> intro h3 h
  ·
   apply bn h; intro x4 h4 h
   have q2 := (((Fr x2 (v3.take a1) h4).own rfl (Zg rfl (Zg (ZR (e := eI64) rfl h3) Zv)) rfl) : CP prg 50 [aP x2, .sl 2 0 1 0 a1] (UJ a2 v3 x2) = some (i6 x4))
   apply bn h; intro x5 h5 h
   apply bi h <;> intro h6 h
   ·
    have q3 := ((((QQ x2 h5).cp rfl _).trans (congrArg (fun z => some (vb z)) h6)) : CP prg 51 [aP x2] (UJ a2 v3 x2) = some (vb true))
    have k4 := k1.a [(37, .v (i6 x4)), (39, .v (vb true))] (apc q2 (apc q3 apn))
    apply bi h <;> intro h7 h
    ·
     apply bn h; intro x8 h8 h
     have q5 := ((ZW h8) : idxA 1 (.sl 2 0 1 0 a1) (i6 x2.left) = some (.rp 2 0 1 x8 0))
     have q6 := (Ru a1 a2 true (w6 (v2 + 1)) (v3.set x8 x4))
     have k7 := k4.a [(42, .d true), (48, .v (.rp 2 0 1 x8 0))] (av h7 (apc q5 apn))
     apply bn h; intro x9 h9 h
     have q8 := ((Zp rfl h9 rfl) : ldA (UJ a2 v3 x2) .false 1 (.rp 2 0 1 x8 0) = some (i6 x9))
     have q9 := (⟨Zt (v' := x4) rfl h9 rfl rfl (Nat.le_of_ble_eq_true rfl) rfl, rfl⟩ : stA (UJ a2 v3 x2) 1 (.rp 2 0 1 x8 0) (i6 x4) = some (PQ a2 v3 x8 x4 x2) ∧ ud = ud)
     apply bi h <;> intro h10 h
     ·
      rw [← sj h]
      exact rn (kH k7 ++ [(49, .v (i6 x9)), (50, .d true), (65, .v (.rp 2 0 1 x8 0)), (1065, .r ud (PQ a2 v3 x8 x4 x2)), (6000, .d true)]) (k7.b (apc q8 (av h10 (apc q5 (apc q9 (apc q6 apn))))))
     ·
      have k10 := k7.a [(49, .v (i6 x9)), (50, .d false), (56, .v (.rp 2 0 1 x8 0)), (57, .v (i6 x9))] (apc q8 (av h10 (apc q5 (apc q8 apn))))
      apply bi h <;> intro h11 h
      ·
       rw [← sj h]
       exact rn (kH k10 ++ [(58, .d true), (65, .v (.rp 2 0 1 x8 0)), (1065, .r ud (PQ a2 v3 x8 x4 x2)), (6000, .d true)]) (k10.b (av h11 (apc q5 (apc q9 (apc q6 apn)))))
      ·
       rw [← sj h]
       exact rn (kH k10 ++ [(58, .d false), (6000, .d true)]) (k10.b (av h11 (apc (Ru a1 a2 v1 (w6 (v2 + 1)) v3) apn)))
    ·
     rw [← sj h]
     exact rn (kH k4 ++ [(42, .d false), (6000, .d true)]) (k4.b (av h7 (apc (Ru a1 a2 v1 (w6 (v2 + 1)) v3) apn)))
   ·
    rw [← sj h]
    exact rn (kH k1 ++ [(37, .v (i6 x4)), (39, .v (vb false)), (6000, .d true)]) (k1.b (apc q2 (apc ((((QQ x2 h5).cp rfl _).trans (congrArg (fun z => some (vb z)) h6)) : CP prg 51 [aP x2] (UJ a2 v3 x2) = some (vb false)) (apc (Ru a1 a2 v1 (w6 (v2 + 1)) v3) apn))))
  ·
   cases h
 ·
  rw [← sj h]
  exact xb (kH k0 ++ [(27, .d false), (6000, .d true)]) (k0.b (av h1 apn))
theorem Ft (s0 : Bool × Int × (List Int)) (e : E_L16_0) (h : runL (fun s => PP a1 a2 s.1 s.2.1 s.2.2) s0 = some e) : Lx a1 a2 e (Tn a1 a2 s0.1 s0.2.1 s0.2.2) := by
  have q := @Zb (Bool × Int × (List Int)) E_L16_0 (fun s => PP a1 a2 s.1 s.2.1 s.2.2) (fun s => Tn a1 a2 s.1 s.2.1 s.2.2) (Lx a1 a2) (fun s r h => DT a1 a2 s.1 s.2.1 s.2.2 h) s0 e h
  exact q
end
inductive E_L16_1 where
  | k0 (x0 : List Int)
section
variable (a1 : Nat) (a2 : GramD)
def Rv (v1 : Bool) (v2 : List Int) : Option (E_L16_1 ⊕ (Bool × (List Int))) :=
  (bif v1 then ((runL (fun s => PP a1 a2 s.1 s.2.1 s.2.2) (false, 0, v2)).bind fun r2 => match r2 with | .k0 x2_0 x2_1 => (some (.inr (x2_0, x2_1)))) else (some (.inl (.k0 v2))))
def Fu (v1 : Bool) (v2 : List Int) : St := ⟨fr 67 ug [(1, .ptr 0 0), (3, .sl 2 0 1 0 a1), (5, vb v1)], [bG a2, bI [], bI v2]⟩
theorem Fv (v1 : Bool) (v2 : List Int) : okT 3 (Fu a1 a2 v1 v2).h = true := (Zr rfl (ac (ar (ar rfl))))
abbrev To (v1 : Bool) (v2 : List Int) := evH prg 3 [1, 3, 5] H6 (Fu a1 a2 v1 v2)
def Ly (e : E_L16_1) (r : Option (Out × St)) : Prop := match e with | .k0 x0 => ∃ g, r = some ((.brk 2), ⟨fr 67 g [(1, .ptr 0 0), (3, .sl 2 0 1 0 a1)], [bG a2, bI [], bI x0]⟩)
abbrev Ji (g2 : Nat → AV) (x2_0 : Bool) (x2_1 : List Int) : St := ⟨fr 67 g2 [(1, .ptr 0 0), (3, .sl 2 0 1 0 a1), (5, vb x2_0)], [bG a2, bI [], bI x2_1]⟩
theorem DU (v1 : Bool) (v2 : List Int) {r : E_L16_1 ⊕ (Bool × (List Int))} (h : Rv a1 a2 v1 v2 = some r) : OkR (fun e => Ly a1 a2 e (To a1 a2 v1 v2)) (fun s => To a1 a2 v1 v2 = To a1 a2 s.1 s.2) r := by
 unfold Rv at h
 apply bi h <;> intro h1 h
 ·
  apply bn h; intro r2 h2 h
  cases r2 with
  | k0 x2_0 x2_1 =>
   obtain ⟨g2, e2⟩ := Ft a1 a2 (false, 0, v2) _ h2
   rw [← sj h]
   exact rn [(22, .d true), (2004, .l (.brk 4) (Ji a1 a2 g2 x2_0 x2_1)), (6000, .d true)] (av h1 (apc (Ru a1 a2 false 0 v2) (apc (e2 : Tn a1 a2 false 0 v2 = some ((.brk 4), Ji a1 a2 g2 x2_0 x2_1)) (apc (Fv a1 a2 x2_0 x2_1) apn))))
 ·
  rw [← sj h]
  exact xb [(22, .d false), (6000, .d true)] (av h1 apn)
theorem Fw (s0 : Bool × (List Int)) (e : E_L16_1) (h : runL (fun s => Rv a1 a2 s.1 s.2) s0 = some e) : Ly a1 a2 e (To a1 a2 s0.1 s0.2) := by
  have q := @Zb (Bool × (List Int)) E_L16_1 (fun s => Rv a1 a2 s.1 s.2) (fun s => To a1 a2 s.1 s.2) (Ly a1 a2) (fun s r h => DU a1 a2 s.1 s.2 h) s0 e h
  exact q
end
def ZcG (a1 : GramD) (x0 : (List Int)) : AV := (ls 1 eI64 x0)
def F16 (a1 : GramD) : Option (List Int) :=
  (bif (mkOk (a1.sorts.length : Int) 8) then ((runL (fun s => PM (Int.toNat (a1.sorts.length : Int)) s.1 s.2) (0, (List.replicate (Int.toNat (a1.sorts.length : Int)) 0))).bind fun r2 => match r2 with | .k0 x2_0 => ((runL (fun s => Rv (Int.toNat (a1.sorts.length : Int)) a1 s.1 s.2) (true, x2_0)).bind fun r3 => match r3 with | .k0 x3_0 => (bif (decide ((Int.toNat (a1.sorts.length : Int)) ≤ x3_0.length)) then (some (x3_0.take (Int.toNat (a1.sorts.length : Int)))) else none))) else none)
abbrev C2 (a1 : GramD) : List AB := [bG a1, bI [], bI (List.replicate (tS a1) 0)]
abbrev C3 (g2 : Nat → AV) (a1 : GramD) (x2_0 : List Int) : St := ⟨fr 67 g2 [(1, .ptr 0 0), (3, (.sl 2 0 1 0 (tS a1)))], [bG a1, bI [], bI x2_0]⟩
abbrev C4 (g3 : Nat → AV) (a1 : GramD) (x3_0 : List Int) : St := ⟨fr 67 g3 [(1, .ptr 0 0), (3, (.sl 2 0 1 0 (tS a1)))], [bG a1, bI [], bI x3_0]⟩
theorem Fx (a1 : GramD) {r : (List Int)} (h : F16 a1 = some r) : PR2 prg 16 [aG a1] (ZcG a1 r) := by
 unfold F16 at h
 have q0 := (Fo (tS a1) a1 0 (List.replicate (tS a1) 0))
 have k1 := ka [(11, .v (i6 (lS a1)))] (apc (lg a1.sorts eStr 1) apn)
 apply bi h <;> intro h1 h
 ·
  have q2 := ((U5 (h := [bG a1, bI []]) (e := eI64) (z := 0) h1 rfl) : (mkA 3 1 8 [.val (.int .i64 0)] (i6 (lS a1)) (i6 (lS a1)) 2).map (fun x => (x.1, [bG a1, bI []] ++ [x.2])) = some ((.sl 2 0 1 0 (tS a1)), C2 a1))
  have k3 := k1.a [(12, .r (.sl 2 0 1 0 (tS a1)) (C2 a1))] (apc q2 apn)
  apply bn h; intro r2 h2 h
  cases r2 with
  | k0 x2_0 =>
   obtain ⟨g2, e2⟩ := Fp (tS a1) a1 (0, (List.replicate (tS a1) 0)) _ h2
   have q4 := (e2 : Tm (tS a1) a1 0 (List.replicate (tS a1) 0) = some ((.brk 0), C3 g2 a1 x2_0))
   have k5 := k3.a [(2000, .l (.brk 0) (C3 g2 a1 x2_0))] (apc q0 (apc q4 apn))
   apply bn h; intro r3 h3 h
   cases r3 with
   | k0 x3_0 =>
    obtain ⟨g3, e3⟩ := Fw (tS a1) a1 (true, x2_0) _ h3
    have q6 := (e3 : To (tS a1) a1 true x2_0 = some ((.brk 2), C4 g3 a1 x3_0))
    have k7 := k5.a [(2002, .l (.brk 2) (C4 g3 a1 x3_0))] (apc (Fv (tS a1) a1 true x2_0) (apc q6 apn))
    apply bi h <;> intro h4 h
    ·
     rw [← sj h]
     exact fpn (v := (.sl 2 0 1 0 (tS a1))) (h' := [bG a1, bI [], bI x3_0]) (kH k7 ++ [(6000, .d true)]) (k7.b apn) (ZR (e := eI64) rfl h4) rfl (ZR (e := eI64) (getq rfl (W4 (fun _ => rfl))) h4) (by kernel_rfl)
    ·
     cases h
 ·
  cases h
inductive E_L27_0 where
  | k0 (x0 : List Bool)
section
variable (a1 : List Int) (a2 : Nat) (a3 : GramD)
abbrev PS (l : List AB) : List AB := bG a3 :: bB [] :: l
def R1 (v1 : Int) (v2 : List Bool) : Option (E_L27_0 ⊕ (Int × (List Bool))) :=
  (bif (decide (v1 < (a1.length : Int))) then ((getI a1 v1).bind fun x2 => ((ixN a2 v1).bind fun x3 => ((v2[x3]?).bind fun x4 => (some (.inr ((IntKind.wrap .i64 (v1 + 1)), (v2.set x3 (x2 == 0)))))))) else (some (.inl (.k0 v2))))
def Fy (v1 : Int) (v2 : List Bool) : St := ⟨fr 26 ug [(3, ls 1 eI64 a1), (4, .sl 2 0 1 0 a2), (5, i6 v1)], (PS a3 [bB v2])⟩
theorem FA (v1 : Int) (v2 : List Bool) : okT 3 (Fy a1 a2 a3 v1 v2).h = true := (Zr rfl (ac (ar (ar rfl))))
abbrev Tp (v1 : Int) (v2 : List Bool) := evH prg 3 [3, 4, 5] H8 (Fy a1 a2 a3 v1 v2)
def Lz (e : E_L27_0) (r : Option (Out × St)) : Prop := match e with | .k0 x0 => ∃ g, r = some ((.brk 0), ⟨fr 26 g [(3, ls 1 eI64 a1), (4, .sl 2 0 1 0 a2)], (PS a3 [bB x0])⟩)
abbrev Jj (v2 : List Bool) (x3 : Nat) (x2 : Int) : List AB := (PS a3 [bB (v2.set x3 (x2 == 0))])
theorem DV (v1 : Int) (v2 : List Bool) {r : E_L27_0 ⊕ (Int × (List Bool))} (h : R1 a1 a2 v1 v2 = some r) : OkR (fun e => Lz a1 a2 a3 e (Tp a1 a2 a3 v1 v2)) (fun s => Tp a1 a2 a3 v1 v2 = Tp a1 a2 a3 s.1 s.2) r := by
 unfold R1 at h
 have k0 := ka [(13, .v (i6 (a1.length : Int)))] (apc (lg a1 eI64 1) apn)
 apply bi h <;> intro h1 h
 ·
  apply bn h; intro x2 h2 h
  apply bn h; intro x3 h3 h
  apply bn h; intro x4 h4 h
  rw [← sj h]
  exact rn (kH k0 ++ [(14, .d true), (21, .v (.ro [.val (.int .i64 x2)])), (24, .v (.rp 2 0 1 x3 0)), (1024, .r ud (Jj a3 v2 x3 x2)), (6000, .d true)]) (k0.b (av h1 (apc (ig eI64 1 .i64 h2) (apc ((ZW h3) : idxA 1 (.sl 2 0 1 0 a2) (i6 v1) = some (.rp 2 0 1 x3 0)) (apc (⟨Zt (v' := (x2 == 0)) rfl h4 rfl rfl (Nat.le_of_ble_eq_true rfl) rfl, rfl⟩ : stA (PS a3 [bB v2]) 1 (.rp 2 0 1 x3 0) (vb (x2 == 0)) = some (Jj a3 v2 x3 x2) ∧ ud = ud) (apc (FA a1 a2 a3 (w6 (v1 + 1)) (v2.set x3 (x2 == 0))) apn))))))
 ·
  rw [← sj h]
  exact xb (kH k0 ++ [(14, .d false), (6000, .d true)]) (k0.b (av h1 apn))
theorem FB (s0 : Int × (List Bool)) (e : E_L27_0) (h : runL (fun s => R1 a1 a2 s.1 s.2) s0 = some e) : Lz a1 a2 a3 e (Tp a1 a2 a3 s0.1 s0.2) := by
  have q := @Zb (Int × (List Bool)) E_L27_0 (fun s => R1 a1 a2 s.1 s.2) (fun s => Tp a1 a2 a3 s.1 s.2) (Lz a1 a2 a3) (fun s r h => DV a1 a2 a3 s.1 s.2 h) s0 e h
  exact q
end
def ZcH (a1 : GramD) (x0 : (List Bool)) : AV := (ls 1 Zk x0)
def F27 (a1 : GramD) : Option (List Bool) :=
  ((F16 a1).bind fun x1 => (bif (mkOk (x1.length : Int) 1) then ((runL (fun s => R1 x1 (Int.toNat (x1.length : Int)) s.1 s.2) (0, (List.replicate (Int.toNat (x1.length : Int)) false))).bind fun r3 => match r3 with | .k0 x3_0 => (bif (decide ((Int.toNat (x1.length : Int)) ≤ x3_0.length)) then (some (x3_0.take (Int.toNat (x1.length : Int)))) else none)) else none))
abbrev C5 (a1 : GramD) (x1 : List Int) : List AB := [bG a1, bB [], bB (List.replicate (Int.toNat (x1.length : Int)) false)]
abbrev C6 (g3 : Nat → AV) (x1 : List Int) (a1 : GramD) (x3_0 : List Bool) : St := ⟨fr 26 g3 [(3, ls 1 eI64 x1), (4, (.sl 2 0 1 0 (Int.toNat (x1.length : Int))))], [bG a1, bB [], bB x3_0]⟩
theorem C7 (a1 : GramD) {r : (List Bool)} (h : F27 a1 = some r) : PR2 prg 27 [aG a1] (ZcH a1 r) := by
 unfold F27 at h
 apply bn h; intro x1 h1 h
 have q0 := (((Fx a1 h1).cp rfl _) : CP prg 16 [aG a1] [bG a1, bB []] = some (ls 1 eI64 x1))
 have q1 := (FA x1 (Int.toNat (x1.length : Int)) a1 0 (List.replicate (Int.toNat (x1.length : Int)) false))
 have k2 := ka [(7, .v (ls 1 eI64 x1)), (9, .v (i6 (x1.length : Int)))] (apc q0 (apc (lg x1 eI64 1) apn))
 apply bi h <;> intro h2 h
 ·
  have q3 := ((U5 (h := [bG a1, bB []]) (e := Zk) (z := false) h2 rfl) : (mkA 4 1 1 [.val (.bool false)] (i6 (x1.length : Int)) (i6 (x1.length : Int)) 2).map (fun x => (x.1, [bG a1, bB []] ++ [x.2])) = some ((.sl 2 0 1 0 (Int.toNat (x1.length : Int))), C5 a1 x1))
  have k4 := k2.a [(10, .r (.sl 2 0 1 0 (Int.toNat (x1.length : Int))) (C5 a1 x1))] (apc q3 apn)
  apply bn h; intro r3 h3 h
  cases r3 with
  | k0 x3_0 =>
   obtain ⟨g3, e3⟩ := FB x1 (Int.toNat (x1.length : Int)) a1 (0, (List.replicate (Int.toNat (x1.length : Int)) false)) _ h3
   have q5 := (e3 : Tp x1 (Int.toNat (x1.length : Int)) a1 0 (List.replicate (Int.toNat (x1.length : Int)) false) = some ((.brk 0), C6 g3 x1 a1 x3_0))
   have k6 := k4.a [(2000, .l (.brk 0) (C6 g3 x1 a1 x3_0))] (apc q1 (apc q5 apn))
   apply bi h <;> intro h4 h
   ·
    rw [← sj h]
    exact fpn (v := (.sl 2 0 1 0 (Int.toNat (x1.length : Int)))) (h' := [bG a1, bB [], bB x3_0]) (kH k6 ++ [(6000, .d true)]) (k6.b apn) (ZR (e := Zk) rfl h4) rfl (ZR (e := Zk) (getq rfl (W4 (fun _ => rfl))) h4) (by kernel_rfl)
   ·
    cases h
 ·
  cases h
def Zaq (a1 a2 a3 a4 a5 : Int) (x0 : Bool) : AV := (vb x0)
def LA (a1 a2 a3 a4 a5 : Int) : Option Bool :=
  (bif ((IntKind.wrap .i64 (Int.tdiv a5 64)) == 0) then (bif (decide ((Int.tmod a5 64) < 0)) then none else (some ((Int.tmod (Int.fdiv a1 (2 ^ (min (Int.toNat (Int.tmod a5 64)) (IntKind.bits .u64)))) 2) == 1))) else (bif ((IntKind.wrap .i64 (Int.tdiv a5 64)) == 1) then (bif (decide ((Int.tmod a5 64) < 0)) then none else (some ((Int.tmod (Int.fdiv a2 (2 ^ (min (Int.toNat (Int.tmod a5 64)) (IntKind.bits .u64)))) 2) == 1))) else (bif ((IntKind.wrap .i64 (Int.tdiv a5 64)) == 2) then (bif (decide ((Int.tmod a5 64) < 0)) then none else (some ((Int.tmod (Int.fdiv a3 (2 ^ (min (Int.toNat (Int.tmod a5 64)) (IntKind.bits .u64)))) 2) == 1))) else (bif ((IntKind.wrap .i64 (Int.tdiv a5 64)) == 3) then (bif (decide ((Int.tmod a5 64) < 0)) then none else (some ((Int.tmod (Int.fdiv a4 (2 ^ (min (Int.toNat (Int.tmod a5 64)) (IntKind.bits .u64)))) 2) == 1))) else none))))
theorem Vz (a1 a2 a3 a4 a5 : Int) {r : Bool} (h : LA a1 a2 a3 a4 a5 = some r) : PR1 prg 71 [(.agg [vi .u64 a1, vi .u64 a2, vi .u64 a3, vi .u64 a4]), i6 a5] (Zaq a1 a2 a3 a4 a5 r) := by
 unfold LA at h
 apply bi h <;> intro h1 h
 ·
  have q0 := ((ZX h1 (fun z => ixP 4 1 (.ptr 0 0) (i6 z)) rfl) : ixP 4 1 (.ptr 0 0) (i6 (w6 (Int.tdiv a5 64))) = some (.ptr 0 0))
  apply bi h <;> intro h2 h
  ·
   cases h
  ·
   rw [← sj h]
   exact fq [(7, .v (.ptr 0 0)), (11, .v (vi .u64 (Int.fdiv a1 (2 ^ (min (Int.toNat (Int.tmod a5 64)) (IntKind.bits .u64))))))] (apc q0 (apc ((WJ (of_decide_eq_false h2)) : binA .shr (vi .u64 a1) (i6 (Int.tmod a5 64)) = some (vi .u64 (Int.fdiv a1 (2 ^ (min (Int.toNat (Int.tmod a5 64)) (IntKind.bits .u64)))))) apn))
 ·
  apply bi h <;> intro h2 h
  ·
   have q1 := ((ZX h2 (fun z => ixP 4 1 (.ptr 0 0) (i6 z)) rfl) : ixP 4 1 (.ptr 0 0) (i6 (w6 (Int.tdiv a5 64))) = some (.ptr 0 1))
   apply bi h <;> intro h3 h
   ·
    cases h
   ·
    rw [← sj h]
    exact fq [(7, .v (.ptr 0 1)), (11, .v (vi .u64 (Int.fdiv a2 (2 ^ (min (Int.toNat (Int.tmod a5 64)) (IntKind.bits .u64))))))] (apc q1 (apc ((WJ (of_decide_eq_false h3)) : binA .shr (vi .u64 a2) (i6 (Int.tmod a5 64)) = some (vi .u64 (Int.fdiv a2 (2 ^ (min (Int.toNat (Int.tmod a5 64)) (IntKind.bits .u64)))))) apn))
  ·
   apply bi h <;> intro h3 h
   ·
    have q2 := ((ZX h3 (fun z => ixP 4 1 (.ptr 0 0) (i6 z)) rfl) : ixP 4 1 (.ptr 0 0) (i6 (w6 (Int.tdiv a5 64))) = some (.ptr 0 2))
    apply bi h <;> intro h4 h
    ·
     cases h
    ·
     rw [← sj h]
     exact fq [(7, .v (.ptr 0 2)), (11, .v (vi .u64 (Int.fdiv a3 (2 ^ (min (Int.toNat (Int.tmod a5 64)) (IntKind.bits .u64))))))] (apc q2 (apc ((WJ (of_decide_eq_false h4)) : binA .shr (vi .u64 a3) (i6 (Int.tmod a5 64)) = some (vi .u64 (Int.fdiv a3 (2 ^ (min (Int.toNat (Int.tmod a5 64)) (IntKind.bits .u64)))))) apn))
   ·
    apply bi h <;> intro h4 h
    ·
     have q3 := ((ZX h4 (fun z => ixP 4 1 (.ptr 0 0) (i6 z)) rfl) : ixP 4 1 (.ptr 0 0) (i6 (w6 (Int.tdiv a5 64))) = some (.ptr 0 3))
     apply bi h <;> intro h5 h
     ·
      cases h
     ·
      rw [← sj h]
      exact fq [(7, .v (.ptr 0 3)), (11, .v (vi .u64 (Int.fdiv a4 (2 ^ (min (Int.toNat (Int.tmod a5 64)) (IntKind.bits .u64))))))] (apc q3 (apc ((WJ (of_decide_eq_false h5)) : binA .shr (vi .u64 a4) (i6 (Int.tmod a5 64)) = some (vi .u64 (Int.fdiv a4 (2 ^ (min (Int.toNat (Int.tmod a5 64)) (IntKind.bits .u64)))))) apn))
    ·
     cases h
def Zar (a1 : SetD) (a2 : Int) (x0 : Bool) : AV := (vb x0)
def FC (a1 : SetD) (a2 : Int) : Option Bool :=
  (bif ((IntKind.wrap .i64 (Int.tdiv a2 64)) == 0) then (bif (decide ((Int.tmod a2 64) < 0)) then none else (some ((Int.tmod (Int.fdiv a1.a (2 ^ (min (Int.toNat (Int.tmod a2 64)) (IntKind.bits .u64)))) 2) == 1))) else (bif ((IntKind.wrap .i64 (Int.tdiv a2 64)) == 1) then (bif (decide ((Int.tmod a2 64) < 0)) then none else (some ((Int.tmod (Int.fdiv a1.b (2 ^ (min (Int.toNat (Int.tmod a2 64)) (IntKind.bits .u64)))) 2) == 1))) else (bif ((IntKind.wrap .i64 (Int.tdiv a2 64)) == 2) then (bif (decide ((Int.tmod a2 64) < 0)) then none else (some ((Int.tmod (Int.fdiv a1.c (2 ^ (min (Int.toNat (Int.tmod a2 64)) (IntKind.bits .u64)))) 2) == 1))) else (bif ((IntKind.wrap .i64 (Int.tdiv a2 64)) == 3) then (bif (decide ((Int.tmod a2 64) < 0)) then none else (some ((Int.tmod (Int.fdiv a1.d (2 ^ (min (Int.toNat (Int.tmod a2 64)) (IntKind.bits .u64)))) 2) == 1))) else none))))
theorem Se (a1 : SetD) (a2 : Int) {r : Bool} (h : FC a1 a2 = some r) : PR1 prg 71 [(.agg ((eSet a1).map .p)), i6 a2] (Zar a1 a2 r) := by
 unfold FC at h
 apply bi h <;> intro h1 h
 ·
  have q0 := ((ZX h1 (fun z => ixP 4 1 (.ptr 0 0) (i6 z)) rfl) : ixP 4 1 (.ptr 0 0) (i6 (w6 (Int.tdiv a2 64))) = some (.ptr 0 0))
  apply bi h <;> intro h2 h
  ·
   cases h
  ·
   rw [← sj h]
   exact fq [(7, .v (.ptr 0 0)), (11, .v (vi .u64 (Int.fdiv a1.a (2 ^ (min (Int.toNat (Int.tmod a2 64)) (IntKind.bits .u64))))))] (apc q0 (apc ((WJ (of_decide_eq_false h2)) : binA .shr (vi .u64 a1.a) (i6 (Int.tmod a2 64)) = some (vi .u64 (Int.fdiv a1.a (2 ^ (min (Int.toNat (Int.tmod a2 64)) (IntKind.bits .u64)))))) apn))
 ·
  apply bi h <;> intro h2 h
  ·
   have q1 := ((ZX h2 (fun z => ixP 4 1 (.ptr 0 0) (i6 z)) rfl) : ixP 4 1 (.ptr 0 0) (i6 (w6 (Int.tdiv a2 64))) = some (.ptr 0 1))
   apply bi h <;> intro h3 h
   ·
    cases h
   ·
    rw [← sj h]
    exact fq [(7, .v (.ptr 0 1)), (11, .v (vi .u64 (Int.fdiv a1.b (2 ^ (min (Int.toNat (Int.tmod a2 64)) (IntKind.bits .u64))))))] (apc q1 (apc ((WJ (of_decide_eq_false h3)) : binA .shr (vi .u64 a1.b) (i6 (Int.tmod a2 64)) = some (vi .u64 (Int.fdiv a1.b (2 ^ (min (Int.toNat (Int.tmod a2 64)) (IntKind.bits .u64)))))) apn))
  ·
   apply bi h <;> intro h3 h
   ·
    have q2 := ((ZX h3 (fun z => ixP 4 1 (.ptr 0 0) (i6 z)) rfl) : ixP 4 1 (.ptr 0 0) (i6 (w6 (Int.tdiv a2 64))) = some (.ptr 0 2))
    apply bi h <;> intro h4 h
    ·
     cases h
    ·
     rw [← sj h]
     exact fq [(7, .v (.ptr 0 2)), (11, .v (vi .u64 (Int.fdiv a1.c (2 ^ (min (Int.toNat (Int.tmod a2 64)) (IntKind.bits .u64))))))] (apc q2 (apc ((WJ (of_decide_eq_false h4)) : binA .shr (vi .u64 a1.c) (i6 (Int.tmod a2 64)) = some (vi .u64 (Int.fdiv a1.c (2 ^ (min (Int.toNat (Int.tmod a2 64)) (IntKind.bits .u64)))))) apn))
   ·
    apply bi h <;> intro h4 h
    ·
     have q3 := ((ZX h4 (fun z => ixP 4 1 (.ptr 0 0) (i6 z)) rfl) : ixP 4 1 (.ptr 0 0) (i6 (w6 (Int.tdiv a2 64))) = some (.ptr 0 3))
     apply bi h <;> intro h5 h
     ·
      cases h
     ·
      rw [← sj h]
      exact fq [(7, .v (.ptr 0 3)), (11, .v (vi .u64 (Int.fdiv a1.d (2 ^ (min (Int.toNat (Int.tmod a2 64)) (IntKind.bits .u64))))))] (apc q3 (apc ((WJ (of_decide_eq_false h5)) : binA .shr (vi .u64 a1.d) (i6 (Int.tmod a2 64)) = some (vi .u64 (Int.fdiv a1.d (2 ^ (min (Int.toNat (Int.tmod a2 64)) (IntKind.bits .u64)))))) apn))
    ·
     cases h
inductive R_F79_3 where
  | k0 (x0 x1 x2 x3 : Int)
def Zas (a1 a2 a3 a4 a5 : Int) (r : R_F79_3) : AV := match r with | .k0 x0 x1 x2 x3 => (.agg [vi .u64 x0, vi .u64 x1, vi .u64 x2, vi .u64 x3])
def R2 (a1 a2 a3 a4 a5 : Int) : Option R_F79_3 :=
  ((LA a1 a2 a3 a4 a5).bind fun x1 => (bif x1 then (some (.k0 a1 a2 a3 a4)) else (bif ((IntKind.wrap .i64 (Int.tdiv a5 64)) == 0) then (bif (decide ((Int.tmod a5 64) < 0)) then none else (some (.k0 (IntKind.wrap .u64 (a1 + (IntKind.wrap .u64 (1 * 2 ^ (min (Int.toNat (Int.tmod a5 64)) (IntKind.bits .u64)))))) a2 a3 a4))) else (bif ((IntKind.wrap .i64 (Int.tdiv a5 64)) == 1) then (bif (decide ((Int.tmod a5 64) < 0)) then none else (some (.k0 a1 (IntKind.wrap .u64 (a2 + (IntKind.wrap .u64 (1 * 2 ^ (min (Int.toNat (Int.tmod a5 64)) (IntKind.bits .u64)))))) a3 a4))) else (bif ((IntKind.wrap .i64 (Int.tdiv a5 64)) == 2) then (bif (decide ((Int.tmod a5 64) < 0)) then none else (some (.k0 a1 a2 (IntKind.wrap .u64 (a3 + (IntKind.wrap .u64 (1 * 2 ^ (min (Int.toNat (Int.tmod a5 64)) (IntKind.bits .u64)))))) a4))) else (bif ((IntKind.wrap .i64 (Int.tdiv a5 64)) == 3) then (bif (decide ((Int.tmod a5 64) < 0)) then none else (some (.k0 a1 a2 a3 (IntKind.wrap .u64 (a4 + (IntKind.wrap .u64 (1 * 2 ^ (min (Int.toNat (Int.tmod a5 64)) (IntKind.bits .u64))))))))) else none))))))
abbrev Jk (a1 a2 a3 a4 : Int) : List AB := [.cells 46 [vi .u64 a1, vi .u64 a2, vi .u64 a3, vi .u64 a4], .cells 46 [vi .u64 0, vi .u64 0, vi .u64 0, vi .u64 0]]
theorem VA (a1 a2 a3 a4 a5 : Int) {r : R_F79_3} (h : R2 a1 a2 a3 a4 a5 = some r) : PR1 prg 79 [(.agg [vi .u64 a1, vi .u64 a2, vi .u64 a3, vi .u64 a4]), i6 a5] (Zas a1 a2 a3 a4 a5 r) := by
 unfold R2 at h
 apply bn h; intro x1 h1 h
 apply bi h <;> intro h2 h
 ·
  rw [← sj h]
  exact fq [(7, .v (vb true))] (apc ((((Vz a1 a2 a3 a4 a5 h1).cp rfl _).trans (congrArg (fun z => some (vb z)) h2)) : CP prg 71 [(.agg [vi .u64 a1, vi .u64 a2, vi .u64 a3, vi .u64 a4]), i6 a5] (Jk a1 a2 a3 a4) = some (vb true)) apn)
 ·
  have q0 := ((((Vz a1 a2 a3 a4 a5 h1).cp rfl _).trans (congrArg (fun z => some (vb z)) h2)) : CP prg 71 [(.agg [vi .u64 a1, vi .u64 a2, vi .u64 a3, vi .u64 a4]), i6 a5] (Jk a1 a2 a3 a4) = some (vb false))
  apply bi h <;> intro h3 h
  ·
   have q1 := ((ZX h3 (fun z => ixP 4 1 (.ptr 0 0) (i6 z)) rfl) : ixP 4 1 (.ptr 0 0) (i6 (w6 (Int.tdiv a5 64))) = some (.ptr 0 0))
   have k2 := ka [(7, .v (vb false)), (13, .v (.ptr 0 0))] (apc q0 (apc q1 apn))
   apply bi h <;> intro h4 h
   ·
    cases h
   ·
    rw [← sj h]
    exact fq (kH k2 ++ [(17, .v (vi .u64 (IntKind.wrap .u64 (1 * 2 ^ (min (Int.toNat (Int.tmod a5 64)) (IntKind.bits .u64)))))), (19, .v (.ptr 0 0))]) (k2.b (apc ((Kx (of_decide_eq_false h4)) : binA .shl (vi .u64 1) (i6 (Int.tmod a5 64)) = some (vi .u64 (IntKind.wrap .u64 (1 * 2 ^ (min (Int.toNat (Int.tmod a5 64)) (IntKind.bits .u64)))))) (apc q1 apn)))
  ·
   apply bi h <;> intro h4 h
   ·
    have q3 := ((ZX h4 (fun z => ixP 4 1 (.ptr 0 0) (i6 z)) rfl) : ixP 4 1 (.ptr 0 0) (i6 (w6 (Int.tdiv a5 64))) = some (.ptr 0 1))
    have k4 := ka [(7, .v (vb false)), (13, .v (.ptr 0 1))] (apc q0 (apc q3 apn))
    apply bi h <;> intro h5 h
    ·
     cases h
    ·
     rw [← sj h]
     exact fq (kH k4 ++ [(17, .v (vi .u64 (IntKind.wrap .u64 (1 * 2 ^ (min (Int.toNat (Int.tmod a5 64)) (IntKind.bits .u64)))))), (19, .v (.ptr 0 1))]) (k4.b (apc ((Kx (of_decide_eq_false h5)) : binA .shl (vi .u64 1) (i6 (Int.tmod a5 64)) = some (vi .u64 (IntKind.wrap .u64 (1 * 2 ^ (min (Int.toNat (Int.tmod a5 64)) (IntKind.bits .u64)))))) (apc q3 apn)))
   ·
    apply bi h <;> intro h5 h
    ·
     have q5 := ((ZX h5 (fun z => ixP 4 1 (.ptr 0 0) (i6 z)) rfl) : ixP 4 1 (.ptr 0 0) (i6 (w6 (Int.tdiv a5 64))) = some (.ptr 0 2))
     have k6 := ka [(7, .v (vb false)), (13, .v (.ptr 0 2))] (apc q0 (apc q5 apn))
     apply bi h <;> intro h6 h
     ·
      cases h
     ·
      rw [← sj h]
      exact fq (kH k6 ++ [(17, .v (vi .u64 (IntKind.wrap .u64 (1 * 2 ^ (min (Int.toNat (Int.tmod a5 64)) (IntKind.bits .u64)))))), (19, .v (.ptr 0 2))]) (k6.b (apc ((Kx (of_decide_eq_false h6)) : binA .shl (vi .u64 1) (i6 (Int.tmod a5 64)) = some (vi .u64 (IntKind.wrap .u64 (1 * 2 ^ (min (Int.toNat (Int.tmod a5 64)) (IntKind.bits .u64)))))) (apc q5 apn)))
    ·
     apply bi h <;> intro h6 h
     ·
      have q7 := ((ZX h6 (fun z => ixP 4 1 (.ptr 0 0) (i6 z)) rfl) : ixP 4 1 (.ptr 0 0) (i6 (w6 (Int.tdiv a5 64))) = some (.ptr 0 3))
      have k8 := ka [(7, .v (vb false)), (13, .v (.ptr 0 3))] (apc q0 (apc q7 apn))
      apply bi h <;> intro h7 h
      ·
       cases h
      ·
       rw [← sj h]
       exact fq (kH k8 ++ [(17, .v (vi .u64 (IntKind.wrap .u64 (1 * 2 ^ (min (Int.toNat (Int.tmod a5 64)) (IntKind.bits .u64)))))), (19, .v (.ptr 0 3))]) (k8.b (apc ((Kx (of_decide_eq_false h7)) : binA .shl (vi .u64 1) (i6 (Int.tmod a5 64)) = some (vi .u64 (IntKind.wrap .u64 (1 * 2 ^ (min (Int.toNat (Int.tmod a5 64)) (IntKind.bits .u64)))))) (apc q7 apn)))
     ·
      cases h
inductive E_L63_0_3 where
  | k0 (x0 x1 x2 x3 : Int)
section
variable (a1 a2 a3 a4 : Int) (a5 : SetD)
abbrev Rw (l : List AB) : List AB := .cells 46 [vi .u64 a1, vi .u64 a2, vi .u64 a3, vi .u64 a4] :: .cells 46 ((eSet a5).map .p) :: .cells 46 [vi .u64 0, vi .u64 0, vi .u64 0, vi .u64 0] :: l
def YR (v1 v2 v3 v4 v5 : Int) : Option (E_L63_0_3 ⊕ (Int × Int × Int × Int × Int)) :=
  (bif (decide (v1 < 256)) then ((LA a1 a2 a3 a4 v1).bind fun x2 => (bif x2 then ((FC a5 v1).bind fun x4 => (bif x4 then ((R2 v2 v3 v4 v5 v1).bind fun r6 => match r6 with | .k0 x6_0 x6_1 x6_2 x6_3 => (some (.inr ((IntKind.wrap .i64 (v1 + 1)), x6_0, x6_1, x6_2, x6_3)))) else ((R2 v2 v3 v4 v5 v1).bind fun r6 => match r6 with | .k0 x6_0 x6_1 x6_2 x6_3 => (some (.inr ((IntKind.wrap .i64 (v1 + 1)), x6_0, x6_1, x6_2, x6_3)))))) else ((FC a5 v1).bind fun x4 => (bif x4 then ((R2 v2 v3 v4 v5 v1).bind fun r6 => match r6 with | .k0 x6_0 x6_1 x6_2 x6_3 => (some (.inr ((IntKind.wrap .i64 (v1 + 1)), x6_0, x6_1, x6_2, x6_3)))) else (some (.inr ((IntKind.wrap .i64 (v1 + 1)), v2, v3, v4, v5))))))) else (some (.inl (.k0 v2 v3 v4 v5))))
def NB (v1 v2 v3 v4 v5 : Int) : St := ⟨fr 55 ug [(2, i6 1), (3, .ptr 0 0), (4, .ptr 1 0), (6, .ptr 2 0), (7, .ptr 3 0), (8, i6 v1)], (Rw a1 a2 a3 a4 a5 [.cells 46 [vi .u64 v2, vi .u64 v3, vi .u64 v4, vi .u64 v5]])⟩
theorem W8 (v1 v2 v3 v4 v5 : Int) : okT 4 (NB a1 a2 a3 a4 a5 v1 v2 v3 v4 v5).h = true := (Zr rfl (ac (ac (ac (ac rfl)))))
abbrev Wo (v1 v2 v3 v4 v5 : Int) := evH prg 4 [2, 3, 4, 6, 7, 8] MD (NB a1 a2 a3 a4 a5 v1 v2 v3 v4 v5)
def Rx (e : E_L63_0_3) (r : Option (Out × St)) : Prop := match e with | .k0 x0 x1 x2 x3 => ∃ g, r = some ((.brk 0), ⟨fr 55 g [(6, .ptr 2 0), (7, .ptr 3 0)], (Rw a1 a2 a3 a4 a5 [.cells 46 [vi .u64 x0, vi .u64 x1, vi .u64 x2, vi .u64 x3]])⟩)
abbrev Yg (v2 v3 v4 v5 : Int) : List AB := (Rw a1 a2 a3 a4 a5 [.cells 46 [vi .u64 v2, vi .u64 v3, vi .u64 v4, vi .u64 v5]])
theorem ID (v1 v2 v3 v4 v5 : Int) {r : E_L63_0_3 ⊕ (Int × Int × Int × Int × Int)} (h : YR a1 a2 a3 a4 a5 v1 v2 v3 v4 v5 = some r) : OkR (fun e => Rx a1 a2 a3 a4 a5 e (Wo a1 a2 a3 a4 a5 v1 v2 v3 v4 v5)) (fun s => Wo a1 a2 a3 a4 a5 v1 v2 v3 v4 v5 = Wo a1 a2 a3 a4 a5 s.1 s.2.1 s.2.2.1 s.2.2.2.1 s.2.2.2.2) r := by
 unfold YR at h
 apply bi h <;> intro h1 h
 ·
  apply bn h; intro x2 h2 h
  apply bi h <;> intro h3 h
  ·
   have q0 := ((((Vz a1 a2 a3 a4 v1 h2).cp rfl _).trans (congrArg (fun z => some (vb z)) h3)) : CP prg 71 [(.agg [vi .u64 a1, vi .u64 a2, vi .u64 a3, vi .u64 a4]), i6 v1] (Yg a1 a2 a3 a4 a5 v2 v3 v4 v5) = some (vb true))
   have k1 := ka [(13, .d true), (18, .v (vb true))] (av h1 (apc q0 apn))
   apply bn h; intro x4 h4 h
   apply bi h <;> intro h5 h
   ·
    apply bn h; intro r6 h6 h
    cases r6 with
    | k0 x6_0 x6_1 x6_2 x6_3 =>
     rw [← sj h]
     exact rn (kH k1 ++ [(21, .v (vb true)), (53, .v (.agg [vi .u64 x6_0, vi .u64 x6_1, vi .u64 x6_2, vi .u64 x6_3])), (6000, .d true)]) (k1.b (apc ((((Se a5 v1 h4).cp rfl _).trans (congrArg (fun z => some (vb z)) h5)) : CP prg 71 [(.agg ((eSet a5).map .p)), i6 v1] (Yg a1 a2 a3 a4 a5 v2 v3 v4 v5) = some (vb true)) (apc (((VA v2 v3 v4 v5 v1 h6).cp rfl _) : CP prg 79 [(.agg [vi .u64 v2, vi .u64 v3, vi .u64 v4, vi .u64 v5]), i6 v1] (Yg a1 a2 a3 a4 a5 v2 v3 v4 v5) = some (.agg [vi .u64 x6_0, vi .u64 x6_1, vi .u64 x6_2, vi .u64 x6_3])) (apc (W8 a1 a2 a3 a4 a5 (w6 (v1 + 1)) x6_0 x6_1 x6_2 x6_3) apn))))
   ·
    apply bn h; intro r6 h6 h
    cases r6 with
    | k0 x6_0 x6_1 x6_2 x6_3 =>
     rw [← sj h]
     exact rn (kH k1 ++ [(21, .v (vb false)), (53, .v (.agg [vi .u64 x6_0, vi .u64 x6_1, vi .u64 x6_2, vi .u64 x6_3])), (6000, .d true)]) (k1.b (apc ((((Se a5 v1 h4).cp rfl _).trans (congrArg (fun z => some (vb z)) h5)) : CP prg 71 [(.agg ((eSet a5).map .p)), i6 v1] (Yg a1 a2 a3 a4 a5 v2 v3 v4 v5) = some (vb false)) (apc (((VA v2 v3 v4 v5 v1 h6).cp rfl _) : CP prg 79 [(.agg [vi .u64 v2, vi .u64 v3, vi .u64 v4, vi .u64 v5]), i6 v1] (Yg a1 a2 a3 a4 a5 v2 v3 v4 v5) = some (.agg [vi .u64 x6_0, vi .u64 x6_1, vi .u64 x6_2, vi .u64 x6_3])) (apc (W8 a1 a2 a3 a4 a5 (w6 (v1 + 1)) x6_0 x6_1 x6_2 x6_3) apn))))
  ·
   have q2 := ((((Vz a1 a2 a3 a4 v1 h2).cp rfl _).trans (congrArg (fun z => some (vb z)) h3)) : CP prg 71 [(.agg [vi .u64 a1, vi .u64 a2, vi .u64 a3, vi .u64 a4]), i6 v1] (Yg a1 a2 a3 a4 a5 v2 v3 v4 v5) = some (vb false))
   have k3 := ka [(13, .d true), (18, .v (vb false))] (av h1 (apc q2 apn))
   apply bn h; intro x4 h4 h
   apply bi h <;> intro h5 h
   ·
    apply bn h; intro r6 h6 h
    cases r6 with
    | k0 x6_0 x6_1 x6_2 x6_3 =>
     rw [← sj h]
     exact rn (kH k3 ++ [(21, .v (vb true)), (53, .v (.agg [vi .u64 x6_0, vi .u64 x6_1, vi .u64 x6_2, vi .u64 x6_3])), (6000, .d true)]) (k3.b (apc ((((Se a5 v1 h4).cp rfl _).trans (congrArg (fun z => some (vb z)) h5)) : CP prg 71 [(.agg ((eSet a5).map .p)), i6 v1] (Yg a1 a2 a3 a4 a5 v2 v3 v4 v5) = some (vb true)) (apc (((VA v2 v3 v4 v5 v1 h6).cp rfl _) : CP prg 79 [(.agg [vi .u64 v2, vi .u64 v3, vi .u64 v4, vi .u64 v5]), i6 v1] (Yg a1 a2 a3 a4 a5 v2 v3 v4 v5) = some (.agg [vi .u64 x6_0, vi .u64 x6_1, vi .u64 x6_2, vi .u64 x6_3])) (apc (W8 a1 a2 a3 a4 a5 (w6 (v1 + 1)) x6_0 x6_1 x6_2 x6_3) apn))))
   ·
    rw [← sj h]
    exact rn (kH k3 ++ [(21, .v (vb false)), (6000, .d true)]) (k3.b (apc ((((Se a5 v1 h4).cp rfl _).trans (congrArg (fun z => some (vb z)) h5)) : CP prg 71 [(.agg ((eSet a5).map .p)), i6 v1] (Yg a1 a2 a3 a4 a5 v2 v3 v4 v5) = some (vb false)) (apc (W8 a1 a2 a3 a4 a5 (w6 (v1 + 1)) v2 v3 v4 v5) apn)))
 ·
  rw [← sj h]
  exact xb [(13, .d false), (6000, .d true)] (av h1 apn)
theorem LB (s0 : Int × Int × Int × Int × Int) (e : E_L63_0_3) (h : runL (fun s => YR a1 a2 a3 a4 a5 s.1 s.2.1 s.2.2.1 s.2.2.2.1 s.2.2.2.2) s0 = some e) : Rx a1 a2 a3 a4 a5 e (Wo a1 a2 a3 a4 a5 s0.1 s0.2.1 s0.2.2.1 s0.2.2.2.1 s0.2.2.2.2) := by
  have q := @Zb (Int × Int × Int × Int × Int) E_L63_0_3 (fun s => YR a1 a2 a3 a4 a5 s.1 s.2.1 s.2.2.1 s.2.2.2.1 s.2.2.2.2) (fun s => Wo a1 a2 a3 a4 a5 s.1 s.2.1 s.2.2.1 s.2.2.2.1 s.2.2.2.2) (Rx a1 a2 a3 a4 a5) (fun s r h => ID a1 a2 a3 a4 a5 s.1 s.2.1 s.2.2.1 s.2.2.2.1 s.2.2.2.2 h) s0 e h
  exact q
end
inductive R_F63_3 where
  | k0 (x0 x1 x2 x3 : Int)
def Zat (a1 a2 a3 a4 : Int) (a5 : SetD) (r : R_F63_3) : AV := match r with | .k0 x0 x1 x2 x3 => (.agg [vi .u64 x0, vi .u64 x1, vi .u64 x2, vi .u64 x3])
def LC (a1 a2 a3 a4 : Int) (a5 : SetD) : Option R_F63_3 :=
  ((runL (fun s => YR a1 a2 a3 a4 a5 s.1 s.2.1 s.2.2.1 s.2.2.2.1 s.2.2.2.2) (0, 0, 0, 0, 0)).bind fun r1 => match r1 with | .k0 x1_0 x1_1 x1_2 x1_3 => (some (.k0 x1_0 x1_1 x1_2 x1_3)))
abbrev Jl (g1 : Nat → AV) (a1 a2 a3 a4 : Int) (a5 : SetD) (x1_0 x1_1 x1_2 x1_3 : Int) : St := ⟨fr 55 g1 [(6, .ptr 2 0), (7, .ptr 3 0)], [.cells 46 [vi .u64 a1, vi .u64 a2, vi .u64 a3, vi .u64 a4], .cells 46 ((eSet a5).map .p), .cells 46 [vi .u64 0, vi .u64 0, vi .u64 0, vi .u64 0], .cells 46 [vi .u64 x1_0, vi .u64 x1_1, vi .u64 x1_2, vi .u64 x1_3]]⟩
theorem PT (a1 a2 a3 a4 : Int) (a5 : SetD) {r : R_F63_3} (h : LC a1 a2 a3 a4 a5 = some r) : PR1 prg 63 [(.agg [vi .u64 a1, vi .u64 a2, vi .u64 a3, vi .u64 a4]), (.agg ((eSet a5).map .p)), i6 1] (Zat a1 a2 a3 a4 a5 r) := by
 unfold LC at h
 apply bn h; intro r1 h1 h
 cases r1 with
 | k0 x1_0 x1_1 x1_2 x1_3 =>
  obtain ⟨g1, e1⟩ := LB a1 a2 a3 a4 a5 (0, 0, 0, 0, 0) _ h1
  rw [← sj h]
  exact fq [(2000, .l (.brk 0) (Jl g1 a1 a2 a3 a4 a5 x1_0 x1_1 x1_2 x1_3)), (6000, .d true)] (apc (W8 a1 a2 a3 a4 a5 0 0 0 0 0) (apc (e1 : Wo a1 a2 a3 a4 a5 0 0 0 0 0 = some ((.brk 0), Jl g1 a1 a2 a3 a4 a5 x1_0 x1_1 x1_2 x1_3)) apn))
def ZcI (a1 : SymD) (a2 : Int) (x0 : Bool) : AV := (vb x0)
def F71 (a1 : SymD) (a2 : Int) : Option Bool :=
  (bif ((IntKind.wrap .i64 (Int.tdiv a2 64)) == 0) then (bif (decide ((Int.tmod a2 64) < 0)) then none else (some ((Int.tmod (Int.fdiv a1.a (2 ^ (min (Int.toNat (Int.tmod a2 64)) (IntKind.bits .u64)))) 2) == 1))) else (bif ((IntKind.wrap .i64 (Int.tdiv a2 64)) == 1) then (bif (decide ((Int.tmod a2 64) < 0)) then none else (some ((Int.tmod (Int.fdiv a1.b (2 ^ (min (Int.toNat (Int.tmod a2 64)) (IntKind.bits .u64)))) 2) == 1))) else (bif ((IntKind.wrap .i64 (Int.tdiv a2 64)) == 2) then (bif (decide ((Int.tmod a2 64) < 0)) then none else (some ((Int.tmod (Int.fdiv a1.c (2 ^ (min (Int.toNat (Int.tmod a2 64)) (IntKind.bits .u64)))) 2) == 1))) else (bif ((IntKind.wrap .i64 (Int.tdiv a2 64)) == 3) then (bif (decide ((Int.tmod a2 64) < 0)) then none else (some ((Int.tmod (Int.fdiv a1.d (2 ^ (min (Int.toNat (Int.tmod a2 64)) (IntKind.bits .u64)))) 2) == 1))) else none))))
theorem Jm (a1 : SymD) (a2 : Int) {r : Bool} (h : F71 a1 a2 = some r) : PR1 prg 71 [(.agg ((List.take 4 (List.drop 1 (eSym a1))).map .p)), i6 a2] (ZcI a1 a2 r) := by
 unfold F71 at h
 apply bi h <;> intro h1 h
 ·
  have q0 := ((ZX h1 (fun z => ixP 4 1 (.ptr 0 0) (i6 z)) rfl) : ixP 4 1 (.ptr 0 0) (i6 (w6 (Int.tdiv a2 64))) = some (.ptr 0 0))
  apply bi h <;> intro h2 h
  ·
   cases h
  ·
   rw [← sj h]
   exact fq [(7, .v (.ptr 0 0)), (11, .v (vi .u64 (Int.fdiv a1.a (2 ^ (min (Int.toNat (Int.tmod a2 64)) (IntKind.bits .u64))))))] (apc q0 (apc ((WJ (of_decide_eq_false h2)) : binA .shr (vi .u64 a1.a) (i6 (Int.tmod a2 64)) = some (vi .u64 (Int.fdiv a1.a (2 ^ (min (Int.toNat (Int.tmod a2 64)) (IntKind.bits .u64)))))) apn))
 ·
  apply bi h <;> intro h2 h
  ·
   have q1 := ((ZX h2 (fun z => ixP 4 1 (.ptr 0 0) (i6 z)) rfl) : ixP 4 1 (.ptr 0 0) (i6 (w6 (Int.tdiv a2 64))) = some (.ptr 0 1))
   apply bi h <;> intro h3 h
   ·
    cases h
   ·
    rw [← sj h]
    exact fq [(7, .v (.ptr 0 1)), (11, .v (vi .u64 (Int.fdiv a1.b (2 ^ (min (Int.toNat (Int.tmod a2 64)) (IntKind.bits .u64))))))] (apc q1 (apc ((WJ (of_decide_eq_false h3)) : binA .shr (vi .u64 a1.b) (i6 (Int.tmod a2 64)) = some (vi .u64 (Int.fdiv a1.b (2 ^ (min (Int.toNat (Int.tmod a2 64)) (IntKind.bits .u64)))))) apn))
  ·
   apply bi h <;> intro h3 h
   ·
    have q2 := ((ZX h3 (fun z => ixP 4 1 (.ptr 0 0) (i6 z)) rfl) : ixP 4 1 (.ptr 0 0) (i6 (w6 (Int.tdiv a2 64))) = some (.ptr 0 2))
    apply bi h <;> intro h4 h
    ·
     cases h
    ·
     rw [← sj h]
     exact fq [(7, .v (.ptr 0 2)), (11, .v (vi .u64 (Int.fdiv a1.c (2 ^ (min (Int.toNat (Int.tmod a2 64)) (IntKind.bits .u64))))))] (apc q2 (apc ((WJ (of_decide_eq_false h4)) : binA .shr (vi .u64 a1.c) (i6 (Int.tmod a2 64)) = some (vi .u64 (Int.fdiv a1.c (2 ^ (min (Int.toNat (Int.tmod a2 64)) (IntKind.bits .u64)))))) apn))
   ·
    apply bi h <;> intro h4 h
    ·
     have q3 := ((ZX h4 (fun z => ixP 4 1 (.ptr 0 0) (i6 z)) rfl) : ixP 4 1 (.ptr 0 0) (i6 (w6 (Int.tdiv a2 64))) = some (.ptr 0 3))
     apply bi h <;> intro h5 h
     ·
      cases h
     ·
      rw [← sj h]
      exact fq [(7, .v (.ptr 0 3)), (11, .v (vi .u64 (Int.fdiv a1.d (2 ^ (min (Int.toNat (Int.tmod a2 64)) (IntKind.bits .u64))))))] (apc q3 (apc ((WJ (of_decide_eq_false h5)) : binA .shr (vi .u64 a1.d) (i6 (Int.tmod a2 64)) = some (vi .u64 (Int.fdiv a1.d (2 ^ (min (Int.toNat (Int.tmod a2 64)) (IntKind.bits .u64)))))) apn))
    ·
     cases h
inductive E_L63_0_4 where
  | k0 (x0 x1 x2 x3 : Int)
section
variable (a1 a2 a3 a4 : Int) (a5 : SymD)
abbrev Ry (l : List AB) : List AB := .cells 46 [vi .u64 a1, vi .u64 a2, vi .u64 a3, vi .u64 a4] :: .cells 46 ((List.take 4 (List.drop 1 (eSym a5))).map .p) :: .cells 46 [vi .u64 0, vi .u64 0, vi .u64 0, vi .u64 0] :: l
def YS (v1 v2 v3 v4 v5 : Int) : Option (E_L63_0_4 ⊕ (Int × Int × Int × Int × Int)) :=
  (bif (decide (v1 < 256)) then ((LA a1 a2 a3 a4 v1).bind fun x2 => (bif x2 then ((F71 a5 v1).bind fun x4 => (bif x4 then ((R2 v2 v3 v4 v5 v1).bind fun r6 => match r6 with | .k0 x6_0 x6_1 x6_2 x6_3 => (some (.inr ((IntKind.wrap .i64 (v1 + 1)), x6_0, x6_1, x6_2, x6_3)))) else ((R2 v2 v3 v4 v5 v1).bind fun r6 => match r6 with | .k0 x6_0 x6_1 x6_2 x6_3 => (some (.inr ((IntKind.wrap .i64 (v1 + 1)), x6_0, x6_1, x6_2, x6_3)))))) else ((F71 a5 v1).bind fun x4 => (bif x4 then ((R2 v2 v3 v4 v5 v1).bind fun r6 => match r6 with | .k0 x6_0 x6_1 x6_2 x6_3 => (some (.inr ((IntKind.wrap .i64 (v1 + 1)), x6_0, x6_1, x6_2, x6_3)))) else (some (.inr ((IntKind.wrap .i64 (v1 + 1)), v2, v3, v4, v5))))))) else (some (.inl (.k0 v2 v3 v4 v5))))
def NC (v1 v2 v3 v4 v5 : Int) : St := ⟨fr 55 ug [(2, i6 1), (3, .ptr 0 0), (4, .ptr 1 0), (6, .ptr 2 0), (7, .ptr 3 0), (8, i6 v1)], (Ry a1 a2 a3 a4 a5 [.cells 46 [vi .u64 v2, vi .u64 v3, vi .u64 v4, vi .u64 v5]])⟩
theorem W9 (v1 v2 v3 v4 v5 : Int) : okT 4 (NC a1 a2 a3 a4 a5 v1 v2 v3 v4 v5).h = true := (Zr rfl (ac (ac (ac (ac rfl)))))
abbrev Wp (v1 v2 v3 v4 v5 : Int) := evH prg 4 [2, 3, 4, 6, 7, 8] MD (NC a1 a2 a3 a4 a5 v1 v2 v3 v4 v5)
def Rz (e : E_L63_0_4) (r : Option (Out × St)) : Prop := match e with | .k0 x0 x1 x2 x3 => ∃ g, r = some ((.brk 0), ⟨fr 55 g [(6, .ptr 2 0), (7, .ptr 3 0)], (Ry a1 a2 a3 a4 a5 [.cells 46 [vi .u64 x0, vi .u64 x1, vi .u64 x2, vi .u64 x3]])⟩)
abbrev Yh (v2 v3 v4 v5 : Int) : List AB := (Ry a1 a2 a3 a4 a5 [.cells 46 [vi .u64 v2, vi .u64 v3, vi .u64 v4, vi .u64 v5]])
theorem IE (v1 v2 v3 v4 v5 : Int) {r : E_L63_0_4 ⊕ (Int × Int × Int × Int × Int)} (h : YS a1 a2 a3 a4 a5 v1 v2 v3 v4 v5 = some r) : OkR (fun e => Rz a1 a2 a3 a4 a5 e (Wp a1 a2 a3 a4 a5 v1 v2 v3 v4 v5)) (fun s => Wp a1 a2 a3 a4 a5 v1 v2 v3 v4 v5 = Wp a1 a2 a3 a4 a5 s.1 s.2.1 s.2.2.1 s.2.2.2.1 s.2.2.2.2) r := by
 unfold YS at h
 apply bi h <;> intro h1 h
 ·
  apply bn h; intro x2 h2 h
  apply bi h <;> intro h3 h
  ·
   have q0 := ((((Vz a1 a2 a3 a4 v1 h2).cp rfl _).trans (congrArg (fun z => some (vb z)) h3)) : CP prg 71 [(.agg [vi .u64 a1, vi .u64 a2, vi .u64 a3, vi .u64 a4]), i6 v1] (Yh a1 a2 a3 a4 a5 v2 v3 v4 v5) = some (vb true))
   have k1 := ka [(13, .d true), (18, .v (vb true))] (av h1 (apc q0 apn))
   apply bn h; intro x4 h4 h
   apply bi h <;> intro h5 h
   ·
    apply bn h; intro r6 h6 h
    cases r6 with
    | k0 x6_0 x6_1 x6_2 x6_3 =>
     rw [← sj h]
     exact rn (kH k1 ++ [(21, .v (vb true)), (53, .v (.agg [vi .u64 x6_0, vi .u64 x6_1, vi .u64 x6_2, vi .u64 x6_3])), (6000, .d true)]) (k1.b (apc ((((Jm a5 v1 h4).cp rfl _).trans (congrArg (fun z => some (vb z)) h5)) : CP prg 71 [(.agg ((List.take 4 (List.drop 1 (eSym a5))).map .p)), i6 v1] (Yh a1 a2 a3 a4 a5 v2 v3 v4 v5) = some (vb true)) (apc (((VA v2 v3 v4 v5 v1 h6).cp rfl _) : CP prg 79 [(.agg [vi .u64 v2, vi .u64 v3, vi .u64 v4, vi .u64 v5]), i6 v1] (Yh a1 a2 a3 a4 a5 v2 v3 v4 v5) = some (.agg [vi .u64 x6_0, vi .u64 x6_1, vi .u64 x6_2, vi .u64 x6_3])) (apc (W9 a1 a2 a3 a4 a5 (w6 (v1 + 1)) x6_0 x6_1 x6_2 x6_3) apn))))
   ·
    apply bn h; intro r6 h6 h
    cases r6 with
    | k0 x6_0 x6_1 x6_2 x6_3 =>
     rw [← sj h]
     exact rn (kH k1 ++ [(21, .v (vb false)), (53, .v (.agg [vi .u64 x6_0, vi .u64 x6_1, vi .u64 x6_2, vi .u64 x6_3])), (6000, .d true)]) (k1.b (apc ((((Jm a5 v1 h4).cp rfl _).trans (congrArg (fun z => some (vb z)) h5)) : CP prg 71 [(.agg ((List.take 4 (List.drop 1 (eSym a5))).map .p)), i6 v1] (Yh a1 a2 a3 a4 a5 v2 v3 v4 v5) = some (vb false)) (apc (((VA v2 v3 v4 v5 v1 h6).cp rfl _) : CP prg 79 [(.agg [vi .u64 v2, vi .u64 v3, vi .u64 v4, vi .u64 v5]), i6 v1] (Yh a1 a2 a3 a4 a5 v2 v3 v4 v5) = some (.agg [vi .u64 x6_0, vi .u64 x6_1, vi .u64 x6_2, vi .u64 x6_3])) (apc (W9 a1 a2 a3 a4 a5 (w6 (v1 + 1)) x6_0 x6_1 x6_2 x6_3) apn))))
  ·
   have q2 := ((((Vz a1 a2 a3 a4 v1 h2).cp rfl _).trans (congrArg (fun z => some (vb z)) h3)) : CP prg 71 [(.agg [vi .u64 a1, vi .u64 a2, vi .u64 a3, vi .u64 a4]), i6 v1] (Yh a1 a2 a3 a4 a5 v2 v3 v4 v5) = some (vb false))
   have k3 := ka [(13, .d true), (18, .v (vb false))] (av h1 (apc q2 apn))
   apply bn h; intro x4 h4 h
   apply bi h <;> intro h5 h
   ·
    apply bn h; intro r6 h6 h
    cases r6 with
    | k0 x6_0 x6_1 x6_2 x6_3 =>
     rw [← sj h]
     exact rn (kH k3 ++ [(21, .v (vb true)), (53, .v (.agg [vi .u64 x6_0, vi .u64 x6_1, vi .u64 x6_2, vi .u64 x6_3])), (6000, .d true)]) (k3.b (apc ((((Jm a5 v1 h4).cp rfl _).trans (congrArg (fun z => some (vb z)) h5)) : CP prg 71 [(.agg ((List.take 4 (List.drop 1 (eSym a5))).map .p)), i6 v1] (Yh a1 a2 a3 a4 a5 v2 v3 v4 v5) = some (vb true)) (apc (((VA v2 v3 v4 v5 v1 h6).cp rfl _) : CP prg 79 [(.agg [vi .u64 v2, vi .u64 v3, vi .u64 v4, vi .u64 v5]), i6 v1] (Yh a1 a2 a3 a4 a5 v2 v3 v4 v5) = some (.agg [vi .u64 x6_0, vi .u64 x6_1, vi .u64 x6_2, vi .u64 x6_3])) (apc (W9 a1 a2 a3 a4 a5 (w6 (v1 + 1)) x6_0 x6_1 x6_2 x6_3) apn))))
   ·
    rw [← sj h]
    exact rn (kH k3 ++ [(21, .v (vb false)), (6000, .d true)]) (k3.b (apc ((((Jm a5 v1 h4).cp rfl _).trans (congrArg (fun z => some (vb z)) h5)) : CP prg 71 [(.agg ((List.take 4 (List.drop 1 (eSym a5))).map .p)), i6 v1] (Yh a1 a2 a3 a4 a5 v2 v3 v4 v5) = some (vb false)) (apc (W9 a1 a2 a3 a4 a5 (w6 (v1 + 1)) v2 v3 v4 v5) apn)))
 ·
  rw [← sj h]
  exact xb [(13, .d false), (6000, .d true)] (av h1 apn)
theorem LD (s0 : Int × Int × Int × Int × Int) (e : E_L63_0_4) (h : runL (fun s => YS a1 a2 a3 a4 a5 s.1 s.2.1 s.2.2.1 s.2.2.2.1 s.2.2.2.2) s0 = some e) : Rz a1 a2 a3 a4 a5 e (Wp a1 a2 a3 a4 a5 s0.1 s0.2.1 s0.2.2.1 s0.2.2.2.1 s0.2.2.2.2) := by
  have q := @Zb (Int × Int × Int × Int × Int) E_L63_0_4 (fun s => YS a1 a2 a3 a4 a5 s.1 s.2.1 s.2.2.1 s.2.2.2.1 s.2.2.2.2) (fun s => Wp a1 a2 a3 a4 a5 s.1 s.2.1 s.2.2.1 s.2.2.2.1 s.2.2.2.2) (Rz a1 a2 a3 a4 a5) (fun s r h => IE a1 a2 a3 a4 a5 s.1 s.2.1 s.2.2.1 s.2.2.2.1 s.2.2.2.2 h) s0 e h
  exact q
end
inductive R_F63_4 where
  | k0 (x0 x1 x2 x3 : Int)
def Zau (a1 a2 a3 a4 : Int) (a5 : SymD) (r : R_F63_4) : AV := match r with | .k0 x0 x1 x2 x3 => (.agg [vi .u64 x0, vi .u64 x1, vi .u64 x2, vi .u64 x3])
def IF (a1 a2 a3 a4 : Int) (a5 : SymD) : Option R_F63_4 :=
  ((runL (fun s => YS a1 a2 a3 a4 a5 s.1 s.2.1 s.2.2.1 s.2.2.2.1 s.2.2.2.2) (0, 0, 0, 0, 0)).bind fun r1 => match r1 with | .k0 x1_0 x1_1 x1_2 x1_3 => (some (.k0 x1_0 x1_1 x1_2 x1_3)))
abbrev Jn (g1 : Nat → AV) (a1 a2 a3 a4 : Int) (a5 : SymD) (x1_0 x1_1 x1_2 x1_3 : Int) : St := ⟨fr 55 g1 [(6, .ptr 2 0), (7, .ptr 3 0)], [.cells 46 [vi .u64 a1, vi .u64 a2, vi .u64 a3, vi .u64 a4], .cells 46 ((List.take 4 (List.drop 1 (eSym a5))).map .p), .cells 46 [vi .u64 0, vi .u64 0, vi .u64 0, vi .u64 0], .cells 46 [vi .u64 x1_0, vi .u64 x1_1, vi .u64 x1_2, vi .u64 x1_3]]⟩
theorem Jo (a1 a2 a3 a4 : Int) (a5 : SymD) {r : R_F63_4} (h : IF a1 a2 a3 a4 a5 = some r) : PR1 prg 63 [(.agg [vi .u64 a1, vi .u64 a2, vi .u64 a3, vi .u64 a4]), (.agg ((List.take 4 (List.drop 1 (eSym a5))).map .p)), i6 1] (Zau a1 a2 a3 a4 a5 r) := by
 unfold IF at h
 apply bn h; intro r1 h1 h
 cases r1 with
 | k0 x1_0 x1_1 x1_2 x1_3 =>
  obtain ⟨g1, e1⟩ := LD a1 a2 a3 a4 a5 (0, 0, 0, 0, 0) _ h1
  rw [← sj h]
  exact fq [(2000, .l (.brk 0) (Jn g1 a1 a2 a3 a4 a5 x1_0 x1_1 x1_2 x1_3)), (6000, .d true)] (apc (W9 a1 a2 a3 a4 a5 0 0 0 0 0) (apc (e1 : Wp a1 a2 a3 a4 a5 0 0 0 0 0 = some ((.brk 0), Jn g1 a1 a2 a3 a4 a5 x1_0 x1_1 x1_2 x1_3)) apn))
inductive E_L34_0_2 where
  | k0 (x0 x1 x2 x3 : Int)
section
variable (a1 : List Int) (a2 : List Bool) (a3 : Nat) (a4 : Bool) (a5 : Int) (a6 : GramD) (a7 : List SetD) (a8 : ProdD)
abbrev RA (l : List AB) : List AB := bG a6 :: bS [] :: bS a7 :: yY0 :: bP a8 :: l
def Yu (v1 : Bool) (v2 v3 v4 v5 v6 : Int) : Option (E_L34_0_2 ⊕ (Bool × Int × Int × Int × Int × Int)) :=
  (bif (decide (v2 < (a8.right.length : Int))) then (bif v1 then ((getI a8.right v2).bind fun x3 => (bif (x3.kind == 1) then ((ixN a3 x3.sort).bind fun x5 => ((a7[x5]?).bind fun x6 => ((LC v3 v4 v5 v6 x6).bind fun r7 => match r7 with | .k0 x7_0 x7_1 x7_2 x7_3 => ((getI a2 x3.sort).bind fun x8 => (bif x8 then (some (.inr (true, (IntKind.wrap .i64 (v2 + 1)), x7_0, x7_1, x7_2, x7_3))) else (some (.inr (false, (IntKind.wrap .i64 (v2 + 1)), x7_0, x7_1, x7_2, x7_3)))))))) else ((IF v3 v4 v5 v6 x3).bind fun r5 => match r5 with | .k0 x5_0 x5_1 x5_2 x5_3 => (some (.inr (false, (IntKind.wrap .i64 (v2 + 1)), x5_0, x5_1, x5_2, x5_3)))))) else (some (.inl (.k0 v3 v4 v5 v6)))) else (some (.inl (.k0 v3 v4 v5 v6))))
def ND (v1 : Bool) (v2 v3 v4 v5 v6 : Int) : St := ⟨fr 95 ug [(1, .ptr 0 0), (3, ls 1 eI64 a1), (4, ls 1 Zk a2), (5, .sl 2 0 4 0 a3), (6, vb a4), (7, i6 a5), (8, .ptr 4 0), (9, .ptr 5 0), (10, vb v1), (11, i6 v2)], (RA a6 a7 a8 [.cells 46 [vi .u64 v3, vi .u64 v4, vi .u64 v5, vi .u64 v6]])⟩
theorem UK (v1 : Bool) (v2 v3 v4 v5 v6 : Int) : okT 6 (ND a1 a2 a3 a4 a5 a6 a7 a8 v1 v2 v3 v4 v5 v6).h = true := (Zr rfl (ac (ar (ar (ar (ac (ac rfl)))))))
abbrev Wq (v1 : Bool) (v2 v3 v4 v5 v6 : Int) := evH prg 6 [1, 3, 4, 5, 6, 7, 8, 9, 10, 11] Ga (ND a1 a2 a3 a4 a5 a6 a7 a8 v1 v2 v3 v4 v5 v6)
def RB (e : E_L34_0_2) (r : Option (Out × St)) : Prop := match e with | .k0 x0 x1 x2 x3 => ∃ g, r = some ((.brk 4), ⟨fr 95 g [(1, .ptr 0 0), (3, ls 1 eI64 a1), (4, ls 1 Zk a2), (5, .sl 2 0 4 0 a3), (6, vb a4), (7, i6 a5), (8, .ptr 4 0), (9, .ptr 5 0)], (RA a6 a7 a8 [.cells 46 [vi .u64 x0, vi .u64 x1, vi .u64 x2, vi .u64 x3]])⟩)
abbrev Tq (v3 v4 v5 v6 : Int) (x3 : SymD) : List AB := (RA a6 a7 a8 [.cells 46 [vi .u64 v3, vi .u64 v4, vi .u64 v5, vi .u64 v6], .cells 48 ((eSym x3).map .p)])
theorem IG (v1 : Bool) (v2 v3 v4 v5 v6 : Int) {r : E_L34_0_2 ⊕ (Bool × Int × Int × Int × Int × Int)} (h : Yu a2 a3 a7 a8 v1 v2 v3 v4 v5 v6 = some r) : OkR (fun e => RB a1 a2 a3 a4 a5 a6 a7 a8 e (Wq a1 a2 a3 a4 a5 a6 a7 a8 v1 v2 v3 v4 v5 v6)) (fun s => Wq a1 a2 a3 a4 a5 a6 a7 a8 v1 v2 v3 v4 v5 v6 = Wq a1 a2 a3 a4 a5 a6 a7 a8 s.1 s.2.1 s.2.2.1 s.2.2.2.1 s.2.2.2.2.1 s.2.2.2.2.2) r := by
 unfold Yu at h
 have k0 := ka [(51, .v (i6 (a8.right.length : Int)))] (apc (lg a8.right eSym 6) apn)
 apply bi h <;> intro h1 h
 ·
  apply bi h <;> intro h2 h
  ·
   have k1 := k0.a [(52, .d true), (54, .d true)] (av h1 (av h2 apn))
   apply bn h; intro x3 h3 h
   apply bi h <;> intro h4 h
   ·
    have k2 := k1.a [(61, .v (.ro (eSym x3))), (65, .d true)] (apc (ig eSym 6 .i64 h3) (av h4 apn))
    apply bn h; intro x5 h5 h
    have q3 := ((ZW h5) : idxA 4 (.sl 2 0 4 0 a3) (i6 x3.sort) = some (.rp 2 0 4 x5 0))
    apply bn h; intro x6 h6 h
    have q4 := ((Zp rfl h6 rfl) : ldA (Tq a6 a7 a8 v3 v4 v5 v6 x3) .true 4 (.rp 2 0 4 x5 0) = some (.agg ((eSet x6).map .p)))
    have k5 := k2.a [(70, .v (.rp 2 0 4 x5 0)), (71, .v (.agg ((eSet x6).map .p)))] (apc q3 (apc q4 apn))
    apply bn h; intro r7 h7 h
    cases r7 with
    | k0 x7_0 x7_1 x7_2 x7_3 =>
     have q6 := (((PT v3 v4 v5 v6 x6 h7).cp rfl _) : CP prg 63 [(.agg [vi .u64 v3, vi .u64 v4, vi .u64 v5, vi .u64 v6]), (.agg ((eSet x6).map .p)), i6 1] (Tq a6 a7 a8 v3 v4 v5 v6 x3) = some (.agg [vi .u64 x7_0, vi .u64 x7_1, vi .u64 x7_2, vi .u64 x7_3]))
     have k7 := k5.a [(72, .v (.agg [vi .u64 x7_0, vi .u64 x7_1, vi .u64 x7_2, vi .u64 x7_3]))] (apc q6 apn)
     apply bn h; intro x8 h8 h
     have k8 := k7.a [(76, .v (.ro [.val (.bool x8)]))] (apc (ig Zk 1 .i64 h8) apn)
     apply bi h <;> intro h9 h
     ·
      rw [← sj h]
      exact rn (kH k8 ++ [(77, .d true), (6000, .d true)]) (k8.b (av h9 (apc (UK a1 a2 a3 a4 a5 a6 a7 a8 true (w6 (v2 + 1)) x7_0 x7_1 x7_2 x7_3) apn)))
     ·
      rw [← sj h]
      exact rn (kH k8 ++ [(77, .d false), (6000, .d true)]) (k8.b (av h9 (apc (UK a1 a2 a3 a4 a5 a6 a7 a8 false (w6 (v2 + 1)) x7_0 x7_1 x7_2 x7_3) apn)))
   ·
    apply bn h; intro r5 h5 h
    cases r5 with
    | k0 x5_0 x5_1 x5_2 x5_3 =>
     rw [← sj h]
     exact rn (kH k1 ++ [(61, .v (.ro (eSym x3))), (65, .d false), (81, .v (.agg [vi .u64 x5_0, vi .u64 x5_1, vi .u64 x5_2, vi .u64 x5_3])), (6000, .d true)]) (k1.b (apc (ig eSym 6 .i64 h3) (av h4 (apc (((Jo v3 v4 v5 v6 x3 h5).cp rfl _) : CP prg 63 [(.agg [vi .u64 v3, vi .u64 v4, vi .u64 v5, vi .u64 v6]), (.agg ((List.take 4 (List.drop 1 (eSym x3))).map .p)), i6 1] (Tq a6 a7 a8 v3 v4 v5 v6 x3) = some (.agg [vi .u64 x5_0, vi .u64 x5_1, vi .u64 x5_2, vi .u64 x5_3])) (apc (UK a1 a2 a3 a4 a5 a6 a7 a8 false (w6 (v2 + 1)) x5_0 x5_1 x5_2 x5_3) apn)))))
  ·
   rw [← sj h]
   exact xb (kH k0 ++ [(52, .d true), (54, .d false), (6000, .d true)]) (k0.b (av h1 (av h2 apn)))
 ·
  rw [← sj h]
  exact xb (kH k0 ++ [(52, .d false), (6000, .d true)]) (k0.b (av h1 apn))
theorem LE (s0 : Bool × Int × Int × Int × Int × Int) (e : E_L34_0_2) (h : runL (fun s => Yu a2 a3 a7 a8 s.1 s.2.1 s.2.2.1 s.2.2.2.1 s.2.2.2.2.1 s.2.2.2.2.2) s0 = some e) : RB a1 a2 a3 a4 a5 a6 a7 a8 e (Wq a1 a2 a3 a4 a5 a6 a7 a8 s0.1 s0.2.1 s0.2.2.1 s0.2.2.2.1 s0.2.2.2.2.1 s0.2.2.2.2.2) := by
  have q := @Zb (Bool × Int × Int × Int × Int × Int) E_L34_0_2 (fun s => Yu a2 a3 a7 a8 s.1 s.2.1 s.2.2.1 s.2.2.2.1 s.2.2.2.2.1 s.2.2.2.2.2) (fun s => Wq a1 a2 a3 a4 a5 a6 a7 a8 s.1 s.2.1 s.2.2.1 s.2.2.2.1 s.2.2.2.2.1 s.2.2.2.2.2) (RB a1 a2 a3 a4 a5 a6 a7 a8) (fun s r h => IG a1 a2 a3 a4 a5 a6 a7 a8 s.1 s.2.1 s.2.2.1 s.2.2.2.1 s.2.2.2.2.1 s.2.2.2.2.2 h) s0 e h
  exact q
end
inductive E_L34_1 where
  | k0 (x0 : Bool) (x1 : List SetD)
section
variable (a1 : List Int) (a2 : List Bool) (a3 : Nat) (a4 : GramD)
abbrev Ts (l : List AB) : List AB := bG a4 :: bS [] :: l
def R3 (v1 : Bool) (v2 : Int) (v3 : List SetD) : Option (E_L34_1 ⊕ (Bool × Int × (List SetD))) :=
  (bif (decide (v2 < (a4.prods.length : Int))) then ((getI a4.prods v2).bind fun x2 => ((F51 x2).bind fun x3 => (bif x3 then ((F50 x2 a1).bind fun x5 => (bif (decide (x5 < 0)) then (some (.inr (v1, (IntKind.wrap .i64 (v2 + 1)), v3))) else ((ixN a3 x2.left).bind fun x7 => ((v3[x7]?).bind fun x8 => ((runL (fun s => Yu a2 a3 v3 x2 s.1 s.2.1 s.2.2.1 s.2.2.2.1 s.2.2.2.2.1 s.2.2.2.2.2) (true, 0, x8.a, x8.b, x8.c, x8.d)).bind fun r9 => match r9 with | .k0 x9_0 x9_1 x9_2 x9_3 => (bif (!((x9_0 == x8.a) && ((x9_1 == x8.b) && ((x9_2 == x8.c) && ((x9_3 == x8.d) && true))))) then (some (.inr (true, (IntKind.wrap .i64 (v2 + 1)), (v3.set x7 (⟨x9_0, x9_1, x9_2, x9_3⟩ : SetD))))) else (some (.inr (v1, (IntKind.wrap .i64 (v2 + 1)), v3))))))))) else (some (.inr (v1, (IntKind.wrap .i64 (v2 + 1)), v3)))))) else (some (.inl (.k0 v1 v3))))
def FD (v1 : Bool) (v2 : Int) (v3 : List SetD) : St := ⟨fr 95 ug [(1, .ptr 0 0), (3, ls 1 eI64 a1), (4, ls 1 Zk a2), (5, .sl 2 0 4 0 a3), (6, vb v1), (7, i6 v2)], (Ts a4 [bS v3])⟩
theorem RC (v1 : Bool) (v2 : Int) (v3 : List SetD) : okT 3 (FD a1 a2 a3 a4 v1 v2 v3).h = true := (Zr rfl (ac (ar (ar rfl))))
abbrev Tt (v1 : Bool) (v2 : Int) (v3 : List SetD) := evH prg 3 [1, 3, 4, 5, 6, 7] Gb (FD a1 a2 a3 a4 v1 v2 v3)
def LF (e : E_L34_1) (r : Option (Out × St)) : Prop := match e with | .k0 x0 x1 => ∃ g, r = some ((.brk 2), ⟨fr 95 g [(1, .ptr 0 0), (3, ls 1 eI64 a1), (4, ls 1 Zk a2), (5, .sl 2 0 4 0 a3), (6, vb x0)], (Ts a4 [bS x1])⟩)
abbrev Sf (v3 : List SetD) (x2 : ProdD) : List AB := (Ts a4 [bS v3, yY0, bP x2])
abbrev Jp (g9 : Nat → AV) (v1 : Bool) (v2 : Int) (v3 : List SetD) (x2 : ProdD) (x9_0 x9_1 x9_2 x9_3 : Int) : St := ⟨fr 95 g9 [(1, .ptr 0 0), (3, ls 1 eI64 a1), (4, ls 1 Zk a2), (5, .sl 2 0 4 0 a3), (6, vb v1), (7, i6 v2), (8, .ptr 4 0), (9, .ptr 5 0)], (Ts a4 [bS v3, yY0, bP x2, .cells 46 [vi .u64 x9_0, vi .u64 x9_1, vi .u64 x9_2, vi .u64 x9_3]])⟩
abbrev Jq (v3 : List SetD) (x2 : ProdD) (x9_0 x9_1 x9_2 x9_3 : Int) : List AB := (Ts a4 [bS v3, yY0, bP x2, .cells 46 [vi .u64 x9_0, vi .u64 x9_1, vi .u64 x9_2, vi .u64 x9_3]])
abbrev Jr (v3 : List SetD) (x7 : Nat) (x9_0 x9_1 x9_2 x9_3 : Int) (x2 : ProdD) : List AB := (Ts a4 [bS (v3.set x7 (⟨x9_0, x9_1, x9_2, x9_3⟩ : SetD)), yY0, bP x2, .cells 46 [vi .u64 x9_0, vi .u64 x9_1, vi .u64 x9_2, vi .u64 x9_3]])
theorem DW (v1 : Bool) (v2 : Int) (v3 : List SetD) {r : E_L34_1 ⊕ (Bool × Int × (List SetD))} (h : R3 a1 a2 a3 a4 v1 v2 v3 = some r) : OkR (fun e => LF a1 a2 a3 a4 e (Tt a1 a2 a3 a4 v1 v2 v3)) (fun s => Tt a1 a2 a3 a4 v1 v2 v3 = Tt a1 a2 a3 a4 s.1 s.2.1 s.2.2) r := by
 unfold R3 at h
 have k0 := ka [(25, .v (i6 (lP a4)))] (apc (lg a4.prods Zl 7) apn)
 apply bi h <;> intro h1 h
 ·
  apply bn h; intro x2 h2 h
  have k1 := k0.a [(26, .d true), (32, .v (.ro (Zl x2)))] (av h1 (apc (ig Zl 7 .i64 h2) apn))
  apply bn h; intro x3 h3 h
  apply bi h <;> intro h4 h
  ·
   have q2 := ((((QQ x2 h3).cp rfl _).trans (congrArg (fun z => some (vb z)) h4)) : CP prg 51 [aP x2] (Sf a4 v3 x2) = some (vb true))
   apply bn h; intro x5 h5 h
   have q3 := (((Fr x2 a1 h5).cp rfl _) : CP prg 50 [aP x2, ls 1 eI64 a1] (Sf a4 v3 x2) = some (i6 x5))
   have k4 := k1.a [(35, .v (vb true)), (40, .v (i6 x5))] (apc q2 (apc q3 apn))
   apply bi h <;> intro h6 h
   ·
    rw [← sj h]
    exact rn (kH k4 ++ [(41, .d true), (6000, .d true)]) (k4.b (av h6 (apc (RC a1 a2 a3 a4 v1 (w6 (v2 + 1)) v3) apn)))
   ·
    apply bn h; intro x7 h7 h
    have q5 := ((ZW h7) : idxA 4 (.sl 2 0 4 0 a3) (i6 x2.left) = some (.rp 2 0 4 x7 0))
    have k6 := k4.a [(41, .d false), (46, .v (.rp 2 0 4 x7 0))] (av h6 (apc q5 apn))
    apply bn h; intro x8 h8 h
    have q7 := ((Zp rfl h8 rfl) : ldA (Sf a4 v3 x2) .true 4 (.rp 2 0 4 x7 0) = some (.agg ((eSet x8).map .p)))
    have q8 := (UK a1 a2 a3 v1 v2 a4 v3 x2 true 0 x8.a x8.b x8.c x8.d)
    apply bn h; intro r9 h9 h
    cases r9 with
    | k0 x9_0 x9_1 x9_2 x9_3 =>
     obtain ⟨g9, e9⟩ := LE a1 a2 a3 v1 v2 a4 v3 x2 (true, 0, x8.a, x8.b, x8.c, x8.d) _ h9
     have q9 := (e9 : Wq a1 a2 a3 v1 v2 a4 v3 x2 true 0 x8.a x8.b x8.c x8.d = some ((.brk 4), Jp a1 a2 a3 a4 g9 v1 v2 v3 x2 x9_0 x9_1 x9_2 x9_3))
     have q10 := ((Zp rfl h8 rfl) : ldA (Jq a4 v3 x2 x9_0 x9_1 x9_2 x9_3) .true 4 (.rp 2 0 4 x7 0) = some (.agg ((eSet x8).map .p)))
     have k11 := k6.a [(47, .v (.agg ((eSet x8).map .p))), (2004, .l (.brk 4) (Jp a1 a2 a3 a4 g9 v1 v2 v3 x2 x9_0 x9_1 x9_2 x9_3)), (86, .v (.rp 2 0 4 x7 0)), (87, .v (.agg ((eSet x8).map .p)))] (apc q7 (apc q8 (apc q9 (apc q5 (apc q10 apn)))))
     apply bi h <;> intro h10 h
     ·
      rw [← sj h]
      exact rn (kH k11 ++ [(88, .d true), (93, .v (.rp 2 0 4 x7 0)), (1093, .r ud (Jr a4 v3 x7 x9_0 x9_1 x9_2 x9_3 x2)), (6000, .d true)]) (k11.b (av h10 (apc q5 (apc (⟨Zt (v' := (⟨x9_0, x9_1, x9_2, x9_3⟩ : SetD)) rfl h8 rfl rfl (Nat.le_of_ble_eq_true rfl) rfl, rfl⟩ : stA (Jq a4 v3 x2 x9_0 x9_1 x9_2 x9_3) 4 (.rp 2 0 4 x7 0) (.agg [vi .u64 x9_0, vi .u64 x9_1, vi .u64 x9_2, vi .u64 x9_3]) = some (Jr a4 v3 x7 x9_0 x9_1 x9_2 x9_3 x2) ∧ ud = ud) (apc (RC a1 a2 a3 a4 true (w6 (v2 + 1)) (v3.set x7 (⟨x9_0, x9_1, x9_2, x9_3⟩ : SetD))) apn)))))
     ·
      rw [← sj h]
      exact rn (kH k11 ++ [(88, .d false), (6000, .d true)]) (k11.b (av h10 (apc (RC a1 a2 a3 a4 v1 (w6 (v2 + 1)) v3) apn)))
  ·
   rw [← sj h]
   exact rn (kH k1 ++ [(35, .v (vb false)), (6000, .d true)]) (k1.b (apc ((((QQ x2 h3).cp rfl _).trans (congrArg (fun z => some (vb z)) h4)) : CP prg 51 [aP x2] (Sf a4 v3 x2) = some (vb false)) (apc (RC a1 a2 a3 a4 v1 (w6 (v2 + 1)) v3) apn)))
 ·
  rw [← sj h]
  exact xb (kH k0 ++ [(26, .d false), (6000, .d true)]) (k0.b (av h1 apn))
theorem FE (s0 : Bool × Int × (List SetD)) (e : E_L34_1) (h : runL (fun s => R3 a1 a2 a3 a4 s.1 s.2.1 s.2.2) s0 = some e) : LF a1 a2 a3 a4 e (Tt a1 a2 a3 a4 s0.1 s0.2.1 s0.2.2) := by
  have q := @Zb (Bool × Int × (List SetD)) E_L34_1 (fun s => R3 a1 a2 a3 a4 s.1 s.2.1 s.2.2) (fun s => Tt a1 a2 a3 a4 s.1 s.2.1 s.2.2) (LF a1 a2 a3 a4) (fun s r h => DW a1 a2 a3 a4 s.1 s.2.1 s.2.2 h) s0 e h
  exact q
end
inductive E_L34_2 where
  | k0 (x0 : List SetD)
section
variable (a1 : List Int) (a2 : List Bool) (a3 : Nat) (a4 : GramD)
def UL (v1 : Bool) (v2 : List SetD) : Option (E_L34_2 ⊕ (Bool × (List SetD))) :=
  (bif v1 then ((runL (fun s => R3 a1 a2 a3 a4 s.1 s.2.1 s.2.2) (false, 0, v2)).bind fun r2 => match r2 with | .k0 x2_0 x2_1 => (some (.inr (x2_0, x2_1)))) else (some (.inl (.k0 v2))))
def FF (v1 : Bool) (v2 : List SetD) : St := ⟨fr 95 ug [(1, .ptr 0 0), (3, ls 1 eI64 a1), (4, ls 1 Zk a2), (5, .sl 2 0 4 0 a3), (6, vb v1)], [bG a4, bS [], bS v2]⟩
theorem FG (v1 : Bool) (v2 : List SetD) : okT 3 (FF a1 a2 a3 a4 v1 v2).h = true := (Zr rfl (ac (ar (ar rfl))))
abbrev Tu (v1 : Bool) (v2 : List SetD) := evH prg 3 [1, 3, 4, 5, 6] Gc (FF a1 a2 a3 a4 v1 v2)
def LG (e : E_L34_2) (r : Option (Out × St)) : Prop := match e with | .k0 x0 => ∃ g, r = some ((.brk 0), ⟨fr 95 g [(1, .ptr 0 0), (5, .sl 2 0 4 0 a3)], [bG a4, bS [], bS x0]⟩)
abbrev Js (g2 : Nat → AV) (x2_0 : Bool) (x2_1 : List SetD) : St := ⟨fr 95 g2 [(1, .ptr 0 0), (3, ls 1 eI64 a1), (4, ls 1 Zk a2), (5, .sl 2 0 4 0 a3), (6, vb x2_0)], [bG a4, bS [], bS x2_1]⟩
theorem DX (v1 : Bool) (v2 : List SetD) {r : E_L34_2 ⊕ (Bool × (List SetD))} (h : UL a1 a2 a3 a4 v1 v2 = some r) : OkR (fun e => LG a3 a4 e (Tu a1 a2 a3 a4 v1 v2)) (fun s => Tu a1 a2 a3 a4 v1 v2 = Tu a1 a2 a3 a4 s.1 s.2) r := by
 unfold UL at h
 apply bi h <;> intro h1 h
 ·
  apply bn h; intro r2 h2 h
  cases r2 with
  | k0 x2_0 x2_1 =>
   obtain ⟨g2, e2⟩ := FE a1 a2 a3 a4 (false, 0, v2) _ h2
   rw [← sj h]
   exact rn [(21, .d true), (2002, .l (.brk 2) (Js a1 a2 a3 a4 g2 x2_0 x2_1)), (6000, .d true)] (av h1 (apc (RC a1 a2 a3 a4 false 0 v2) (apc (e2 : Tt a1 a2 a3 a4 false 0 v2 = some ((.brk 2), Js a1 a2 a3 a4 g2 x2_0 x2_1)) (apc (FG a1 a2 a3 a4 x2_0 x2_1) apn))))
 ·
  rw [← sj h]
  exact xb [(21, .d false), (6000, .d true)] (av h1 apn)
theorem FH (s0 : Bool × (List SetD)) (e : E_L34_2) (h : runL (fun s => UL a1 a2 a3 a4 s.1 s.2) s0 = some e) : LG a3 a4 e (Tu a1 a2 a3 a4 s0.1 s0.2) := by
  have q := @Zb (Bool × (List SetD)) E_L34_2 (fun s => UL a1 a2 a3 a4 s.1 s.2) (fun s => Tu a1 a2 a3 a4 s.1 s.2) (LG a3 a4) (fun s r h => DX a1 a2 a3 a4 s.1 s.2 h) s0 e h
  exact q
end
def ZcJ (a1 : GramD) (x0 : (List SetD)) : AV := (ls 4 eSet x0)
def F34 (a1 : GramD) : Option (List SetD) :=
  ((F16 a1).bind fun x1 => ((F27 a1).bind fun x2 => (bif (mkOk (a1.sorts.length : Int) 32) then ((runL (fun s => UL x1 x2 (Int.toNat (a1.sorts.length : Int)) a1 s.1 s.2) (true, (List.replicate (Int.toNat (a1.sorts.length : Int)) (⟨0, 0, 0, 0⟩ : SetD)))).bind fun r4 => match r4 with | .k0 x4_0 => (bif (decide ((Int.toNat (a1.sorts.length : Int)) ≤ x4_0.length)) then (some (x4_0.take (Int.toNat (a1.sorts.length : Int)))) else none)) else none)))
abbrev C8 (a1 : GramD) : List AB := [bG a1, bS [], bS (List.replicate (tS a1) (⟨0, 0, 0, 0⟩ : SetD))]
abbrev C9 (g4 : Nat → AV) (a1 : GramD) (x4_0 : List SetD) : St := ⟨fr 95 g4 [(1, .ptr 0 0), (5, (.sl 2 0 4 0 (tS a1)))], [bG a1, bS [], bS x4_0]⟩
theorem Ba (a1 : GramD) {r : (List SetD)} (h : F34 a1 = some r) : PR2 prg 34 [aG a1] (ZcJ a1 r) := by
 unfold F34 at h
 apply bn h; intro x1 h1 h
 have q0 := (((Fx a1 h1).cp rfl _) : CP prg 16 [aG a1] [bG a1, bS []] = some (ls 1 eI64 x1))
 apply bn h; intro x2 h2 h
 have q1 := (((C7 a1 h2).cp rfl _) : CP prg 27 [aG a1] [bG a1, bS []] = some (ls 1 Zk x2))
 have q2 := (FG x1 x2 (tS a1) a1 true (List.replicate (tS a1) (⟨0, 0, 0, 0⟩ : SetD)))
 have k3 := ka [(14, .v (ls 1 eI64 x1)), (16, .v (ls 1 Zk x2)), (19, .v (i6 (lS a1)))] (apc q0 (apc q1 (apc (lg a1.sorts eStr 1) apn)))
 apply bi h <;> intro h3 h
 ·
  have q4 := ((U5 (h := [bG a1, bS []]) (e := eSet) (z := (⟨0, 0, 0, 0⟩ : SetD)) h3 rfl) : (mkA 46 4 32 [.val (.int .u64 0), .val (.int .u64 0), .val (.int .u64 0), .val (.int .u64 0)] (i6 (lS a1)) (i6 (lS a1)) 2).map (fun x => (x.1, [bG a1, bS []] ++ [x.2])) = some ((.sl 2 0 4 0 (tS a1)), C8 a1))
  have k5 := k3.a [(20, .r (.sl 2 0 4 0 (tS a1)) (C8 a1))] (apc q4 apn)
  apply bn h; intro r4 h4 h
  cases r4 with
  | k0 x4_0 =>
   obtain ⟨g4, e4⟩ := FH x1 x2 (tS a1) a1 (true, (List.replicate (tS a1) (⟨0, 0, 0, 0⟩ : SetD))) _ h4
   have q6 := (e4 : Tu x1 x2 (tS a1) a1 true (List.replicate (tS a1) (⟨0, 0, 0, 0⟩ : SetD)) = some ((.brk 0), C9 g4 a1 x4_0))
   have k7 := k5.a [(2000, .l (.brk 0) (C9 g4 a1 x4_0))] (apc q2 (apc q6 apn))
   apply bi h <;> intro h5 h
   ·
    rw [← sj h]
    exact fpn (v := (.sl 2 0 4 0 (tS a1))) (h' := [bG a1, bS [], bS x4_0]) (kH k7 ++ [(6000, .d true)]) (k7.b apn) (ZR (e := eSet) rfl h5) rfl (ZR (e := eSet) (getq rfl (W4 (fun _ => rfl))) h5) (by kernel_rfl)
   ·
    cases h
 ·
  cases h
inductive E_L35_0_4 where
  | k0 (x0 : Bool) (x1 x2 x3 x4 : Int)
section
variable (a1 : List Int) (a2 : List Bool) (a3 : List SetD) (a4 : Nat) (a5 : Bool) (a6 a7 : Int) (a8 : SymD) (a10 : GramD) (a11 : List Bool) (a12 : List SetD) (a13 : List Bool) (a14 : ProdD)
abbrev RD (l : List AB) : List AB := bG a10 :: bS [] :: bB [] :: bB a11 :: bS a12 :: bB a13 :: yY0 :: bP a14 :: l
def Yv (v1 : Bool) (v2 v3 v4 v5 v6 : Int) : Option (E_L35_0_4 ⊕ (Bool × Int × Int × Int × Int × Int)) :=
  (bif (decide (v2 < (a14.right.length : Int))) then (bif v1 then ((getI a14.right v2).bind fun x3 => (bif (x3.kind == 1) then ((getI a3 x3.sort).bind fun x5 => ((LC v3 v4 v5 v6 x5).bind fun r6 => match r6 with | .k0 x6_0 x6_1 x6_2 x6_3 => ((getI a2 x3.sort).bind fun x7 => (bif x7 then (some (.inr (true, (IntKind.wrap .i64 (v2 + 1)), x6_0, x6_1, x6_2, x6_3))) else (some (.inr (false, (IntKind.wrap .i64 (v2 + 1)), x6_0, x6_1, x6_2, x6_3))))))) else ((IF v3 v4 v5 v6 x3).bind fun r5 => match r5 with | .k0 x5_0 x5_1 x5_2 x5_3 => (some (.inr (false, (IntKind.wrap .i64 (v2 + 1)), x5_0, x5_1, x5_2, x5_3)))))) else (some (.inl (.k0 v1 v3 v4 v5 v6)))) else (some (.inl (.k0 v1 v3 v4 v5 v6))))
def NE (v1 : Bool) (v2 v3 v4 v5 v6 : Int) : St := ⟨fr 202 ug [(1, .ptr 0 0), (4, ls 1 eI64 a1), (5, ls 1 Zk a2), (6, ls 4 eSet a3), (7, .sl 3 0 1 0 a4), (8, .sl 4 0 4 0 a4), (9, .sl 5 0 1 0 a4), (10, vb a5), (11, i6 a6), (12, .ptr 7 0), (13, i6 a7), (14, i6 a8.sort), (15, .ptr 8 0), (16, vb v1), (17, i6 v2)], (RD a10 a11 a12 a13 a14 [.cells 46 [vi .u64 v3, vi .u64 v4, vi .u64 v5, vi .u64 v6]])⟩
theorem UM (v1 : Bool) (v2 v3 v4 v5 v6 : Int) : okT 9 (NE a1 a2 a3 a4 a5 a6 a7 a8 a10 a11 a12 a13 a14 v1 v2 v3 v4 v5 v6).h = true := (Zr rfl (ac (ar (ar (ar (ar (ar (ar (ac (ac rfl))))))))))
abbrev Wr (v1 : Bool) (v2 v3 v4 v5 v6 : Int) := evH prg 9 [1, 4, 5, 6, 7, 8, 9, 10, 11, 12, 13, 14, 15, 16, 17] Gd (NE a1 a2 a3 a4 a5 a6 a7 a8 a10 a11 a12 a13 a14 v1 v2 v3 v4 v5 v6)
def RE (e : E_L35_0_4) (r : Option (Out × St)) : Prop := match e with | .k0 x0 x1 x2 x3 x4 => ∃ g, r = some ((.brk 6), ⟨fr 202 g [(1, .ptr 0 0), (4, ls 1 eI64 a1), (5, ls 1 Zk a2), (6, ls 4 eSet a3), (7, .sl 3 0 1 0 a4), (8, .sl 4 0 4 0 a4), (9, .sl 5 0 1 0 a4), (10, vb a5), (11, i6 a6), (12, .ptr 7 0), (13, i6 a7), (14, i6 a8.sort), (15, .ptr 8 0), (16, vb x0)], (RD a10 a11 a12 a13 a14 [.cells 46 [vi .u64 x1, vi .u64 x2, vi .u64 x3, vi .u64 x4]])⟩)
abbrev QR (v3 v4 v5 v6 : Int) (x3 : SymD) : List AB := (RD a10 a11 a12 a13 a14 [.cells 46 [vi .u64 v3, vi .u64 v4, vi .u64 v5, vi .u64 v6], .cells 48 ((eSym x3).map .p)])
theorem IH (v1 : Bool) (v2 v3 v4 v5 v6 : Int) {r : E_L35_0_4 ⊕ (Bool × Int × Int × Int × Int × Int)} (h : Yv a2 a3 a14 v1 v2 v3 v4 v5 v6 = some r) : OkR (fun e => RE a1 a2 a3 a4 a5 a6 a7 a8 a10 a11 a12 a13 a14 e (Wr a1 a2 a3 a4 a5 a6 a7 a8 a10 a11 a12 a13 a14 v1 v2 v3 v4 v5 v6)) (fun s => Wr a1 a2 a3 a4 a5 a6 a7 a8 a10 a11 a12 a13 a14 v1 v2 v3 v4 v5 v6 = Wr a1 a2 a3 a4 a5 a6 a7 a8 a10 a11 a12 a13 a14 s.1 s.2.1 s.2.2.1 s.2.2.2.1 s.2.2.2.2.1 s.2.2.2.2.2) r := by
 unfold Yv at h
 have k0 := ka [(115, .v (i6 (a14.right.length : Int)))] (apc (lg a14.right eSym 6) apn)
 apply bi h <;> intro h1 h
 ·
  apply bi h <;> intro h2 h
  ·
   have k1 := k0.a [(116, .d true), (118, .d true)] (av h1 (av h2 apn))
   apply bn h; intro x3 h3 h
   apply bi h <;> intro h4 h
   ·
    have k2 := k1.a [(125, .v (.ro (eSym x3))), (129, .d true)] (apc (ig eSym 6 .i64 h3) (av h4 apn))
    apply bn h; intro x5 h5 h
    apply bn h; intro r6 h6 h
    cases r6 with
    | k0 x6_0 x6_1 x6_2 x6_3 =>
     have q3 := (((PT v3 v4 v5 v6 x5 h6).cp rfl _) : CP prg 63 [(.agg [vi .u64 v3, vi .u64 v4, vi .u64 v5, vi .u64 v6]), (.agg ((eSet x5).map .p)), i6 1] (QR a10 a11 a12 a13 a14 v3 v4 v5 v6 x3) = some (.agg [vi .u64 x6_0, vi .u64 x6_1, vi .u64 x6_2, vi .u64 x6_3]))
     have k4 := k2.a [(134, .v (.ro (eSet x5))), (136, .v (.agg [vi .u64 x6_0, vi .u64 x6_1, vi .u64 x6_2, vi .u64 x6_3]))] (apc (ig eSet 4 .i64 h5) (apc q3 apn))
     apply bn h; intro x7 h7 h
     have k5 := k4.a [(140, .v (.ro [.val (.bool x7)]))] (apc (ig Zk 1 .i64 h7) apn)
     apply bi h <;> intro h8 h
     ·
      rw [← sj h]
      exact rn (kH k5 ++ [(141, .d true), (6000, .d true)]) (k5.b (av h8 (apc (UM a1 a2 a3 a4 a5 a6 a7 a8 a10 a11 a12 a13 a14 true (w6 (v2 + 1)) x6_0 x6_1 x6_2 x6_3) apn)))
     ·
      rw [← sj h]
      exact rn (kH k5 ++ [(141, .d false), (6000, .d true)]) (k5.b (av h8 (apc (UM a1 a2 a3 a4 a5 a6 a7 a8 a10 a11 a12 a13 a14 false (w6 (v2 + 1)) x6_0 x6_1 x6_2 x6_3) apn)))
   ·
    apply bn h; intro r5 h5 h
    cases r5 with
    | k0 x5_0 x5_1 x5_2 x5_3 =>
     rw [← sj h]
     exact rn (kH k1 ++ [(125, .v (.ro (eSym x3))), (129, .d false), (145, .v (.agg [vi .u64 x5_0, vi .u64 x5_1, vi .u64 x5_2, vi .u64 x5_3])), (6000, .d true)]) (k1.b (apc (ig eSym 6 .i64 h3) (av h4 (apc (((Jo v3 v4 v5 v6 x3 h5).cp rfl _) : CP prg 63 [(.agg [vi .u64 v3, vi .u64 v4, vi .u64 v5, vi .u64 v6]), (.agg ((List.take 4 (List.drop 1 (eSym x3))).map .p)), i6 1] (QR a10 a11 a12 a13 a14 v3 v4 v5 v6 x3) = some (.agg [vi .u64 x5_0, vi .u64 x5_1, vi .u64 x5_2, vi .u64 x5_3])) (apc (UM a1 a2 a3 a4 a5 a6 a7 a8 a10 a11 a12 a13 a14 false (w6 (v2 + 1)) x5_0 x5_1 x5_2 x5_3) apn)))))
  ·
   rw [← sj h]
   exact xb (kH k0 ++ [(116, .d true), (118, .d false), (6000, .d true)]) (k0.b (av h1 (av h2 apn)))
 ·
  rw [← sj h]
  exact xb (kH k0 ++ [(116, .d false), (6000, .d true)]) (k0.b (av h1 apn))
theorem LH (s0 : Bool × Int × Int × Int × Int × Int) (e : E_L35_0_4) (h : runL (fun s => Yv a2 a3 a14 s.1 s.2.1 s.2.2.1 s.2.2.2.1 s.2.2.2.2.1 s.2.2.2.2.2) s0 = some e) : RE a1 a2 a3 a4 a5 a6 a7 a8 a10 a11 a12 a13 a14 e (Wr a1 a2 a3 a4 a5 a6 a7 a8 a10 a11 a12 a13 a14 s0.1 s0.2.1 s0.2.2.1 s0.2.2.2.1 s0.2.2.2.2.1 s0.2.2.2.2.2) := by
  have q := @Zb (Bool × Int × Int × Int × Int × Int) E_L35_0_4 (fun s => Yv a2 a3 a14 s.1 s.2.1 s.2.2.1 s.2.2.2.1 s.2.2.2.2.1 s.2.2.2.2.2) (fun s => Wr a1 a2 a3 a4 a5 a6 a7 a8 a10 a11 a12 a13 a14 s.1 s.2.1 s.2.2.1 s.2.2.2.1 s.2.2.2.2.1 s.2.2.2.2.2) (RE a1 a2 a3 a4 a5 a6 a7 a8 a10 a11 a12 a13 a14) (fun s r h => IH a1 a2 a3 a4 a5 a6 a7 a8 a10 a11 a12 a13 a14 s.1 s.2.1 s.2.2.1 s.2.2.2.1 s.2.2.2.2.1 s.2.2.2.2.2 h) s0 e h
  exact q
end
inductive E_L35_1_2 where
  | k0 (x0 : Bool) (x1 : List Bool) (x2 : List SetD) (x3 : List Bool)
section
variable (a1 : List Int) (a2 : List Bool) (a3 : List SetD) (a4 : Nat) (a6 : Int) (a7 : GramD) (a11 : ProdD)
abbrev ZJ (l : List AB) : List AB := bG a7 :: bS [] :: bB [] :: l
def Y8 (v1 : Bool) (v2 : Int) (v3 : List Bool) (v4 : List SetD) (v5 : List Bool) : Option (E_L35_1_2 ⊕ (Bool × Int × (List Bool) × (List SetD) × (List Bool))) :=
  (bif (decide (v2 < (a11.right.length : Int))) then ((getI a11.right v2).bind fun x2 => (bif (x2.kind != 1) then (some (.inr (v1, (IntKind.wrap .i64 (v2 + 1)), v3, v4, v5))) else ((ixN a4 x2.sort).bind fun x4 => ((v4[x4]?).bind fun x5 => ((runL (fun s => Yv a2 a3 a11 s.1 s.2.1 s.2.2.1 s.2.2.2.1 s.2.2.2.2.1 s.2.2.2.2.2) (true, (IntKind.wrap .i64 (v2 + 1)), x5.a, x5.b, x5.c, x5.d)).bind fun r6 => match r6 with | .k0 x6_0 x6_1 x6_2 x6_3 x6_4 => (bif x6_0 then ((ixN a4 a11.left).bind fun x8 => ((v4[x8]?).bind fun x9 => ((LC x6_1 x6_2 x6_3 x6_4 x9).bind fun r10 => match r10 with | .k0 x10_0 x10_1 x10_2 x10_3 => ((v5[x4]?).bind fun x11 => (bif x11 then (bif (!((x10_0 == x5.a) && ((x10_1 == x5.b) && ((x10_2 == x5.c) && ((x10_3 == x5.d) && true))))) then ((v3[x4]?).bind fun x14 => (some (.inr (true, (IntKind.wrap .i64 (v2 + 1)), v3.set x4 true, (v4.set x4 (⟨x10_0, x10_1, x10_2, x10_3⟩ : SetD)), v5.set x4 true)))) else (bif (!((true == x11) && true)) then ((v3[x4]?).bind fun x15 => (some (.inr (true, (IntKind.wrap .i64 (v2 + 1)), v3.set x4 true, (v4.set x4 (⟨x10_0, x10_1, x10_2, x10_3⟩ : SetD)), v5.set x4 true)))) else ((v3[x4]?).bind fun x15 => (bif x15 then (some (.inr (v1, (IntKind.wrap .i64 (v2 + 1)), v3, v4, v5))) else (some (.inr (true, (IntKind.wrap .i64 (v2 + 1)), v3.set x4 true, (v4.set x4 (⟨x10_0, x10_1, x10_2, x10_3⟩ : SetD)), v5.set x4 true))))))) else ((v5[x8]?).bind fun x13 => (bif x13 then (bif (!((x10_0 == x5.a) && ((x10_1 == x5.b) && ((x10_2 == x5.c) && ((x10_3 == x5.d) && true))))) then ((v3[x4]?).bind fun x16 => (some (.inr (true, (IntKind.wrap .i64 (v2 + 1)), v3.set x4 true, (v4.set x4 (⟨x10_0, x10_1, x10_2, x10_3⟩ : SetD)), v5.set x4 true)))) else (bif (!((true == x11) && true)) then ((v3[x4]?).bind fun x17 => (some (.inr (true, (IntKind.wrap .i64 (v2 + 1)), v3.set x4 true, (v4.set x4 (⟨x10_0, x10_1, x10_2, x10_3⟩ : SetD)), v5.set x4 true)))) else ((v3[x4]?).bind fun x17 => (bif x17 then (some (.inr (v1, (IntKind.wrap .i64 (v2 + 1)), v3, v4, v5))) else (some (.inr (true, (IntKind.wrap .i64 (v2 + 1)), v3.set x4 true, (v4.set x4 (⟨x10_0, x10_1, x10_2, x10_3⟩ : SetD)), v5.set x4 true))))))) else (bif (!((x10_0 == x5.a) && ((x10_1 == x5.b) && ((x10_2 == x5.c) && ((x10_3 == x5.d) && true))))) then ((v3[x4]?).bind fun x16 => (some (.inr (true, (IntKind.wrap .i64 (v2 + 1)), v3.set x4 true, (v4.set x4 (⟨x10_0, x10_1, x10_2, x10_3⟩ : SetD)), v5.set x4 false)))) else (bif (!((false == x11) && true)) then ((v3[x4]?).bind fun x17 => (some (.inr (true, (IntKind.wrap .i64 (v2 + 1)), v3.set x4 true, (v4.set x4 (⟨x10_0, x10_1, x10_2, x10_3⟩ : SetD)), v5.set x4 false)))) else ((v3[x4]?).bind fun x17 => (bif x17 then (some (.inr (v1, (IntKind.wrap .i64 (v2 + 1)), v3, v4, v5))) else (some (.inr (true, (IntKind.wrap .i64 (v2 + 1)), v3.set x4 true, (v4.set x4 (⟨x10_0, x10_1, x10_2, x10_3⟩ : SetD)), v5.set x4 false)))))))))))))) else ((v5[x4]?).bind fun x8 => (bif x8 then (bif (!((x6_1 == x5.a) && ((x6_2 == x5.b) && ((x6_3 == x5.c) && ((x6_4 == x5.d) && true))))) then ((v3[x4]?).bind fun x11 => (some (.inr (true, (IntKind.wrap .i64 (v2 + 1)), v3.set x4 true, (v4.set x4 (⟨x6_1, x6_2, x6_3, x6_4⟩ : SetD)), v5.set x4 true)))) else (bif (!((true == x8) && true)) then ((v3[x4]?).bind fun x12 => (some (.inr (true, (IntKind.wrap .i64 (v2 + 1)), v3.set x4 true, (v4.set x4 (⟨x6_1, x6_2, x6_3, x6_4⟩ : SetD)), v5.set x4 true)))) else ((v3[x4]?).bind fun x12 => (bif x12 then (some (.inr (v1, (IntKind.wrap .i64 (v2 + 1)), v3, v4, v5))) else (some (.inr (true, (IntKind.wrap .i64 (v2 + 1)), v3.set x4 true, (v4.set x4 (⟨x6_1, x6_2, x6_3, x6_4⟩ : SetD)), v5.set x4 true))))))) else (bif (!((x6_1 == x5.a) && ((x6_2 == x5.b) && ((x6_3 == x5.c) && ((x6_4 == x5.d) && true))))) then ((v3[x4]?).bind fun x11 => (some (.inr (true, (IntKind.wrap .i64 (v2 + 1)), v3.set x4 true, (v4.set x4 (⟨x6_1, x6_2, x6_3, x6_4⟩ : SetD)), v5.set x4 false)))) else (bif (!((false == x8) && true)) then ((v3[x4]?).bind fun x12 => (some (.inr (true, (IntKind.wrap .i64 (v2 + 1)), v3.set x4 true, (v4.set x4 (⟨x6_1, x6_2, x6_3, x6_4⟩ : SetD)), v5.set x4 false)))) else ((v3[x4]?).bind fun x12 => (bif x12 then (some (.inr (v1, (IntKind.wrap .i64 (v2 + 1)), v3, v4, v5))) else (some (.inr (true, (IntKind.wrap .i64 (v2 + 1)), v3.set x4 true, (v4.set x4 (⟨x6_1, x6_2, x6_3, x6_4⟩ : SetD)), v5.set x4 false))))))))))))))) else (some (.inl (.k0 v1 v3 v4 v5))))
def NF (v1 : Bool) (v2 : Int) (v3 : List Bool) (v4 : List SetD) (v5 : List Bool) : St := ⟨fr 202 ug [(1, .ptr 0 0), (4, ls 1 eI64 a1), (5, ls 1 Zk a2), (6, ls 4 eSet a3), (7, .sl 3 0 1 0 a4), (8, .sl 4 0 4 0 a4), (9, .sl 5 0 1 0 a4), (10, vb v1), (11, i6 a6), (12, .ptr 7 0), (13, i6 v2)], (ZJ a7 [bB v3, bS v4, bB v5, yY0, bP a11])⟩
theorem Ws (v1 : Bool) (v2 : Int) (v3 : List Bool) (v4 : List SetD) (v5 : List Bool) : okT 8 (NF a1 a2 a3 a4 a6 a7 a11 v1 v2 v3 v4 v5).h = true := (Zr rfl (ac (ar (ar (ar (ar (ar (ar (ac rfl)))))))))
abbrev Wt (v1 : Bool) (v2 : Int) (v3 : List Bool) (v4 : List SetD) (v5 : List Bool) := evH prg 8 [1, 4, 5, 6, 7, 8, 9, 10, 11, 12, 13] Ge (NF a1 a2 a3 a4 a6 a7 a11 v1 v2 v3 v4 v5)
def RF (e : E_L35_1_2) (r : Option (Out × St)) : Prop := match e with | .k0 x0 x1 x2 x3 => ∃ g, r = some ((.brk 4), ⟨fr 202 g [(1, .ptr 0 0), (4, ls 1 eI64 a1), (5, ls 1 Zk a2), (6, ls 4 eSet a3), (7, .sl 3 0 1 0 a4), (8, .sl 4 0 4 0 a4), (9, .sl 5 0 1 0 a4), (10, vb x0), (11, i6 a6), (12, .ptr 7 0)], (ZJ a7 [bB x1, bS x2, bB x3, yY0, bP a11])⟩)
abbrev QS (g6 : Nat → AV) (v1 : Bool) (v2 : Int) (x2 : SymD) (x6_0 : Bool) (v3 : List Bool) (v4 : List SetD) (v5 : List Bool) (x6_1 x6_2 x6_3 x6_4 : Int) : St := ⟨fr 202 g6 [(1, .ptr 0 0), (4, ls 1 eI64 a1), (5, ls 1 Zk a2), (6, ls 4 eSet a3), (7, .sl 3 0 1 0 a4), (8, .sl 4 0 4 0 a4), (9, .sl 5 0 1 0 a4), (10, vb v1), (11, i6 a6), (12, .ptr 7 0), (13, i6 v2), (14, i6 x2.sort), (15, .ptr 8 0), (16, vb x6_0)], (ZJ a7 [bB v3, bS v4, bB v5, yY0, bP a11, .cells 46 [vi .u64 x6_1, vi .u64 x6_2, vi .u64 x6_3, vi .u64 x6_4]])⟩
abbrev ZY (v3 : List Bool) (v4 : List SetD) (v5 : List Bool) (x6_1 x6_2 x6_3 x6_4 : Int) : List AB := (ZJ a7 [bB v3, bS v4, bB v5, yY0, bP a11, .cells 46 [vi .u64 x6_1, vi .u64 x6_2, vi .u64 x6_3, vi .u64 x6_4]])
abbrev Yi (v3 : List Bool) (v4 : List SetD) (x4 : Nat) (x6_1 x6_2 x6_3 x6_4 : Int) (v5 : List Bool) : List AB := (ZJ a7 [bB v3, bS (v4.set x4 (⟨x6_1, x6_2, x6_3, x6_4⟩ : SetD)), bB v5, yY0, bP a11, .cells 46 [vi .u64 x6_1, vi .u64 x6_2, vi .u64 x6_3, vi .u64 x6_4]])
abbrev ZM (v3 : List Bool) (v4 : List SetD) (v5 : List Bool) (x10_0 x10_1 x10_2 x10_3 : Int) : List AB := (ZJ a7 [bB v3, bS v4, bB v5, yY0, bP a11, .cells 46 [vi .u64 x10_0, vi .u64 x10_1, vi .u64 x10_2, vi .u64 x10_3]])
abbrev ZS (v3 : List Bool) (v4 : List SetD) (x4 : Nat) (x10_0 x10_1 x10_2 x10_3 : Int) (v5 : List Bool) : List AB := (ZJ a7 [bB v3, bS (v4.set x4 (⟨x10_0, x10_1, x10_2, x10_3⟩ : SetD)), bB v5, yY0, bP a11, .cells 46 [vi .u64 x10_0, vi .u64 x10_1, vi .u64 x10_2, vi .u64 x10_3]])
abbrev ZN (v3 : List Bool) (v4 : List SetD) (x4 : Nat) (x10_0 x10_1 x10_2 x10_3 : Int) (v5 : List Bool) : List AB := (ZJ a7 [bB v3, bS (v4.set x4 (⟨x10_0, x10_1, x10_2, x10_3⟩ : SetD)), bB (v5.set x4 true), yY0, bP a11, .cells 46 [vi .u64 x10_0, vi .u64 x10_1, vi .u64 x10_2, vi .u64 x10_3]])
abbrev YT (v3 : List Bool) (v4 : List SetD) (x4 : Nat) (x10_0 x10_1 x10_2 x10_3 : Int) (v5 : List Bool) : List AB := (ZJ a7 [bB v3, bS (v4.set x4 (⟨x10_0, x10_1, x10_2, x10_3⟩ : SetD)), bB (v5.set x4 false), yY0, bP a11, .cells 46 [vi .u64 x10_0, vi .u64 x10_1, vi .u64 x10_2, vi .u64 x10_3]])
abbrev ZT (v3 : List Bool) (x4 : Nat) (v4 : List SetD) (x10_0 x10_1 x10_2 x10_3 : Int) (v5 : List Bool) : List AB := (ZJ a7 [bB (v3.set x4 true), bS (v4.set x4 (⟨x10_0, x10_1, x10_2, x10_3⟩ : SetD)), bB (v5.set x4 true), yY0, bP a11, .cells 46 [vi .u64 x10_0, vi .u64 x10_1, vi .u64 x10_2, vi .u64 x10_3]])
abbrev Xo (v3 : List Bool) (x4 : Nat) (v4 : List SetD) (x10_0 x10_1 x10_2 x10_3 : Int) (v5 : List Bool) : List AB := (ZJ a7 [bB (v3.set x4 true), bS (v4.set x4 (⟨x10_0, x10_1, x10_2, x10_3⟩ : SetD)), bB (v5.set x4 false), yY0, bP a11, .cells 46 [vi .u64 x10_0, vi .u64 x10_1, vi .u64 x10_2, vi .u64 x10_3]])
abbrev YU (v3 : List Bool) (v4 : List SetD) (x4 : Nat) (x6_1 x6_2 x6_3 x6_4 : Int) (v5 : List Bool) : List AB := (ZJ a7 [bB v3, bS (v4.set x4 (⟨x6_1, x6_2, x6_3, x6_4⟩ : SetD)), bB (v5.set x4 true), yY0, bP a11, .cells 46 [vi .u64 x6_1, vi .u64 x6_2, vi .u64 x6_3, vi .u64 x6_4]])
abbrev Yw (v3 : List Bool) (v4 : List SetD) (x4 : Nat) (x6_1 x6_2 x6_3 x6_4 : Int) (v5 : List Bool) : List AB := (ZJ a7 [bB v3, bS (v4.set x4 (⟨x6_1, x6_2, x6_3, x6_4⟩ : SetD)), bB (v5.set x4 false), yY0, bP a11, .cells 46 [vi .u64 x6_1, vi .u64 x6_2, vi .u64 x6_3, vi .u64 x6_4]])
abbrev YV (v3 : List Bool) (x4 : Nat) (v4 : List SetD) (x6_1 x6_2 x6_3 x6_4 : Int) (v5 : List Bool) : List AB := (ZJ a7 [bB (v3.set x4 true), bS (v4.set x4 (⟨x6_1, x6_2, x6_3, x6_4⟩ : SetD)), bB (v5.set x4 true), yY0, bP a11, .cells 46 [vi .u64 x6_1, vi .u64 x6_2, vi .u64 x6_3, vi .u64 x6_4]])
abbrev YW (v3 : List Bool) (x4 : Nat) (v4 : List SetD) (x6_1 x6_2 x6_3 x6_4 : Int) (v5 : List Bool) : List AB := (ZJ a7 [bB (v3.set x4 true), bS (v4.set x4 (⟨x6_1, x6_2, x6_3, x6_4⟩ : SetD)), bB (v5.set x4 false), yY0, bP a11, .cells 46 [vi .u64 x6_1, vi .u64 x6_2, vi .u64 x6_3, vi .u64 x6_4]])
theorem II (v1 : Bool) (v2 : Int) (v3 : List Bool) (v4 : List SetD) (v5 : List Bool) {r : E_L35_1_2 ⊕ (Bool × Int × (List Bool) × (List SetD) × (List Bool))} (h : Y8 a2 a3 a4 a11 v1 v2 v3 v4 v5 = some r) : OkR (fun e => RF a1 a2 a3 a4 a6 a7 a11 e (Wt a1 a2 a3 a4 a6 a7 a11 v1 v2 v3 v4 v5)) (fun s => Wt a1 a2 a3 a4 a6 a7 a11 v1 v2 v3 v4 v5 = Wt a1 a2 a3 a4 a6 a7 a11 s.1 s.2.1 s.2.2.1 s.2.2.2.1 s.2.2.2.2) r := by
 unfold Y8 at h
 have q0 := (Ws a1 a2 a3 a4 a6 a7 a11 v1 (w6 (v2 + 1)) v3 v4 v5)
 have k1 := ka [(89, .v (i6 (a11.right.length : Int)))] (apc (lg a11.right eSym 6) apn)
 apply bi h <;> intro h1 h
 ·
  apply bn h; intro x2 h2 h
  have k2 := k1.a [(90, .d true), (96, .v (.ro (eSym x2)))] (av h1 (apc (ig eSym 6 .i64 h2) apn))
  apply bi h <;> intro h3 h
  ·
   rw [← sj h]
   exact rn (kH k2 ++ [(99, .d true), (6000, .d true)]) (k2.b (av h3 (apc q0 apn)))
  ·
   have k3 := k2.a [(99, .d false), (103, .v (.ro (eSym x2)))] (av h3 (apc (ig eSym 6 .i64 h2) apn))
   apply bn h; intro x4 h4 h
   have q4 := ((ZW h4) : idxA 4 (.sl 4 0 4 0 a4) (i6 x2.sort) = some (.rp 4 0 4 x4 0))
   have q5 := ((ZW h4) : idxA 1 (.sl 5 0 1 0 a4) (i6 x2.sort) = some (.rp 5 0 1 x4 0))
   have q6 := ((ZW h4) : idxA 1 (.sl 3 0 1 0 a4) (i6 x2.sort) = some (.rp 3 0 1 x4 0))
   apply bn h; intro x5 h5 h
   have q7 := ((Zp rfl h5 rfl) : ldA (ZJ a7 [bB v3, bS v4, bB v5, yY0, bP a11]) .true 4 (.rp 4 0 4 x4 0) = some (.agg ((eSet x5).map .p)))
   have q8 := (UM a1 a2 a3 a4 v1 a6 v2 x2 a7 v3 v4 v5 a11 true (w6 (v2 + 1)) x5.a x5.b x5.c x5.d)
   have k9 := k3.a [(108, .v (.rp 4 0 4 x4 0)), (109, .v (.agg ((eSet x5).map .p)))] (apc q4 (apc q7 apn))
   apply bn h; intro r6 h6 h
   cases r6 with
   | k0 x6_0 x6_1 x6_2 x6_3 x6_4 =>
    obtain ⟨g6, e6⟩ := LH a1 a2 a3 a4 v1 a6 v2 x2 a7 v3 v4 v5 a11 (true, (w6 (v2 + 1)), x5.a, x5.b, x5.c, x5.d) _ h6
    have q10 := (e6 : Wr a1 a2 a3 a4 v1 a6 v2 x2 a7 v3 v4 v5 a11 true (w6 (v2 + 1)) x5.a x5.b x5.c x5.d = some ((.brk 6), QS a1 a2 a3 a4 a6 a7 a11 g6 v1 v2 x2 x6_0 v3 v4 v5 x6_1 x6_2 x6_3 x6_4))
    have q11 := ((Zp rfl h5 rfl) : ldA (ZY a7 a11 v3 v4 v5 x6_1 x6_2 x6_3 x6_4) .true 4 (.rp 4 0 4 x4 0) = some (.agg ((eSet x5).map .p)))
    have q12 := (⟨Zt (v' := (⟨x6_1, x6_2, x6_3, x6_4⟩ : SetD)) rfl h5 rfl rfl (Nat.le_of_ble_eq_true rfl) rfl, rfl⟩ : stA (ZY a7 a11 v3 v4 v5 x6_1 x6_2 x6_3 x6_4) 4 (.rp 4 0 4 x4 0) (.agg [vi .u64 x6_1, vi .u64 x6_2, vi .u64 x6_3, vi .u64 x6_4]) = some (Yi a7 a11 v3 v4 x4 x6_1 x6_2 x6_3 x6_4 v5) ∧ ud = ud)
    have q13 := (Ws a1 a2 a3 a4 a6 a7 a11 true (w6 (v2 + 1)) (v3.set x4 true) (v4.set x4 (⟨x6_1, x6_2, x6_3, x6_4⟩ : SetD)) (v5.set x4 true))
    have q14 := (Ws a1 a2 a3 a4 a6 a7 a11 true (w6 (v2 + 1)) (v3.set x4 true) (v4.set x4 (⟨x6_1, x6_2, x6_3, x6_4⟩ : SetD)) (v5.set x4 false))
    have k15 := k9.a [(2006, .l (.brk 6) (QS a1 a2 a3 a4 a6 a7 a11 g6 v1 v2 x2 x6_0 v3 v4 v5 x6_1 x6_2 x6_3 x6_4))] (apc q8 (apc q10 apn))
    apply bi h <;> intro h7 h
    ·
     apply bn h; intro x8 h8 h
     have q16 := ((ZW h8) : idxA 4 (.sl 4 0 4 0 a4) (i6 a11.left) = some (.rp 4 0 4 x8 0))
     have q17 := ((ZW h8) : idxA 1 (.sl 5 0 1 0 a4) (i6 a11.left) = some (.rp 5 0 1 x8 0))
     have k18 := k15.a [(146, .d true), (151, .v (.rp 4 0 4 x8 0))] (av h7 (apc q16 apn))
     apply bn h; intro x9 h9 h
     have q19 := ((Zp rfl h9 rfl) : ldA (ZY a7 a11 v3 v4 v5 x6_1 x6_2 x6_3 x6_4) .true 4 (.rp 4 0 4 x8 0) = some (.agg ((eSet x9).map .p)))
     apply bn h; intro r10 h10 h
     cases r10 with
     | k0 x10_0 x10_1 x10_2 x10_3 =>
      have q20 := (((PT x6_1 x6_2 x6_3 x6_4 x9 h10).cp rfl _) : CP prg 63 [(.agg [vi .u64 x6_1, vi .u64 x6_2, vi .u64 x6_3, vi .u64 x6_4]), (.agg ((eSet x9).map .p)), i6 1] (ZY a7 a11 v3 v4 v5 x6_1 x6_2 x6_3 x6_4) = some (.agg [vi .u64 x10_0, vi .u64 x10_1, vi .u64 x10_2, vi .u64 x10_3]))
      have q21 := ((Zp rfl h5 rfl) : ldA (ZM a7 a11 v3 v4 v5 x10_0 x10_1 x10_2 x10_3) .true 4 (.rp 4 0 4 x4 0) = some (.agg ((eSet x5).map .p)))
      have q22 := (⟨Zt (v' := (⟨x10_0, x10_1, x10_2, x10_3⟩ : SetD)) rfl h5 rfl rfl (Nat.le_of_ble_eq_true rfl) rfl, rfl⟩ : stA (ZM a7 a11 v3 v4 v5 x10_0 x10_1 x10_2 x10_3) 4 (.rp 4 0 4 x4 0) (.agg [vi .u64 x10_0, vi .u64 x10_1, vi .u64 x10_2, vi .u64 x10_3]) = some (ZS a7 a11 v3 v4 x4 x10_0 x10_1 x10_2 x10_3 v5) ∧ ud = ud)
      have q23 := (Ws a1 a2 a3 a4 a6 a7 a11 true (w6 (v2 + 1)) (v3.set x4 true) (v4.set x4 (⟨x10_0, x10_1, x10_2, x10_3⟩ : SetD)) (v5.set x4 true))
      have q24 := (Ws a1 a2 a3 a4 a6 a7 a11 true (w6 (v2 + 1)) (v3.set x4 true) (v4.set x4 (⟨x10_0, x10_1, x10_2, x10_3⟩ : SetD)) (v5.set x4 false))
      have k25 := k18.a [(152, .v (.agg ((eSet x9).map .p))), (153, .v (.agg [vi .u64 x10_0, vi .u64 x10_1, vi .u64 x10_2, vi .u64 x10_3])), (156, .v (.rp 5 0 1 x4 0))] (apc q19 (apc q20 (apc q5 apn)))
      apply bn h; intro x11 h11 h
      have q26 := (⟨Zt (v' := true) rfl h11 rfl rfl (Nat.le_of_ble_eq_true rfl) rfl, rfl⟩ : stA (ZS a7 a11 v3 v4 x4 x10_0 x10_1 x10_2 x10_3 v5) 1 (.rp 5 0 1 x4 0) (vb true) = some (ZN a7 a11 v3 v4 x4 x10_0 x10_1 x10_2 x10_3 v5) ∧ ud = ud)
      have q27 := ((Zp rfl h11 rfl) : ldA (ZM a7 a11 v3 v4 v5 x10_0 x10_1 x10_2 x10_3) .false 1 (.rp 5 0 1 x4 0) = some (vb x11))
      have q28 := (⟨Zt (v' := false) rfl h11 rfl rfl (Nat.le_of_ble_eq_true rfl) rfl, rfl⟩ : stA (ZS a7 a11 v3 v4 x4 x10_0 x10_1 x10_2 x10_3 v5) 1 (.rp 5 0 1 x4 0) (vb false) = some (YT a7 a11 v3 v4 x4 x10_0 x10_1 x10_2 x10_3 v5) ∧ ud = ud)
      apply bi h <;> intro h12 h
      ·
       have q29 := (((Zp (V := vb x11) rfl h11 rfl).trans (congrArg (fun z => some (vb z)) h12)) : ldA (ZM a7 a11 v3 v4 v5 x10_0 x10_1 x10_2 x10_3) .false 1 (.rp 5 0 1 x4 0) = some (vb true))
       have k30 := k25.a [(157, .v (vb true)), (171, .v (.rp 4 0 4 x4 0)), (172, .v (.agg ((eSet x5).map .p)))] (apc q29 (apc q4 (apc q21 apn)))
       apply bi h <;> intro h13 h
       ·
        apply bn h; intro x14 h14 h
        rw [← sj h]
        exact rn (kH k30 ++ [(173, .d true), (197, .v (.rp 4 0 4 x4 0)), (1197, .r ud (ZS a7 a11 v3 v4 x4 x10_0 x10_1 x10_2 x10_3 v5)), (198, .v (.rp 5 0 1 x4 0)), (1198, .r ud (ZN a7 a11 v3 v4 x4 x10_0 x10_1 x10_2 x10_3 v5)), (199, .v (.rp 3 0 1 x4 0)), (1199, .r ud (ZT a7 a11 v3 x4 v4 x10_0 x10_1 x10_2 x10_3 v5)), (6000, .d true)]) (k30.b (av h13 (apc q4 (apc q22 (apc q5 (apc q26 (apc q6 (apc (⟨Zt (v' := true) rfl h14 rfl rfl (Nat.le_of_ble_eq_true rfl) rfl, rfl⟩ : stA (ZN a7 a11 v3 v4 x4 x10_0 x10_1 x10_2 x10_3 v5) 1 (.rp 3 0 1 x4 0) (vb true) = some (ZT a7 a11 v3 x4 v4 x10_0 x10_1 x10_2 x10_3 v5) ∧ ud = ud) (apc q23 apn)))))))))
       ·
        have k31 := k30.a [(173, .d false), (178, .v (.rp 5 0 1 x4 0)), (179, .v (vb x11))] (av h13 (apc q5 (apc q27 apn)))
        apply bi h <;> intro h14 h
        ·
         apply bn h; intro x15 h15 h
         rw [← sj h]
         exact rn (kH k31 ++ [(180, .d true), (197, .v (.rp 4 0 4 x4 0)), (1197, .r ud (ZS a7 a11 v3 v4 x4 x10_0 x10_1 x10_2 x10_3 v5)), (198, .v (.rp 5 0 1 x4 0)), (1198, .r ud (ZN a7 a11 v3 v4 x4 x10_0 x10_1 x10_2 x10_3 v5)), (199, .v (.rp 3 0 1 x4 0)), (1199, .r ud (ZT a7 a11 v3 x4 v4 x10_0 x10_1 x10_2 x10_3 v5)), (6000, .d true)]) (k31.b (av h14 (apc q4 (apc q22 (apc q5 (apc q26 (apc q6 (apc (⟨Zt (v' := true) rfl h15 rfl rfl (Nat.le_of_ble_eq_true rfl) rfl, rfl⟩ : stA (ZN a7 a11 v3 v4 x4 x10_0 x10_1 x10_2 x10_3 v5) 1 (.rp 3 0 1 x4 0) (vb true) = some (ZT a7 a11 v3 x4 v4 x10_0 x10_1 x10_2 x10_3 v5) ∧ ud = ud) (apc q23 apn)))))))))
        ·
         have k32 := k31.a [(180, .d false), (185, .v (.rp 3 0 1 x4 0))] (av h14 (apc q6 apn))
         apply bn h; intro x15 h15 h
         apply bi h <;> intro h16 h
         ·
          rw [← sj h]
          exact rn (kH k32 ++ [(186, .v (vb true)), (6000, .d true)]) (k32.b (apc (((Zp (V := vb x15) rfl h15 rfl).trans (congrArg (fun z => some (vb z)) h16)) : ldA (ZM a7 a11 v3 v4 v5 x10_0 x10_1 x10_2 x10_3) .false 1 (.rp 3 0 1 x4 0) = some (vb true)) (apc q0 apn)))
         ·
          rw [← sj h]
          exact rn (kH k32 ++ [(186, .v (vb false)), (197, .v (.rp 4 0 4 x4 0)), (1197, .r ud (ZS a7 a11 v3 v4 x4 x10_0 x10_1 x10_2 x10_3 v5)), (198, .v (.rp 5 0 1 x4 0)), (1198, .r ud (ZN a7 a11 v3 v4 x4 x10_0 x10_1 x10_2 x10_3 v5)), (199, .v (.rp 3 0 1 x4 0)), (1199, .r ud (ZT a7 a11 v3 x4 v4 x10_0 x10_1 x10_2 x10_3 v5)), (6000, .d true)]) (k32.b (apc (((Zp (V := vb x15) rfl h15 rfl).trans (congrArg (fun z => some (vb z)) h16)) : ldA (ZM a7 a11 v3 v4 v5 x10_0 x10_1 x10_2 x10_3) .false 1 (.rp 3 0 1 x4 0) = some (vb false)) (apc q4 (apc q22 (apc q5 (apc q26 (apc q6 (apc (⟨Zt (v' := true) rfl h15 rfl rfl (Nat.le_of_ble_eq_true rfl) rfl, rfl⟩ : stA (ZN a7 a11 v3 v4 x4 x10_0 x10_1 x10_2 x10_3 v5) 1 (.rp 3 0 1 x4 0) (vb true) = some (ZT a7 a11 v3 x4 v4 x10_0 x10_1 x10_2 x10_3 v5) ∧ ud = ud) (apc q23 apn)))))))))
      ·
       have q33 := (((Zp (V := vb x11) rfl h11 rfl).trans (congrArg (fun z => some (vb z)) h12)) : ldA (ZM a7 a11 v3 v4 v5 x10_0 x10_1 x10_2 x10_3) .false 1 (.rp 5 0 1 x4 0) = some (vb false))
       have k34 := k25.a [(157, .v (vb false)), (159, .d true), (164, .v (.rp 5 0 1 x8 0))] (apc q33 (av h7 (apc q17 apn)))
       apply bn h; intro x13 h13 h
       apply bi h <;> intro h14 h
       ·
        have q35 := (((Zp (V := vb x13) rfl h13 rfl).trans (congrArg (fun z => some (vb z)) h14)) : ldA (ZM a7 a11 v3 v4 v5 x10_0 x10_1 x10_2 x10_3) .false 1 (.rp 5 0 1 x8 0) = some (vb true))
        have k36 := k34.a [(165, .v (vb true)), (171, .v (.rp 4 0 4 x4 0)), (172, .v (.agg ((eSet x5).map .p)))] (apc q35 (apc q4 (apc q21 apn)))
        apply bi h <;> intro h15 h
        ·
         apply bn h; intro x16 h16 h
         rw [← sj h]
         exact rn (kH k36 ++ [(173, .d true), (197, .v (.rp 4 0 4 x4 0)), (1197, .r ud (ZS a7 a11 v3 v4 x4 x10_0 x10_1 x10_2 x10_3 v5)), (198, .v (.rp 5 0 1 x4 0)), (1198, .r ud (ZN a7 a11 v3 v4 x4 x10_0 x10_1 x10_2 x10_3 v5)), (199, .v (.rp 3 0 1 x4 0)), (1199, .r ud (ZT a7 a11 v3 x4 v4 x10_0 x10_1 x10_2 x10_3 v5)), (6000, .d true)]) (k36.b (av h15 (apc q4 (apc q22 (apc q5 (apc q26 (apc q6 (apc (⟨Zt (v' := true) rfl h16 rfl rfl (Nat.le_of_ble_eq_true rfl) rfl, rfl⟩ : stA (ZN a7 a11 v3 v4 x4 x10_0 x10_1 x10_2 x10_3 v5) 1 (.rp 3 0 1 x4 0) (vb true) = some (ZT a7 a11 v3 x4 v4 x10_0 x10_1 x10_2 x10_3 v5) ∧ ud = ud) (apc q23 apn)))))))))
        ·
         have k37 := k36.a [(173, .d false), (178, .v (.rp 5 0 1 x4 0)), (179, .v (vb x11))] (av h15 (apc q5 (apc q27 apn)))
         apply bi h <;> intro h16 h
         ·
          apply bn h; intro x17 h17 h
          rw [← sj h]
          exact rn (kH k37 ++ [(180, .d true), (197, .v (.rp 4 0 4 x4 0)), (1197, .r ud (ZS a7 a11 v3 v4 x4 x10_0 x10_1 x10_2 x10_3 v5)), (198, .v (.rp 5 0 1 x4 0)), (1198, .r ud (ZN a7 a11 v3 v4 x4 x10_0 x10_1 x10_2 x10_3 v5)), (199, .v (.rp 3 0 1 x4 0)), (1199, .r ud (ZT a7 a11 v3 x4 v4 x10_0 x10_1 x10_2 x10_3 v5)), (6000, .d true)]) (k37.b (av h16 (apc q4 (apc q22 (apc q5 (apc q26 (apc q6 (apc (⟨Zt (v' := true) rfl h17 rfl rfl (Nat.le_of_ble_eq_true rfl) rfl, rfl⟩ : stA (ZN a7 a11 v3 v4 x4 x10_0 x10_1 x10_2 x10_3 v5) 1 (.rp 3 0 1 x4 0) (vb true) = some (ZT a7 a11 v3 x4 v4 x10_0 x10_1 x10_2 x10_3 v5) ∧ ud = ud) (apc q23 apn)))))))))
         ·
          have k38 := k37.a [(180, .d false), (185, .v (.rp 3 0 1 x4 0))] (av h16 (apc q6 apn))
          apply bn h; intro x17 h17 h
          apply bi h <;> intro h18 h
          ·
           rw [← sj h]
           exact rn (kH k38 ++ [(186, .v (vb true)), (6000, .d true)]) (k38.b (apc (((Zp (V := vb x17) rfl h17 rfl).trans (congrArg (fun z => some (vb z)) h18)) : ldA (ZM a7 a11 v3 v4 v5 x10_0 x10_1 x10_2 x10_3) .false 1 (.rp 3 0 1 x4 0) = some (vb true)) (apc q0 apn)))
          ·
           rw [← sj h]
           exact rn (kH k38 ++ [(186, .v (vb false)), (197, .v (.rp 4 0 4 x4 0)), (1197, .r ud (ZS a7 a11 v3 v4 x4 x10_0 x10_1 x10_2 x10_3 v5)), (198, .v (.rp 5 0 1 x4 0)), (1198, .r ud (ZN a7 a11 v3 v4 x4 x10_0 x10_1 x10_2 x10_3 v5)), (199, .v (.rp 3 0 1 x4 0)), (1199, .r ud (ZT a7 a11 v3 x4 v4 x10_0 x10_1 x10_2 x10_3 v5)), (6000, .d true)]) (k38.b (apc (((Zp (V := vb x17) rfl h17 rfl).trans (congrArg (fun z => some (vb z)) h18)) : ldA (ZM a7 a11 v3 v4 v5 x10_0 x10_1 x10_2 x10_3) .false 1 (.rp 3 0 1 x4 0) = some (vb false)) (apc q4 (apc q22 (apc q5 (apc q26 (apc q6 (apc (⟨Zt (v' := true) rfl h17 rfl rfl (Nat.le_of_ble_eq_true rfl) rfl, rfl⟩ : stA (ZN a7 a11 v3 v4 x4 x10_0 x10_1 x10_2 x10_3 v5) 1 (.rp 3 0 1 x4 0) (vb true) = some (ZT a7 a11 v3 x4 v4 x10_0 x10_1 x10_2 x10_3 v5) ∧ ud = ud) (apc q23 apn)))))))))
       ·
        have q39 := (((Zp (V := vb x13) rfl h13 rfl).trans (congrArg (fun z => some (vb z)) h14)) : ldA (ZM a7 a11 v3 v4 v5 x10_0 x10_1 x10_2 x10_3) .false 1 (.rp 5 0 1 x8 0) = some (vb false))
        have k40 := k34.a [(165, .v (vb false)), (171, .v (.rp 4 0 4 x4 0)), (172, .v (.agg ((eSet x5).map .p)))] (apc q39 (apc q4 (apc q21 apn)))
        apply bi h <;> intro h15 h
        ·
         apply bn h; intro x16 h16 h
         rw [← sj h]
         exact rn (kH k40 ++ [(173, .d true), (197, .v (.rp 4 0 4 x4 0)), (1197, .r ud (ZS a7 a11 v3 v4 x4 x10_0 x10_1 x10_2 x10_3 v5)), (198, .v (.rp 5 0 1 x4 0)), (1198, .r ud (YT a7 a11 v3 v4 x4 x10_0 x10_1 x10_2 x10_3 v5)), (199, .v (.rp 3 0 1 x4 0)), (1199, .r ud (Xo a7 a11 v3 x4 v4 x10_0 x10_1 x10_2 x10_3 v5)), (6000, .d true)]) (k40.b (av h15 (apc q4 (apc q22 (apc q5 (apc q28 (apc q6 (apc (⟨Zt (v' := true) rfl h16 rfl rfl (Nat.le_of_ble_eq_true rfl) rfl, rfl⟩ : stA (YT a7 a11 v3 v4 x4 x10_0 x10_1 x10_2 x10_3 v5) 1 (.rp 3 0 1 x4 0) (vb true) = some (Xo a7 a11 v3 x4 v4 x10_0 x10_1 x10_2 x10_3 v5) ∧ ud = ud) (apc q24 apn)))))))))
        ·
         have k41 := k40.a [(173, .d false), (178, .v (.rp 5 0 1 x4 0)), (179, .v (vb x11))] (av h15 (apc q5 (apc q27 apn)))
         apply bi h <;> intro h16 h
         ·
          apply bn h; intro x17 h17 h
          rw [← sj h]
          exact rn (kH k41 ++ [(180, .d true), (197, .v (.rp 4 0 4 x4 0)), (1197, .r ud (ZS a7 a11 v3 v4 x4 x10_0 x10_1 x10_2 x10_3 v5)), (198, .v (.rp 5 0 1 x4 0)), (1198, .r ud (YT a7 a11 v3 v4 x4 x10_0 x10_1 x10_2 x10_3 v5)), (199, .v (.rp 3 0 1 x4 0)), (1199, .r ud (Xo a7 a11 v3 x4 v4 x10_0 x10_1 x10_2 x10_3 v5)), (6000, .d true)]) (k41.b (av h16 (apc q4 (apc q22 (apc q5 (apc q28 (apc q6 (apc (⟨Zt (v' := true) rfl h17 rfl rfl (Nat.le_of_ble_eq_true rfl) rfl, rfl⟩ : stA (YT a7 a11 v3 v4 x4 x10_0 x10_1 x10_2 x10_3 v5) 1 (.rp 3 0 1 x4 0) (vb true) = some (Xo a7 a11 v3 x4 v4 x10_0 x10_1 x10_2 x10_3 v5) ∧ ud = ud) (apc q24 apn)))))))))
         ·
          have k42 := k41.a [(180, .d false), (185, .v (.rp 3 0 1 x4 0))] (av h16 (apc q6 apn))
          apply bn h; intro x17 h17 h
          apply bi h <;> intro h18 h
          ·
           rw [← sj h]
           exact rn (kH k42 ++ [(186, .v (vb true)), (6000, .d true)]) (k42.b (apc (((Zp (V := vb x17) rfl h17 rfl).trans (congrArg (fun z => some (vb z)) h18)) : ldA (ZM a7 a11 v3 v4 v5 x10_0 x10_1 x10_2 x10_3) .false 1 (.rp 3 0 1 x4 0) = some (vb true)) (apc q0 apn)))
          ·
           rw [← sj h]
           exact rn (kH k42 ++ [(186, .v (vb false)), (197, .v (.rp 4 0 4 x4 0)), (1197, .r ud (ZS a7 a11 v3 v4 x4 x10_0 x10_1 x10_2 x10_3 v5)), (198, .v (.rp 5 0 1 x4 0)), (1198, .r ud (YT a7 a11 v3 v4 x4 x10_0 x10_1 x10_2 x10_3 v5)), (199, .v (.rp 3 0 1 x4 0)), (1199, .r ud (Xo a7 a11 v3 x4 v4 x10_0 x10_1 x10_2 x10_3 v5)), (6000, .d true)]) (k42.b (apc (((Zp (V := vb x17) rfl h17 rfl).trans (congrArg (fun z => some (vb z)) h18)) : ldA (ZM a7 a11 v3 v4 v5 x10_0 x10_1 x10_2 x10_3) .false 1 (.rp 3 0 1 x4 0) = some (vb false)) (apc q4 (apc q22 (apc q5 (apc q28 (apc q6 (apc (⟨Zt (v' := true) rfl h17 rfl rfl (Nat.le_of_ble_eq_true rfl) rfl, rfl⟩ : stA (YT a7 a11 v3 v4 x4 x10_0 x10_1 x10_2 x10_3 v5) 1 (.rp 3 0 1 x4 0) (vb true) = some (Xo a7 a11 v3 x4 v4 x10_0 x10_1 x10_2 x10_3 v5) ∧ ud = ud) (apc q24 apn)))))))))
    ·
     have k43 := k15.a [(146, .d false), (156, .v (.rp 5 0 1 x4 0))] (av h7 (apc q5 apn))
     apply bn h; intro x8 h8 h
     have q44 := (⟨Zt (v' := true) rfl h8 rfl rfl (Nat.le_of_ble_eq_true rfl) rfl, rfl⟩ : stA (Yi a7 a11 v3 v4 x4 x6_1 x6_2 x6_3 x6_4 v5) 1 (.rp 5 0 1 x4 0) (vb true) = some (YU a7 a11 v3 v4 x4 x6_1 x6_2 x6_3 x6_4 v5) ∧ ud = ud)
     have q45 := ((Zp rfl h8 rfl) : ldA (ZY a7 a11 v3 v4 v5 x6_1 x6_2 x6_3 x6_4) .false 1 (.rp 5 0 1 x4 0) = some (vb x8))
     have q46 := (⟨Zt (v' := false) rfl h8 rfl rfl (Nat.le_of_ble_eq_true rfl) rfl, rfl⟩ : stA (Yi a7 a11 v3 v4 x4 x6_1 x6_2 x6_3 x6_4 v5) 1 (.rp 5 0 1 x4 0) (vb false) = some (Yw a7 a11 v3 v4 x4 x6_1 x6_2 x6_3 x6_4 v5) ∧ ud = ud)
     apply bi h <;> intro h9 h
     ·
      have q47 := (((Zp (V := vb x8) rfl h8 rfl).trans (congrArg (fun z => some (vb z)) h9)) : ldA (ZY a7 a11 v3 v4 v5 x6_1 x6_2 x6_3 x6_4) .false 1 (.rp 5 0 1 x4 0) = some (vb true))
      have k48 := k43.a [(157, .v (vb true)), (171, .v (.rp 4 0 4 x4 0)), (172, .v (.agg ((eSet x5).map .p)))] (apc q47 (apc q4 (apc q11 apn)))
      apply bi h <;> intro h10 h
      ·
       apply bn h; intro x11 h11 h
       rw [← sj h]
       exact rn (kH k48 ++ [(173, .d true), (197, .v (.rp 4 0 4 x4 0)), (1197, .r ud (Yi a7 a11 v3 v4 x4 x6_1 x6_2 x6_3 x6_4 v5)), (198, .v (.rp 5 0 1 x4 0)), (1198, .r ud (YU a7 a11 v3 v4 x4 x6_1 x6_2 x6_3 x6_4 v5)), (199, .v (.rp 3 0 1 x4 0)), (1199, .r ud (YV a7 a11 v3 x4 v4 x6_1 x6_2 x6_3 x6_4 v5)), (6000, .d true)]) (k48.b (av h10 (apc q4 (apc q12 (apc q5 (apc q44 (apc q6 (apc (⟨Zt (v' := true) rfl h11 rfl rfl (Nat.le_of_ble_eq_true rfl) rfl, rfl⟩ : stA (YU a7 a11 v3 v4 x4 x6_1 x6_2 x6_3 x6_4 v5) 1 (.rp 3 0 1 x4 0) (vb true) = some (YV a7 a11 v3 x4 v4 x6_1 x6_2 x6_3 x6_4 v5) ∧ ud = ud) (apc q13 apn)))))))))
      ·
       have k49 := k48.a [(173, .d false), (178, .v (.rp 5 0 1 x4 0)), (179, .v (vb x8))] (av h10 (apc q5 (apc q45 apn)))
       apply bi h <;> intro h11 h
       ·
        apply bn h; intro x12 h12 h
        rw [← sj h]
        exact rn (kH k49 ++ [(180, .d true), (197, .v (.rp 4 0 4 x4 0)), (1197, .r ud (Yi a7 a11 v3 v4 x4 x6_1 x6_2 x6_3 x6_4 v5)), (198, .v (.rp 5 0 1 x4 0)), (1198, .r ud (YU a7 a11 v3 v4 x4 x6_1 x6_2 x6_3 x6_4 v5)), (199, .v (.rp 3 0 1 x4 0)), (1199, .r ud (YV a7 a11 v3 x4 v4 x6_1 x6_2 x6_3 x6_4 v5)), (6000, .d true)]) (k49.b (av h11 (apc q4 (apc q12 (apc q5 (apc q44 (apc q6 (apc (⟨Zt (v' := true) rfl h12 rfl rfl (Nat.le_of_ble_eq_true rfl) rfl, rfl⟩ : stA (YU a7 a11 v3 v4 x4 x6_1 x6_2 x6_3 x6_4 v5) 1 (.rp 3 0 1 x4 0) (vb true) = some (YV a7 a11 v3 x4 v4 x6_1 x6_2 x6_3 x6_4 v5) ∧ ud = ud) (apc q13 apn)))))))))
       ·
        have k50 := k49.a [(180, .d false), (185, .v (.rp 3 0 1 x4 0))] (av h11 (apc q6 apn))
        apply bn h; intro x12 h12 h
        apply bi h <;> intro h13 h
        ·
         rw [← sj h]
         exact rn (kH k50 ++ [(186, .v (vb true)), (6000, .d true)]) (k50.b (apc (((Zp (V := vb x12) rfl h12 rfl).trans (congrArg (fun z => some (vb z)) h13)) : ldA (ZY a7 a11 v3 v4 v5 x6_1 x6_2 x6_3 x6_4) .false 1 (.rp 3 0 1 x4 0) = some (vb true)) (apc q0 apn)))
        ·
         rw [← sj h]
         exact rn (kH k50 ++ [(186, .v (vb false)), (197, .v (.rp 4 0 4 x4 0)), (1197, .r ud (Yi a7 a11 v3 v4 x4 x6_1 x6_2 x6_3 x6_4 v5)), (198, .v (.rp 5 0 1 x4 0)), (1198, .r ud (YU a7 a11 v3 v4 x4 x6_1 x6_2 x6_3 x6_4 v5)), (199, .v (.rp 3 0 1 x4 0)), (1199, .r ud (YV a7 a11 v3 x4 v4 x6_1 x6_2 x6_3 x6_4 v5)), (6000, .d true)]) (k50.b (apc (((Zp (V := vb x12) rfl h12 rfl).trans (congrArg (fun z => some (vb z)) h13)) : ldA (ZY a7 a11 v3 v4 v5 x6_1 x6_2 x6_3 x6_4) .false 1 (.rp 3 0 1 x4 0) = some (vb false)) (apc q4 (apc q12 (apc q5 (apc q44 (apc q6 (apc (⟨Zt (v' := true) rfl h12 rfl rfl (Nat.le_of_ble_eq_true rfl) rfl, rfl⟩ : stA (YU a7 a11 v3 v4 x4 x6_1 x6_2 x6_3 x6_4 v5) 1 (.rp 3 0 1 x4 0) (vb true) = some (YV a7 a11 v3 x4 v4 x6_1 x6_2 x6_3 x6_4 v5) ∧ ud = ud) (apc q13 apn)))))))))
     ·
      have q51 := (((Zp (V := vb x8) rfl h8 rfl).trans (congrArg (fun z => some (vb z)) h9)) : ldA (ZY a7 a11 v3 v4 v5 x6_1 x6_2 x6_3 x6_4) .false 1 (.rp 5 0 1 x4 0) = some (vb false))
      have k52 := k43.a [(157, .v (vb false)), (159, .d false), (171, .v (.rp 4 0 4 x4 0)), (172, .v (.agg ((eSet x5).map .p)))] (apc q51 (av h7 (apc q4 (apc q11 apn))))
      apply bi h <;> intro h10 h
      ·
       apply bn h; intro x11 h11 h
       rw [← sj h]
       exact rn (kH k52 ++ [(173, .d true), (197, .v (.rp 4 0 4 x4 0)), (1197, .r ud (Yi a7 a11 v3 v4 x4 x6_1 x6_2 x6_3 x6_4 v5)), (198, .v (.rp 5 0 1 x4 0)), (1198, .r ud (Yw a7 a11 v3 v4 x4 x6_1 x6_2 x6_3 x6_4 v5)), (199, .v (.rp 3 0 1 x4 0)), (1199, .r ud (YW a7 a11 v3 x4 v4 x6_1 x6_2 x6_3 x6_4 v5)), (6000, .d true)]) (k52.b (av h10 (apc q4 (apc q12 (apc q5 (apc q46 (apc q6 (apc (⟨Zt (v' := true) rfl h11 rfl rfl (Nat.le_of_ble_eq_true rfl) rfl, rfl⟩ : stA (Yw a7 a11 v3 v4 x4 x6_1 x6_2 x6_3 x6_4 v5) 1 (.rp 3 0 1 x4 0) (vb true) = some (YW a7 a11 v3 x4 v4 x6_1 x6_2 x6_3 x6_4 v5) ∧ ud = ud) (apc q14 apn)))))))))
      ·
       have k53 := k52.a [(173, .d false), (178, .v (.rp 5 0 1 x4 0)), (179, .v (vb x8))] (av h10 (apc q5 (apc q45 apn)))
       apply bi h <;> intro h11 h
       ·
        apply bn h; intro x12 h12 h
        rw [← sj h]
        exact rn (kH k53 ++ [(180, .d true), (197, .v (.rp 4 0 4 x4 0)), (1197, .r ud (Yi a7 a11 v3 v4 x4 x6_1 x6_2 x6_3 x6_4 v5)), (198, .v (.rp 5 0 1 x4 0)), (1198, .r ud (Yw a7 a11 v3 v4 x4 x6_1 x6_2 x6_3 x6_4 v5)), (199, .v (.rp 3 0 1 x4 0)), (1199, .r ud (YW a7 a11 v3 x4 v4 x6_1 x6_2 x6_3 x6_4 v5)), (6000, .d true)]) (k53.b (av h11 (apc q4 (apc q12 (apc q5 (apc q46 (apc q6 (apc (⟨Zt (v' := true) rfl h12 rfl rfl (Nat.le_of_ble_eq_true rfl) rfl, rfl⟩ : stA (Yw a7 a11 v3 v4 x4 x6_1 x6_2 x6_3 x6_4 v5) 1 (.rp 3 0 1 x4 0) (vb true) = some (YW a7 a11 v3 x4 v4 x6_1 x6_2 x6_3 x6_4 v5) ∧ ud = ud) (apc q14 apn)))))))))
       ·
        have k54 := k53.a [(180, .d false), (185, .v (.rp 3 0 1 x4 0))] (av h11 (apc q6 apn))
        apply bn h; intro x12 h12 h
        apply bi h <;> intro h13 h
        ·
         rw [← sj h]
         exact rn (kH k54 ++ [(186, .v (vb true)), (6000, .d true)]) (k54.b (apc (((Zp (V := vb x12) rfl h12 rfl).trans (congrArg (fun z => some (vb z)) h13)) : ldA (ZY a7 a11 v3 v4 v5 x6_1 x6_2 x6_3 x6_4) .false 1 (.rp 3 0 1 x4 0) = some (vb true)) (apc q0 apn)))
        ·
         rw [← sj h]
         exact rn (kH k54 ++ [(186, .v (vb false)), (197, .v (.rp 4 0 4 x4 0)), (1197, .r ud (Yi a7 a11 v3 v4 x4 x6_1 x6_2 x6_3 x6_4 v5)), (198, .v (.rp 5 0 1 x4 0)), (1198, .r ud (Yw a7 a11 v3 v4 x4 x6_1 x6_2 x6_3 x6_4 v5)), (199, .v (.rp 3 0 1 x4 0)), (1199, .r ud (YW a7 a11 v3 x4 v4 x6_1 x6_2 x6_3 x6_4 v5)), (6000, .d true)]) (k54.b (apc (((Zp (V := vb x12) rfl h12 rfl).trans (congrArg (fun z => some (vb z)) h13)) : ldA (ZY a7 a11 v3 v4 v5 x6_1 x6_2 x6_3 x6_4) .false 1 (.rp 3 0 1 x4 0) = some (vb false)) (apc q4 (apc q12 (apc q5 (apc q46 (apc q6 (apc (⟨Zt (v' := true) rfl h12 rfl rfl (Nat.le_of_ble_eq_true rfl) rfl, rfl⟩ : stA (Yw a7 a11 v3 v4 x4 x6_1 x6_2 x6_3 x6_4 v5) 1 (.rp 3 0 1 x4 0) (vb true) = some (YW a7 a11 v3 x4 v4 x6_1 x6_2 x6_3 x6_4 v5) ∧ ud = ud) (apc q14 apn)))))))))
 ·
  rw [← sj h]
  exact xb (kH k1 ++ [(90, .d false), (6000, .d true)]) (k1.b (av h1 apn))
theorem LI (s0 : Bool × Int × (List Bool) × (List SetD) × (List Bool)) (e : E_L35_1_2) (h : runL (fun s => Y8 a2 a3 a4 a11 s.1 s.2.1 s.2.2.1 s.2.2.2.1 s.2.2.2.2) s0 = some e) : RF a1 a2 a3 a4 a6 a7 a11 e (Wt a1 a2 a3 a4 a6 a7 a11 s0.1 s0.2.1 s0.2.2.1 s0.2.2.2.1 s0.2.2.2.2) := by
  have q := @Zb (Bool × Int × (List Bool) × (List SetD) × (List Bool)) E_L35_1_2 (fun s => Y8 a2 a3 a4 a11 s.1 s.2.1 s.2.2.1 s.2.2.2.1 s.2.2.2.2) (fun s => Wt a1 a2 a3 a4 a6 a7 a11 s.1 s.2.1 s.2.2.1 s.2.2.2.1 s.2.2.2.2) (RF a1 a2 a3 a4 a6 a7 a11) (fun s r h => II a1 a2 a3 a4 a6 a7 a11 s.1 s.2.1 s.2.2.1 s.2.2.2.1 s.2.2.2.2 h) s0 e h
  exact q
end
inductive E_L35_2 where
  | k0 (x0 : Bool) (x1 : List Bool) (x2 : List SetD) (x3 : List Bool)
section
variable (a1 : List Int) (a2 : List Bool) (a3 : List SetD) (a4 : Nat) (a5 : GramD)
abbrev PU (l : List AB) : List AB := bG a5 :: bS [] :: bB [] :: l
def R4 (v1 : Bool) (v2 : Int) (v3 : List Bool) (v4 : List SetD) (v5 : List Bool) : Option (E_L35_2 ⊕ (Bool × Int × (List Bool) × (List SetD) × (List Bool))) :=
  (bif (decide (v2 < (a5.prods.length : Int))) then ((getI a5.prods v2).bind fun x2 => ((F51 x2).bind fun x3 => (bif x3 then ((F50 x2 a1).bind fun x5 => (bif (decide (x5 < 0)) then (some (.inr (v1, (IntKind.wrap .i64 (v2 + 1)), v3, v4, v5))) else ((ixN a4 x2.left).bind fun x7 => ((v3[x7]?).bind fun x8 => (bif x8 then ((runL (fun s => Y8 a2 a3 a4 x2 s.1 s.2.1 s.2.2.1 s.2.2.2.1 s.2.2.2.2) (v1, 0, v3, v4, v5)).bind fun r10 => match r10 with | .k0 x10_0 x10_1 x10_2 x10_3 => (some (.inr (x10_0, (IntKind.wrap .i64 (v2 + 1)), x10_1, x10_2, x10_3)))) else (some (.inr (v1, (IntKind.wrap .i64 (v2 + 1)), v3, v4, v5)))))))) else (some (.inr (v1, (IntKind.wrap .i64 (v2 + 1)), v3, v4, v5)))))) else (some (.inl (.k0 v1 v3 v4 v5))))
def FI (v1 : Bool) (v2 : Int) (v3 : List Bool) (v4 : List SetD) (v5 : List Bool) : St := ⟨fr 202 ug [(1, .ptr 0 0), (4, ls 1 eI64 a1), (5, ls 1 Zk a2), (6, ls 4 eSet a3), (7, .sl 3 0 1 0 a4), (8, .sl 4 0 4 0 a4), (9, .sl 5 0 1 0 a4), (10, vb v1), (11, i6 v2)], (PU a5 [bB v3, bS v4, bB v5])⟩
theorem LJ (v1 : Bool) (v2 : Int) (v3 : List Bool) (v4 : List SetD) (v5 : List Bool) : okT 6 (FI a1 a2 a3 a4 a5 v1 v2 v3 v4 v5).h = true := (Zr rfl (ac (ar (ar (ar (ar (ar rfl)))))))
abbrev Tv (v1 : Bool) (v2 : Int) (v3 : List Bool) (v4 : List SetD) (v5 : List Bool) := evH prg 6 [1, 4, 5, 6, 7, 8, 9, 10, 11] Gf (FI a1 a2 a3 a4 a5 v1 v2 v3 v4 v5)
def LK (e : E_L35_2) (r : Option (Out × St)) : Prop := match e with | .k0 x0 x1 x2 x3 => ∃ g, r = some ((.brk 2), ⟨fr 202 g [(1, .ptr 0 0), (4, ls 1 eI64 a1), (5, ls 1 Zk a2), (6, ls 4 eSet a3), (7, .sl 3 0 1 0 a4), (8, .sl 4 0 4 0 a4), (9, .sl 5 0 1 0 a4), (10, vb x0)], (PU a5 [bB x1, bS x2, bB x3])⟩)
abbrev UN (v3 : List Bool) (v4 : List SetD) (v5 : List Bool) (x2 : ProdD) : List AB := (PU a5 [bB v3, bS v4, bB v5, yY0, bP x2])
abbrev Jt (g10 : Nat → AV) (x10_0 : Bool) (v2 : Int) (x10_1 : List Bool) (x10_2 : List SetD) (x10_3 : List Bool) (x2 : ProdD) : St := ⟨fr 202 g10 [(1, .ptr 0 0), (4, ls 1 eI64 a1), (5, ls 1 Zk a2), (6, ls 4 eSet a3), (7, .sl 3 0 1 0 a4), (8, .sl 4 0 4 0 a4), (9, .sl 5 0 1 0 a4), (10, vb x10_0), (11, i6 v2), (12, .ptr 7 0)], (PU a5 [bB x10_1, bS x10_2, bB x10_3, yY0, bP x2])⟩
theorem DY (v1 : Bool) (v2 : Int) (v3 : List Bool) (v4 : List SetD) (v5 : List Bool) {r : E_L35_2 ⊕ (Bool × Int × (List Bool) × (List SetD) × (List Bool))} (h : R4 a1 a2 a3 a4 a5 v1 v2 v3 v4 v5 = some r) : OkR (fun e => LK a1 a2 a3 a4 a5 e (Tv a1 a2 a3 a4 a5 v1 v2 v3 v4 v5)) (fun s => Tv a1 a2 a3 a4 a5 v1 v2 v3 v4 v5 = Tv a1 a2 a3 a4 a5 s.1 s.2.1 s.2.2.1 s.2.2.2.1 s.2.2.2.2) r := by
 unfold R4 at h
 have q0 := (LJ a1 a2 a3 a4 a5 v1 (w6 (v2 + 1)) v3 v4 v5)
 have k1 := ka [(60, .v (i6 (lP a5)))] (apc (lg a5.prods Zl 7) apn)
 apply bi h <;> intro h1 h
 ·
  apply bn h; intro x2 h2 h
  have k2 := k1.a [(61, .d true), (67, .v (.ro (Zl x2)))] (av h1 (apc (ig Zl 7 .i64 h2) apn))
  apply bn h; intro x3 h3 h
  apply bi h <;> intro h4 h
  ·
   have q3 := ((((QQ x2 h3).cp rfl _).trans (congrArg (fun z => some (vb z)) h4)) : CP prg 51 [aP x2] (UN a5 v3 v4 v5 x2) = some (vb true))
   apply bn h; intro x5 h5 h
   have q4 := (((Fr x2 a1 h5).cp rfl _) : CP prg 50 [aP x2, ls 1 eI64 a1] (UN a5 v3 v4 v5 x2) = some (i6 x5))
   have k5 := k2.a [(70, .v (vb true)), (75, .v (i6 x5))] (apc q3 (apc q4 apn))
   apply bi h <;> intro h6 h
   ·
    rw [← sj h]
    exact rn (kH k5 ++ [(76, .d true), (6000, .d true)]) (k5.b (av h6 (apc q0 apn)))
   ·
    apply bn h; intro x7 h7 h
    have q6 := ((ZW h7) : idxA 1 (.sl 3 0 1 0 a4) (i6 x2.left) = some (.rp 3 0 1 x7 0))
    have k7 := k5.a [(76, .d false), (82, .v (.rp 3 0 1 x7 0))] (av h6 (apc q6 apn))
    apply bn h; intro x8 h8 h
    apply bi h <;> intro h9 h
    ·
     apply bn h; intro r10 h10 h
     cases r10 with
     | k0 x10_0 x10_1 x10_2 x10_3 =>
      obtain ⟨g10, e10⟩ := LI a1 a2 a3 a4 v2 a5 x2 (v1, 0, v3, v4, v5) _ h10
      rw [← sj h]
      exact rn (kH k7 ++ [(83, .v (vb true)), (2004, .l (.brk 4) (Jt a1 a2 a3 a4 a5 g10 x10_0 v2 x10_1 x10_2 x10_3 x2)), (6000, .d true)]) (k7.b (apc (((Zp (V := vb x8) rfl h8 rfl).trans (congrArg (fun z => some (vb z)) h9)) : ldA (UN a5 v3 v4 v5 x2) .false 1 (.rp 3 0 1 x7 0) = some (vb true)) (apc (Ws a1 a2 a3 a4 v2 a5 x2 v1 0 v3 v4 v5) (apc (e10 : Wt a1 a2 a3 a4 v2 a5 x2 v1 0 v3 v4 v5 = some ((.brk 4), Jt a1 a2 a3 a4 a5 g10 x10_0 v2 x10_1 x10_2 x10_3 x2)) (apc (LJ a1 a2 a3 a4 a5 x10_0 (w6 (v2 + 1)) x10_1 x10_2 x10_3) apn)))))
    ·
     rw [← sj h]
     exact rn (kH k7 ++ [(83, .v (vb false)), (6000, .d true)]) (k7.b (apc (((Zp (V := vb x8) rfl h8 rfl).trans (congrArg (fun z => some (vb z)) h9)) : ldA (UN a5 v3 v4 v5 x2) .false 1 (.rp 3 0 1 x7 0) = some (vb false)) (apc q0 apn)))
  ·
   rw [← sj h]
   exact rn (kH k2 ++ [(70, .v (vb false)), (6000, .d true)]) (k2.b (apc ((((QQ x2 h3).cp rfl _).trans (congrArg (fun z => some (vb z)) h4)) : CP prg 51 [aP x2] (UN a5 v3 v4 v5 x2) = some (vb false)) (apc q0 apn)))
 ·
  rw [← sj h]
  exact xb (kH k1 ++ [(61, .d false), (6000, .d true)]) (k1.b (av h1 apn))
theorem FJ (s0 : Bool × Int × (List Bool) × (List SetD) × (List Bool)) (e : E_L35_2) (h : runL (fun s => R4 a1 a2 a3 a4 a5 s.1 s.2.1 s.2.2.1 s.2.2.2.1 s.2.2.2.2) s0 = some e) : LK a1 a2 a3 a4 a5 e (Tv a1 a2 a3 a4 a5 s0.1 s0.2.1 s0.2.2.1 s0.2.2.2.1 s0.2.2.2.2) := by
  have q := @Zb (Bool × Int × (List Bool) × (List SetD) × (List Bool)) E_L35_2 (fun s => R4 a1 a2 a3 a4 a5 s.1 s.2.1 s.2.2.1 s.2.2.2.1 s.2.2.2.2) (fun s => Tv a1 a2 a3 a4 a5 s.1 s.2.1 s.2.2.1 s.2.2.2.1 s.2.2.2.2) (LK a1 a2 a3 a4 a5) (fun s r h => DY a1 a2 a3 a4 a5 s.1 s.2.1 s.2.2.1 s.2.2.2.1 s.2.2.2.2 h) s0 e h
  exact q
end
inductive E_L35_3 where
  | k0 (x0 : List Bool) (x1 : List SetD) (x2 : List Bool)
section
variable (a1 : List Int) (a2 : List Bool) (a3 : List SetD) (a4 : Nat) (a5 : GramD)
abbrev LL (l : List AB) : List AB := bG a5 :: bS [] :: bB [] :: l
def UO (v1 : Bool) (v2 : List Bool) (v3 : List SetD) (v4 : List Bool) : Option (E_L35_3 ⊕ (Bool × (List Bool) × (List SetD) × (List Bool))) :=
  (bif v1 then ((runL (fun s => R4 a1 a2 a3 a4 a5 s.1 s.2.1 s.2.2.1 s.2.2.2.1 s.2.2.2.2) (false, 0, v2, v3, v4)).bind fun r2 => match r2 with | .k0 x2_0 x2_1 x2_2 x2_3 => (some (.inr (x2_0, x2_1, x2_2, x2_3)))) else (some (.inl (.k0 v2 v3 v4))))
def FK (v1 : Bool) (v2 : List Bool) (v3 : List SetD) (v4 : List Bool) : St := ⟨fr 202 ug [(1, .ptr 0 0), (4, ls 1 eI64 a1), (5, ls 1 Zk a2), (6, ls 4 eSet a3), (7, .sl 3 0 1 0 a4), (8, .sl 4 0 4 0 a4), (9, .sl 5 0 1 0 a4), (10, vb v1)], (LL a5 [bB v2, bS v3, bB v4])⟩
theorem FL (v1 : Bool) (v2 : List Bool) (v3 : List SetD) (v4 : List Bool) : okT 6 (FK a1 a2 a3 a4 a5 v1 v2 v3 v4).h = true := (Zr rfl (ac (ar (ar (ar (ar (ar rfl)))))))
abbrev Tw (v1 : Bool) (v2 : List Bool) (v3 : List SetD) (v4 : List Bool) := evH prg 6 [1, 4, 5, 6, 7, 8, 9, 10] Gg (FK a1 a2 a3 a4 a5 v1 v2 v3 v4)
def LM (e : E_L35_3) (r : Option (Out × St)) : Prop := match e with | .k0 x0 x1 x2 => ∃ g, r = some ((.brk 0), ⟨fr 202 g [(1, .ptr 0 0), (4, ls 1 eI64 a1), (7, .sl 3 0 1 0 a4), (8, .sl 4 0 4 0 a4), (9, .sl 5 0 1 0 a4)], (LL a5 [bB x0, bS x1, bB x2])⟩)
abbrev Ju (g2 : Nat → AV) (x2_0 : Bool) (x2_1 : List Bool) (x2_2 : List SetD) (x2_3 : List Bool) : St := ⟨fr 202 g2 [(1, .ptr 0 0), (4, ls 1 eI64 a1), (5, ls 1 Zk a2), (6, ls 4 eSet a3), (7, .sl 3 0 1 0 a4), (8, .sl 4 0 4 0 a4), (9, .sl 5 0 1 0 a4), (10, vb x2_0)], (LL a5 [bB x2_1, bS x2_2, bB x2_3])⟩
theorem DZ (v1 : Bool) (v2 : List Bool) (v3 : List SetD) (v4 : List Bool) {r : E_L35_3 ⊕ (Bool × (List Bool) × (List SetD) × (List Bool))} (h : UO a1 a2 a3 a4 a5 v1 v2 v3 v4 = some r) : OkR (fun e => LM a1 a4 a5 e (Tw a1 a2 a3 a4 a5 v1 v2 v3 v4)) (fun s => Tw a1 a2 a3 a4 a5 v1 v2 v3 v4 = Tw a1 a2 a3 a4 a5 s.1 s.2.1 s.2.2.1 s.2.2.2) r := by
 unfold UO at h
 apply bi h <;> intro h1 h
 ·
  apply bn h; intro r2 h2 h
  cases r2 with
  | k0 x2_0 x2_1 x2_2 x2_3 =>
   obtain ⟨g2, e2⟩ := FJ a1 a2 a3 a4 a5 (false, 0, v2, v3, v4) _ h2
   rw [← sj h]
   exact rn [(56, .d true), (2002, .l (.brk 2) (Ju a1 a2 a3 a4 a5 g2 x2_0 x2_1 x2_2 x2_3)), (6000, .d true)] (av h1 (apc (LJ a1 a2 a3 a4 a5 false 0 v2 v3 v4) (apc (e2 : Tv a1 a2 a3 a4 a5 false 0 v2 v3 v4 = some ((.brk 2), Ju a1 a2 a3 a4 a5 g2 x2_0 x2_1 x2_2 x2_3)) (apc (FL a1 a2 a3 a4 a5 x2_0 x2_1 x2_2 x2_3) apn))))
 ·
  rw [← sj h]
  exact xb [(56, .d false), (6000, .d true)] (av h1 apn)
theorem FM (s0 : Bool × (List Bool) × (List SetD) × (List Bool)) (e : E_L35_3) (h : runL (fun s => UO a1 a2 a3 a4 a5 s.1 s.2.1 s.2.2.1 s.2.2.2) s0 = some e) : LM a1 a4 a5 e (Tw a1 a2 a3 a4 a5 s0.1 s0.2.1 s0.2.2.1 s0.2.2.2) := by
  have q := @Zb (Bool × (List Bool) × (List SetD) × (List Bool)) E_L35_3 (fun s => UO a1 a2 a3 a4 a5 s.1 s.2.1 s.2.2.1 s.2.2.2) (fun s => Tw a1 a2 a3 a4 a5 s.1 s.2.1 s.2.2.1 s.2.2.2) (LM a1 a4 a5) (fun s r h => DZ a1 a2 a3 a4 a5 s.1 s.2.1 s.2.2.1 s.2.2.2 h) s0 e h
  exact q
end
end
end Go.Proofs.Tryd
