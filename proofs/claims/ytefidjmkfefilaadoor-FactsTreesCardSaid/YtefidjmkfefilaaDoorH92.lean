/- Decompiled by a program: functions as plain data see them, part 2. -/
import Derived.Test.YtefidjmkfefilaaDoorH91
namespace Go.Proofs.Tryd
set_option linter.unusedSimpArgs false
set_option linter.unusedVariables false
set_option maxHeartbeats 4000000
open Go Go.Vs
noncomputable section
inductive E_L78_0 where
  | k0 (x0 : Bool) (x1 : List SetD) (x2 : List Bool) (x3 x4 x5 x6 : Int)
section
variable (a4 : GramD) (a5 : List Int) (a6 : List Bool) (a7 : List SetD) (a8 : List Bool) (a9 a10 : Nat) (a13 : ProdD)
abbrev L78_0_p (l : List AB) : List AB := .cells 89 [(.ro (eOp a4 a5 a6))] :: bS [] :: bB [] :: bS [] :: .cells 63 [ls 4 eSet a7] :: .cells 100 [(.fn 77 [.ptr 0 0])] :: .cells 100 [(.fn 77 [.ptr 0 0])] :: bB [] :: bB a8 :: bB [] :: .cells 56 [.sl 8 0 1 0 a9] :: bB [] :: .cells 56 [.sl 8 0 1 0 a10] :: l
def L78_0 (v1 v2 : Bool) (v3 : Int) (v4 : List SetD) (v5 : List Bool) (v6 v7 v8 v9 : Int) : Option (E_L78_0 ⊕ (Bool × Bool × Int × (List SetD) × (List Bool) × Int × Int × Int × Int)) :=
  (bif (decide (v3 ≥ 0)) then ((getI a13.right v3).bind fun x2 => (bif (x2.kind == 0) then (some (.inr (v1, false, (IntKind.wrap .i64 (v3 - 1)), v4, v5, x2.a, x2.b, x2.c, x2.d))) else ((ixN a9 x2.sort).bind fun x4 => ((v4[x4]?).bind fun x5 => ((F76 ([(⟨x5.a, x5.b, x5.c, x5.d⟩ : SetD), (⟨v6, v7, v8, v9⟩ : SetD)])).bind fun r6 => match r6 with | .k0 x6_0 x6_1 x6_2 x6_3 => (bif v1 then ((v5[x4]?).bind fun x8 => (bif x8 then ((F55 a6 x2).bind fun x10 => (bif x10 then ((getI a7 x2.sort).bind fun x12 => ((F76 ([(⟨v6, v7, v8, v9⟩ : SetD), (⟨x12.a, x12.b, x12.c, x12.d⟩ : SetD)])).bind fun r13 => match r13 with | .k0 x13_0 x13_1 x13_2 x13_3 => (some (.inr (true, v2, (IntKind.wrap .i64 (v3 - 1)), (v4.set x4 (⟨x6_0, x6_1, x6_2, x6_3⟩ : SetD)), v5.set x4 true, x13_0, x13_1, x13_2, x13_3))))) else ((getI a7 x2.sort).bind fun x12 => (some (.inr (true, false, (IntKind.wrap .i64 (v3 - 1)), (v4.set x4 (⟨x6_0, x6_1, x6_2, x6_3⟩ : SetD)), v5.set x4 true, x12.a, x12.b, x12.c, x12.d)))))) else ((F55 a6 x2).bind fun x10 => (bif x10 then ((getI a7 x2.sort).bind fun x12 => ((F76 ([(⟨v6, v7, v8, v9⟩ : SetD), (⟨x12.a, x12.b, x12.c, x12.d⟩ : SetD)])).bind fun r13 => match r13 with | .k0 x13_0 x13_1 x13_2 x13_3 => (some (.inr (true, v2, (IntKind.wrap .i64 (v3 - 1)), (v4.set x4 (⟨x6_0, x6_1, x6_2, x6_3⟩ : SetD)), v5.set x4 v2, x13_0, x13_1, x13_2, x13_3))))) else ((getI a7 x2.sort).bind fun x12 => (some (.inr (true, false, (IntKind.wrap .i64 (v3 - 1)), (v4.set x4 (⟨x6_0, x6_1, x6_2, x6_3⟩ : SetD)), v5.set x4 v2, x12.a, x12.b, x12.c, x12.d)))))))) else (bif (!((x6_0 == x5.a) && ((x6_1 == x5.b) && ((x6_2 == x5.c) && ((x6_3 == x5.d) && true))))) then ((v5[x4]?).bind fun x9 => (bif x9 then ((F55 a6 x2).bind fun x11 => (bif x11 then ((getI a7 x2.sort).bind fun x13 => ((F76 ([(⟨v6, v7, v8, v9⟩ : SetD), (⟨x13.a, x13.b, x13.c, x13.d⟩ : SetD)])).bind fun r14 => match r14 with | .k0 x14_0 x14_1 x14_2 x14_3 => (some (.inr (true, v2, (IntKind.wrap .i64 (v3 - 1)), (v4.set x4 (⟨x6_0, x6_1, x6_2, x6_3⟩ : SetD)), v5.set x4 true, x14_0, x14_1, x14_2, x14_3))))) else ((getI a7 x2.sort).bind fun x13 => (some (.inr (true, false, (IntKind.wrap .i64 (v3 - 1)), (v4.set x4 (⟨x6_0, x6_1, x6_2, x6_3⟩ : SetD)), v5.set x4 true, x13.a, x13.b, x13.c, x13.d)))))) else ((F55 a6 x2).bind fun x11 => (bif x11 then ((getI a7 x2.sort).bind fun x13 => ((F76 ([(⟨v6, v7, v8, v9⟩ : SetD), (⟨x13.a, x13.b, x13.c, x13.d⟩ : SetD)])).bind fun r14 => match r14 with | .k0 x14_0 x14_1 x14_2 x14_3 => (some (.inr (true, v2, (IntKind.wrap .i64 (v3 - 1)), (v4.set x4 (⟨x6_0, x6_1, x6_2, x6_3⟩ : SetD)), v5.set x4 v2, x14_0, x14_1, x14_2, x14_3))))) else ((getI a7 x2.sort).bind fun x13 => (some (.inr (true, false, (IntKind.wrap .i64 (v3 - 1)), (v4.set x4 (⟨x6_0, x6_1, x6_2, x6_3⟩ : SetD)), v5.set x4 v2, x13.a, x13.b, x13.c, x13.d)))))))) else (bif v2 then ((v5[x4]?).bind fun x10 => (bif x10 then ((F55 a6 x2).bind fun x12 => (bif x12 then ((getI a7 x2.sort).bind fun x14 => ((F76 ([(⟨v6, v7, v8, v9⟩ : SetD), (⟨x14.a, x14.b, x14.c, x14.d⟩ : SetD)])).bind fun r15 => match r15 with | .k0 x15_0 x15_1 x15_2 x15_3 => (some (.inr (false, v2, (IntKind.wrap .i64 (v3 - 1)), (v4.set x4 (⟨x6_0, x6_1, x6_2, x6_3⟩ : SetD)), v5.set x4 true, x15_0, x15_1, x15_2, x15_3))))) else ((getI a7 x2.sort).bind fun x14 => (some (.inr (false, false, (IntKind.wrap .i64 (v3 - 1)), (v4.set x4 (⟨x6_0, x6_1, x6_2, x6_3⟩ : SetD)), v5.set x4 true, x14.a, x14.b, x14.c, x14.d)))))) else ((F55 a6 x2).bind fun x12 => (bif x12 then ((getI a7 x2.sort).bind fun x14 => ((F76 ([(⟨v6, v7, v8, v9⟩ : SetD), (⟨x14.a, x14.b, x14.c, x14.d⟩ : SetD)])).bind fun r15 => match r15 with | .k0 x15_0 x15_1 x15_2 x15_3 => (some (.inr (true, v2, (IntKind.wrap .i64 (v3 - 1)), (v4.set x4 (⟨x6_0, x6_1, x6_2, x6_3⟩ : SetD)), v5.set x4 v2, x15_0, x15_1, x15_2, x15_3))))) else ((getI a7 x2.sort).bind fun x14 => (some (.inr (true, false, (IntKind.wrap .i64 (v3 - 1)), (v4.set x4 (⟨x6_0, x6_1, x6_2, x6_3⟩ : SetD)), v5.set x4 v2, x14.a, x14.b, x14.c, x14.d)))))))) else ((v5[x4]?).bind fun x10 => (bif x10 then ((F55 a6 x2).bind fun x12 => (bif x12 then ((getI a7 x2.sort).bind fun x14 => ((F76 ([(⟨v6, v7, v8, v9⟩ : SetD), (⟨x14.a, x14.b, x14.c, x14.d⟩ : SetD)])).bind fun r15 => match r15 with | .k0 x15_0 x15_1 x15_2 x15_3 => (some (.inr (false, v2, (IntKind.wrap .i64 (v3 - 1)), (v4.set x4 (⟨x6_0, x6_1, x6_2, x6_3⟩ : SetD)), v5.set x4 true, x15_0, x15_1, x15_2, x15_3))))) else ((getI a7 x2.sort).bind fun x14 => (some (.inr (false, false, (IntKind.wrap .i64 (v3 - 1)), (v4.set x4 (⟨x6_0, x6_1, x6_2, x6_3⟩ : SetD)), v5.set x4 true, x14.a, x14.b, x14.c, x14.d)))))) else ((F55 a6 x2).bind fun x12 => (bif x12 then ((getI a7 x2.sort).bind fun x14 => ((F76 ([(⟨v6, v7, v8, v9⟩ : SetD), (⟨x14.a, x14.b, x14.c, x14.d⟩ : SetD)])).bind fun r15 => match r15 with | .k0 x15_0 x15_1 x15_2 x15_3 => (some (.inr (false, v2, (IntKind.wrap .i64 (v3 - 1)), (v4.set x4 (⟨x6_0, x6_1, x6_2, x6_3⟩ : SetD)), v5.set x4 v2, x15_0, x15_1, x15_2, x15_3))))) else ((getI a7 x2.sort).bind fun x14 => (some (.inr (false, false, (IntKind.wrap .i64 (v3 - 1)), (v4.set x4 (⟨x6_0, x6_1, x6_2, x6_3⟩ : SetD)), v5.set x4 v2, x14.a, x14.b, x14.c, x14.d)))))))))))))))) else (some (.inl (.k0 v1 v4 v5 v6 v7 v8 v9))))
def L78_0_s (v1 v2 : Bool) (v3 : Int) (v4 : List SetD) (v5 : List Bool) (v6 v7 v8 v9 : Int) : St := ⟨fr 132 ug [(3, .ptr 0 0), (4, .ptr 16 0), (5, .ptr 18 0), (6, .ptr 4 0), (7, .ptr 21 0), (9, vb v1), (10, .ptr 23 0), (11, vb v2), (12, i6 v3)], (L78_0_p a4 a5 a6 a7 a8 a9 a10 [bS v4, bB v5, bS [], .cells 63 [.sl 13 0 4 0 a9], bB [], .cells 56 [.sl 14 0 1 0 a9], yY0, bP a13, bP a13, bP a13, .cells 46 [vi .u64 v6, vi .u64 v7, vi .u64 v8, vi .u64 v9]])⟩
theorem L78_0_k (v1 v2 : Bool) (v3 : Int) (v4 : List SetD) (v5 : List Bool) (v6 v7 v8 v9 : Int) : okT 24 (L78_0_s a4 a5 a6 a7 a8 a9 a10 a13 v1 v2 v3 v4 v5 v6 v7 v8 v9).h = true := (okT_of rfl (ac (ar (ar (ar (ac (ac (ac (ar (ar (ar (ac (ar (ac (ar (ar (ar (ac (ar (ac (ar (ac (ac (ac (ac rfl)))))))))))))))))))))))))
abbrev L78_0_e (v1 v2 : Bool) (v3 : Int) (v4 : List SetD) (v5 : List Bool) (v6 v7 v8 v9 : Int) := evH prg 24 [3, 4, 5, 6, 7, 9, 10, 11, 12] ir78_l0 (L78_0_s a4 a5 a6 a7 a8 a9 a10 a13 v1 v2 v3 v4 v5 v6 v7 v8 v9)
def L78_0_x (e : E_L78_0) (r : Option (Out × St)) : Prop := match e with | .k0 x0 x1 x2 x3 x4 x5 x6 => ∃ g, r = some ((.brk 0), ⟨fr 132 g [(3, .ptr 0 0), (4, .ptr 16 0), (5, .ptr 18 0), (7, .ptr 21 0), (9, vb x0), (10, .ptr 23 0)], (L78_0_p a4 a5 a6 a7 a8 a9 a10 [bS x1, bB x2, bS [], .cells 63 [.sl 13 0 4 0 a9], bB [], .cells 56 [.sl 14 0 1 0 a9], yY0, bP a13, bP a13, bP a13, .cells 46 [vi .u64 x3, vi .u64 x4, vi .u64 x5, vi .u64 x6]])⟩)
abbrev L78_0_d0 (v4 : List SetD) (v5 : List Bool) (v6 v7 v8 v9 : Int) (x2 : SymD) : List AB := (L78_0_p a4 a5 a6 a7 a8 a9 a10 [bS v4, bB v5, bS [], .cells 63 [.sl 13 0 4 0 a9], bB [], .cells 56 [.sl 14 0 1 0 a9], yY0, bP a13, bP a13, bP a13, .cells 46 [vi .u64 v6, vi .u64 v7, vi .u64 v8, vi .u64 v9], .cells 48 ((eSym x2).map .p), .hole])
abbrev L78_0_d1 (v4 : List SetD) (v5 : List Bool) (v6 v7 v8 v9 : Int) (x2 : SymD) (x6_0 x6_1 x6_2 x6_3 : Int) : List AB := (L78_0_p a4 a5 a6 a7 a8 a9 a10 [bS v4, bB v5, bS [], .cells 63 [.sl 13 0 4 0 a9], bB [], .cells 56 [.sl 14 0 1 0 a9], yY0, bP a13, bP a13, bP a13, .cells 46 [vi .u64 v6, vi .u64 v7, vi .u64 v8, vi .u64 v9], .cells 48 ((eSym x2).map .p), .cells 46 [vi .u64 x6_0, vi .u64 x6_1, vi .u64 x6_2, vi .u64 x6_3]])
abbrev L78_0_d2 (v4 : List SetD) (x4 : Nat) (x6_0 x6_1 x6_2 x6_3 : Int) (v5 : List Bool) (v6 v7 v8 v9 : Int) (x2 : SymD) : List AB := (L78_0_p a4 a5 a6 a7 a8 a9 a10 [bS (v4.set x4 (⟨x6_0, x6_1, x6_2, x6_3⟩ : SetD)), bB v5, bS [], .cells 63 [.sl 13 0 4 0 a9], bB [], .cells 56 [.sl 14 0 1 0 a9], yY0, bP a13, bP a13, bP a13, .cells 46 [vi .u64 v6, vi .u64 v7, vi .u64 v8, vi .u64 v9], .cells 48 ((eSym x2).map .p), .cells 46 [vi .u64 x6_0, vi .u64 x6_1, vi .u64 x6_2, vi .u64 x6_3]])
abbrev L78_0_d3 (v4 : List SetD) (x4 : Nat) (x6_0 x6_1 x6_2 x6_3 : Int) (v5 : List Bool) (v6 v7 v8 v9 : Int) (x2 : SymD) : List AB := (L78_0_p a4 a5 a6 a7 a8 a9 a10 [bS (v4.set x4 (⟨x6_0, x6_1, x6_2, x6_3⟩ : SetD)), bB (v5.set x4 true), bS [], .cells 63 [.sl 13 0 4 0 a9], bB [], .cells 56 [.sl 14 0 1 0 a9], yY0, bP a13, bP a13, bP a13, .cells 46 [vi .u64 v6, vi .u64 v7, vi .u64 v8, vi .u64 v9], .cells 48 ((eSym x2).map .p), .cells 46 [vi .u64 x6_0, vi .u64 x6_1, vi .u64 x6_2, vi .u64 x6_3]])
abbrev L78_0_d4 (v4 : List SetD) (x4 : Nat) (x6_0 x6_1 x6_2 x6_3 : Int) (v5 : List Bool) (v2 : Bool) (v6 v7 v8 v9 : Int) (x2 : SymD) : List AB := (L78_0_p a4 a5 a6 a7 a8 a9 a10 [bS (v4.set x4 (⟨x6_0, x6_1, x6_2, x6_3⟩ : SetD)), bB (v5.set x4 v2), bS [], .cells 63 [.sl 13 0 4 0 a9], bB [], .cells 56 [.sl 14 0 1 0 a9], yY0, bP a13, bP a13, bP a13, .cells 46 [vi .u64 v6, vi .u64 v7, vi .u64 v8, vi .u64 v9], .cells 48 ((eSym x2).map .p), .cells 46 [vi .u64 x6_0, vi .u64 x6_1, vi .u64 x6_2, vi .u64 x6_3]])
theorem L78_0_ok (v1 v2 : Bool) (v3 : Int) (v4 : List SetD) (v5 : List Bool) (v6 v7 v8 v9 : Int) {r : E_L78_0 ⊕ (Bool × Bool × Int × (List SetD) × (List Bool) × Int × Int × Int × Int)} (h : L78_0 a6 a7 a9 a13 v1 v2 v3 v4 v5 v6 v7 v8 v9 = some r) : OkR (fun e => L78_0_x a4 a5 a6 a7 a8 a9 a10 a13 e (L78_0_e a4 a5 a6 a7 a8 a9 a10 a13 v1 v2 v3 v4 v5 v6 v7 v8 v9)) (fun s => L78_0_e a4 a5 a6 a7 a8 a9 a10 a13 v1 v2 v3 v4 v5 v6 v7 v8 v9 = L78_0_e a4 a5 a6 a7 a8 a9 a10 a13 s.1 s.2.1 s.2.2.1 s.2.2.2.1 s.2.2.2.2.1 s.2.2.2.2.2.1 s.2.2.2.2.2.2.1 s.2.2.2.2.2.2.2.1 s.2.2.2.2.2.2.2.2) r := by
 unfold L78_0 at h
 apply bi h <;> intro h1 h
 ·
  apply bn h; intro x2 h2 h
  have k0 := ka [(56, .d true), (62, .v (.ro (eSym x2)))] (av h1 (apc (ig eSym 6 .i64 h2) apn))
  apply bi h <;> intro h3 h
  ·
   rw [← sj h]
   exact rn ([(66, .d true), (6000, .d true)] ++ kH k0) (k0.b (av h3 (apc (L78_0_k a4 a5 a6 a7 a8 a9 a10 a13 v1 false (w6 (v3 - 1)) v4 v5 x2.a x2.b x2.c x2.d) apn)))
  ·
   apply bn h; intro x4 h4 h
   have q1 := ((idx_sl h4) : idxA 4 (.sl 13 0 4 0 a9) (i6 x2.sort) = some (.rp 13 0 4 x4 0))
   have q2 := ((idx_sl h4) : idxA 1 (.sl 14 0 1 0 a9) (i6 x2.sort) = some (.rp 14 0 1 x4 0))
   have k3 := k0.a [(66, .d false), (72, .v (.rp 13 0 4 x4 0))] (av h3 (apc q1 apn))
   apply bn h; intro x5 h5 h
   have q4 := ((ld_row rfl h5 rfl) : ldA (L78_0_d0 a4 a5 a6 a7 a8 a9 a10 a13 v4 v5 v6 v7 v8 v9 x2) .true 4 (.rp 13 0 4 x4 0) = some (.agg ((eSet x5).map .p)))
   apply bn h; intro r6 h6 h
   cases r6 with
   | k0 x6_0 x6_1 x6_2 x6_3 =>
    have q5 := (((F76_ok ([(⟨x5.a, x5.b, x5.c, x5.d⟩ : SetD), (⟨v6, v7, v8, v9⟩ : SetD)]) h6).cp rfl _) : CP prg 76 [(.p (.lst 4 ([(⟨x5.a, x5.b, x5.c, x5.d⟩ : SetD), (⟨v6, v7, v8, v9⟩ : SetD)].map eSet)))] (L78_0_d0 a4 a5 a6 a7 a8 a9 a10 a13 v4 v5 v6 v7 v8 v9 x2) = some (.agg [vi .u64 x6_0, vi .u64 x6_1, vi .u64 x6_2, vi .u64 x6_3]))
    have q6 := (⟨st_row (v' := (⟨x6_0, x6_1, x6_2, x6_3⟩ : SetD)) rfl h5 rfl rfl (Nat.le_of_ble_eq_true rfl) rfl, rfl⟩ : stA (L78_0_d1 a4 a5 a6 a7 a8 a9 a10 a13 v4 v5 v6 v7 v8 v9 x2 x6_0 x6_1 x6_2 x6_3) 4 (.rp 13 0 4 x4 0) (.agg [vi .u64 x6_0, vi .u64 x6_1, vi .u64 x6_2, vi .u64 x6_3]) = some (L78_0_d2 a4 a5 a6 a7 a8 a9 a10 a13 v4 x4 x6_0 x6_1 x6_2 x6_3 v5 v6 v7 v8 v9 x2) ∧ ud = ud)
    have q7 := ((ld_row rfl h5 rfl) : ldA (L78_0_d1 a4 a5 a6 a7 a8 a9 a10 a13 v4 v5 v6 v7 v8 v9 x2 x6_0 x6_1 x6_2 x6_3) .true 4 (.rp 13 0 4 x4 0) = some (.agg ((eSet x5).map .p)))
    have k8 := k3.a [(73, .v (.agg ((eSet x5).map .p))), (76, .v (.agg [vi .u64 x6_0, vi .u64 x6_1, vi .u64 x6_2, vi .u64 x6_3]))] (apc q4 (apc q5 apn))
    apply bi h <;> intro h7 h
    ·
     have k9 := k8.a [(77, .d true), (102, .v (.rp 13 0 4 x4 0)), (1102, .r ud (L78_0_d2 a4 a5 a6 a7 a8 a9 a10 a13 v4 x4 x6_0 x6_1 x6_2 x6_3 v5 v6 v7 v8 v9 x2)), (109, .v (.rp 14 0 1 x4 0))] (av h7 (apc q1 (apc q6 (apc q2 apn))))
     apply bn h; intro x8 h8 h
     have q10 := (⟨st_row (v' := true) rfl h8 rfl rfl (Nat.le_of_ble_eq_true rfl) rfl, rfl⟩ : stA (L78_0_d2 a4 a5 a6 a7 a8 a9 a10 a13 v4 x4 x6_0 x6_1 x6_2 x6_3 v5 v6 v7 v8 v9 x2) 1 (.rp 14 0 1 x4 0) (vb true) = some (L78_0_d3 a4 a5 a6 a7 a8 a9 a10 a13 v4 x4 x6_0 x6_1 x6_2 x6_3 v5 v6 v7 v8 v9 x2) ∧ ud = ud)
     have q11 := (⟨st_row (v' := v2) rfl h8 rfl rfl (Nat.le_of_ble_eq_true rfl) rfl, rfl⟩ : stA (L78_0_d2 a4 a5 a6 a7 a8 a9 a10 a13 v4 x4 x6_0 x6_1 x6_2 x6_3 v5 v6 v7 v8 v9 x2) 1 (.rp 14 0 1 x4 0) (vb v2) = some (L78_0_d4 a4 a5 a6 a7 a8 a9 a10 a13 v4 x4 x6_0 x6_1 x6_2 x6_3 v5 v2 v6 v7 v8 v9 x2) ∧ ud = ud)
     apply bi h <;> intro h9 h
     ·
      have q12 := (((ld_row (V := vb x8) rfl h8 rfl).trans (congrArg (fun z => some (vb z)) h9)) : ldA (L78_0_d2 a4 a5 a6 a7 a8 a9 a10 a13 v4 x4 x6_0 x6_1 x6_2 x6_3 v5 v6 v7 v8 v9 x2) .false 1 (.rp 14 0 1 x4 0) = some (vb true))
      have k13 := k9.a [(110, .v (vb true)), (114, .v (.rp 14 0 1 x4 0)), (1114, .r ud (L78_0_d3 a4 a5 a6 a7 a8 a9 a10 a13 v4 x4 x6_0 x6_1 x6_2 x6_3 v5 v6 v7 v8 v9 x2))] (apc q12 (apc q2 (apc q10 apn)))
      apply bn h; intro x10 h10 h
      apply bi h <;> intro h11 h
      ·
       apply bn h; intro x12 h12 h
       apply bn h; intro r13 h13 h
       cases r13 with
       | k0 x13_0 x13_1 x13_2 x13_3 =>
        rw [← sj h]
        exact rn ([(117, .v (vb true)), (122, .v (.ro (eSet x12))), (125, .v (.agg [vi .u64 x13_0, vi .u64 x13_1, vi .u64 x13_2, vi .u64 x13_3])), (6000, .d true)] ++ kH k13) (k13.b (apc ((((F55_ok a4 a5 a6 x2 h10).cp rfl _).trans (congrArg (fun z => some (vb z)) h11)) : CP prg 55 [(.ro (eOp a4 a5 a6)), (.agg ((eSym x2).map .p))] (L78_0_d3 a4 a5 a6 a7 a8 a9 a10 a13 v4 x4 x6_0 x6_1 x6_2 x6_3 v5 v6 v7 v8 v9 x2) = some (vb true)) (apc (ig eSet 4 .i64 h12) (apc (((F76_ok ([(⟨v6, v7, v8, v9⟩ : SetD), (⟨x12.a, x12.b, x12.c, x12.d⟩ : SetD)]) h13).cp rfl _) : CP prg 76 [(.p (.lst 4 ([(⟨v6, v7, v8, v9⟩ : SetD), (⟨x12.a, x12.b, x12.c, x12.d⟩ : SetD)].map eSet)))] (L78_0_d3 a4 a5 a6 a7 a8 a9 a10 a13 v4 x4 x6_0 x6_1 x6_2 x6_3 v5 v6 v7 v8 v9 x2) = some (.agg [vi .u64 x13_0, vi .u64 x13_1, vi .u64 x13_2, vi .u64 x13_3])) (apc (L78_0_k a4 a5 a6 a7 a8 a9 a10 a13 true v2 (w6 (v3 - 1)) (v4.set x4 (⟨x6_0, x6_1, x6_2, x6_3⟩ : SetD)) (v5.set x4 true) x13_0 x13_1 x13_2 x13_3) apn)))))
      ·
       apply bn h; intro x12 h12 h
       rw [← sj h]
       exact rn ([(117, .v (vb false)), (129, .v (.ro (eSet x12))), (6000, .d true)] ++ kH k13) (k13.b (apc ((((F55_ok a4 a5 a6 x2 h10).cp rfl _).trans (congrArg (fun z => some (vb z)) h11)) : CP prg 55 [(.ro (eOp a4 a5 a6)), (.agg ((eSym x2).map .p))] (L78_0_d3 a4 a5 a6 a7 a8 a9 a10 a13 v4 x4 x6_0 x6_1 x6_2 x6_3 v5 v6 v7 v8 v9 x2) = some (vb false)) (apc (ig eSet 4 .i64 h12) (apc (L78_0_k a4 a5 a6 a7 a8 a9 a10 a13 true false (w6 (v3 - 1)) (v4.set x4 (⟨x6_0, x6_1, x6_2, x6_3⟩ : SetD)) (v5.set x4 true) x12.a x12.b x12.c x12.d) apn))))
     ·
      have q14 := (((ld_row (V := vb x8) rfl h8 rfl).trans (congrArg (fun z => some (vb z)) h9)) : ldA (L78_0_d2 a4 a5 a6 a7 a8 a9 a10 a13 v4 x4 x6_0 x6_1 x6_2 x6_3 v5 v6 v7 v8 v9 x2) .false 1 (.rp 14 0 1 x4 0) = some (vb false))
      have k15 := k9.a [(110, .v (vb false)), (114, .v (.rp 14 0 1 x4 0)), (1114, .r ud (L78_0_d4 a4 a5 a6 a7 a8 a9 a10 a13 v4 x4 x6_0 x6_1 x6_2 x6_3 v5 v2 v6 v7 v8 v9 x2))] (apc q14 (apc q2 (apc q11 apn)))
      apply bn h; intro x10 h10 h
      apply bi h <;> intro h11 h
      ·
       apply bn h; intro x12 h12 h
       apply bn h; intro r13 h13 h
       cases r13 with
       | k0 x13_0 x13_1 x13_2 x13_3 =>
        rw [← sj h]
        exact rn ([(117, .v (vb true)), (122, .v (.ro (eSet x12))), (125, .v (.agg [vi .u64 x13_0, vi .u64 x13_1, vi .u64 x13_2, vi .u64 x13_3])), (6000, .d true)] ++ kH k15) (k15.b (apc ((((F55_ok a4 a5 a6 x2 h10).cp rfl _).trans (congrArg (fun z => some (vb z)) h11)) : CP prg 55 [(.ro (eOp a4 a5 a6)), (.agg ((eSym x2).map .p))] (L78_0_d4 a4 a5 a6 a7 a8 a9 a10 a13 v4 x4 x6_0 x6_1 x6_2 x6_3 v5 v2 v6 v7 v8 v9 x2) = some (vb true)) (apc (ig eSet 4 .i64 h12) (apc (((F76_ok ([(⟨v6, v7, v8, v9⟩ : SetD), (⟨x12.a, x12.b, x12.c, x12.d⟩ : SetD)]) h13).cp rfl _) : CP prg 76 [(.p (.lst 4 ([(⟨v6, v7, v8, v9⟩ : SetD), (⟨x12.a, x12.b, x12.c, x12.d⟩ : SetD)].map eSet)))] (L78_0_d4 a4 a5 a6 a7 a8 a9 a10 a13 v4 x4 x6_0 x6_1 x6_2 x6_3 v5 v2 v6 v7 v8 v9 x2) = some (.agg [vi .u64 x13_0, vi .u64 x13_1, vi .u64 x13_2, vi .u64 x13_3])) (apc (L78_0_k a4 a5 a6 a7 a8 a9 a10 a13 true v2 (w6 (v3 - 1)) (v4.set x4 (⟨x6_0, x6_1, x6_2, x6_3⟩ : SetD)) (v5.set x4 v2) x13_0 x13_1 x13_2 x13_3) apn)))))
      ·
       apply bn h; intro x12 h12 h
       rw [← sj h]
       exact rn ([(117, .v (vb false)), (129, .v (.ro (eSet x12))), (6000, .d true)] ++ kH k15) (k15.b (apc ((((F55_ok a4 a5 a6 x2 h10).cp rfl _).trans (congrArg (fun z => some (vb z)) h11)) : CP prg 55 [(.ro (eOp a4 a5 a6)), (.agg ((eSym x2).map .p))] (L78_0_d4 a4 a5 a6 a7 a8 a9 a10 a13 v4 x4 x6_0 x6_1 x6_2 x6_3 v5 v2 v6 v7 v8 v9 x2) = some (vb false)) (apc (ig eSet 4 .i64 h12) (apc (L78_0_k a4 a5 a6 a7 a8 a9 a10 a13 true false (w6 (v3 - 1)) (v4.set x4 (⟨x6_0, x6_1, x6_2, x6_3⟩ : SetD)) (v5.set x4 v2) x12.a x12.b x12.c x12.d) apn))))
    ·
     have k16 := k8.a [(77, .d false), (83, .v (.rp 13 0 4 x4 0)), (84, .v (.agg ((eSet x5).map .p)))] (av h7 (apc q1 (apc q7 apn)))
     apply bi h <;> intro h8 h
     ·
      have k17 := k16.a [(85, .d true), (102, .v (.rp 13 0 4 x4 0)), (1102, .r ud (L78_0_d2 a4 a5 a6 a7 a8 a9 a10 a13 v4 x4 x6_0 x6_1 x6_2 x6_3 v5 v6 v7 v8 v9 x2)), (109, .v (.rp 14 0 1 x4 0))] (av h8 (apc q1 (apc q6 (apc q2 apn))))
      apply bn h; intro x9 h9 h
      have q18 := (⟨st_row (v' := true) rfl h9 rfl rfl (Nat.le_of_ble_eq_true rfl) rfl, rfl⟩ : stA (L78_0_d2 a4 a5 a6 a7 a8 a9 a10 a13 v4 x4 x6_0 x6_1 x6_2 x6_3 v5 v6 v7 v8 v9 x2) 1 (.rp 14 0 1 x4 0) (vb true) = some (L78_0_d3 a4 a5 a6 a7 a8 a9 a10 a13 v4 x4 x6_0 x6_1 x6_2 x6_3 v5 v6 v7 v8 v9 x2) ∧ ud = ud)
      have q19 := (⟨st_row (v' := v2) rfl h9 rfl rfl (Nat.le_of_ble_eq_true rfl) rfl, rfl⟩ : stA (L78_0_d2 a4 a5 a6 a7 a8 a9 a10 a13 v4 x4 x6_0 x6_1 x6_2 x6_3 v5 v6 v7 v8 v9 x2) 1 (.rp 14 0 1 x4 0) (vb v2) = some (L78_0_d4 a4 a5 a6 a7 a8 a9 a10 a13 v4 x4 x6_0 x6_1 x6_2 x6_3 v5 v2 v6 v7 v8 v9 x2) ∧ ud = ud)
      apply bi h <;> intro h10 h
      ·
       have q20 := (((ld_row (V := vb x9) rfl h9 rfl).trans (congrArg (fun z => some (vb z)) h10)) : ldA (L78_0_d2 a4 a5 a6 a7 a8 a9 a10 a13 v4 x4 x6_0 x6_1 x6_2 x6_3 v5 v6 v7 v8 v9 x2) .false 1 (.rp 14 0 1 x4 0) = some (vb true))
       have k21 := k17.a [(110, .v (vb true)), (114, .v (.rp 14 0 1 x4 0)), (1114, .r ud (L78_0_d3 a4 a5 a6 a7 a8 a9 a10 a13 v4 x4 x6_0 x6_1 x6_2 x6_3 v5 v6 v7 v8 v9 x2))] (apc q20 (apc q2 (apc q18 apn)))
       apply bn h; intro x11 h11 h
       apply bi h <;> intro h12 h
       ·
        apply bn h; intro x13 h13 h
        apply bn h; intro r14 h14 h
        cases r14 with
        | k0 x14_0 x14_1 x14_2 x14_3 =>
         rw [← sj h]
         exact rn ([(117, .v (vb true)), (122, .v (.ro (eSet x13))), (125, .v (.agg [vi .u64 x14_0, vi .u64 x14_1, vi .u64 x14_2, vi .u64 x14_3])), (6000, .d true)] ++ kH k21) (k21.b (apc ((((F55_ok a4 a5 a6 x2 h11).cp rfl _).trans (congrArg (fun z => some (vb z)) h12)) : CP prg 55 [(.ro (eOp a4 a5 a6)), (.agg ((eSym x2).map .p))] (L78_0_d3 a4 a5 a6 a7 a8 a9 a10 a13 v4 x4 x6_0 x6_1 x6_2 x6_3 v5 v6 v7 v8 v9 x2) = some (vb true)) (apc (ig eSet 4 .i64 h13) (apc (((F76_ok ([(⟨v6, v7, v8, v9⟩ : SetD), (⟨x13.a, x13.b, x13.c, x13.d⟩ : SetD)]) h14).cp rfl _) : CP prg 76 [(.p (.lst 4 ([(⟨v6, v7, v8, v9⟩ : SetD), (⟨x13.a, x13.b, x13.c, x13.d⟩ : SetD)].map eSet)))] (L78_0_d3 a4 a5 a6 a7 a8 a9 a10 a13 v4 x4 x6_0 x6_1 x6_2 x6_3 v5 v6 v7 v8 v9 x2) = some (.agg [vi .u64 x14_0, vi .u64 x14_1, vi .u64 x14_2, vi .u64 x14_3])) (apc (L78_0_k a4 a5 a6 a7 a8 a9 a10 a13 true v2 (w6 (v3 - 1)) (v4.set x4 (⟨x6_0, x6_1, x6_2, x6_3⟩ : SetD)) (v5.set x4 true) x14_0 x14_1 x14_2 x14_3) apn)))))
       ·
        apply bn h; intro x13 h13 h
        rw [← sj h]
        exact rn ([(117, .v (vb false)), (129, .v (.ro (eSet x13))), (6000, .d true)] ++ kH k21) (k21.b (apc ((((F55_ok a4 a5 a6 x2 h11).cp rfl _).trans (congrArg (fun z => some (vb z)) h12)) : CP prg 55 [(.ro (eOp a4 a5 a6)), (.agg ((eSym x2).map .p))] (L78_0_d3 a4 a5 a6 a7 a8 a9 a10 a13 v4 x4 x6_0 x6_1 x6_2 x6_3 v5 v6 v7 v8 v9 x2) = some (vb false)) (apc (ig eSet 4 .i64 h13) (apc (L78_0_k a4 a5 a6 a7 a8 a9 a10 a13 true false (w6 (v3 - 1)) (v4.set x4 (⟨x6_0, x6_1, x6_2, x6_3⟩ : SetD)) (v5.set x4 true) x13.a x13.b x13.c x13.d) apn))))
      ·
       have q22 := (((ld_row (V := vb x9) rfl h9 rfl).trans (congrArg (fun z => some (vb z)) h10)) : ldA (L78_0_d2 a4 a5 a6 a7 a8 a9 a10 a13 v4 x4 x6_0 x6_1 x6_2 x6_3 v5 v6 v7 v8 v9 x2) .false 1 (.rp 14 0 1 x4 0) = some (vb false))
       have k23 := k17.a [(110, .v (vb false)), (114, .v (.rp 14 0 1 x4 0)), (1114, .r ud (L78_0_d4 a4 a5 a6 a7 a8 a9 a10 a13 v4 x4 x6_0 x6_1 x6_2 x6_3 v5 v2 v6 v7 v8 v9 x2))] (apc q22 (apc q2 (apc q19 apn)))
       apply bn h; intro x11 h11 h
       apply bi h <;> intro h12 h
       ·
        apply bn h; intro x13 h13 h
        apply bn h; intro r14 h14 h
        cases r14 with
        | k0 x14_0 x14_1 x14_2 x14_3 =>
         rw [← sj h]
         exact rn ([(117, .v (vb true)), (122, .v (.ro (eSet x13))), (125, .v (.agg [vi .u64 x14_0, vi .u64 x14_1, vi .u64 x14_2, vi .u64 x14_3])), (6000, .d true)] ++ kH k23) (k23.b (apc ((((F55_ok a4 a5 a6 x2 h11).cp rfl _).trans (congrArg (fun z => some (vb z)) h12)) : CP prg 55 [(.ro (eOp a4 a5 a6)), (.agg ((eSym x2).map .p))] (L78_0_d4 a4 a5 a6 a7 a8 a9 a10 a13 v4 x4 x6_0 x6_1 x6_2 x6_3 v5 v2 v6 v7 v8 v9 x2) = some (vb true)) (apc (ig eSet 4 .i64 h13) (apc (((F76_ok ([(⟨v6, v7, v8, v9⟩ : SetD), (⟨x13.a, x13.b, x13.c, x13.d⟩ : SetD)]) h14).cp rfl _) : CP prg 76 [(.p (.lst 4 ([(⟨v6, v7, v8, v9⟩ : SetD), (⟨x13.a, x13.b, x13.c, x13.d⟩ : SetD)].map eSet)))] (L78_0_d4 a4 a5 a6 a7 a8 a9 a10 a13 v4 x4 x6_0 x6_1 x6_2 x6_3 v5 v2 v6 v7 v8 v9 x2) = some (.agg [vi .u64 x14_0, vi .u64 x14_1, vi .u64 x14_2, vi .u64 x14_3])) (apc (L78_0_k a4 a5 a6 a7 a8 a9 a10 a13 true v2 (w6 (v3 - 1)) (v4.set x4 (⟨x6_0, x6_1, x6_2, x6_3⟩ : SetD)) (v5.set x4 v2) x14_0 x14_1 x14_2 x14_3) apn)))))
       ·
        apply bn h; intro x13 h13 h
        rw [← sj h]
        exact rn ([(117, .v (vb false)), (129, .v (.ro (eSet x13))), (6000, .d true)] ++ kH k23) (k23.b (apc ((((F55_ok a4 a5 a6 x2 h11).cp rfl _).trans (congrArg (fun z => some (vb z)) h12)) : CP prg 55 [(.ro (eOp a4 a5 a6)), (.agg ((eSym x2).map .p))] (L78_0_d4 a4 a5 a6 a7 a8 a9 a10 a13 v4 x4 x6_0 x6_1 x6_2 x6_3 v5 v2 v6 v7 v8 v9 x2) = some (vb false)) (apc (ig eSet 4 .i64 h13) (apc (L78_0_k a4 a5 a6 a7 a8 a9 a10 a13 true false (w6 (v3 - 1)) (v4.set x4 (⟨x6_0, x6_1, x6_2, x6_3⟩ : SetD)) (v5.set x4 v2) x13.a x13.b x13.c x13.d) apn))))
     ·
      apply bi h <;> intro h9 h
      ·
       have k24 := k16.a [(85, .d false), (88, .d true), (93, .v (.rp 14 0 1 x4 0))] (av h8 (av h9 (apc q2 apn)))
       apply bn h; intro x10 h10 h
       have q25 := (⟨st_row (v' := true) rfl h10 rfl rfl (Nat.le_of_ble_eq_true rfl) rfl, rfl⟩ : stA (L78_0_d2 a4 a5 a6 a7 a8 a9 a10 a13 v4 x4 x6_0 x6_1 x6_2 x6_3 v5 v6 v7 v8 v9 x2) 1 (.rp 14 0 1 x4 0) (vb true) = some (L78_0_d3 a4 a5 a6 a7 a8 a9 a10 a13 v4 x4 x6_0 x6_1 x6_2 x6_3 v5 v6 v7 v8 v9 x2) ∧ ud = ud)
       have q26 := (⟨st_row (v' := v2) rfl h10 rfl rfl (Nat.le_of_ble_eq_true rfl) rfl, rfl⟩ : stA (L78_0_d2 a4 a5 a6 a7 a8 a9 a10 a13 v4 x4 x6_0 x6_1 x6_2 x6_3 v5 v6 v7 v8 v9 x2) 1 (.rp 14 0 1 x4 0) (vb v2) = some (L78_0_d4 a4 a5 a6 a7 a8 a9 a10 a13 v4 x4 x6_0 x6_1 x6_2 x6_3 v5 v2 v6 v7 v8 v9 x2) ∧ ud = ud)
       apply bi h <;> intro h11 h
       ·
        have q27 := (((ld_row (V := vb x10) rfl h10 rfl).trans (congrArg (fun z => some (vb z)) h11)) : ldA (L78_0_d1 a4 a5 a6 a7 a8 a9 a10 a13 v4 v5 v6 v7 v8 v9 x2 x6_0 x6_1 x6_2 x6_3) .false 1 (.rp 14 0 1 x4 0) = some (vb true))
        have q28 := (((ld_row (V := vb x10) rfl h10 rfl).trans (congrArg (fun z => some (vb z)) h11)) : ldA (L78_0_d2 a4 a5 a6 a7 a8 a9 a10 a13 v4 x4 x6_0 x6_1 x6_2 x6_3 v5 v6 v7 v8 v9 x2) .false 1 (.rp 14 0 1 x4 0) = some (vb true))
        have k29 := k24.a [(94, .v (vb true)), (102, .v (.rp 13 0 4 x4 0)), (1102, .r ud (L78_0_d2 a4 a5 a6 a7 a8 a9 a10 a13 v4 x4 x6_0 x6_1 x6_2 x6_3 v5 v6 v7 v8 v9 x2)), (109, .v (.rp 14 0 1 x4 0)), (110, .v (vb true)), (114, .v (.rp 14 0 1 x4 0)), (1114, .r ud (L78_0_d3 a4 a5 a6 a7 a8 a9 a10 a13 v4 x4 x6_0 x6_1 x6_2 x6_3 v5 v6 v7 v8 v9 x2))] (apc q27 (apc q1 (apc q6 (apc q2 (apc q28 (apc q2 (apc q25 apn)))))))
        apply bn h; intro x12 h12 h
        apply bi h <;> intro h13 h
        ·
         apply bn h; intro x14 h14 h
         apply bn h; intro r15 h15 h
         cases r15 with
         | k0 x15_0 x15_1 x15_2 x15_3 =>
          rw [← sj h]
          exact rn ([(117, .v (vb true)), (122, .v (.ro (eSet x14))), (125, .v (.agg [vi .u64 x15_0, vi .u64 x15_1, vi .u64 x15_2, vi .u64 x15_3])), (6000, .d true)] ++ kH k29) (k29.b (apc ((((F55_ok a4 a5 a6 x2 h12).cp rfl _).trans (congrArg (fun z => some (vb z)) h13)) : CP prg 55 [(.ro (eOp a4 a5 a6)), (.agg ((eSym x2).map .p))] (L78_0_d3 a4 a5 a6 a7 a8 a9 a10 a13 v4 x4 x6_0 x6_1 x6_2 x6_3 v5 v6 v7 v8 v9 x2) = some (vb true)) (apc (ig eSet 4 .i64 h14) (apc (((F76_ok ([(⟨v6, v7, v8, v9⟩ : SetD), (⟨x14.a, x14.b, x14.c, x14.d⟩ : SetD)]) h15).cp rfl _) : CP prg 76 [(.p (.lst 4 ([(⟨v6, v7, v8, v9⟩ : SetD), (⟨x14.a, x14.b, x14.c, x14.d⟩ : SetD)].map eSet)))] (L78_0_d3 a4 a5 a6 a7 a8 a9 a10 a13 v4 x4 x6_0 x6_1 x6_2 x6_3 v5 v6 v7 v8 v9 x2) = some (.agg [vi .u64 x15_0, vi .u64 x15_1, vi .u64 x15_2, vi .u64 x15_3])) (apc (L78_0_k a4 a5 a6 a7 a8 a9 a10 a13 false v2 (w6 (v3 - 1)) (v4.set x4 (⟨x6_0, x6_1, x6_2, x6_3⟩ : SetD)) (v5.set x4 true) x15_0 x15_1 x15_2 x15_3) apn)))))
        ·
         apply bn h; intro x14 h14 h
         rw [← sj h]
         exact rn ([(117, .v (vb false)), (129, .v (.ro (eSet x14))), (6000, .d true)] ++ kH k29) (k29.b (apc ((((F55_ok a4 a5 a6 x2 h12).cp rfl _).trans (congrArg (fun z => some (vb z)) h13)) : CP prg 55 [(.ro (eOp a4 a5 a6)), (.agg ((eSym x2).map .p))] (L78_0_d3 a4 a5 a6 a7 a8 a9 a10 a13 v4 x4 x6_0 x6_1 x6_2 x6_3 v5 v6 v7 v8 v9 x2) = some (vb false)) (apc (ig eSet 4 .i64 h14) (apc (L78_0_k a4 a5 a6 a7 a8 a9 a10 a13 false false (w6 (v3 - 1)) (v4.set x4 (⟨x6_0, x6_1, x6_2, x6_3⟩ : SetD)) (v5.set x4 true) x14.a x14.b x14.c x14.d) apn))))
       ·
        have q30 := (((ld_row (V := vb x10) rfl h10 rfl).trans (congrArg (fun z => some (vb z)) h11)) : ldA (L78_0_d1 a4 a5 a6 a7 a8 a9 a10 a13 v4 v5 v6 v7 v8 v9 x2 x6_0 x6_1 x6_2 x6_3) .false 1 (.rp 14 0 1 x4 0) = some (vb false))
        have q31 := (((ld_row (V := vb x10) rfl h10 rfl).trans (congrArg (fun z => some (vb z)) h11)) : ldA (L78_0_d2 a4 a5 a6 a7 a8 a9 a10 a13 v4 x4 x6_0 x6_1 x6_2 x6_3 v5 v6 v7 v8 v9 x2) .false 1 (.rp 14 0 1 x4 0) = some (vb false))
        have k32 := k24.a [(94, .v (vb false)), (102, .v (.rp 13 0 4 x4 0)), (1102, .r ud (L78_0_d2 a4 a5 a6 a7 a8 a9 a10 a13 v4 x4 x6_0 x6_1 x6_2 x6_3 v5 v6 v7 v8 v9 x2)), (109, .v (.rp 14 0 1 x4 0)), (110, .v (vb false)), (114, .v (.rp 14 0 1 x4 0)), (1114, .r ud (L78_0_d4 a4 a5 a6 a7 a8 a9 a10 a13 v4 x4 x6_0 x6_1 x6_2 x6_3 v5 v2 v6 v7 v8 v9 x2))] (apc q30 (apc q1 (apc q6 (apc q2 (apc q31 (apc q2 (apc q26 apn)))))))
        apply bn h; intro x12 h12 h
        apply bi h <;> intro h13 h
        ·
         apply bn h; intro x14 h14 h
         apply bn h; intro r15 h15 h
         cases r15 with
         | k0 x15_0 x15_1 x15_2 x15_3 =>
          rw [← sj h]
          exact rn ([(117, .v (vb true)), (122, .v (.ro (eSet x14))), (125, .v (.agg [vi .u64 x15_0, vi .u64 x15_1, vi .u64 x15_2, vi .u64 x15_3])), (6000, .d true)] ++ kH k32) (k32.b (apc ((((F55_ok a4 a5 a6 x2 h12).cp rfl _).trans (congrArg (fun z => some (vb z)) h13)) : CP prg 55 [(.ro (eOp a4 a5 a6)), (.agg ((eSym x2).map .p))] (L78_0_d4 a4 a5 a6 a7 a8 a9 a10 a13 v4 x4 x6_0 x6_1 x6_2 x6_3 v5 v2 v6 v7 v8 v9 x2) = some (vb true)) (apc (ig eSet 4 .i64 h14) (apc (((F76_ok ([(⟨v6, v7, v8, v9⟩ : SetD), (⟨x14.a, x14.b, x14.c, x14.d⟩ : SetD)]) h15).cp rfl _) : CP prg 76 [(.p (.lst 4 ([(⟨v6, v7, v8, v9⟩ : SetD), (⟨x14.a, x14.b, x14.c, x14.d⟩ : SetD)].map eSet)))] (L78_0_d4 a4 a5 a6 a7 a8 a9 a10 a13 v4 x4 x6_0 x6_1 x6_2 x6_3 v5 v2 v6 v7 v8 v9 x2) = some (.agg [vi .u64 x15_0, vi .u64 x15_1, vi .u64 x15_2, vi .u64 x15_3])) (apc (L78_0_k a4 a5 a6 a7 a8 a9 a10 a13 true v2 (w6 (v3 - 1)) (v4.set x4 (⟨x6_0, x6_1, x6_2, x6_3⟩ : SetD)) (v5.set x4 v2) x15_0 x15_1 x15_2 x15_3) apn)))))
        ·
         apply bn h; intro x14 h14 h
         rw [← sj h]
         exact rn ([(117, .v (vb false)), (129, .v (.ro (eSet x14))), (6000, .d true)] ++ kH k32) (k32.b (apc ((((F55_ok a4 a5 a6 x2 h12).cp rfl _).trans (congrArg (fun z => some (vb z)) h13)) : CP prg 55 [(.ro (eOp a4 a5 a6)), (.agg ((eSym x2).map .p))] (L78_0_d4 a4 a5 a6 a7 a8 a9 a10 a13 v4 x4 x6_0 x6_1 x6_2 x6_3 v5 v2 v6 v7 v8 v9 x2) = some (vb false)) (apc (ig eSet 4 .i64 h14) (apc (L78_0_k a4 a5 a6 a7 a8 a9 a10 a13 true false (w6 (v3 - 1)) (v4.set x4 (⟨x6_0, x6_1, x6_2, x6_3⟩ : SetD)) (v5.set x4 v2) x14.a x14.b x14.c x14.d) apn))))
      ·
       have k33 := k16.a [(85, .d false), (88, .d false), (102, .v (.rp 13 0 4 x4 0)), (1102, .r ud (L78_0_d2 a4 a5 a6 a7 a8 a9 a10 a13 v4 x4 x6_0 x6_1 x6_2 x6_3 v5 v6 v7 v8 v9 x2)), (109, .v (.rp 14 0 1 x4 0))] (av h8 (av h9 (apc q1 (apc q6 (apc q2 apn)))))
       apply bn h; intro x10 h10 h
       have q34 := (⟨st_row (v' := true) rfl h10 rfl rfl (Nat.le_of_ble_eq_true rfl) rfl, rfl⟩ : stA (L78_0_d2 a4 a5 a6 a7 a8 a9 a10 a13 v4 x4 x6_0 x6_1 x6_2 x6_3 v5 v6 v7 v8 v9 x2) 1 (.rp 14 0 1 x4 0) (vb true) = some (L78_0_d3 a4 a5 a6 a7 a8 a9 a10 a13 v4 x4 x6_0 x6_1 x6_2 x6_3 v5 v6 v7 v8 v9 x2) ∧ ud = ud)
       have q35 := (⟨st_row (v' := v2) rfl h10 rfl rfl (Nat.le_of_ble_eq_true rfl) rfl, rfl⟩ : stA (L78_0_d2 a4 a5 a6 a7 a8 a9 a10 a13 v4 x4 x6_0 x6_1 x6_2 x6_3 v5 v6 v7 v8 v9 x2) 1 (.rp 14 0 1 x4 0) (vb v2) = some (L78_0_d4 a4 a5 a6 a7 a8 a9 a10 a13 v4 x4 x6_0 x6_1 x6_2 x6_3 v5 v2 v6 v7 v8 v9 x2) ∧ ud = ud)
       apply bi h <;> intro h11 h
       ·
        have q36 := (((ld_row (V := vb x10) rfl h10 rfl).trans (congrArg (fun z => some (vb z)) h11)) : ldA (L78_0_d2 a4 a5 a6 a7 a8 a9 a10 a13 v4 x4 x6_0 x6_1 x6_2 x6_3 v5 v6 v7 v8 v9 x2) .false 1 (.rp 14 0 1 x4 0) = some (vb true))
        have k37 := k33.a [(110, .v (vb true)), (114, .v (.rp 14 0 1 x4 0)), (1114, .r ud (L78_0_d3 a4 a5 a6 a7 a8 a9 a10 a13 v4 x4 x6_0 x6_1 x6_2 x6_3 v5 v6 v7 v8 v9 x2))] (apc q36 (apc q2 (apc q34 apn)))
        apply bn h; intro x12 h12 h
        apply bi h <;> intro h13 h
        ·
         apply bn h; intro x14 h14 h
         apply bn h; intro r15 h15 h
         cases r15 with
         | k0 x15_0 x15_1 x15_2 x15_3 =>
          rw [← sj h]
          exact rn ([(117, .v (vb true)), (122, .v (.ro (eSet x14))), (125, .v (.agg [vi .u64 x15_0, vi .u64 x15_1, vi .u64 x15_2, vi .u64 x15_3])), (6000, .d true)] ++ kH k37) (k37.b (apc ((((F55_ok a4 a5 a6 x2 h12).cp rfl _).trans (congrArg (fun z => some (vb z)) h13)) : CP prg 55 [(.ro (eOp a4 a5 a6)), (.agg ((eSym x2).map .p))] (L78_0_d3 a4 a5 a6 a7 a8 a9 a10 a13 v4 x4 x6_0 x6_1 x6_2 x6_3 v5 v6 v7 v8 v9 x2) = some (vb true)) (apc (ig eSet 4 .i64 h14) (apc (((F76_ok ([(⟨v6, v7, v8, v9⟩ : SetD), (⟨x14.a, x14.b, x14.c, x14.d⟩ : SetD)]) h15).cp rfl _) : CP prg 76 [(.p (.lst 4 ([(⟨v6, v7, v8, v9⟩ : SetD), (⟨x14.a, x14.b, x14.c, x14.d⟩ : SetD)].map eSet)))] (L78_0_d3 a4 a5 a6 a7 a8 a9 a10 a13 v4 x4 x6_0 x6_1 x6_2 x6_3 v5 v6 v7 v8 v9 x2) = some (.agg [vi .u64 x15_0, vi .u64 x15_1, vi .u64 x15_2, vi .u64 x15_3])) (apc (L78_0_k a4 a5 a6 a7 a8 a9 a10 a13 false v2 (w6 (v3 - 1)) (v4.set x4 (⟨x6_0, x6_1, x6_2, x6_3⟩ : SetD)) (v5.set x4 true) x15_0 x15_1 x15_2 x15_3) apn)))))
        ·
         apply bn h; intro x14 h14 h
         rw [← sj h]
         exact rn ([(117, .v (vb false)), (129, .v (.ro (eSet x14))), (6000, .d true)] ++ kH k37) (k37.b (apc ((((F55_ok a4 a5 a6 x2 h12).cp rfl _).trans (congrArg (fun z => some (vb z)) h13)) : CP prg 55 [(.ro (eOp a4 a5 a6)), (.agg ((eSym x2).map .p))] (L78_0_d3 a4 a5 a6 a7 a8 a9 a10 a13 v4 x4 x6_0 x6_1 x6_2 x6_3 v5 v6 v7 v8 v9 x2) = some (vb false)) (apc (ig eSet 4 .i64 h14) (apc (L78_0_k a4 a5 a6 a7 a8 a9 a10 a13 false false (w6 (v3 - 1)) (v4.set x4 (⟨x6_0, x6_1, x6_2, x6_3⟩ : SetD)) (v5.set x4 true) x14.a x14.b x14.c x14.d) apn))))
       ·
        have q38 := (((ld_row (V := vb x10) rfl h10 rfl).trans (congrArg (fun z => some (vb z)) h11)) : ldA (L78_0_d2 a4 a5 a6 a7 a8 a9 a10 a13 v4 x4 x6_0 x6_1 x6_2 x6_3 v5 v6 v7 v8 v9 x2) .false 1 (.rp 14 0 1 x4 0) = some (vb false))
        have k39 := k33.a [(110, .v (vb false)), (114, .v (.rp 14 0 1 x4 0)), (1114, .r ud (L78_0_d4 a4 a5 a6 a7 a8 a9 a10 a13 v4 x4 x6_0 x6_1 x6_2 x6_3 v5 v2 v6 v7 v8 v9 x2))] (apc q38 (apc q2 (apc q35 apn)))
        apply bn h; intro x12 h12 h
        apply bi h <;> intro h13 h
        ·
         apply bn h; intro x14 h14 h
         apply bn h; intro r15 h15 h
         cases r15 with
         | k0 x15_0 x15_1 x15_2 x15_3 =>
          rw [← sj h]
          exact rn ([(117, .v (vb true)), (122, .v (.ro (eSet x14))), (125, .v (.agg [vi .u64 x15_0, vi .u64 x15_1, vi .u64 x15_2, vi .u64 x15_3])), (6000, .d true)] ++ kH k39) (k39.b (apc ((((F55_ok a4 a5 a6 x2 h12).cp rfl _).trans (congrArg (fun z => some (vb z)) h13)) : CP prg 55 [(.ro (eOp a4 a5 a6)), (.agg ((eSym x2).map .p))] (L78_0_d4 a4 a5 a6 a7 a8 a9 a10 a13 v4 x4 x6_0 x6_1 x6_2 x6_3 v5 v2 v6 v7 v8 v9 x2) = some (vb true)) (apc (ig eSet 4 .i64 h14) (apc (((F76_ok ([(⟨v6, v7, v8, v9⟩ : SetD), (⟨x14.a, x14.b, x14.c, x14.d⟩ : SetD)]) h15).cp rfl _) : CP prg 76 [(.p (.lst 4 ([(⟨v6, v7, v8, v9⟩ : SetD), (⟨x14.a, x14.b, x14.c, x14.d⟩ : SetD)].map eSet)))] (L78_0_d4 a4 a5 a6 a7 a8 a9 a10 a13 v4 x4 x6_0 x6_1 x6_2 x6_3 v5 v2 v6 v7 v8 v9 x2) = some (.agg [vi .u64 x15_0, vi .u64 x15_1, vi .u64 x15_2, vi .u64 x15_3])) (apc (L78_0_k a4 a5 a6 a7 a8 a9 a10 a13 false v2 (w6 (v3 - 1)) (v4.set x4 (⟨x6_0, x6_1, x6_2, x6_3⟩ : SetD)) (v5.set x4 v2) x15_0 x15_1 x15_2 x15_3) apn)))))
        ·
         apply bn h; intro x14 h14 h
         rw [← sj h]
         exact rn ([(117, .v (vb false)), (129, .v (.ro (eSet x14))), (6000, .d true)] ++ kH k39) (k39.b (apc ((((F55_ok a4 a5 a6 x2 h12).cp rfl _).trans (congrArg (fun z => some (vb z)) h13)) : CP prg 55 [(.ro (eOp a4 a5 a6)), (.agg ((eSym x2).map .p))] (L78_0_d4 a4 a5 a6 a7 a8 a9 a10 a13 v4 x4 x6_0 x6_1 x6_2 x6_3 v5 v2 v6 v7 v8 v9 x2) = some (vb false)) (apc (ig eSet 4 .i64 h14) (apc (L78_0_k a4 a5 a6 a7 a8 a9 a10 a13 false false (w6 (v3 - 1)) (v4.set x4 (⟨x6_0, x6_1, x6_2, x6_3⟩ : SetD)) (v5.set x4 v2) x14.a x14.b x14.c x14.d) apn))))
 ·
  rw [← sj h]
  exact xb [(56, .d false), (6000, .d true)] (av h1 apn)
theorem L78_0_run (s0 : Bool × Bool × Int × (List SetD) × (List Bool) × Int × Int × Int × Int) (e : E_L78_0) (h : runL (fun s => L78_0 a6 a7 a9 a13 s.1 s.2.1 s.2.2.1 s.2.2.2.1 s.2.2.2.2.1 s.2.2.2.2.2.1 s.2.2.2.2.2.2.1 s.2.2.2.2.2.2.2.1 s.2.2.2.2.2.2.2.2) s0 = some e) : L78_0_x a4 a5 a6 a7 a8 a9 a10 a13 e (L78_0_e a4 a5 a6 a7 a8 a9 a10 a13 s0.1 s0.2.1 s0.2.2.1 s0.2.2.2.1 s0.2.2.2.2.1 s0.2.2.2.2.2.1 s0.2.2.2.2.2.2.1 s0.2.2.2.2.2.2.2.1 s0.2.2.2.2.2.2.2.2) := by
  have q := @loop_sound' (Bool × Bool × Int × (List SetD) × (List Bool) × Int × Int × Int × Int) E_L78_0 (fun s => L78_0 a6 a7 a9 a13 s.1 s.2.1 s.2.2.1 s.2.2.2.1 s.2.2.2.2.1 s.2.2.2.2.2.1 s.2.2.2.2.2.2.1 s.2.2.2.2.2.2.2.1 s.2.2.2.2.2.2.2.2) (fun s => L78_0_e a4 a5 a6 a7 a8 a9 a10 a13 s.1 s.2.1 s.2.2.1 s.2.2.2.1 s.2.2.2.2.1 s.2.2.2.2.2.1 s.2.2.2.2.2.2.1 s.2.2.2.2.2.2.2.1 s.2.2.2.2.2.2.2.2) (L78_0_x a4 a5 a6 a7 a8 a9 a10 a13) (fun s r h => L78_0_ok a4 a5 a6 a7 a8 a9 a10 a13 s.1 s.2.1 s.2.2.1 s.2.2.2.1 s.2.2.2.2.1 s.2.2.2.2.2.1 s.2.2.2.2.2.2.1 s.2.2.2.2.2.2.2.1 s.2.2.2.2.2.2.2.2 h) s0 e h
  exact q
end
inductive R_F78 where
  | k0
  | k1 (x0 : Bool) (x1 : List SetD) (x2 : List Bool) (x3 x4 x5 x6 : Int)
  | k2
def F78_v (a1 : ProdD) (a2 : GramD) (a3 : List Int) (a4 : List Bool) (a5 : List SetD) (a6 : List Bool) (a7 a8 : Nat) (a9 : List SetD) (a10 : List Bool) (r : R_F78) : AV := match r with | .k0 => (vb false) | .k1 x0 x1 x2 x3 x4 x5 x6 => (vb x0) | .k2 => (vb false)
def F78_h (a1 : ProdD) (a2 : GramD) (a3 : List Int) (a4 : List Bool) (a5 : List SetD) (a6 : List Bool) (a7 a8 : Nat) (a9 : List SetD) (a10 : List Bool) (r : R_F78) : List AB := match r with | .k0 => [.cells 89 [(.ro (eOp a2 a3 a4))], bS [], bB [], bS [], .cells 63 [ls 4 eSet a5], .cells 100 [(.fn 77 [.ptr 0 0])], .cells 100 [(.fn 77 [.ptr 0 0])], bB [], bB a6, bB [], .cells 56 [.sl 8 0 1 0 a7], bB [], .cells 56 [.sl 8 0 1 0 a8], bS a9, bB a10, bS [], .cells 63 [.sl 13 0 4 0 a7], bB [], .cells 56 [.sl 14 0 1 0 a7], yY0, bP a1, bP a1, bP a1] | .k1 x0 x1 x2 x3 x4 x5 x6 => [.cells 89 [(.ro (eOp a2 a3 a4))], bS [], bB [], bS [], .cells 63 [ls 4 eSet a5], .cells 100 [(.fn 77 [.ptr 0 0])], .cells 100 [(.fn 77 [.ptr 0 0])], bB [], bB a6, bB [], .cells 56 [.sl 8 0 1 0 a7], bB [], .cells 56 [.sl 8 0 1 0 a8], bS x1, bB x2, bS [], .cells 63 [.sl 13 0 4 0 a7], bB [], .cells 56 [.sl 14 0 1 0 a7], yY0, bP a1, bP a1, bP a1, .cells 46 [vi .u64 x3, vi .u64 x4, vi .u64 x5, vi .u64 x6]] | .k2 => [.cells 89 [(.ro (eOp a2 a3 a4))], bS [], bB [], bS [], .cells 63 [ls 4 eSet a5], .cells 100 [(.fn 77 [.ptr 0 0])], .cells 100 [(.fn 77 [.ptr 0 0])], bB [], bB a6, bB [], .cells 56 [.sl 8 0 1 0 a7], bB [], .cells 56 [.sl 8 0 1 0 a8], bS a9, bB a10, bS [], .cells 63 [.sl 13 0 4 0 a7], bB [], .cells 56 [.sl 14 0 1 0 a7], yY0, bP a1, bP a1]
def F78 (a1 : ProdD) (a2 : GramD) (a3 : List Int) (a4 : List Bool) (a5 : List SetD) (a6 : List Bool) (a7 a8 : Nat) (a9 : List SetD) (a10 : List Bool) : Option R_F78 :=
  ((ixN a8 a1.left).bind fun x1 => ((a6[x1]?).bind fun x2 => (bif x2 then ((F77_2 a1 a3).bind fun x4 => (bif x4 then ((getI a3 a2.start).bind fun x6 => (bif (decide (x6 < 0)) then (some (.k0)) else ((ixN a7 a1.left).bind fun x8 => ((a9[x8]?).bind fun x9 => ((a10[x8]?).bind fun x10 => (bif x10 then ((runL (fun s => L78_0 a4 a5 a7 a1 s.1 s.2.1 s.2.2.1 s.2.2.2.1 s.2.2.2.2.1 s.2.2.2.2.2.1 s.2.2.2.2.2.2.1 s.2.2.2.2.2.2.2.1 s.2.2.2.2.2.2.2.2) (false, true, (IntKind.wrap .i64 ((a1.right.length : Int) - 1)), a9, a10, x9.a, x9.b, x9.c, x9.d)).bind fun r12 => match r12 with | .k0 x12_0 x12_1 x12_2 x12_3 x12_4 x12_5 x12_6 => (some (.k1 x12_0 x12_1 x12_2 x12_3 x12_4 x12_5 x12_6))) else ((runL (fun s => L78_0 a4 a5 a7 a1 s.1 s.2.1 s.2.2.1 s.2.2.2.1 s.2.2.2.2.1 s.2.2.2.2.2.1 s.2.2.2.2.2.2.1 s.2.2.2.2.2.2.2.1 s.2.2.2.2.2.2.2.2) (false, false, (IntKind.wrap .i64 ((a1.right.length : Int) - 1)), a9, a10, x9.a, x9.b, x9.c, x9.d)).bind fun r12 => match r12 with | .k0 x12_0 x12_1 x12_2 x12_3 x12_4 x12_5 x12_6 => (some (.k1 x12_0 x12_1 x12_2 x12_3 x12_4 x12_5 x12_6))))))))) else (some (.k0)))) else (some (.k2)))))
abbrev F78_d0 (a2 : GramD) (a3 : List Int) (a4 : List Bool) (a5 : List SetD) (a6 : List Bool) (a7 a8 : Nat) (a9 : List SetD) (a10 : List Bool) (a1 : ProdD) : List AB := [.cells 89 [(.ro (eOp a2 a3 a4))], bS [], bB [], bS [], .cells 63 [ls 4 eSet a5], .cells 100 [(.fn 77 [.ptr 0 0])], .cells 100 [(.fn 77 [.ptr 0 0])], bB [], bB a6, bB [], .cells 56 [.sl 8 0 1 0 a7], bB [], .cells 56 [.sl 8 0 1 0 a8], bS a9, bB a10, bS [], .cells 63 [.sl 13 0 4 0 a7], bB [], .cells 56 [.sl 14 0 1 0 a7], yY0, bP a1, bP a1]
abbrev F78_d1 (a2 : GramD) (a3 : List Int) (a4 : List Bool) (a5 : List SetD) (a6 : List Bool) (a7 a8 : Nat) (a9 : List SetD) (a10 : List Bool) (a1 : ProdD) : List AB := [.cells 89 [(.ro (eOp a2 a3 a4))], bS [], bB [], bS [], .cells 63 [ls 4 eSet a5], .cells 100 [(.fn 77 [.ptr 0 0])], .cells 100 [(.fn 77 [.ptr 0 0])], bB [], bB a6, bB [], .cells 56 [.sl 8 0 1 0 a7], bB [], .cells 56 [.sl 8 0 1 0 a8], bS a9, bB a10, bS [], .cells 63 [.sl 13 0 4 0 a7], bB [], .cells 56 [.sl 14 0 1 0 a7], yY0, bP a1, bP a1, bP a1]
abbrev F78_d2 (a2 : GramD) (a3 : List Int) (a4 : List Bool) (a5 : List SetD) (a6 : List Bool) (a7 a8 : Nat) (a9 : List SetD) (a10 : List Bool) (a1 : ProdD) : List AB := [.cells 89 [(.ro (eOp a2 a3 a4))], bS [], bB [], bS [], .cells 63 [ls 4 eSet a5], .cells 100 [(.fn 77 [.ptr 0 0])], .cells 100 [(.fn 77 [.ptr 0 0])], bB [], bB a6, bB [], .cells 56 [.sl 8 0 1 0 a7], bB [], .cells 56 [.sl 8 0 1 0 a8], bS a9, bB a10, bS [], .cells 63 [.sl 13 0 4 0 a7], bB [], .cells 56 [.sl 14 0 1 0 a7], yY0, bP a1, bP a1, bP a1, .hole]
abbrev F78_d3 (g12 : Nat → AV) (x12_0 : Bool) (a2 : GramD) (a3 : List Int) (a4 : List Bool) (a5 : List SetD) (a6 : List Bool) (a7 a8 : Nat) (x12_1 : List SetD) (x12_2 : List Bool) (a1 : ProdD) (x12_3 x12_4 x12_5 x12_6 : Int) : St := ⟨fr 132 g12 [(3, .ptr 0 0), (4, .ptr 16 0), (5, .ptr 18 0), (7, .ptr 21 0), (9, vb x12_0), (10, .ptr 23 0)], [.cells 89 [(.ro (eOp a2 a3 a4))], bS [], bB [], bS [], .cells 63 [ls 4 eSet a5], .cells 100 [(.fn 77 [.ptr 0 0])], .cells 100 [(.fn 77 [.ptr 0 0])], bB [], bB a6, bB [], .cells 56 [.sl 8 0 1 0 a7], bB [], .cells 56 [.sl 8 0 1 0 a8], bS x12_1, bB x12_2, bS [], .cells 63 [.sl 13 0 4 0 a7], bB [], .cells 56 [.sl 14 0 1 0 a7], yY0, bP a1, bP a1, bP a1, .cells 46 [vi .u64 x12_3, vi .u64 x12_4, vi .u64 x12_5, vi .u64 x12_6]]⟩
theorem F78_ok (a1 : ProdD) (a2 : GramD) (a3 : List Int) (a4 : List Bool) (a5 : List SetD) (a6 : List Bool) (a7 a8 : Nat) (a9 : List SetD) (a10 : List Bool) {r : R_F78} (h : F78 a1 a2 a3 a4 a5 a6 a7 a8 a9 a10 = some r) : CS prg 78 [aP a1, .ptr 12 0, .ptr 5 0, .ptr 0 0, .ptr 16 0, .ptr 18 0, .ptr 4 0] [.cells 89 [(.ro (eOp a2 a3 a4))], bS [], bB [], bS [], .cells 63 [ls 4 eSet a5], .cells 100 [(.fn 77 [.ptr 0 0])], .cells 100 [(.fn 77 [.ptr 0 0])], bB [], bB a6, bB [], .cells 56 [.sl 8 0 1 0 a7], bB [], .cells 56 [.sl 8 0 1 0 a8], bS a9, bB a10, bS [], .cells 63 [.sl 13 0 4 0 a7], bB [], .cells 56 [.sl 14 0 1 0 a7], yY0, bP a1] = some (F78_v a1 a2 a3 a4 a5 a6 a7 a8 a9 a10 r, F78_h a1 a2 a3 a4 a5 a6 a7 a8 a9 a10 r) := by
 unfold F78 at h
 apply bn h; intro x1 h1 h
 have q0 := ((idx_sl h1) : idxA 1 (.sl 8 0 1 0 a8) (i6 a1.left) = some (.rp 8 0 1 x1 0))
 apply bn h; intro x2 h2 h
 apply bi h <;> intro h3 h
 ·
  have q1 := (((ld_row (V := vb x2) rfl h2 rfl).trans (congrArg (fun z => some (vb z)) h3)) : ldA (F78_d0 a2 a3 a4 a5 a6 a7 a8 a9 a10 a1) .false 1 (.rp 8 0 1 x1 0) = some (vb true))
  have k2 := ka [(18, .v (.rp 8 0 1 x1 0)), (19, .v (vb true))] (apc q0 (apc q1 apn))
  apply bn h; intro x4 h4 h
  apply bi h <;> intro h5 h
  ·
   have q3 := (((F77_2_ok a1 a2 a3 a4 a5 a6 a7 a8 a9 a10 h4).trans (congrArg (fun z => some (vb z, ((F78_d1 a2 a3 a4 a5 a6 a7 a8 a9 a10 a1) : List AB))) h5)) : CS prg 77 [aP a1, .ptr 0 0] (F78_d0 a2 a3 a4 a5 a6 a7 a8 a9 a10 a1) = some (vb true, F78_d1 a2 a3 a4 a5 a6 a7 a8 a9 a10 a1))
   have k4 := k2.a [(24, .r (vb true) (F78_d1 a2 a3 a4 a5 a6 a7 a8 a9 a10 a1))] (apc q3 apn)
   apply bn h; intro x6 h6 h
   have k5 := k4.a [(37, .v (.ro [.val (.int .i64 x6)]))] (apc (ig eI64 1 .i64 h6) apn)
   apply bi h <;> intro h7 h
   ·
    rw [← sj h]
    exact fc ([(39, .d true)] ++ kH k5) (k5.b (av h7 apn))
   ·
    apply bn h; intro x8 h8 h
    have q6 := ((idx_sl h8) : idxA 4 (.sl 13 0 4 0 a7) (i6 a1.left) = some (.rp 13 0 4 x8 0))
    have q7 := ((idx_sl h8) : idxA 1 (.sl 14 0 1 0 a7) (i6 a1.left) = some (.rp 14 0 1 x8 0))
    have k8 := k5.a [(39, .d false), (44, .v (.rp 13 0 4 x8 0))] (av h7 (apc q6 apn))
    apply bn h; intro x9 h9 h
    have q9 := ((ld_row rfl h9 rfl) : ldA (F78_d2 a2 a3 a4 a5 a6 a7 a8 a9 a10 a1) .true 4 (.rp 13 0 4 x8 0) = some (.agg ((eSet x9).map .p)))
    have k10 := k8.a [(45, .v (.agg ((eSet x9).map .p))), (49, .v (.rp 14 0 1 x8 0))] (apc q9 (apc q7 apn))
    apply bn h; intro x10 h10 h
    apply bi h <;> intro h11 h
    ·
     apply bn h; intro r12 h12 h
     cases r12 with
     | k0 x12_0 x12_1 x12_2 x12_3 x12_4 x12_5 x12_6 =>
      obtain ⟨g12, e12⟩ := L78_0_run a2 a3 a4 a5 a6 a7 a8 a1 (false, true, (w6 ((a1.right.length : Int) - 1)), a9, a10, x9.a, x9.b, x9.c, x9.d) _ h12
      rw [← sj h]
      exact fc ([(50, .v (vb true)), (53, .v (i6 (a1.right.length : Int))), (2000, .l (.brk 0) (F78_d3 g12 x12_0 a2 a3 a4 a5 a6 a7 a8 x12_1 x12_2 a1 x12_3 x12_4 x12_5 x12_6)), (6000, .d true)] ++ kH k10) (k10.b (apc (((ld_row (V := vb x10) rfl h10 rfl).trans (congrArg (fun z => some (vb z)) h11)) : ldA (F78_d2 a2 a3 a4 a5 a6 a7 a8 a9 a10 a1) .false 1 (.rp 14 0 1 x8 0) = some (vb true)) (apc (lg a1.right eSym 6) (apc (L78_0_k a2 a3 a4 a5 a6 a7 a8 a1 false true (w6 ((a1.right.length : Int) - 1)) a9 a10 x9.a x9.b x9.c x9.d) (apc (e12 : L78_0_e a2 a3 a4 a5 a6 a7 a8 a1 false true (w6 ((a1.right.length : Int) - 1)) a9 a10 x9.a x9.b x9.c x9.d = some ((.brk 0), F78_d3 g12 x12_0 a2 a3 a4 a5 a6 a7 a8 x12_1 x12_2 a1 x12_3 x12_4 x12_5 x12_6)) apn)))))
    ·
     apply bn h; intro r12 h12 h
     cases r12 with
     | k0 x12_0 x12_1 x12_2 x12_3 x12_4 x12_5 x12_6 =>
      obtain ⟨g12, e12⟩ := L78_0_run a2 a3 a4 a5 a6 a7 a8 a1 (false, false, (w6 ((a1.right.length : Int) - 1)), a9, a10, x9.a, x9.b, x9.c, x9.d) _ h12
      rw [← sj h]
      exact fc ([(50, .v (vb false)), (53, .v (i6 (a1.right.length : Int))), (2000, .l (.brk 0) (F78_d3 g12 x12_0 a2 a3 a4 a5 a6 a7 a8 x12_1 x12_2 a1 x12_3 x12_4 x12_5 x12_6)), (6000, .d true)] ++ kH k10) (k10.b (apc (((ld_row (V := vb x10) rfl h10 rfl).trans (congrArg (fun z => some (vb z)) h11)) : ldA (F78_d2 a2 a3 a4 a5 a6 a7 a8 a9 a10 a1) .false 1 (.rp 14 0 1 x8 0) = some (vb false)) (apc (lg a1.right eSym 6) (apc (L78_0_k a2 a3 a4 a5 a6 a7 a8 a1 false false (w6 ((a1.right.length : Int) - 1)) a9 a10 x9.a x9.b x9.c x9.d) (apc (e12 : L78_0_e a2 a3 a4 a5 a6 a7 a8 a1 false false (w6 ((a1.right.length : Int) - 1)) a9 a10 x9.a x9.b x9.c x9.d = some ((.brk 0), F78_d3 g12 x12_0 a2 a3 a4 a5 a6 a7 a8 x12_1 x12_2 a1 x12_3 x12_4 x12_5 x12_6)) apn)))))
  ·
   rw [← sj h]
   exact fc ([(24, .r (vb false) (F78_d1 a2 a3 a4 a5 a6 a7 a8 a9 a10 a1))] ++ kH k2) (k2.b (apc (((F77_2_ok a1 a2 a3 a4 a5 a6 a7 a8 a9 a10 h4).trans (congrArg (fun z => some (vb z, ((F78_d1 a2 a3 a4 a5 a6 a7 a8 a9 a10 a1) : List AB))) h5)) : CS prg 77 [aP a1, .ptr 0 0] (F78_d0 a2 a3 a4 a5 a6 a7 a8 a9 a10 a1) = some (vb false, F78_d1 a2 a3 a4 a5 a6 a7 a8 a9 a10 a1)) apn))
 ·
  rw [← sj h]
  exact fc [(18, .v (.rp 8 0 1 x1 0)), (19, .v (vb false))] (apc q0 (apc (((ld_row (V := vb x2) rfl h2 rfl).trans (congrArg (fun z => some (vb z)) h3)) : ldA (F78_d0 a2 a3 a4 a5 a6 a7 a8 a9 a10 a1) .false 1 (.rp 8 0 1 x1 0) = some (vb false)) apn))
inductive E_L46_0_11 where
  | k0 (x0 : Bool) (x1 : List SetD) (x2 : List Bool)
section
variable (a1 : GramD) (a2 : List Int) (a3 : List Bool) (a4 : Int) (a5 : List SetD) (a6 : List Bool) (a7 a8 : Nat)
abbrev L46_0_11_p (l : List AB) : List AB := .cells 89 [(.ro (eOp a1 a2 a3))] :: bS [] :: bB [] :: bS [] :: .cells 63 [ls 4 eSet a5] :: .cells 100 [(.fn 77 [.ptr 0 0])] :: .cells 100 [(.fn 77 [.ptr 0 0])] :: bB [] :: bB a6 :: bB [] :: .cells 56 [.sl 8 0 1 0 a7] :: bB [] :: .cells 56 [.sl 8 0 1 0 a8] :: l
def L46_0_11 (v1 : Bool) (v2 : Int) (v3 : List SetD) (v4 : List Bool) : Option (E_L46_0_11 ⊕ (Bool × Int × (List SetD) × (List Bool))) :=
  (bif (decide (v2 < a4)) then ((getI a1.prods v2).bind fun x2 => ((F54 x2).bind fun x3 => (bif x3 then ((F78 x2 a1 a2 a3 a5 a6 a7 a8 v3 v4).bind fun r5 => match r5 with | .k0 => (some (.inr (v1, (IntKind.wrap .i64 (v2 + 1)), v3, v4))) | .k1 x5_0 x5_1 x5_2 x5_3 x5_4 x5_5 x5_6 => (bif x5_0 then (some (.inr (true, (IntKind.wrap .i64 (v2 + 1)), x5_1, x5_2))) else (some (.inr (v1, (IntKind.wrap .i64 (v2 + 1)), x5_1, x5_2)))) | .k2 => (some (.inr (v1, (IntKind.wrap .i64 (v2 + 1)), v3, v4)))) else (some (.inr (v1, (IntKind.wrap .i64 (v2 + 1)), v3, v4)))))) else (some (.inl (.k0 v1 v3 v4))))
def L46_0_11_s (v1 : Bool) (v2 : Int) (v3 : List SetD) (v4 : List Bool) : St := ⟨fr 27 ug [(0, (.ro (eOp a1 a2 a3))), (1, (.fn 78 [.ptr 12 0, .ptr 5 0, .ptr 0 0, .ptr 16 0, .ptr 18 0, .ptr 4 0])), (4, vb v1), (11, ls 7 eProd a1.prods), (12, i6 a4), (13, i6 v2)], (L46_0_11_p a1 a2 a3 a5 a6 a7 a8 [bS v3, bB v4, bS [], .cells 63 [.sl 13 0 4 0 a7], bB [], .cells 56 [.sl 14 0 1 0 a7]])⟩
theorem L46_0_11_k (v1 : Bool) (v2 : Int) (v3 : List SetD) (v4 : List Bool) : okT 19 (L46_0_11_s a1 a2 a3 a4 a5 a6 a7 a8 v1 v2 v3 v4).h = true := (okT_of rfl (ac (ar (ar (ar (ac (ac (ac (ar (ar (ar (ac (ar (ac (ar (ar (ar (ac (ar (ac rfl))))))))))))))))))))
abbrev L46_0_11_e (v1 : Bool) (v2 : Int) (v3 : List SetD) (v4 : List Bool) := evH prg 19 [0, 1, 4, 11, 12, 13] ir46_l0 (L46_0_11_s a1 a2 a3 a4 a5 a6 a7 a8 v1 v2 v3 v4)
def L46_0_11_x (e : E_L46_0_11) (r : Option (Out × St)) : Prop := match e with | .k0 x0 x1 x2 => ∃ g, r = some ((.brk 2), ⟨fr 27 g [(0, (.ro (eOp a1 a2 a3))), (1, (.fn 78 [.ptr 12 0, .ptr 5 0, .ptr 0 0, .ptr 16 0, .ptr 18 0, .ptr 4 0])), (4, vb x0), (11, ls 7 eProd a1.prods)], (L46_0_11_p a1 a2 a3 a5 a6 a7 a8 [bS x1, bB x2, bS [], .cells 63 [.sl 13 0 4 0 a7], bB [], .cells 56 [.sl 14 0 1 0 a7]])⟩)
abbrev L46_0_11_d0 (v3 : List SetD) (v4 : List Bool) (x2 : ProdD) : List AB := (L46_0_11_p a1 a2 a3 a5 a6 a7 a8 [bS v3, bB v4, bS [], .cells 63 [.sl 13 0 4 0 a7], bB [], .cells 56 [.sl 14 0 1 0 a7], yY0, bP x2])
abbrev L46_0_11_d1 (v3 : List SetD) (v4 : List Bool) (x2 : ProdD) : List AB := (L46_0_11_p a1 a2 a3 a5 a6 a7 a8 [bS v3, bB v4, bS [], .cells 63 [.sl 13 0 4 0 a7], bB [], .cells 56 [.sl 14 0 1 0 a7], yY0, bP x2, bP x2, bP x2])
abbrev L46_0_11_d2 (x5_1 : List SetD) (x5_2 : List Bool) (x2 : ProdD) (x5_3 x5_4 x5_5 x5_6 : Int) : List AB := (L46_0_11_p a1 a2 a3 a5 a6 a7 a8 [bS x5_1, bB x5_2, bS [], .cells 63 [.sl 13 0 4 0 a7], bB [], .cells 56 [.sl 14 0 1 0 a7], yY0, bP x2, bP x2, bP x2, .cells 46 [vi .u64 x5_3, vi .u64 x5_4, vi .u64 x5_5, vi .u64 x5_6]])
abbrev L46_0_11_d3 (v3 : List SetD) (v4 : List Bool) (x2 : ProdD) : List AB := (L46_0_11_p a1 a2 a3 a5 a6 a7 a8 [bS v3, bB v4, bS [], .cells 63 [.sl 13 0 4 0 a7], bB [], .cells 56 [.sl 14 0 1 0 a7], yY0, bP x2, bP x2])
theorem L46_0_11_ok (v1 : Bool) (v2 : Int) (v3 : List SetD) (v4 : List Bool) {r : E_L46_0_11 ⊕ (Bool × Int × (List SetD) × (List Bool))} (h : L46_0_11 a1 a2 a3 a4 a5 a6 a7 a8 v1 v2 v3 v4 = some r) : OkR (fun e => L46_0_11_x a1 a2 a3 a5 a6 a7 a8 e (L46_0_11_e a1 a2 a3 a4 a5 a6 a7 a8 v1 v2 v3 v4)) (fun s => L46_0_11_e a1 a2 a3 a4 a5 a6 a7 a8 v1 v2 v3 v4 = L46_0_11_e a1 a2 a3 a4 a5 a6 a7 a8 s.1 s.2.1 s.2.2.1 s.2.2.2) r := by
 unfold L46_0_11 at h
 have q0 := (L46_0_11_k a1 a2 a3 a4 a5 a6 a7 a8 v1 (w6 (v2 + 1)) v3 v4)
 apply bi h <;> intro h1 h
 ·
  apply bn h; intro x2 h2 h
  have k1 := ka [(14, .d true), (15, .v (.ro (eProd x2)))] (av h1 (apc (ig eProd 7 .i64 h2) apn))
  apply bn h; intro x3 h3 h
  apply bi h <;> intro h4 h
  ·
   have q2 := ((((F54_ok x2 h3).cp rfl _).trans (congrArg (fun z => some (vb z)) h4)) : CP prg 54 [aP x2] (L46_0_11_d0 a1 a2 a3 a5 a6 a7 a8 v3 v4 x2) = some (vb true))
   apply bn h; intro r5 h5 h
   cases r5 with
   | k0 =>
    rw [← sj h]
    exact rn ([(18, .v (vb true)), (22, .r (vb false) (L46_0_11_d1 a1 a2 a3 a5 a6 a7 a8 v3 v4 x2)), (6000, .d true)] ++ kH k1) (k1.b (apc q2 (apc ((F78_ok x2 a1 a2 a3 a5 a6 a7 a8 v3 v4 h5) : CS prg 78 [aP x2, .ptr 12 0, .ptr 5 0, .ptr 0 0, .ptr 16 0, .ptr 18 0, .ptr 4 0] (L46_0_11_d0 a1 a2 a3 a5 a6 a7 a8 v3 v4 x2) = some ((vb false), L46_0_11_d1 a1 a2 a3 a5 a6 a7 a8 v3 v4 x2)) (apc q0 apn))))
   | k1 x5_0 x5_1 x5_2 x5_3 x5_4 x5_5 x5_6 =>
    apply bi h <;> intro h6 h
    ·
     rw [← sj h]
     exact rn ([(18, .v (vb true)), (22, .r (vb true) (L46_0_11_d2 a1 a2 a3 a5 a6 a7 a8 x5_1 x5_2 x2 x5_3 x5_4 x5_5 x5_6)), (6000, .d true)] ++ kH k1) (k1.b (apc q2 (apc (((F78_ok x2 a1 a2 a3 a5 a6 a7 a8 v3 v4 h5).trans (congrArg (fun z => some (vb z, ((L46_0_11_d2 a1 a2 a3 a5 a6 a7 a8 x5_1 x5_2 x2 x5_3 x5_4 x5_5 x5_6) : List AB))) h6)) : CS prg 78 [aP x2, .ptr 12 0, .ptr 5 0, .ptr 0 0, .ptr 16 0, .ptr 18 0, .ptr 4 0] (L46_0_11_d0 a1 a2 a3 a5 a6 a7 a8 v3 v4 x2) = some (vb true, L46_0_11_d2 a1 a2 a3 a5 a6 a7 a8 x5_1 x5_2 x2 x5_3 x5_4 x5_5 x5_6)) (apc (L46_0_11_k a1 a2 a3 a4 a5 a6 a7 a8 true (w6 (v2 + 1)) x5_1 x5_2) apn))))
    ·
     rw [← sj h]
     exact rn ([(18, .v (vb true)), (22, .r (vb false) (L46_0_11_d2 a1 a2 a3 a5 a6 a7 a8 x5_1 x5_2 x2 x5_3 x5_4 x5_5 x5_6)), (6000, .d true)] ++ kH k1) (k1.b (apc q2 (apc (((F78_ok x2 a1 a2 a3 a5 a6 a7 a8 v3 v4 h5).trans (congrArg (fun z => some (vb z, ((L46_0_11_d2 a1 a2 a3 a5 a6 a7 a8 x5_1 x5_2 x2 x5_3 x5_4 x5_5 x5_6) : List AB))) h6)) : CS prg 78 [aP x2, .ptr 12 0, .ptr 5 0, .ptr 0 0, .ptr 16 0, .ptr 18 0, .ptr 4 0] (L46_0_11_d0 a1 a2 a3 a5 a6 a7 a8 v3 v4 x2) = some (vb false, L46_0_11_d2 a1 a2 a3 a5 a6 a7 a8 x5_1 x5_2 x2 x5_3 x5_4 x5_5 x5_6)) (apc (L46_0_11_k a1 a2 a3 a4 a5 a6 a7 a8 v1 (w6 (v2 + 1)) x5_1 x5_2) apn))))
   | k2 =>
    rw [← sj h]
    exact rn ([(18, .v (vb true)), (22, .r (vb false) (L46_0_11_d3 a1 a2 a3 a5 a6 a7 a8 v3 v4 x2)), (6000, .d true)] ++ kH k1) (k1.b (apc q2 (apc ((F78_ok x2 a1 a2 a3 a5 a6 a7 a8 v3 v4 h5) : CS prg 78 [aP x2, .ptr 12 0, .ptr 5 0, .ptr 0 0, .ptr 16 0, .ptr 18 0, .ptr 4 0] (L46_0_11_d0 a1 a2 a3 a5 a6 a7 a8 v3 v4 x2) = some ((vb false), L46_0_11_d3 a1 a2 a3 a5 a6 a7 a8 v3 v4 x2)) (apc q0 apn))))
  ·
   rw [← sj h]
   exact rn ([(18, .v (vb false)), (6000, .d true)] ++ kH k1) (k1.b (apc ((((F54_ok x2 h3).cp rfl _).trans (congrArg (fun z => some (vb z)) h4)) : CP prg 54 [aP x2] (L46_0_11_d0 a1 a2 a3 a5 a6 a7 a8 v3 v4 x2) = some (vb false)) (apc q0 apn)))
 ·
  rw [← sj h]
  exact xb [(14, .d false), (6000, .d true)] (av h1 apn)
theorem L46_0_11_run (s0 : Bool × Int × (List SetD) × (List Bool)) (e : E_L46_0_11) (h : runL (fun s => L46_0_11 a1 a2 a3 a4 a5 a6 a7 a8 s.1 s.2.1 s.2.2.1 s.2.2.2) s0 = some e) : L46_0_11_x a1 a2 a3 a5 a6 a7 a8 e (L46_0_11_e a1 a2 a3 a4 a5 a6 a7 a8 s0.1 s0.2.1 s0.2.2.1 s0.2.2.2) := by
  have q := @loop_sound' (Bool × Int × (List SetD) × (List Bool)) E_L46_0_11 (fun s => L46_0_11 a1 a2 a3 a4 a5 a6 a7 a8 s.1 s.2.1 s.2.2.1 s.2.2.2) (fun s => L46_0_11_e a1 a2 a3 a4 a5 a6 a7 a8 s.1 s.2.1 s.2.2.1 s.2.2.2) (L46_0_11_x a1 a2 a3 a5 a6 a7 a8) (fun s r h => L46_0_11_ok a1 a2 a3 a4 a5 a6 a7 a8 s.1 s.2.1 s.2.2.1 s.2.2.2 h) s0 e h
  exact q
end
inductive E_L46_1_7 where
  | k0 (x0 : List SetD) (x1 : List Bool)
section
variable (a1 : GramD) (a2 : List Int) (a3 : List Bool) (a4 : List SetD) (a5 : List Bool) (a6 a7 : Nat)
abbrev L46_1_7_p (l : List AB) : List AB := .cells 89 [(.ro (eOp a1 a2 a3))] :: bS [] :: bB [] :: bS [] :: .cells 63 [ls 4 eSet a4] :: .cells 100 [(.fn 77 [.ptr 0 0])] :: .cells 100 [(.fn 77 [.ptr 0 0])] :: bB [] :: bB a5 :: bB [] :: .cells 56 [.sl 8 0 1 0 a6] :: bB [] :: .cells 56 [.sl 8 0 1 0 a7] :: l
def L46_1_7 (v1 : List SetD) (v2 : List Bool) : Option (E_L46_1_7 ⊕ ((List SetD) × (List Bool))) :=
  ((runL (fun s => L46_0_11 a1 a2 a3 (a1.prods.length : Int) a4 a5 a6 a7 s.1 s.2.1 s.2.2.1 s.2.2.2) (false, 0, v1, v2)).bind fun r1 => match r1 with | .k0 x1_0 x1_1 x1_2 => (bif x1_0 then (some (.inr (x1_1, x1_2))) else (some (.inl (.k0 x1_1 x1_2)))))
def L46_1_7_s (v1 : List SetD) (v2 : List Bool) : St := ⟨fr 27 ug [(0, (.ro (eOp a1 a2 a3))), (1, (.fn 78 [.ptr 12 0, .ptr 5 0, .ptr 0 0, .ptr 16 0, .ptr 18 0, .ptr 4 0]))], (L46_1_7_p a1 a2 a3 a4 a5 a6 a7 [bS v1, bB v2, bS [], .cells 63 [.sl 13 0 4 0 a6], bB [], .cells 56 [.sl 14 0 1 0 a6]])⟩
theorem L46_1_7_k (v1 : List SetD) (v2 : List Bool) : okT 19 (L46_1_7_s a1 a2 a3 a4 a5 a6 a7 v1 v2).h = true := (okT_of rfl (ac (ar (ar (ar (ac (ac (ac (ar (ar (ar (ac (ar (ac (ar (ar (ar (ac (ar (ac rfl))))))))))))))))))))
abbrev L46_1_7_e (v1 : List SetD) (v2 : List Bool) := evH prg 19 [0, 1] ir46_l1 (L46_1_7_s a1 a2 a3 a4 a5 a6 a7 v1 v2)
def L46_1_7_x (e : E_L46_1_7) (r : Option (Out × St)) : Prop := match e with | .k0 x0 x1 => ∃ g, r = some ((.brk 0), ⟨fr 27 g [(0, (.ro (eOp a1 a2 a3))), (1, (.fn 78 [.ptr 12 0, .ptr 5 0, .ptr 0 0, .ptr 16 0, .ptr 18 0, .ptr 4 0]))], (L46_1_7_p a1 a2 a3 a4 a5 a6 a7 [bS x0, bB x1, bS [], .cells 63 [.sl 13 0 4 0 a6], bB [], .cells 56 [.sl 14 0 1 0 a6]])⟩)
abbrev L46_1_7_d0 (g1 : Nat → AV) (x1_0 : Bool) (x1_1 : List SetD) (x1_2 : List Bool) : St := ⟨fr 27 g1 [(0, (.ro (eOp a1 a2 a3))), (1, (.fn 78 [.ptr 12 0, .ptr 5 0, .ptr 0 0, .ptr 16 0, .ptr 18 0, .ptr 4 0])), (4, vb x1_0), (11, ls 7 eProd a1.prods)], (L46_1_7_p a1 a2 a3 a4 a5 a6 a7 [bS x1_1, bB x1_2, bS [], .cells 63 [.sl 13 0 4 0 a6], bB [], .cells 56 [.sl 14 0 1 0 a6]])⟩
theorem L46_1_7_ok (v1 : List SetD) (v2 : List Bool) {r : E_L46_1_7 ⊕ ((List SetD) × (List Bool))} (h : L46_1_7 a1 a2 a3 a4 a5 a6 a7 v1 v2 = some r) : OkR (fun e => L46_1_7_x a1 a2 a3 a4 a5 a6 a7 e (L46_1_7_e a1 a2 a3 a4 a5 a6 a7 v1 v2)) (fun s => L46_1_7_e a1 a2 a3 a4 a5 a6 a7 v1 v2 = L46_1_7_e a1 a2 a3 a4 a5 a6 a7 s.1 s.2) r := by
 unfold L46_1_7 at h
 have q0 := (L46_0_11_k a1 a2 a3 (lP a1) a4 a5 a6 a7 false 0 v1 v2)
 have k1 := ka [(12, .v (i6 (lP a1)))] (apc (lg a1.prods eProd 7) apn)
 apply bn h; intro r1 h1 h
 cases r1 with
 | k0 x1_0 x1_1 x1_2 =>
  obtain ⟨g1, e1⟩ := L46_0_11_run a1 a2 a3 (lP a1) a4 a5 a6 a7 (false, 0, v1, v2) _ h1
  have q2 := (e1 : L46_0_11_e a1 a2 a3 (lP a1) a4 a5 a6 a7 false 0 v1 v2 = some ((.brk 2), L46_1_7_d0 a1 a2 a3 a4 a5 a6 a7 g1 x1_0 x1_1 x1_2))
  have k3 := k1.a [(2002, .l (.brk 2) (L46_1_7_d0 a1 a2 a3 a4 a5 a6 a7 g1 x1_0 x1_1 x1_2))] (apc q0 (apc q2 apn))
  apply bi h <;> intro h2 h
  ·
   rw [← sj h]
   exact rn ([(25, .d true), (6000, .d true)] ++ kH k3) (k3.b (av h2 (apc (L46_1_7_k a1 a2 a3 a4 a5 a6 a7 x1_1 x1_2) apn)))
  ·
   rw [← sj h]
   exact xb ([(25, .d false), (6000, .d true)] ++ kH k3) (k3.b (av h2 apn))
theorem L46_1_7_run (s0 : (List SetD) × (List Bool)) (e : E_L46_1_7) (h : runL (fun s => L46_1_7 a1 a2 a3 a4 a5 a6 a7 s.1 s.2) s0 = some e) : L46_1_7_x a1 a2 a3 a4 a5 a6 a7 e (L46_1_7_e a1 a2 a3 a4 a5 a6 a7 s0.1 s0.2) := by
  have q := @loop_sound' ((List SetD) × (List Bool)) E_L46_1_7 (fun s => L46_1_7 a1 a2 a3 a4 a5 a6 a7 s.1 s.2) (fun s => L46_1_7_e a1 a2 a3 a4 a5 a6 a7 s.1 s.2) (L46_1_7_x a1 a2 a3 a4 a5 a6 a7) (fun s r h => L46_1_7_ok a1 a2 a3 a4 a5 a6 a7 s.1 s.2 h) s0 e h
  exact q
end
inductive E_L46_2_6 where
  | k0 (x0 : List SetD) (x1 : List Bool)
section
variable (a1 : GramD) (a2 : List Int) (a3 : List Bool) (a4 : List SetD) (a5 : List Bool) (a6 a7 : Nat) (a8 : List SetD) (a9 : List Bool)
abbrev L46_2_6_p (l : List AB) : List AB := .cells 89 [(.ro (eOp a1 a2 a3))] :: bS [] :: bB [] :: bS [] :: .cells 63 [ls 4 eSet a4] :: .cells 100 [(.fn 77 [.ptr 0 0])] :: .cells 100 [(.fn 77 [.ptr 0 0])] :: bB [] :: bB a5 :: bB [] :: .cells 56 [.sl 8 0 1 0 a6] :: bB [] :: .cells 56 [.sl 8 0 1 0 a7] :: l
def L46_2_6 : Option (E_L46_2_6 ⊕ (Unit)) :=
  ((runL (fun s => L46_1_7 a1 a2 a3 a4 a5 a6 a7 s.1 s.2) (a8, a9)).bind fun r1 => match r1 with | .k0 x1_0 x1_1 => (some (.inl (.k0 x1_0 x1_1))))
def L46_2_6_s : St := ⟨fr 27 ug [(0, (.ro (eOp a1 a2 a3))), (1, (.fn 78 [.ptr 12 0, .ptr 5 0, .ptr 0 0, .ptr 16 0, .ptr 18 0, .ptr 4 0]))], (L46_2_6_p a1 a2 a3 a4 a5 a6 a7 [bS a8, bB a9, bS [], .cells 63 [.sl 13 0 4 0 a6], bB [], .cells 56 [.sl 14 0 1 0 a6]])⟩
theorem L46_2_6_k : okT 19 (L46_2_6_s a1 a2 a3 a4 a5 a6 a7 a8 a9).h = true := (okT_of rfl (ac (ar (ar (ar (ac (ac (ac (ar (ar (ar (ac (ar (ac (ar (ar (ar (ac (ar (ac rfl))))))))))))))))))))
abbrev L46_2_6_e := evH prg 19 [0, 1] ir46_l2 (L46_2_6_s a1 a2 a3 a4 a5 a6 a7 a8 a9)
def L46_2_6_x (e : E_L46_2_6) (r : Option (Out × St)) : Prop := match e with | .k0 x0 x1 => ∃ g, r = some ((.brk 2000000), ⟨fr 27 g [], (L46_2_6_p a1 a2 a3 a4 a5 a6 a7 [bS x0, bB x1, bS [], .cells 63 [.sl 13 0 4 0 a6], bB [], .cells 56 [.sl 14 0 1 0 a6]])⟩)
abbrev L46_2_6_d0 (g1 : Nat → AV) (x1_0 : List SetD) (x1_1 : List Bool) : St := ⟨fr 27 g1 [(0, (.ro (eOp a1 a2 a3))), (1, (.fn 78 [.ptr 12 0, .ptr 5 0, .ptr 0 0, .ptr 16 0, .ptr 18 0, .ptr 4 0]))], (L46_2_6_p a1 a2 a3 a4 a5 a6 a7 [bS x1_0, bB x1_1, bS [], .cells 63 [.sl 13 0 4 0 a6], bB [], .cells 56 [.sl 14 0 1 0 a6]])⟩
theorem L46_2_6_ok {r : E_L46_2_6 ⊕ (Unit)} (h : L46_2_6 a1 a2 a3 a4 a5 a6 a7 a8 a9 = some r) : OkR (fun e => L46_2_6_x a1 a2 a3 a4 a5 a6 a7 e (L46_2_6_e a1 a2 a3 a4 a5 a6 a7 a8 a9)) (fun s => L46_2_6_e a1 a2 a3 a4 a5 a6 a7 a8 a9 = L46_2_6_e a1 a2 a3 a4 a5 a6 a7 a8 a9) r := by
 unfold L46_2_6 at h
 apply bn h; intro r1 h1 h
 cases r1 with
 | k0 x1_0 x1_1 =>
  obtain ⟨g1, e1⟩ := L46_1_7_run a1 a2 a3 a4 a5 a6 a7 (a8, a9) _ h1
  rw [← sj h]
  exact xb [(2000, .l (.brk 0) (L46_2_6_d0 a1 a2 a3 a4 a5 a6 a7 g1 x1_0 x1_1)), (6000, .d true)] (apc (L46_1_7_k a1 a2 a3 a4 a5 a6 a7 a8 a9) (apc (e1 : L46_1_7_e a1 a2 a3 a4 a5 a6 a7 a8 a9 = some ((.brk 0), L46_2_6_d0 a1 a2 a3 a4 a5 a6 a7 g1 x1_0 x1_1)) apn))
theorem L46_2_6_run (s0 : Unit) (e : E_L46_2_6) (h : runL (fun s => L46_2_6 a1 a2 a3 a4 a5 a6 a7 a8 a9) s0 = some e) : L46_2_6_x a1 a2 a3 a4 a5 a6 a7 e (L46_2_6_e a1 a2 a3 a4 a5 a6 a7 a8 a9) := by
  have q := @loop_sound' (Unit) E_L46_2_6 (fun s => L46_2_6 a1 a2 a3 a4 a5 a6 a7 a8 a9) (fun s => L46_2_6_e a1 a2 a3 a4 a5 a6 a7 a8 a9) (L46_2_6_x a1 a2 a3 a4 a5 a6 a7) (fun s r h => L46_2_6_ok a1 a2 a3 a4 a5 a6 a7 a8 a9 h) s0 e h
  exact q
end
inductive R_F46_7 where
  | k0 (x0 : List SetD) (x1 : List Bool)
def F46_7_v (a1 : GramD) (a2 : List Int) (a3 : List Bool) (a4 : List SetD) (a5 : List Bool) (a6 a7 : Nat) (a8 : List SetD) (a9 : List Bool) (r : R_F46_7) : AV := match r with | .k0 x0 x1 => (.tup [])
def F46_7_h (a1 : GramD) (a2 : List Int) (a3 : List Bool) (a4 : List SetD) (a5 : List Bool) (a6 a7 : Nat) (a8 : List SetD) (a9 : List Bool) (r : R_F46_7) : List AB := match r with | .k0 x0 x1 => [.cells 89 [(.ro (eOp a1 a2 a3))], bS [], bB [], bS [], .cells 63 [ls 4 eSet a4], .cells 100 [(.fn 77 [.ptr 0 0])], .cells 100 [(.fn 77 [.ptr 0 0])], bB [], bB a5, bB [], .cells 56 [.sl 8 0 1 0 a6], bB [], .cells 56 [.sl 8 0 1 0 a7], bS x0, bB x1, bS [], .cells 63 [.sl 13 0 4 0 a6], bB [], .cells 56 [.sl 14 0 1 0 a6]]
def F46_7 (a1 : GramD) (a2 : List Int) (a3 : List Bool) (a4 : List SetD) (a5 : List Bool) (a6 a7 : Nat) (a8 : List SetD) (a9 : List Bool) : Option R_F46_7 :=
  ((runL (fun s => L46_2_6 a1 a2 a3 a4 a5 a6 a7 a8 a9) ()).bind fun r1 => match r1 with | .k0 x1_0 x1_1 => (some (.k0 x1_0 x1_1)))
abbrev F46_7_d0 (g1 : Nat → AV) (a1 : GramD) (a2 : List Int) (a3 : List Bool) (a4 : List SetD) (a5 : List Bool) (a6 a7 : Nat) (x1_0 : List SetD) (x1_1 : List Bool) : St := ⟨fr 27 g1 [], [.cells 89 [(.ro (eOp a1 a2 a3))], bS [], bB [], bS [], .cells 63 [ls 4 eSet a4], .cells 100 [(.fn 77 [.ptr 0 0])], .cells 100 [(.fn 77 [.ptr 0 0])], bB [], bB a5, bB [], .cells 56 [.sl 8 0 1 0 a6], bB [], .cells 56 [.sl 8 0 1 0 a7], bS x1_0, bB x1_1, bS [], .cells 63 [.sl 13 0 4 0 a6], bB [], .cells 56 [.sl 14 0 1 0 a6]]⟩
theorem F46_7_ok (a1 : GramD) (a2 : List Int) (a3 : List Bool) (a4 : List SetD) (a5 : List Bool) (a6 a7 : Nat) (a8 : List SetD) (a9 : List Bool) {r : R_F46_7} (h : F46_7 a1 a2 a3 a4 a5 a6 a7 a8 a9 = some r) : CS prg 46 [(.ro (eOp a1 a2 a3)), (.fn 78 [.ptr 12 0, .ptr 5 0, .ptr 0 0, .ptr 16 0, .ptr 18 0, .ptr 4 0])] [.cells 89 [(.ro (eOp a1 a2 a3))], bS [], bB [], bS [], .cells 63 [ls 4 eSet a4], .cells 100 [(.fn 77 [.ptr 0 0])], .cells 100 [(.fn 77 [.ptr 0 0])], bB [], bB a5, bB [], .cells 56 [.sl 8 0 1 0 a6], bB [], .cells 56 [.sl 8 0 1 0 a7], bS a8, bB a9, bS [], .cells 63 [.sl 13 0 4 0 a6], bB [], .cells 56 [.sl 14 0 1 0 a6]] = some (F46_7_v a1 a2 a3 a4 a5 a6 a7 a8 a9 r, F46_7_h a1 a2 a3 a4 a5 a6 a7 a8 a9 r) := by
 unfold F46_7 at h
 apply bn h; intro r1 h1 h
 cases r1 with
 | k0 x1_0 x1_1 =>
  obtain ⟨g1, e1⟩ := L46_2_6_run a1 a2 a3 a4 a5 a6 a7 a8 a9 () _ h1
  rw [← sj h]
  exact fc [(2002000, .l (.brk 2000000) (F46_7_d0 g1 a1 a2 a3 a4 a5 a6 a7 x1_0 x1_1)), (6000, .d true)] (apc (L46_2_6_k a1 a2 a3 a4 a5 a6 a7 a8 a9) (apc (e1 : L46_2_6_e a1 a2 a3 a4 a5 a6 a7 a8 a9 = some ((.brk 2000000), F46_7_d0 g1 a1 a2 a3 a4 a5 a6 a7 x1_0 x1_1)) apn))
inductive R_F62_2 where
  | k0 (x0 : List SetD) (x1 : List Bool)
def F62_2_v (a1 : GramD) (a2 : List Int) (a3 : List Bool) (r : R_F62_2) : AV := match r with | .k0 x0 x1 => (.tup [ls 4 eSet x0, ls 1 eBool x1])
def F62_2 (a1 : GramD) (a2 : List Int) (a3 : List Bool) : Option R_F62_2 :=
  ((F61_2 a1 a2 a3).bind fun x1 => ((F53_3 a1 a2).bind fun r2 => match r2 with | .k0 x2_0 x2_1 => (bif (mkOk (a1.sorts.length : Int) 32) then (bif (mkOk (a1.sorts.length : Int) 1) then ((getI a2 a1.start).bind fun x5 => ((ixN (Int.toNat (a1.sorts.length : Int)) a1.start).bind fun x6 => (((List.replicate (Int.toNat (a1.sorts.length : Int)) false)[x6]?).bind fun x7 => ((F46_7 a1 a2 a3 x1 x2_1 (Int.toNat (a1.sorts.length : Int)) x2_0 (List.replicate (Int.toNat (a1.sorts.length : Int)) (⟨0, 0, 0, 0⟩ : SetD)) ((List.replicate (Int.toNat (a1.sorts.length : Int)) false).set x6 (decide (x5 ≥ 0)))).bind fun r8 => match r8 with | .k0 x8_0 x8_1 => (bif (decide ((Int.toNat (a1.sorts.length : Int)) ≤ x8_0.length)) then (bif (decide ((Int.toNat (a1.sorts.length : Int)) ≤ x8_1.length)) then (some (.k0 (x8_0.take (Int.toNat (a1.sorts.length : Int))) (x8_1.take (Int.toNat (a1.sorts.length : Int))))) else none) else none))))) else none) else none)))
abbrev F62_2_d0 (a1 : GramD) (a2 : List Int) (a3 : List Bool) (x1 : List SetD) (x2_1 : List Bool) : List AB := [.cells 89 [(.ro (eOp a1 a2 a3))], bS [], bB [], bS [], .cells 63 [ls 4 eSet x1], .cells 100 [(.fn 77 [.ptr 0 0])], .cells 100 [(.fn 77 [.ptr 0 0])], bB [], bB x2_1, bB [], .cells 56 [(.sl 8 0 1 0 (tS a1))]]
abbrev F62_2_d1 (a1 : GramD) (a2 : List Int) (a3 : List Bool) (x1 : List SetD) (x2_1 : List Bool) (x2_0 x6 : Nat) (x5 : Int) : List AB := [.cells 89 [(.ro (eOp a1 a2 a3))], bS [], bB [], bS [], .cells 63 [ls 4 eSet x1], .cells 100 [(.fn 77 [.ptr 0 0])], .cells 100 [(.fn 77 [.ptr 0 0])], bB [], bB x2_1, bB [], .cells 56 [(.sl 8 0 1 0 (tS a1))], bB [], .cells 56 [.sl 8 0 1 0 x2_0], bS (List.replicate (tS a1) (⟨0, 0, 0, 0⟩ : SetD)), bB ((List.replicate (tS a1) false).set x6 (decide (x5 ≥ 0))), bS [], .cells 63 [(.sl 13 0 4 0 (tS a1))], bB [], .cells 56 [(.sl 14 0 1 0 (tS a1))]]
abbrev F62_2_d2 (a1 : GramD) (a2 : List Int) (a3 : List Bool) (x1 : List SetD) (x2_1 : List Bool) (x2_0 : Nat) (x8_0 : List SetD) (x8_1 : List Bool) : List AB := [.cells 89 [(.ro (eOp a1 a2 a3))], bS [], bB [], bS [], .cells 63 [ls 4 eSet x1], .cells 100 [(.fn 77 [.ptr 0 0])], .cells 100 [(.fn 77 [.ptr 0 0])], bB [], bB x2_1, bB [], .cells 56 [(.sl 8 0 1 0 (tS a1))], bB [], .cells 56 [.sl 8 0 1 0 x2_0], bS x8_0, bB x8_1, bS [], .cells 63 [(.sl 13 0 4 0 (tS a1))], bB [], .cells 56 [(.sl 14 0 1 0 (tS a1))]]
theorem F62_2_ok (a1 : GramD) (a2 : List Int) (a3 : List Bool) {r : R_F62_2} (h : F62_2 a1 a2 a3 = some r) : PR2 prg 62 [(.ro (eOp a1 a2 a3))] (F62_2_v a1 a2 a3 r) := by
 unfold F62_2 at h
 apply bn h; intro x1 h1 h
 have q0 := (((F61_2_ok a1 a2 a3 h1).cp rfl _) : CP prg 61 [(.ro (eOp a1 a2 a3))] [.cells 89 [(.ro (eOp a1 a2 a3))], bS [], bB []] = some (ls 4 eSet x1))
 apply bn h; intro r2 h2 h
 cases r2 with
 | k0 x2_0 x2_1 =>
  have q1 := ((F53_3_ok a1 a2 a3 x1 h2) : CS prg 53 [(.ro (eOp a1 a2 a3)), (.fn 77 [.ptr 0 0])] [.cells 89 [(.ro (eOp a1 a2 a3))], bS [], bB [], bS [], .cells 63 [ls 4 eSet x1], .cells 100 [(.fn 77 [.ptr 0 0])]] = some ((.sl 8 0 1 0 x2_0), F62_2_d0 a1 a2 a3 x1 x2_1))
  have k2 := ka [(10, .v (ls 4 eSet x1)), (14, .r (.sl 8 0 1 0 x2_0) (F62_2_d0 a1 a2 a3 x1 x2_1)), (20, .v (i6 (lS a1)))] (apc q0 (apc q1 (apc (lg a1.sorts eStr 1) apn)))
  apply bi h <;> intro h3 h
  ·
   have q3 := ((mk_row (e := eSet) (z := (⟨0, 0, 0, 0⟩ : SetD)) h3 rfl) : mkA 46 4 32 [.val (.int .u64 0), .val (.int .u64 0), .val (.int .u64 0), .val (.int .u64 0)] (i6 (lS a1)) (i6 (lS a1)) 13 = some ((.sl 13 0 4 0 (tS a1)), bS (List.replicate (tS a1) (⟨0, 0, 0, 0⟩ : SetD))))
   have k4 := k2.a [(21, .r (.sl 13 0 4 0 (tS a1)) [bS (List.replicate (tS a1) (⟨0, 0, 0, 0⟩ : SetD))]), (27, .v (i6 (lS a1)))] (apc q3 (apc (lg a1.sorts eStr 1) apn))
   apply bi h <;> intro h4 h
   ·
    have q5 := ((mk_row (e := eBool) (z := false) h4 rfl) : mkA 4 1 1 [.val (.bool false)] (i6 (lS a1)) (i6 (lS a1)) 14 = some ((.sl 14 0 1 0 (tS a1)), bB (List.replicate (tS a1) false)))
    have k6 := k4.a [(28, .r (.sl 14 0 1 0 (tS a1)) [bB (List.replicate (tS a1) false)])] (apc q5 apn)
    apply bn h; intro x5 h5 h
    have k7 := k6.a [(44, .v (.ro [.val (.int .i64 x5)]))] (apc (ig eI64 1 .i64 h5) apn)
    apply bn h; intro x6 h6 h
    have q8 := ((idx_sl h6) : idxA 1 (.sl 14 0 1 0 (tS a1)) (i6 a1.start) = some (.rp 14 0 1 x6 0))
    apply bn h; intro x7 h7 h
    have q9 := (⟨st_row (v' := (decide (x5 ≥ 0))) rfl h7 rfl rfl (Nat.le_of_ble_eq_true rfl) rfl, rfl⟩ : stA [.cells 89 [(.ro (eOp a1 a2 a3))], bS [], bB [], bS [], .cells 63 [ls 4 eSet x1], .cells 100 [(.fn 77 [.ptr 0 0])], .cells 100 [(.fn 77 [.ptr 0 0])], bB [], bB x2_1, bB [], .cells 56 [(.sl 8 0 1 0 (tS a1))], bB [], .cells 56 [.sl 8 0 1 0 x2_0], bS (List.replicate (tS a1) (⟨0, 0, 0, 0⟩ : SetD)), bB (List.replicate (tS a1) false), bS [], .cells 63 [(.sl 13 0 4 0 (tS a1))], bB [], .cells 56 [(.sl 14 0 1 0 (tS a1))]] 1 (.rp 14 0 1 x6 0) (vb (decide (x5 ≥ 0))) = some (F62_2_d1 a1 a2 a3 x1 x2_1 x2_0 x6 x5) ∧ ud = ud)
    have k10 := k7.a [(47, .v (.rp 14 0 1 x6 0)), (1047, .r ud (F62_2_d1 a1 a2 a3 x1 x2_1 x2_0 x6 x5))] (apc q8 (apc q9 apn))
    apply bn h; intro r8 h8 h
    cases r8 with
    | k0 x8_0 x8_1 =>
     have q11 := ((F46_7_ok a1 a2 a3 x1 x2_1 (tS a1) x2_0 (List.replicate (tS a1) (⟨0, 0, 0, 0⟩ : SetD)) ((List.replicate (tS a1) false).set x6 (decide (x5 ≥ 0))) h8) : CS prg 46 [(.ro (eOp a1 a2 a3)), (.fn 78 [.ptr 12 0, .ptr 5 0, .ptr 0 0, .ptr 16 0, .ptr 18 0, .ptr 4 0])] (F62_2_d1 a1 a2 a3 x1 x2_1 x2_0 x6 x5) = some ((.tup []), F62_2_d2 a1 a2 a3 x1 x2_1 x2_0 x8_0 x8_1))
     have k12 := k10.a [(50, .r (.tup []) (F62_2_d2 a1 a2 a3 x1 x2_1 x2_0 x8_0 x8_1))] (apc q11 apn)
     apply bi h <;> intro h9 h
     ·
      apply bi h <;> intro h10 h
      ·
       rw [← sj h]
       exact fpn (v := (.tup [(.sl 13 0 4 0 (tS a1)), (.sl 14 0 1 0 (tS a1))])) (h' := (F62_2_d2 a1 a2 a3 x1 x2_1 x2_0 x8_0 x8_1)) (kH k12) (k12.b apn) (purA_tup (purAs_cons (purA_sl (e := eSet) rfl h9) (purAs_cons (purA_sl (e := eBool) rfl h10) purAs_nil))) rfl (purA_tup (purAs_cons (purA_sl (e := eSet) (getq rfl (nols_ra (fun _ => rfl))) h9) (purAs_cons (purA_sl (e := eBool) (getq rfl (nols_ra (fun _ => rfl))) h10) purAs_nil))) (by kernel_rfl)
      ·
       cases h
     ·
      cases h
   ·
    cases h
  ·
   cases h
inductive R_F32 where
  | k0 (x0 : List SetD) (x1 : Int)
def F32_v (a1 : GramD) (r : R_F32) : AV := match r with | .k0 x0 x1 => (.tup [ls 4 eSet x0, i6 x1])
def F32 (a1 : GramD) : Option R_F32 :=
  ((F45 a1).bind fun r1 => match r1 with | .k0 x1_0 => (bif (x1_0 != 0) then (some (.k0 ([]) x1_0)) else none) | .k1 x1_0 x1_1 x1_2 x1_3 x1_4 x1_5 x1_6 => ((F62_2 (⟨x1_0, x1_1, x1_2, x1_3, x1_4⟩ : GramD) x1_5 x1_6).bind fun r2 => match r2 with | .k0 x2_0 x2_1 => (some (.k0 x2_0 0))))
theorem F32_ok (a1 : GramD) {r : R_F32} (h : F32 a1 = some r) : PR1 prg 32 [aG a1] (F32_v a1 r) := by
 unfold F32 at h
 apply bn h; intro r1 h1 h
 cases r1 with
 | k0 x1_0 =>
  have q0 := (((F45_ok a1 h1).cp rfl _) : CP prg 45 [aG a1] [bG a1, bS []] = some (.tup [(.p (.val (.pointer .none))), i6 x1_0]))
  have k1 := ka [(10, .v (.tup [(.p (.val (.pointer .none))), i6 x1_0]))] (apc q0 apn)
  apply bi h <;> intro h2 h
  ·
   rw [← sj h]
   exact fpo (v := (.tup [.sl 2 0 4 0 0, i6 x1_0])) (h' := [bG a1, bS [], bS []]) ([(14, .d true)] ++ kH k1) (k1.b (av h2 apn)) (purA_tup (purAs_cons (purA_sl (e := eSet) (xs := []) rfl rfl) (purAs_cons rfl purAs_nil))) (by kernel_rfl)
  ·
   cases h
 | k1 x1_0 x1_1 x1_2 x1_3 x1_4 x1_5 x1_6 =>
  apply bn h; intro r2 h2 h
  cases r2 with
  | k0 x2_0 x2_1 =>
   rw [← sj h]
   exact fq [(10, .v (.tup [(.ro [.lst 1 (x1_0.map eStr), .lst 7 (x1_1.map eProd), .val (.int .i64 x1_2), .lst 3 (x1_3.map eForb), .lst 5 (x1_4.map eFoll), .lst 1 (x1_5.map eI64), .lst 1 (x1_6.map eBool)]), i6 0])), (18, .v (.tup [ls 4 eSet x2_0, ls 1 eBool x2_1]))] (apc (((F45_ok a1 h1).cp rfl _) : CP prg 45 [aG a1] [bG a1, bS []] = some (.tup [(.ro [.lst 1 (x1_0.map eStr), .lst 7 (x1_1.map eProd), .val (.int .i64 x1_2), .lst 3 (x1_3.map eForb), .lst 5 (x1_4.map eFoll), .lst 1 (x1_5.map eI64), .lst 1 (x1_6.map eBool)]), i6 0])) (apc (((F62_2_ok (⟨x1_0, x1_1, x1_2, x1_3, x1_4⟩ : GramD) x1_5 x1_6 h2).cp rfl _) : CP prg 62 [(.ro [.lst 1 (x1_0.map eStr), .lst 7 (x1_1.map eProd), .val (.int .i64 x1_2), .lst 3 (x1_3.map eForb), .lst 5 (x1_4.map eFoll), .lst 1 (x1_5.map eI64), .lst 1 (x1_6.map eBool)])] [bG a1, bS []] = some (.tup [ls 4 eSet x2_0, ls 1 eBool x2_1])) apn))
inductive R_F33 where
  | k0 (x0 : List Bool) (x1 : Int)
def F33_v (a1 : GramD) (r : R_F33) : AV := match r with | .k0 x0 x1 => (.tup [ls 1 eBool x0, i6 x1])
def F33 (a1 : GramD) : Option R_F33 :=
  ((F45 a1).bind fun r1 => match r1 with | .k0 x1_0 => (bif (x1_0 != 0) then (some (.k0 ([]) x1_0)) else none) | .k1 x1_0 x1_1 x1_2 x1_3 x1_4 x1_5 x1_6 => ((F62_2 (⟨x1_0, x1_1, x1_2, x1_3, x1_4⟩ : GramD) x1_5 x1_6).bind fun r2 => match r2 with | .k0 x2_0 x2_1 => (some (.k0 x2_1 0))))
theorem F33_ok (a1 : GramD) {r : R_F33} (h : F33 a1 = some r) : PR1 prg 33 [aG a1] (F33_v a1 r) := by
 unfold F33 at h
 apply bn h; intro r1 h1 h
 cases r1 with
 | k0 x1_0 =>
  have q0 := (((F45_ok a1 h1).cp rfl _) : CP prg 45 [aG a1] [bG a1, bB []] = some (.tup [(.p (.val (.pointer .none))), i6 x1_0]))
  have k1 := ka [(10, .v (.tup [(.p (.val (.pointer .none))), i6 x1_0]))] (apc q0 apn)
  apply bi h <;> intro h2 h
  ·
   rw [← sj h]
   exact fpo (v := (.tup [.sl 2 0 1 0 0, i6 x1_0])) (h' := [bG a1, bB [], bB []]) ([(14, .d true)] ++ kH k1) (k1.b (av h2 apn)) (purA_tup (purAs_cons (purA_sl (e := eBool) (xs := []) rfl rfl) (purAs_cons rfl purAs_nil))) (by kernel_rfl)
  ·
   cases h
 | k1 x1_0 x1_1 x1_2 x1_3 x1_4 x1_5 x1_6 =>
  apply bn h; intro r2 h2 h
  cases r2 with
  | k0 x2_0 x2_1 =>
   rw [← sj h]
   exact fq [(10, .v (.tup [(.ro [.lst 1 (x1_0.map eStr), .lst 7 (x1_1.map eProd), .val (.int .i64 x1_2), .lst 3 (x1_3.map eForb), .lst 5 (x1_4.map eFoll), .lst 1 (x1_5.map eI64), .lst 1 (x1_6.map eBool)]), i6 0])), (18, .v (.tup [ls 4 eSet x2_0, ls 1 eBool x2_1]))] (apc (((F45_ok a1 h1).cp rfl _) : CP prg 45 [aG a1] [bG a1, bB []] = some (.tup [(.ro [.lst 1 (x1_0.map eStr), .lst 7 (x1_1.map eProd), .val (.int .i64 x1_2), .lst 3 (x1_3.map eForb), .lst 5 (x1_4.map eFoll), .lst 1 (x1_5.map eI64), .lst 1 (x1_6.map eBool)]), i6 0])) (apc (((F62_2_ok (⟨x1_0, x1_1, x1_2, x1_3, x1_4⟩ : GramD) x1_5 x1_6 h2).cp rfl _) : CP prg 62 [(.ro [.lst 1 (x1_0.map eStr), .lst 7 (x1_1.map eProd), .val (.int .i64 x1_2), .lst 3 (x1_3.map eForb), .lst 5 (x1_4.map eFoll), .lst 1 (x1_5.map eI64), .lst 1 (x1_6.map eBool)])] [bG a1, bB []] = some (.tup [ls 4 eSet x2_0, ls 1 eBool x2_1])) apn))
inductive E_L20_0 where
  | k0 (x0 : List Bool)
section
variable (a1 : Nat) (a2 : List Int) (a3 : Int) (a4 : GramD)
abbrev L20_0_p (l : List AB) : List AB := bG a4 :: bB [] :: l
def L20_0 (v1 : Int) (v2 : List Bool) : Option (E_L20_0 ⊕ (Int × (List Bool))) :=
  (bif (decide (v1 < a3)) then ((getI a2 v1).bind fun x2 => ((ixN a1 v1).bind fun x3 => ((v2[x3]?).bind fun x4 => (some (.inr ((IntKind.wrap .i64 (v1 + 1)), (v2.set x3 (decide (x2 ≥ 0))))))))) else (some (.inl (.k0 v2))))
def L20_0_s (v1 : Int) (v2 : List Bool) : St := ⟨fr 38 ug [(6, .sl 2 0 1 0 a1), (24, ls 1 eI64 a2), (25, i6 a3), (26, i6 v1)], (L20_0_p a4 [bB v2])⟩
theorem L20_0_k (v1 : Int) (v2 : List Bool) : okT 3 (L20_0_s a1 a2 a3 a4 v1 v2).h = true := (okT_of rfl (ac (ar (ar rfl))))
abbrev L20_0_e (v1 : Int) (v2 : List Bool) := evH prg 3 [6, 24, 25, 26] ir20_l0 (L20_0_s a1 a2 a3 a4 v1 v2)
def L20_0_x (e : E_L20_0) (r : Option (Out × St)) : Prop := match e with | .k0 x0 => ∃ g, r = some ((.brk 0), ⟨fr 38 g [(6, .sl 2 0 1 0 a1), (24, ls 1 eI64 a2)], (L20_0_p a4 [bB x0])⟩)
abbrev L20_0_d0 (v2 : List Bool) (x3 : Nat) (x2 : Int) : List AB := (L20_0_p a4 [bB (v2.set x3 (decide (x2 ≥ 0)))])
theorem L20_0_ok (v1 : Int) (v2 : List Bool) {r : E_L20_0 ⊕ (Int × (List Bool))} (h : L20_0 a1 a2 a3 v1 v2 = some r) : OkR (fun e => L20_0_x a1 a2 a4 e (L20_0_e a1 a2 a3 a4 v1 v2)) (fun s => L20_0_e a1 a2 a3 a4 v1 v2 = L20_0_e a1 a2 a3 a4 s.1 s.2) r := by
 unfold L20_0 at h
 apply bi h <;> intro h1 h
 ·
  apply bn h; intro x2 h2 h
  apply bn h; intro x3 h3 h
  apply bn h; intro x4 h4 h
  rw [← sj h]
  exact rn [(27, .d true), (29, .v (.ro [.val (.int .i64 x2)])), (35, .v (.rp 2 0 1 x3 0)), (1035, .r ud (L20_0_d0 a4 v2 x3 x2)), (6000, .d true)] (av h1 (apc (ig eI64 1 .i64 h2) (apc ((idx_sl h3) : idxA 1 (.sl 2 0 1 0 a1) (i6 v1) = some (.rp 2 0 1 x3 0)) (apc (⟨st_row (v' := (decide (x2 ≥ 0))) rfl h4 rfl rfl (Nat.le_of_ble_eq_true rfl) rfl, rfl⟩ : stA (L20_0_p a4 [bB v2]) 1 (.rp 2 0 1 x3 0) (vb (decide (x2 ≥ 0))) = some (L20_0_d0 a4 v2 x3 x2) ∧ ud = ud) (apc (L20_0_k a1 a2 a3 a4 (w6 (v1 + 1)) (v2.set x3 (decide (x2 ≥ 0)))) apn)))))
 ·
  rw [← sj h]
  exact xb [(27, .d false), (6000, .d true)] (av h1 apn)
theorem L20_0_run (s0 : Int × (List Bool)) (e : E_L20_0) (h : runL (fun s => L20_0 a1 a2 a3 s.1 s.2) s0 = some e) : L20_0_x a1 a2 a4 e (L20_0_e a1 a2 a3 a4 s0.1 s0.2) := by
  have q := @loop_sound' (Int × (List Bool)) E_L20_0 (fun s => L20_0 a1 a2 a3 s.1 s.2) (fun s => L20_0_e a1 a2 a3 a4 s.1 s.2) (L20_0_x a1 a2 a4) (fun s r h => L20_0_ok a1 a2 a3 a4 s.1 s.2 h) s0 e h
  exact q
end
inductive R_F20 where
  | k0 (x0 : List Bool) (x1 : Int)
def F20_v (a1 : GramD) (r : R_F20) : AV := match r with | .k0 x0 x1 => (.tup [ls 1 eBool x0, i6 x1])
def F20 (a1 : GramD) : Option R_F20 :=
  ((F45 a1).bind fun r1 => match r1 with | .k0 x1_0 => (bif (x1_0 != 0) then (some (.k0 ([]) x1_0)) else (bif (mkOk (a1.sorts.length : Int) 1) then none else none)) | .k1 x1_0 x1_1 x1_2 x1_3 x1_4 x1_5 x1_6 => (bif (mkOk (a1.sorts.length : Int) 1) then ((runL (fun s => L20_0 (Int.toNat (a1.sorts.length : Int)) x1_5 (x1_5.length : Int) s.1 s.2) (0, (List.replicate (Int.toNat (a1.sorts.length : Int)) false))).bind fun r3 => match r3 with | .k0 x3_0 => (bif (decide ((Int.toNat (a1.sorts.length : Int)) ≤ x3_0.length)) then (some (.k0 (x3_0.take (Int.toNat (a1.sorts.length : Int))) 0)) else none)) else none))
abbrev F20_d0 (a1 : GramD) : List AB := [bG a1, bB [], bB (List.replicate (tS a1) false)]
abbrev F20_d1 (g3 : Nat → AV) (a1 : GramD) (x1_5 : List Int) (x3_0 : List Bool) : St := ⟨fr 38 g3 [(6, (.sl 2 0 1 0 (tS a1))), (24, ls 1 eI64 x1_5)], [bG a1, bB [], bB x3_0]⟩
theorem F20_ok (a1 : GramD) {r : R_F20} (h : F20 a1 = some r) : PR2 prg 20 [aG a1] (F20_v a1 r) := by
 unfold F20 at h
 apply bn h; intro r1 h1 h
 cases r1 with
 | k0 x1_0 =>
  have q0 := (((F45_ok a1 h1).cp rfl _) : CP prg 45 [aG a1] [bG a1, bB []] = some (.tup [(.p (.val (.pointer .none))), i6 x1_0]))
  have k1 := ka [(11, .v (.tup [(.p (.val (.pointer .none))), i6 x1_0]))] (apc q0 apn)
  apply bi h <;> intro h2 h
  ·
   rw [← sj h]
   exact fpn (v := (.tup [.sl 2 0 1 0 0, i6 x1_0])) (h' := [bG a1, bB [], bB []]) ([(15, .d true)] ++ kH k1) (k1.b (av h2 apn)) (purA_tup (purAs_cons (purA_sl (e := eBool) (xs := []) rfl rfl) (purAs_cons rfl purAs_nil))) rfl (purA_tup (purAs_cons (purA_sl (e := eBool) (xs := []) (getq rfl (nols_ra (fun _ => rfl))) rfl) (purAs_cons rfl purAs_nil))) (by kernel_rfl)
  ·
   have k2 := k1.a [(15, .d false), (19, .v (i6 (lS a1)))] (av h2 (apc (lg a1.sorts eStr 1) apn))
   apply bi h <;> intro h3 h
   ·
    cases h
   ·
    cases h
 | k1 x1_0 x1_1 x1_2 x1_3 x1_4 x1_5 x1_6 =>
  have q3 := (((F45_ok a1 h1).cp rfl _) : CP prg 45 [aG a1] [bG a1, bB []] = some (.tup [(.ro [.lst 1 (x1_0.map eStr), .lst 7 (x1_1.map eProd), .val (.int .i64 x1_2), .lst 3 (x1_3.map eForb), .lst 5 (x1_4.map eFoll), .lst 1 (x1_5.map eI64), .lst 1 (x1_6.map eBool)]), i6 0]))
  have q4 := (L20_0_k (tS a1) x1_5 (x1_5.length : Int) a1 0 (List.replicate (tS a1) false))
  have k5 := ka [(11, .v (.tup [(.ro [.lst 1 (x1_0.map eStr), .lst 7 (x1_1.map eProd), .val (.int .i64 x1_2), .lst 3 (x1_3.map eForb), .lst 5 (x1_4.map eFoll), .lst 1 (x1_5.map eI64), .lst 1 (x1_6.map eBool)]), i6 0])), (19, .v (i6 (lS a1)))] (apc q3 (apc (lg a1.sorts eStr 1) apn))
  apply bi h <;> intro h2 h
  ·
   have q6 := ((mk_row' (h := [bG a1, bB []]) (e := eBool) (z := false) h2 rfl) : (mkA 4 1 1 [.val (.bool false)] (i6 (lS a1)) (i6 (lS a1)) 2).map (fun x => (x.1, [bG a1, bB []] ++ [x.2])) = some ((.sl 2 0 1 0 (tS a1)), F20_d0 a1))
   have k7 := k5.a [(20, .r (.sl 2 0 1 0 (tS a1)) (F20_d0 a1)), (25, .v (i6 (x1_5.length : Int)))] (apc q6 (apc (lg x1_5 eI64 1) apn))
   apply bn h; intro r3 h3 h
   cases r3 with
   | k0 x3_0 =>
    obtain ⟨g3, e3⟩ := L20_0_run (tS a1) x1_5 (x1_5.length : Int) a1 (0, (List.replicate (tS a1) false)) _ h3
    have q8 := (e3 : L20_0_e (tS a1) x1_5 (x1_5.length : Int) a1 0 (List.replicate (tS a1) false) = some ((.brk 0), F20_d1 g3 a1 x1_5 x3_0))
    have k9 := k7.a [(2000, .l (.brk 0) (F20_d1 g3 a1 x1_5 x3_0))] (apc q4 (apc q8 apn))
    apply bi h <;> intro h4 h
    ·
     rw [← sj h]
     exact fpn (v := (.tup [(.sl 2 0 1 0 (tS a1)), i6 0])) (h' := [bG a1, bB [], bB x3_0]) ([(6000, .d true)] ++ kH k9) (k9.b apn) (purA_tup (purAs_cons (purA_sl (e := eBool) rfl h4) (purAs_cons rfl purAs_nil))) rfl (purA_tup (purAs_cons (purA_sl (e := eBool) (getq rfl (nols_ra (fun _ => rfl))) h4) (purAs_cons rfl purAs_nil))) (by kernel_rfl)
    ·
     cases h
  ·
   cases h
inductive R_F22 where
  | k0 (x0 : List Bool) (x1 : Int)
def F22_v (a1 : GramD) (r : R_F22) : AV := match r with | .k0 x0 x1 => (.tup [ls 1 eBool x0, i6 x1])
def F22 (a1 : GramD) : Option R_F22 :=
  ((F45 a1).bind fun r1 => match r1 with | .k0 x1_0 => (bif (x1_0 != 0) then (some (.k0 ([]) x1_0)) else none) | .k1 x1_0 x1_1 x1_2 x1_3 x1_4 x1_5 x1_6 => (some (.k0 x1_6 0)))
theorem F22_ok (a1 : GramD) {r : R_F22} (h : F22 a1 = some r) : PR1 prg 22 [aG a1] (F22_v a1 r) := by
 unfold F22 at h
 apply bn h; intro r1 h1 h
 cases r1 with
 | k0 x1_0 =>
  have q0 := (((F45_ok a1 h1).cp rfl _) : CP prg 45 [aG a1] [bG a1, bB []] = some (.tup [(.p (.val (.pointer .none))), i6 x1_0]))
  have k1 := ka [(8, .v (.tup [(.p (.val (.pointer .none))), i6 x1_0]))] (apc q0 apn)
  apply bi h <;> intro h2 h
  ·
   rw [← sj h]
   exact fpo (v := (.tup [.sl 2 0 1 0 0, i6 x1_0])) (h' := [bG a1, bB [], bB []]) ([(12, .d true)] ++ kH k1) (k1.b (av h2 apn)) (purA_tup (purAs_cons (purA_sl (e := eBool) (xs := []) rfl rfl) (purAs_cons rfl purAs_nil))) (by kernel_rfl)
  ·
   cases h
 | k1 x1_0 x1_1 x1_2 x1_3 x1_4 x1_5 x1_6 =>
  rw [← sj h]
  exact fq [(8, .v (.tup [(.ro [.lst 1 (x1_0.map eStr), .lst 7 (x1_1.map eProd), .val (.int .i64 x1_2), .lst 3 (x1_3.map eForb), .lst 5 (x1_4.map eFoll), .lst 1 (x1_5.map eI64), .lst 1 (x1_6.map eBool)]), i6 0]))] (apc (((F45_ok a1 h1).cp rfl _) : CP prg 45 [aG a1] [bG a1, bB []] = some (.tup [(.ro [.lst 1 (x1_0.map eStr), .lst 7 (x1_1.map eProd), .val (.int .i64 x1_2), .lst 3 (x1_3.map eForb), .lst 5 (x1_4.map eFoll), .lst 1 (x1_5.map eI64), .lst 1 (x1_6.map eBool)]), i6 0])) apn)
inductive R_F13 where
  | k0 (x0 : List Int) (x1 : Int)
def F13_v (a1 : GramD) (r : R_F13) : AV := match r with | .k0 x0 x1 => (.tup [ls 1 eI64 x0, i6 x1])
def F13 (a1 : GramD) : Option R_F13 :=
  ((F45 a1).bind fun r1 => match r1 with | .k0 x1_0 => (bif (x1_0 != 0) then (some (.k0 ([]) x1_0)) else none) | .k1 x1_0 x1_1 x1_2 x1_3 x1_4 x1_5 x1_6 => (some (.k0 x1_5 0)))
theorem F13_ok (a1 : GramD) {r : R_F13} (h : F13 a1 = some r) : PR1 prg 13 [aG a1] (F13_v a1 r) := by
 unfold F13 at h
 apply bn h; intro r1 h1 h
 cases r1 with
 | k0 x1_0 =>
  have q0 := (((F45_ok a1 h1).cp rfl _) : CP prg 45 [aG a1] [bG a1, bI []] = some (.tup [(.p (.val (.pointer .none))), i6 x1_0]))
  have k1 := ka [(8, .v (.tup [(.p (.val (.pointer .none))), i6 x1_0]))] (apc q0 apn)
  apply bi h <;> intro h2 h
  ·
   rw [← sj h]
   exact fpo (v := (.tup [.sl 2 0 1 0 0, i6 x1_0])) (h' := [bG a1, bI [], bI []]) ([(12, .d true)] ++ kH k1) (k1.b (av h2 apn)) (purA_tup (purAs_cons (purA_sl (e := eI64) (xs := []) rfl rfl) (purAs_cons rfl purAs_nil))) (by kernel_rfl)
  ·
   cases h
 | k1 x1_0 x1_1 x1_2 x1_3 x1_4 x1_5 x1_6 =>
  rw [← sj h]
  exact fq [(8, .v (.tup [(.ro [.lst 1 (x1_0.map eStr), .lst 7 (x1_1.map eProd), .val (.int .i64 x1_2), .lst 3 (x1_3.map eForb), .lst 5 (x1_4.map eFoll), .lst 1 (x1_5.map eI64), .lst 1 (x1_6.map eBool)]), i6 0]))] (apc (((F45_ok a1 h1).cp rfl _) : CP prg 45 [aG a1] [bG a1, bI []] = some (.tup [(.ro [.lst 1 (x1_0.map eStr), .lst 7 (x1_1.map eProd), .val (.int .i64 x1_2), .lst 3 (x1_3.map eForb), .lst 5 (x1_4.map eFoll), .lst 1 (x1_5.map eI64), .lst 1 (x1_6.map eBool)]), i6 0])) apn)
inductive R_F66_3 where
  | k0 (x0 : Nat) (x1 : List Int) (x2 : Bool) (x3 : Nat)
def F66_3_v (a1 a2 : TreeD) (a3 : Nat) (a4 : List Int) (a5 : Bool) (a6 : Nat) (r : R_F66_3) : AV := match r with | .k0 x0 x1 x2 x3 => (.tup [])
def F66_3_h (a1 a2 : TreeD) (a3 : Nat) (a4 : List Int) (a5 : Bool) (a6 : Nat) (r : R_F66_3) : List AB := match r with | .k0 x0 x1 x2 x3 => [.cells 72 ((cT a2).map .p), yU x0 x1, .cells 117 [sp x2 2 0, .sl 1 x0 1 0 x3], .cells 118 [(.fn 66 [.ptr 2 0, .ptr 3 0])]]
abbrev T_F66_3 := TreeD → TreeD → Nat → (List Int) → Bool → Nat → Option R_F66_3
abbrev H_F66_3 (f : T_F66_3) : Prop := ∀ (a1 a2 : TreeD) (a3 : Nat) (a4 : List Int) (a5 : Bool) (a6 : Nat) {r : R_F66_3}, f a1 a2 a3 a4 a5 a6 = some r → ∀ hx : List AB, CS prg 66 [(.agg ((cT a1).map .p)), .ptr 2 0, .ptr 3 0] ([.cells 72 ((cT a2).map .p), yU a3 a4, .cells 117 [sp a5 2 0, .sl 1 a3 1 0 a6], .cells 118 [(.fn 66 [.ptr 2 0, .ptr 3 0])]] ++ hx) = some (F66_3_v a1 a2 a3 a4 a5 a6 r, F66_3_h a1 a2 a3 a4 a5 a6 r ++ hx)
def F81_3_v (a1 : TreeD) (a2 : Nat) (a3 : List Int) (a4 : Bool) (a5 : Nat) (a6 : TreeD) (x0 : Bool) : AV := (.tup [])
def F81_3_h (a1 : TreeD) (a2 : Nat) (a3 : List Int) (a4 : Bool) (a5 : Nat) (a6 : TreeD) (x0 : Bool) : List AB := [.cells 72 ((cT a1).map .p), yU a2 a3, .cells 117 [sp x0 2 0, .sl 1 a2 1 0 a5], .cells 118 [(.fn 66 [.ptr 2 0, .ptr 3 0])], .cells 72 ((cT a6).map .p)]
def F81_3 (a4 : Bool) : Option Bool :=
  (bif a4 then (some a4) else (some true))
abbrev F81_3_d0 (a1 : TreeD) (a2 : Nat) (a3 : List Int) (a4 : Bool) (a5 : Nat) (a6 : TreeD) : List AB := [.cells 72 ((cT a1).map .p), yU a2 a3, .cells 117 [sp a4 2 0, .sl 1 a2 1 0 a5], .cells 118 [(.fn 66 [.ptr 2 0, .ptr 3 0])], .cells 72 ((cT a6).map .p)]
theorem F81_3_ok (a1 : TreeD) (a2 : Nat) (a3 : List Int) (a4 : Bool) (a5 : Nat) (a6 : TreeD) {r : Bool} (h : F81_3 a4 = some r) : CS prg 81 [.ptr 2 0] [.cells 72 ((cT a1).map .p), yU a2 a3, .cells 117 [sp a4 2 0, .sl 1 a2 1 0 a5], .cells 118 [(.fn 66 [.ptr 2 0, .ptr 3 0])], .cells 72 ((cT a6).map .p)] = some (F81_3_v a1 a2 a3 a4 a5 a6 r, F81_3_h a1 a2 a3 a4 a5 a6 r) := by
 unfold F81_3 at h
 apply bi h <;> intro h1 h
 ·
  have q0 := (((rfl : ldA (F81_3_d0 a1 a2 a3 a4 a5 a6) .false 1 (.ptr 2 0) = some (sp a4 2 0)).trans (congrArg some (sp_t h1))) : ldA (F81_3_d0 a1 a2 a3 a4 a5 a6) .false 1 (.ptr 2 0) = some (.ptr 2 0))
  rw [← sj h]
  exact fc [(5, .v (.ptr 2 0)), (17, .v (.ptr 2 0))] (apc q0 (apc q0 apn))
 ·
  rw [← sj h]
  exact fc [(5, .v (.p (.val (.pointer .none))))] (apc (((rfl : ldA (F81_3_d0 a1 a2 a3 a4 a5 a6) .false 1 (.ptr 2 0) = some (sp a4 2 0)).trans (congrArg some (sp_f h1))) : ldA (F81_3_d0 a1 a2 a3 a4 a5 a6) .false 1 (.ptr 2 0) = some (.p (.val (.pointer .none)))) apn)
inductive R_F67_3 where
  | k0 (x0 : Nat) (x1 : List Int) (x2 : Bool)
def F67_3_v (a1 a2 : TreeD) (a3 : Nat) (a4 : List Int) (a5 : Bool) (a6 : Nat) (r : R_F67_3) : AV := match r with | .k0 x0 x1 x2 => (.p (.val .nilIface))
def F67_3_h (a1 a2 : TreeD) (a3 : Nat) (a4 : List Int) (a5 : Bool) (a6 : Nat) (r : R_F67_3) : List AB := match r with | .k0 x0 x1 x2 => [.cells 72 ((cT a2).map .p), yU x0 x1, .cells 117 [sp x2 2 0, (.sl 1 x0 1 0 (a6 + 1))], .cells 118 [(.fn 66 [.ptr 2 0, .ptr 3 0])], .cells 72 ((cT a1).map .p), .row 5 1 0 [[vi .u8 a1.byte]]]
def F67_3 (a1 : TreeD) (a3 : Nat) (a4 : List Int) (a5 : Bool) (a6 : Nat) : Option R_F67_3 :=
  ((F81_3 a5).bind fun x1 => (bif (apOk a6 1 a4.length 1) then (bif (decide (a6 + 1 ≤ a4.length)) then (some (.k0 a3 (splice a4 a6 [a1.byte]) x1)) else (some (.k0 (a3 + 1) (a4.take a6 ++ [a1.byte]) x1))) else none))
abbrev F67_3_d0 (a2 : TreeD) (a3 : Nat) (a4 : List Int) (x1 : Bool) (a6 : Nat) (a1 : TreeD) : List AB := [.cells 72 ((cT a2).map .p), yU a3 a4, .cells 117 [sp x1 2 0, .sl 1 a3 1 0 a6], .cells 118 [(.fn 66 [.ptr 2 0, .ptr 3 0])], .cells 72 ((cT a1).map .p)]
abbrev F67_3_d1 (a2 : TreeD) (a3 : Nat) (a4 : List Int) (a6 : Nat) (a1 : TreeD) (x1 : Bool) : List AB := [.cells 72 ((cT a2).map .p), yU a3 (splice a4 a6 [a1.byte]), .cells 117 [sp x1 2 0, .sl 1 a3 1 0 a6], .cells 118 [(.fn 66 [.ptr 2 0, .ptr 3 0])], .cells 72 ((cT a1).map .p), .row 5 1 0 [[vi .u8 a1.byte]]]
abbrev F67_3_d2 (a2 : TreeD) (a3 : Nat) (a4 : List Int) (x1 : Bool) (a6 : Nat) (a1 : TreeD) : List AB := [.cells 72 ((cT a2).map .p), yU a3 a4, .cells 117 [sp x1 2 0, .sl 1 a3 1 0 a6], .cells 118 [(.fn 66 [.ptr 2 0, .ptr 3 0])], .cells 72 ((cT a1).map .p), .row 5 1 0 [[vi .u8 a1.byte]]]
abbrev F67_3_d3 (a2 : TreeD) (a3 : Nat) (a4 : List Int) (a6 : Nat) (a1 : TreeD) (x1 : Bool) : List AB := [.cells 72 ((cT a2).map .p), yU (a3 + 1) (a4.take a6 ++ [a1.byte]), .cells 117 [sp x1 2 0, .sl 1 a3 1 0 a6], .cells 118 [(.fn 66 [.ptr 2 0, .ptr 3 0])], .cells 72 ((cT a1).map .p), .row 5 1 0 [[vi .u8 a1.byte]]]
theorem F67_3_ok (a1 a2 : TreeD) (a3 : Nat) (a4 : List Int) (a5 : Bool) (a6 : Nat) {r : R_F67_3} (h : F67_3 a1 a3 a4 a5 a6 = some r) : CS prg 67 [.ptr 2 0, vi .u8 a1.byte] [.cells 72 ((cT a2).map .p), yU a3 a4, .cells 117 [sp a5 2 0, .sl 1 a3 1 0 a6], .cells 118 [(.fn 66 [.ptr 2 0, .ptr 3 0])], .cells 72 ((cT a1).map .p)] = some (F67_3_v a1 a2 a3 a4 a5 a6 r, F67_3_h a1 a2 a3 a4 a5 a6 r) := by
 unfold F67_3 at h
 apply bn h; intro x1 h1 h
 have q0 := ((F81_3_ok a2 a3 a4 a5 a6 a1 h1) : CS prg 81 [.ptr 2 0] [.cells 72 ((cT a2).map .p), yU a3 a4, .cells 117 [sp a5 2 0, .sl 1 a3 1 0 a6], .cells 118 [(.fn 66 [.ptr 2 0, .ptr 3 0])], .cells 72 ((cT a1).map .p)] = some ((.tup []), F67_3_d0 a2 a3 a4 x1 a6 a1))
 have k1 := ka [(6, .r (.tup []) (F67_3_d0 a2 a3 a4 x1 a6 a1))] (apc q0 apn)
 apply bi h <;> intro h2 h
 ·
  apply bi h <;> intro h3 h
  ·
   rw [← sj h]
   exact fc ([(14, .r (.sl 1 a3 1 0 (a6 + 1)) (F67_3_d1 a2 a3 a4 a6 a1 x1))] ++ kH k1) (k1.b (apc ((ap_in (e := eU8) (xs := a4) (news := [a1.byte]) rfl (rows_x (e := eU8) (xs := [a1.byte]) rfl) rfl h2 h3) : appA (F67_3_d2 a2 a3 a4 x1 a6 a1) 5 1 1 (.sl 1 a3 1 0 a6) (.sl 5 0 1 0 1) = some ((.sl 1 a3 1 0 (a6 + 1)), F67_3_d1 a2 a3 a4 a6 a1 x1)) apn))
  ·
   rw [← sj h]
   exact fc ([(14, .r (.sl 1 (a3 + 1) 1 0 (a6 + 1)) (F67_3_d3 a2 a3 a4 a6 a1 x1))] ++ kH k1) (k1.b (apc ((ap_out (e := eU8) (xs := a4) (news := [a1.byte]) rfl (rows_x (e := eU8) (xs := [a1.byte]) rfl) rfl h2 h3) : appA (F67_3_d2 a2 a3 a4 x1 a6 a1) 5 1 1 (.sl 1 a3 1 0 a6) (.sl 5 0 1 0 1) = some ((.sl 1 (a3 + 1) 1 0 (a6 + 1)), F67_3_d3 a2 a3 a4 a6 a1 x1)) apn))
 ·
  cases h
inductive E_L66_0_3 where
  | k0 (x0 : Nat) (x1 : List Int) (x2 : Bool) (x3 : Nat)
def L66_0_3 (rF66_3 : T_F66_3) (a1 : TreeD) (a2 : Int) (a3 : TreeD) (v1 : Int) (v2 : Nat) (v3 : List Int) (v4 : Bool) (v5 : Nat) : Option (E_L66_0_3 ⊕ (Int × Nat × (List Int) × Bool × Nat)) :=
  (bif (decide (v1 < a2)) then ((getI a1.kids v1).bind fun x2 => ((rF66_3 x2 a3 v2 v3 v4 v5).bind fun r3 => match r3 with | .k0 x3_0 x3_1 x3_2 x3_3 => (some (.inr ((IntKind.wrap .i64 (v1 + 1)), x3_0, x3_1, x3_2, x3_3))))) else (some (.inl (.k0 v2 v3 v4 v5))))
def L66_0_3_s (a1 : TreeD) (a2 : Int) (a3 : TreeD) (v1 : Int) (v2 : Nat) (v3 : List Int) (v4 : Bool) (v5 : Nat) : St := ⟨fr 23 ug [(2, .ptr 3 0), (13, (.p (.lst 3 (eTrees a1.kids)))), (14, i6 a2), (15, i6 v1)], [.cells 72 ((cT a3).map .p), yU v2 v3, .cells 117 [sp v4 2 0, .sl 1 v2 1 0 v5], .cells 118 [(.fn 66 [.ptr 2 0, .ptr 3 0])], .cells 72 ((cT a1).map .p)]⟩
theorem L66_0_3_k (a1 : TreeD) (a2 : Int) (a3 : TreeD) (v1 : Int) (v2 : Nat) (v3 : List Int) (v4 : Bool) (v5 : Nat) : okT 5 (L66_0_3_s a1 a2 a3 v1 v2 v3 v4 v5).h = true := (okT_of rfl (ac (ar (abl_cons (blw_sp rfl (blw_c rfl rfl)) (ac (ac rfl))))))
abbrev L66_0_3_e (a1 : TreeD) (a2 : Int) (a3 : TreeD) (v1 : Int) (v2 : Nat) (v3 : List Int) (v4 : Bool) (v5 : Nat) := evH prg 5 [2, 13, 14, 15] ir66_l0 (L66_0_3_s a1 a2 a3 v1 v2 v3 v4 v5)
def L66_0_3_x (a1 : TreeD) (a2 : Int) (a3 : TreeD) (e : E_L66_0_3) (r : Option (Out × St)) : Prop := match e with | .k0 x0 x1 x2 x3 => ∃ g, r = some ((.brk 0), ⟨fr 23 g [(13, (.p (.lst 3 (eTrees a1.kids))))], [.cells 72 ((cT a3).map .p), yU x0 x1, .cells 117 [sp x2 2 0, .sl 1 x0 1 0 x3], .cells 118 [(.fn 66 [.ptr 2 0, .ptr 3 0])], .cells 72 ((cT a1).map .p)]⟩)
abbrev L66_0_3_d0 (a3 : TreeD) (x3_0 : Nat) (x3_1 : List Int) (x3_2 : Bool) (x3_3 : Nat) (a1 x2 : TreeD) : List AB := [.cells 72 ((cT a3).map .p), yU x3_0 x3_1, .cells 117 [sp x3_2 2 0, .sl 1 x3_0 1 0 x3_3], .cells 118 [(.fn 66 [.ptr 2 0, .ptr 3 0])], .cells 72 ((cT a1).map .p), yT0, .cells 72 ((cT x2).map .p)]
theorem L66_0_3_ok (rF66_3 : T_F66_3) (hF66_3 : H_F66_3 rF66_3) (a1 : TreeD) (a2 : Int) (a3 : TreeD) (v1 : Int) (v2 : Nat) (v3 : List Int) (v4 : Bool) (v5 : Nat) {r : E_L66_0_3 ⊕ (Int × Nat × (List Int) × Bool × Nat)} (h : L66_0_3 rF66_3 a1 a2 a3 v1 v2 v3 v4 v5 = some r) : OkR (fun e => L66_0_3_x a1 a2 a3 e (L66_0_3_e a1 a2 a3 v1 v2 v3 v4 v5)) (fun s => L66_0_3_e a1 a2 a3 v1 v2 v3 v4 v5 = L66_0_3_e a1 a2 a3 s.1 s.2.1 s.2.2.1 s.2.2.2.1 s.2.2.2.2) r := by
 unfold L66_0_3 at h
 apply bi h <;> intro h1 h
 ·
  apply bn h; intro x2 h2 h
  apply bn h; intro r3 h3 h
  cases r3 with
  | k0 x3_0 x3_1 x3_2 x3_3 =>
   rw [← sj h]
   exact rn [(16, .d true), (17, .v (.ro (cT x2))), (21, .r (.tup []) (L66_0_3_d0 a3 x3_0 x3_1 x3_2 x3_3 a1 x2)), (6000, .d true)] (av h1 (apc ((igr tr_map h2) : idxA 3 (.p (.lst 3 (eTrees a1.kids))) (i6 v1) = some (.ro (cT x2))) (apc ((hF66_3 x2 a3 v2 v3 v4 v5 h3 [.cells 72 ((cT a1).map .p), yT0, .cells 72 ((cT x2).map .p)]) : CS prg 66 [(.agg ((cT x2).map .p)), .ptr 2 0, .ptr 3 0] [.cells 72 ((cT a3).map .p), yU v2 v3, .cells 117 [sp v4 2 0, .sl 1 v2 1 0 v5], .cells 118 [(.fn 66 [.ptr 2 0, .ptr 3 0])], .cells 72 ((cT a1).map .p), yT0, .cells 72 ((cT x2).map .p)] = some ((.tup []), L66_0_3_d0 a3 x3_0 x3_1 x3_2 x3_3 a1 x2)) (apc (L66_0_3_k a1 a2 a3 (w6 (v1 + 1)) x3_0 x3_1 x3_2 x3_3) apn))))
 ·
  rw [← sj h]
  exact xb [(16, .d false), (6000, .d true)] (av h1 apn)
theorem L66_0_3_run (rF66_3 : T_F66_3) (hF66_3 : H_F66_3 rF66_3) (a1 : TreeD) (a2 : Int) (a3 : TreeD) (s0 : Int × Nat × (List Int) × Bool × Nat) (e : E_L66_0_3) (h : runL (fun s => L66_0_3 rF66_3 a1 a2 a3 s.1 s.2.1 s.2.2.1 s.2.2.2.1 s.2.2.2.2) s0 = some e) : L66_0_3_x a1 a2 a3 e (L66_0_3_e a1 a2 a3 s0.1 s0.2.1 s0.2.2.1 s0.2.2.2.1 s0.2.2.2.2) := by
  have q := @loop_sound' (Int × Nat × (List Int) × Bool × Nat) E_L66_0_3 (fun s => L66_0_3 rF66_3 a1 a2 a3 s.1 s.2.1 s.2.2.1 s.2.2.2.1 s.2.2.2.2) (fun s => L66_0_3_e a1 a2 a3 s.1 s.2.1 s.2.2.1 s.2.2.2.1 s.2.2.2.2) (L66_0_3_x a1 a2 a3) (fun s r h => L66_0_3_ok rF66_3 hF66_3 a1 a2 a3 s.1 s.2.1 s.2.2.1 s.2.2.2.1 s.2.2.2.2 h) s0 e h
  exact q
def F66_3_b (rF66_3 : T_F66_3) (a1 a2 : TreeD) (a3 : Nat) (a4 : List Int) (a5 : Bool) (a6 : Nat) : Option R_F66_3 :=
  (bif (decide (a1.prod < 0)) then ((F67_3 a1 a3 a4 a5 a6).bind fun r2 => match r2 with | .k0 x2_0 x2_1 x2_2 => (some (.k0 x2_0 x2_1 x2_2 (a6 + 1)))) else ((runL (fun s => L66_0_3 rF66_3 a1 (a1.kids.length : Int) a2 s.1 s.2.1 s.2.2.1 s.2.2.2.1 s.2.2.2.2) (0, a3, a4, a5, a6)).bind fun r2 => match r2 with | .k0 x2_0 x2_1 x2_2 x2_3 => (some (.k0 x2_0 x2_1 x2_2 x2_3))))
abbrev F66_3_d0 (a2 : TreeD) (x2_0 : Nat) (x2_1 : List Int) (x2_2 : Bool) (a6 : Nat) (a1 : TreeD) : List AB := [.cells 72 ((cT a2).map .p), yU x2_0 x2_1, .cells 117 [sp x2_2 2 0, (.sl 1 x2_0 1 0 (a6 + 1))], .cells 118 [(.fn 66 [.ptr 2 0, .ptr 3 0])], .cells 72 ((cT a1).map .p), .row 5 1 0 [[vi .u8 a1.byte]]]
abbrev F66_3_d1 (g2 : Nat → AV) (a1 a2 : TreeD) (x2_0 : Nat) (x2_1 : List Int) (x2_2 : Bool) (x2_3 : Nat) : St := ⟨fr 23 g2 [(13, (.p (.lst 3 (eTrees a1.kids))))], [.cells 72 ((cT a2).map .p), yU x2_0 x2_1, .cells 117 [sp x2_2 2 0, .sl 1 x2_0 1 0 x2_3], .cells 118 [(.fn 66 [.ptr 2 0, .ptr 3 0])], .cells 72 ((cT a1).map .p)]⟩
theorem F66_3_bok (rF66_3 : T_F66_3) (hF66_3 : H_F66_3 rF66_3) (a1 a2 : TreeD) (a3 : Nat) (a4 : List Int) (a5 : Bool) (a6 : Nat) {r : R_F66_3} (h : F66_3_b rF66_3 a1 a2 a3 a4 a5 a6 = some r) : ∀ hx : List AB, CS prg 66 [(.agg ((cT a1).map .p)), .ptr 2 0, .ptr 3 0] ([.cells 72 ((cT a2).map .p), yU a3 a4, .cells 117 [sp a5 2 0, .sl 1 a3 1 0 a6], .cells 118 [(.fn 66 [.ptr 2 0, .ptr 3 0])]] ++ hx) = some (F66_3_v a1 a2 a3 a4 a5 a6 r, F66_3_h a1 a2 a3 a4 a5 a6 r ++ hx) := by
 unfold F66_3_b at h
 apply bi h <;> intro h1 h
 ·
  apply bn h; intro r2 h2 h
  cases r2 with
  | k0 x2_0 x2_1 x2_2 =>
   rw [← sj h]
   exact fcF (m := 4) (v := (.tup [])) (h' := (F66_3_d0 a2 x2_0 x2_1 x2_2 a6 a1)) [(8, .d true), (11, .r (.p (.val .nilIface)) (F66_3_d0 a2 x2_0 x2_1 x2_2 a6 a1))] (av h1 (apc ((F67_3_ok a1 a2 a3 a4 a5 a6 h2) : CS prg 67 [.ptr 2 0, vi .u8 a1.byte] [.cells 72 ((cT a2).map .p), yU a3 a4, .cells 117 [sp a5 2 0, .sl 1 a3 1 0 a6], .cells 118 [(.fn 66 [.ptr 2 0, .ptr 3 0])], .cells 72 ((cT a1).map .p)] = some ((.p (.val .nilIface)), F66_3_d0 a2 x2_0 x2_1 x2_2 a6 a1)) apn)) rfl (ac (ar (abl_cons (blw_sp rfl (blw_c rfl rfl)) (ac rfl)))) rfl (ac (ar (abl_cons (blw_sp rfl (blw_c rfl rfl)) (ac rfl)))) rfl (by kernel_rfl)
 ·
  apply bn h; intro r2 h2 h
  cases r2 with
  | k0 x2_0 x2_1 x2_2 x2_3 =>
   obtain ⟨g2, e2⟩ := L66_0_3_run rF66_3 hF66_3 a1 (a1.kids.length : Int) a2 (0, a3, a4, a5, a6) _ h2
   rw [← sj h]
   exact fcF (m := 4) (v := (.tup [])) (h' := [.cells 72 ((cT a2).map .p), yU x2_0 x2_1, .cells 117 [sp x2_2 2 0, .sl 1 x2_0 1 0 x2_3], .cells 118 [(.fn 66 [.ptr 2 0, .ptr 3 0])], .cells 72 ((cT a1).map .p)]) [(8, .d false), (14, .v (i6 (a1.kids.length : Int))), (2000, .l (.brk 0) (F66_3_d1 g2 a1 a2 x2_0 x2_1 x2_2 x2_3)), (6000, .d true)] (av h1 (apc ((lgr tr_map) : lnA (.p (.lst 3 (eTrees a1.kids))) = some (i6 (a1.kids.length : Int))) (apc (L66_0_3_k a1 (a1.kids.length : Int) a2 0 a3 a4 a5 a6) (apc (e2 : L66_0_3_e a1 (a1.kids.length : Int) a2 0 a3 a4 a5 a6 = some ((.brk 0), F66_3_d1 g2 a1 a2 x2_0 x2_1 x2_2 x2_3)) apn)))) rfl (ac (ar (abl_cons (blw_sp rfl (blw_c rfl rfl)) (ac rfl)))) rfl (ac (ar (abl_cons (blw_sp rfl (blw_c rfl rfl)) (ac rfl)))) rfl (by kernel_rfl)
def F66_3 : Nat → T_F66_3
  | 0 => fun _ _ _ _ _ _ => none
  | Nf + 1 => F66_3_b (F66_3 Nf)
theorem F66_3_ok (Nf : Nat) : H_F66_3 (F66_3 Nf) := by
  induction Nf with
  | zero => intro a1 a2 a3 a4 a5 a6 r h; have h : (none : Option R_F66_3) = some r := h; cases h
  | succ Nf ih => intro a1 a2 a3 a4 a5 a6 r h; exact F66_3_bok (F66_3 Nf) ih a1 a2 a3 a4 a5 a6 h
inductive R_F68 where
  | k0 (x0 : ByteArray)
  | k1 (x0 : ByteArray)
def F68_v (a1 : TreeD) (a2 : Nat) (a3 : List Int) (a4 : Bool) (a5 : Nat) (r : R_F68) : AV := match r with | .k0 x0 => (vs x0) | .k1 x0 => (vs x0)
def F68_h (a1 : TreeD) (a2 : Nat) (a3 : List Int) (a4 : Bool) (a5 : Nat) (r : R_F68) : List AB := match r with | .k0 x0 => [.cells 72 ((cT a1).map .p), .dead, .cells 117 [sp a4 2 0, .sl 1 a2 1 0 a5], .cells 118 [(.fn 66 [.ptr 2 0, .ptr 3 0])]] | .k1 x0 => [.cells 72 ((cT a1).map .p), yU a2 a3, .cells 117 [sp a4 2 0, .sl 1 a2 1 0 a5], .cells 118 [(.fn 66 [.ptr 2 0, .ptr 3 0])]]
def F68 (a3 : List Int) (a5 : Nat) : Option R_F68 :=
  (bif (decide (0 < a5)) then (bif (usOk a5 a3.length) then (some (.k0 (bstr (a3.take a5)))) else none) else (some (.k1 ByteArray.empty)))
abbrev F68_d0 (a1 : TreeD) (a2 : Nat) (a3 : List Int) (a4 : Bool) (a5 : Nat) : List AB := [.cells 72 ((cT a1).map .p), yU a2 a3, .cells 117 [sp a4 2 0, .sl 1 a2 1 0 a5], .cells 118 [(.fn 66 [.ptr 2 0, .ptr 3 0])]]
abbrev F68_d1 (a1 : TreeD) (a4 : Bool) (a2 a5 : Nat) : List AB := [.cells 72 ((cT a1).map .p), .dead, .cells 117 [sp a4 2 0, .sl 1 a2 1 0 a5], .cells 118 [(.fn 66 [.ptr 2 0, .ptr 3 0])]]
theorem F68_ok (a1 : TreeD) (a2 : Nat) (a3 : List Int) (a4 : Bool) (a5 : Nat) {r : R_F68} (h : F68 a3 a5 = some r) : CS prg 68 [.ptr 2 0] [.cells 72 ((cT a1).map .p), yU a2 a3, .cells 117 [sp a4 2 0, .sl 1 a2 1 0 a5], .cells 118 [(.fn 66 [.ptr 2 0, .ptr 3 0])]] = some (F68_v a1 a2 a3 a4 a5 r, F68_h a1 a2 a3 a4 a5 r) := by
 unfold F68 at h
 apply bi h <;> intro h1 h
 ·
  have q0 := ((sd_t (e := eU8) (xs := a3) rfl h1) : sdA (F68_d0 a1 a2 a3 a4 a5) (.sl 1 a2 1 0 a5) = some (.rp 1 a2 1 0 0))
  apply bi h <;> intro h2 h
  ·
   rw [← sj h]
   exact fc [(7, .v (.rp 1 a2 1 0 0)), (13, .r (vs (bstr (a3.take a5))) (F68_d1 a1 a4 a2 a5))] (apc q0 (apc ((us_t (e := eU8) (xs := a3) rfl h1 h2) : uSA (F68_d0 a1 a2 a3 a4 a5) 5 (.rp 1 a2 1 0 0) (i6 ((a5 : Nat) : Int)) = some ((vs (bstr (a3.take a5))), F68_d1 a1 a4 a2 a5)) apn))
  ·
   cases h
 ·
  rw [← sj h]
  exact fc [(7, .v .anyp), (13, .r (vs ByteArray.empty) (F68_d0 a1 a2 a3 a4 a5))] (apc ((sd_f (e := eU8) (xs := a3) rfl h1) : sdA (F68_d0 a1 a2 a3 a4 a5) (.sl 1 a2 1 0 a5) = some .anyp) (apc ((us_f h1) : uSA (F68_d0 a1 a2 a3 a4 a5) 5 .anyp (i6 ((a5 : Nat) : Int)) = some ((vs ByteArray.empty), F68_d0 a1 a2 a3 a4 a5)) apn))
inductive R_F38 where
  | k0 (x0 : ByteArray) (x1 : Int)
def F38_v (a1 : TreeD) (r : R_F38) : AV := match r with | .k0 x0 x1 => (.tup [vs x0, i6 x1])
def F38 (Nf : Nat) (a1 : TreeD) : Option R_F38 :=
  ((F64 a1).bind fun x1 => (bif (decide (x1 > 16384)) then (some (.k0 (⟨([] : List UInt8).toArray⟩ : ByteArray) 3)) else ((F66_3 Nf a1 a1 0 ([]) false 0).bind fun r3 => match r3 with | .k0 x3_0 x3_1 x3_2 x3_3 => ((F68 x3_1 x3_3).bind fun r4 => match r4 with | .k0 x4_0 => (some (.k0 x4_0 0)) | .k1 x4_0 => (some (.k0 x4_0 0))))))
abbrev F38_d0 (a1 : TreeD) (x3_0 : Nat) (x3_1 : List Int) (x3_2 : Bool) (x3_3 : Nat) : List AB := [.cells 72 ((cT a1).map .p), yU x3_0 x3_1, .cells 117 [sp x3_2 2 0, .sl 1 x3_0 1 0 x3_3], .cells 118 [(.fn 66 [.ptr 2 0, .ptr 3 0])]]
abbrev F38_d1 (a1 : TreeD) (x3_2 : Bool) (x3_0 x3_3 : Nat) : List AB := [.cells 72 ((cT a1).map .p), .dead, .cells 117 [sp x3_2 2 0, .sl 1 x3_0 1 0 x3_3], .cells 118 [(.fn 66 [.ptr 2 0, .ptr 3 0])]]
theorem F38_ok (Nf : Nat) (a1 : TreeD) {r : R_F38} (h : F38 Nf a1 = some r) : PR1 prg 38 [(.agg ((cT a1).map .p))] (F38_v a1 r) := by
 unfold F38 at h
 apply bn h; intro x1 h1 h
 have q0 := (((F64_ok a1 h1).cp rfl _) : CP prg 64 [(.agg ((cT a1).map .p))] [.cells 72 ((cT a1).map .p)] = some (i6 x1))
 apply bi h <;> intro h2 h
 ·
  rw [← sj h]
  exact fq [(7, .v (i6 x1)), (8, .d true)] (apc q0 (av h2 apn))
 ·
  have k1 := ka [(7, .v (i6 x1)), (8, .d false)] (apc q0 (av h2 apn))
  apply bn h; intro r3 h3 h
  cases r3 with
  | k0 x3_0 x3_1 x3_2 x3_3 =>
   have q2 := ((F66_3_ok Nf a1 a1 0 ([]) false 0 h3 []) : CS prg 66 [(.agg ((cT a1).map .p)), .ptr 2 0, .ptr 3 0] [.cells 72 ((cT a1).map .p), yU0, .cells 117 [sp false 2 0, .sl 1 0 1 0 0], .cells 118 [(.fn 66 [.ptr 2 0, .ptr 3 0])]] = some ((.tup []), F38_d0 a1 x3_0 x3_1 x3_2 x3_3))
   have k3 := k1.a [(12, .r (.tup []) (F38_d0 a1 x3_0 x3_1 x3_2 x3_3))] (apc q2 apn)
   apply bn h; intro r4 h4 h
   cases r4 with
   | k0 x4_0 =>
    rw [← sj h]
    exact fq ([(13, .r (vs x4_0) (F38_d1 a1 x3_2 x3_0 x3_3))] ++ kH k3) (k3.b (apc ((F68_ok a1 x3_0 x3_1 x3_2 x3_3 h4) : CS prg 68 [.ptr 2 0] (F38_d0 a1 x3_0 x3_1 x3_2 x3_3) = some ((vs x4_0), F38_d1 a1 x3_2 x3_0 x3_3)) apn))
   | k1 x4_0 =>
    rw [← sj h]
    exact fq ([(13, .r (vs x4_0) (F38_d0 a1 x3_0 x3_1 x3_2 x3_3))] ++ kH k3) (k3.b (apc ((F68_ok a1 x3_0 x3_1 x3_2 x3_3 h4) : CS prg 68 [.ptr 2 0] (F38_d0 a1 x3_0 x3_1 x3_2 x3_3) = some ((vs x4_0), F38_d0 a1 x3_0 x3_1 x3_2 x3_3)) apn))
inductive R_F39_3 where
  | k0 (x0 : Int) (x1 : Bool)
def F39_3_v (a1 : TreeD) (a2 : Int) (a3 : ByteArray) (a4 : Bool) (a5 : GramD) (a6 : TreeD) (a7 : GramD) (a8 a9 : List SetD) (a10 a11 a12 : List Bool) (a13 : List Int) (a14 : Bool) (r : R_F39_3) : AV := match r with | .k0 x0 x1 => (i6 x0)
def F39_3_h (a1 : TreeD) (a2 : Int) (a3 : ByteArray) (a4 : Bool) (a5 : GramD) (a6 : TreeD) (a7 : GramD) (a8 a9 : List SetD) (a10 a11 a12 : List Bool) (a13 : List Int) (a14 : Bool) (r : R_F39_3) : List AB := match r with | .k0 x0 x1 => [bG a5, .cells 72 ((cT a6).map .p), .cells 77 (ap (eGram a7) [ls 4 eSet a8, ls 4 eSet a9, ls 1 eBool a10, ls 1 eBool a11, ls 1 eBool a12, ls 1 eI64 a13, vb x1])]
abbrev T_F39_3 := TreeD → Int → ByteArray → Bool → GramD → TreeD → GramD → (List SetD) → (List SetD) → (List Bool) → (List Bool) → (List Bool) → (List Int) → Bool → Option R_F39_3
abbrev H_F39_3 (f : T_F39_3) : Prop := ∀ (a1 : TreeD) (a2 : Int) (a3 : ByteArray) (a4 : Bool) (a5 : GramD) (a6 : TreeD) (a7 : GramD) (a8 a9 : List SetD) (a10 a11 a12 : List Bool) (a13 : List Int) (a14 : Bool) {r : R_F39_3}, f a1 a2 a3 a4 a5 a6 a7 a8 a9 a10 a11 a12 a13 a14 = some r → ∀ hx : List AB, CS prg 39 [.ptr 2 0, (.agg ((cT a1).map .p)), i6 a2, vs a3, vb a4] ([bG a5, .cells 72 ((cT a6).map .p), .cells 77 (ap (eGram a7) [ls 4 eSet a8, ls 4 eSet a9, ls 1 eBool a10, ls 1 eBool a11, ls 1 eBool a12, ls 1 eI64 a13, vb a14])] ++ hx) = some (F39_3_v a1 a2 a3 a4 a5 a6 a7 a8 a9 a10 a11 a12 a13 a14 r, F39_3_h a1 a2 a3 a4 a5 a6 a7 a8 a9 a10 a11 a12 a13 a14 r ++ hx)
inductive E_L39_0_3 where
  | k0 (x0 : Int) (x1 : Bool)
def L39_0_3 (rF39_3 : T_F39_3) (a2 : ByteArray) (a3 : Bool) (a5 : GramD) (a6 : TreeD) (a7 : GramD) (a8 a9 : List SetD) (a10 a11 a12 : List Bool) (a13 : List Int) (a15 : TreeD) (v1 v2 : Int) (v3 : Bool) : Option (E_L39_0_3 ⊕ (Int × Int × Bool)) :=
  (bif (decide (v2 < (a15.kids.length : Int))) then ((getI a15.kids v2).bind fun x2 => ((rF39_3 x2 v1 a2 a3 a5 a6 a7 a8 a9 a10 a11 a12 a13 v3).bind fun r3 => match r3 with | .k0 x3_0 x3_1 => (some (.inr (x3_0, (IntKind.wrap .i64 (v2 + 1)), x3_1))))) else (some (.inl (.k0 v1 v3))))
def L39_0_3_s (a1 : Int) (a2 : ByteArray) (a3 : Bool) (a4 : ProdD) (a5 : GramD) (a6 : TreeD) (a7 : GramD) (a8 a9 : List SetD) (a10 a11 a12 : List Bool) (a13 : List Int) (a15 : TreeD) (v1 v2 : Int) (v3 : Bool) : St := ⟨fr 161 ug [(0, .ptr 2 0), (2, i6 a1), (3, vs a2), (4, vb a3), (6, .ptr 3 0), (11, i6 a4.left), (12, i6 v1), (13, i6 v2)], [bG a5, .cells 72 ((cT a6).map .p), .cells 77 (ap (eGram a7) [ls 4 eSet a8, ls 4 eSet a9, ls 1 eBool a10, ls 1 eBool a11, ls 1 eBool a12, ls 1 eI64 a13, vb v3]), .cells 72 ((cT a15).map .p)]⟩
theorem L39_0_3_k (a1 : Int) (a2 : ByteArray) (a3 : Bool) (a4 : ProdD) (a5 : GramD) (a6 : TreeD) (a7 : GramD) (a8 a9 : List SetD) (a10 a11 a12 : List Bool) (a13 : List Int) (a15 : TreeD) (v1 v2 : Int) (v3 : Bool) : okT 4 (L39_0_3_s a1 a2 a3 a4 a5 a6 a7 a8 a9 a10 a11 a12 a13 a15 v1 v2 v3).h = true := (okT_of rfl (ac (ac (ac (ac rfl)))))
abbrev L39_0_3_e (a1 : Int) (a2 : ByteArray) (a3 : Bool) (a4 : ProdD) (a5 : GramD) (a6 : TreeD) (a7 : GramD) (a8 a9 : List SetD) (a10 a11 a12 : List Bool) (a13 : List Int) (a15 : TreeD) (v1 v2 : Int) (v3 : Bool) := evH prg 4 [0, 2, 3, 4, 6, 11, 12, 13] ir39_l0 (L39_0_3_s a1 a2 a3 a4 a5 a6 a7 a8 a9 a10 a11 a12 a13 a15 v1 v2 v3)
def L39_0_3_x (a1 : Int) (a2 : ByteArray) (a3 : Bool) (a4 : ProdD) (a5 : GramD) (a6 : TreeD) (a7 : GramD) (a8 a9 : List SetD) (a10 a11 a12 : List Bool) (a13 : List Int) (a15 : TreeD) (e : E_L39_0_3) (r : Option (Out × St)) : Prop := match e with | .k0 x0 x1 => ∃ g, r = some ((.brk 0), ⟨fr 161 g [(0, .ptr 2 0), (2, i6 a1), (3, vs a2), (4, vb a3), (6, .ptr 3 0), (11, i6 a4.left), (12, i6 x0)], [bG a5, .cells 72 ((cT a6).map .p), .cells 77 (ap (eGram a7) [ls 4 eSet a8, ls 4 eSet a9, ls 1 eBool a10, ls 1 eBool a11, ls 1 eBool a12, ls 1 eI64 a13, vb x1]), .cells 72 ((cT a15).map .p)]⟩)
abbrev L39_0_3_d0 (a5 : GramD) (a6 : TreeD) (a7 : GramD) (a8 a9 : List SetD) (a10 a11 a12 : List Bool) (a13 : List Int) (x3_1 : Bool) (a15 : TreeD) : List AB := [bG a5, .cells 72 ((cT a6).map .p), .cells 77 (ap (eGram a7) [ls 4 eSet a8, ls 4 eSet a9, ls 1 eBool a10, ls 1 eBool a11, ls 1 eBool a12, ls 1 eI64 a13, vb x3_1]), .cells 72 ((cT a15).map .p)]
theorem L39_0_3_ok (rF39_3 : T_F39_3) (hF39_3 : H_F39_3 rF39_3) (a1 : Int) (a2 : ByteArray) (a3 : Bool) (a4 : ProdD) (a5 : GramD) (a6 : TreeD) (a7 : GramD) (a8 a9 : List SetD) (a10 a11 a12 : List Bool) (a13 : List Int) (a15 : TreeD) (v1 v2 : Int) (v3 : Bool) {r : E_L39_0_3 ⊕ (Int × Int × Bool)} (h : L39_0_3 rF39_3 a2 a3 a5 a6 a7 a8 a9 a10 a11 a12 a13 a15 v1 v2 v3 = some r) : OkR (fun e => L39_0_3_x a1 a2 a3 a4 a5 a6 a7 a8 a9 a10 a11 a12 a13 a15 e (L39_0_3_e a1 a2 a3 a4 a5 a6 a7 a8 a9 a10 a11 a12 a13 a15 v1 v2 v3)) (fun s => L39_0_3_e a1 a2 a3 a4 a5 a6 a7 a8 a9 a10 a11 a12 a13 a15 v1 v2 v3 = L39_0_3_e a1 a2 a3 a4 a5 a6 a7 a8 a9 a10 a11 a12 a13 a15 s.1 s.2.1 s.2.2) r := by
 unfold L39_0_3 at h
 have q0 := ((lgr tr_map) : lnA (.p (.lst 3 (eTrees a15.kids))) = some (i6 (a15.kids.length : Int)))
 apply bi h <;> intro h1 h
 ·
  apply bn h; intro x2 h2 h
  apply bn h; intro r3 h3 h
  cases r3 with
  | k0 x3_0 x3_1 =>
   rw [← sj h]
   exact rn [(33, .v (i6 (a15.kids.length : Int))), (34, .d true), (41, .v (.ro (cT x2))), (46, .r (i6 x3_0) (L39_0_3_d0 a5 a6 a7 a8 a9 a10 a11 a12 a13 x3_1 a15)), (6000, .d true)] (apc q0 (av h1 (apc ((igr tr_map h2) : idxA 3 (.p (.lst 3 (eTrees a15.kids))) (i6 v2) = some (.ro (cT x2))) (apc ((hF39_3 x2 v1 a2 a3 a5 a6 a7 a8 a9 a10 a11 a12 a13 v3 h3 [.cells 72 ((cT a15).map .p)]) : CS prg 39 [.ptr 2 0, (.agg ((cT x2).map .p)), i6 v1, vs a2, vb a3] [bG a5, .cells 72 ((cT a6).map .p), .cells 77 (ap (eGram a7) [ls 4 eSet a8, ls 4 eSet a9, ls 1 eBool a10, ls 1 eBool a11, ls 1 eBool a12, ls 1 eI64 a13, vb v3]), .cells 72 ((cT a15).map .p)] = some ((i6 x3_0), L39_0_3_d0 a5 a6 a7 a8 a9 a10 a11 a12 a13 x3_1 a15)) (apc (L39_0_3_k a1 a2 a3 a4 a5 a6 a7 a8 a9 a10 a11 a12 a13 a15 x3_0 (w6 (v2 + 1)) x3_1) apn)))))
 ·
  rw [← sj h]
  exact xb [(33, .v (i6 (a15.kids.length : Int))), (34, .d false), (6000, .d true)] (apc q0 (av h1 apn))
theorem L39_0_3_run (rF39_3 : T_F39_3) (hF39_3 : H_F39_3 rF39_3) (a1 : Int) (a2 : ByteArray) (a3 : Bool) (a4 : ProdD) (a5 : GramD) (a6 : TreeD) (a7 : GramD) (a8 a9 : List SetD) (a10 a11 a12 : List Bool) (a13 : List Int) (a15 : TreeD) (s0 : Int × Int × Bool) (e : E_L39_0_3) (h : runL (fun s => L39_0_3 rF39_3 a2 a3 a5 a6 a7 a8 a9 a10 a11 a12 a13 a15 s.1 s.2.1 s.2.2) s0 = some e) : L39_0_3_x a1 a2 a3 a4 a5 a6 a7 a8 a9 a10 a11 a12 a13 a15 e (L39_0_3_e a1 a2 a3 a4 a5 a6 a7 a8 a9 a10 a11 a12 a13 a15 s0.1 s0.2.1 s0.2.2) := by
  have q := @loop_sound' (Int × Int × Bool) E_L39_0_3 (fun s => L39_0_3 rF39_3 a2 a3 a5 a6 a7 a8 a9 a10 a11 a12 a13 a15 s.1 s.2.1 s.2.2) (fun s => L39_0_3_e a1 a2 a3 a4 a5 a6 a7 a8 a9 a10 a11 a12 a13 a15 s.1 s.2.1 s.2.2) (L39_0_3_x a1 a2 a3 a4 a5 a6 a7 a8 a9 a10 a11 a12 a13 a15) (fun s r h => L39_0_3_ok rF39_3 hF39_3 a1 a2 a3 a4 a5 a6 a7 a8 a9 a10 a11 a12 a13 a15 s.1 s.2.1 s.2.2 h) s0 e h
  exact q
def F31_v (a1 : SetD) (a2 : Int) (x0 : Bool) : AV := (vb x0)
def F31 (a1 : SetD) (a2 : Int) : Option Bool :=
  (bif ((IntKind.wrap .u8 (Int.tdiv a2 64)) == 0) then (bif (decide ((Int.tmod a2 64) < 0)) then none else (some ((Int.tmod (Int.fdiv a1.a (2 ^ (min (Int.toNat (Int.tmod a2 64)) (IntKind.bits .u64)))) 2) == 1))) else (bif ((IntKind.wrap .u8 (Int.tdiv a2 64)) == 1) then (bif (decide ((Int.tmod a2 64) < 0)) then none else (some ((Int.tmod (Int.fdiv a1.b (2 ^ (min (Int.toNat (Int.tmod a2 64)) (IntKind.bits .u64)))) 2) == 1))) else (bif ((IntKind.wrap .u8 (Int.tdiv a2 64)) == 2) then (bif (decide ((Int.tmod a2 64) < 0)) then none else (some ((Int.tmod (Int.fdiv a1.c (2 ^ (min (Int.toNat (Int.tmod a2 64)) (IntKind.bits .u64)))) 2) == 1))) else (bif ((IntKind.wrap .u8 (Int.tdiv a2 64)) == 3) then (bif (decide ((Int.tmod a2 64) < 0)) then none else (some ((Int.tmod (Int.fdiv a1.d (2 ^ (min (Int.toNat (Int.tmod a2 64)) (IntKind.bits .u64)))) 2) == 1))) else none))))
theorem F31_ok (a1 : SetD) (a2 : Int) {r : Bool} (h : F31 a1 a2 = some r) : PR1 prg 31 [(.agg ((eSet a1).map .p)), vi .u8 a2] (F31_v a1 a2 r) := by
 unfold F31 at h
 apply bi h <;> intro h1 h
 ·
  have q0 := ((ix_lit h1 (fun z => ixP 4 1 (.ptr 0 0) (vi .u8 z)) rfl) : ixP 4 1 (.ptr 0 0) (vi .u8 (IntKind.wrap .u8 (Int.tdiv a2 64))) = some (.ptr 0 0))
  apply bi h <;> intro h2 h
  ·
   cases h
  ·
   rw [← sj h]
   exact fq [(7, .v (.ptr 0 0)), (11, .v (vi .u64 (Int.fdiv a1.a (2 ^ (min (Int.toNat (Int.tmod a2 64)) (IntKind.bits .u64))))))] (apc q0 (apc ((sh_shr (of_decide_eq_false h2)) : binA .shr (vi .u64 a1.a) (vi .u8 (Int.tmod a2 64)) = some (vi .u64 (Int.fdiv a1.a (2 ^ (min (Int.toNat (Int.tmod a2 64)) (IntKind.bits .u64)))))) apn))
 ·
  apply bi h <;> intro h2 h
  ·
   have q1 := ((ix_lit h2 (fun z => ixP 4 1 (.ptr 0 0) (vi .u8 z)) rfl) : ixP 4 1 (.ptr 0 0) (vi .u8 (IntKind.wrap .u8 (Int.tdiv a2 64))) = some (.ptr 0 1))
   apply bi h <;> intro h3 h
   ·
    cases h
   ·
    rw [← sj h]
    exact fq [(7, .v (.ptr 0 1)), (11, .v (vi .u64 (Int.fdiv a1.b (2 ^ (min (Int.toNat (Int.tmod a2 64)) (IntKind.bits .u64))))))] (apc q1 (apc ((sh_shr (of_decide_eq_false h3)) : binA .shr (vi .u64 a1.b) (vi .u8 (Int.tmod a2 64)) = some (vi .u64 (Int.fdiv a1.b (2 ^ (min (Int.toNat (Int.tmod a2 64)) (IntKind.bits .u64)))))) apn))
  ·
   apply bi h <;> intro h3 h
   ·
    have q2 := ((ix_lit h3 (fun z => ixP 4 1 (.ptr 0 0) (vi .u8 z)) rfl) : ixP 4 1 (.ptr 0 0) (vi .u8 (IntKind.wrap .u8 (Int.tdiv a2 64))) = some (.ptr 0 2))
    apply bi h <;> intro h4 h
    ·
     cases h
    ·
     rw [← sj h]
     exact fq [(7, .v (.ptr 0 2)), (11, .v (vi .u64 (Int.fdiv a1.c (2 ^ (min (Int.toNat (Int.tmod a2 64)) (IntKind.bits .u64))))))] (apc q2 (apc ((sh_shr (of_decide_eq_false h4)) : binA .shr (vi .u64 a1.c) (vi .u8 (Int.tmod a2 64)) = some (vi .u64 (Int.fdiv a1.c (2 ^ (min (Int.toNat (Int.tmod a2 64)) (IntKind.bits .u64)))))) apn))
   ·
    apply bi h <;> intro h4 h
    ·
     have q3 := ((ix_lit h4 (fun z => ixP 4 1 (.ptr 0 0) (vi .u8 z)) rfl) : ixP 4 1 (.ptr 0 0) (vi .u8 (IntKind.wrap .u8 (Int.tdiv a2 64))) = some (.ptr 0 3))
     apply bi h <;> intro h5 h
     ·
      cases h
     ·
      rw [← sj h]
      exact fq [(7, .v (.ptr 0 3)), (11, .v (vi .u64 (Int.fdiv a1.d (2 ^ (min (Int.toNat (Int.tmod a2 64)) (IntKind.bits .u64))))))] (apc q3 (apc ((sh_shr (of_decide_eq_false h5)) : binA .shr (vi .u64 a1.d) (vi .u8 (Int.tmod a2 64)) = some (vi .u64 (Int.fdiv a1.d (2 ^ (min (Int.toNat (Int.tmod a2 64)) (IntKind.bits .u64)))))) apn))
    ·
     cases h
def F39_3_b (rF39_3 : T_F39_3) (a1 : TreeD) (a2 : Int) (a3 : ByteArray) (a4 : Bool) (a5 : GramD) (a6 : TreeD) (a7 : GramD) (a8 a9 : List SetD) (a10 a11 a12 : List Bool) (a13 : List Int) (a14 : Bool) : Option R_F39_3 :=
  (bif (decide (a1.prod < 0)) then (some (.k0 (IntKind.wrap .i64 (a2 + 1)) a14)) else ((getI a7.prods a1.prod).bind fun x2 => ((runL (fun s => L39_0_3 rF39_3 a3 a4 a5 a6 a7 a8 a9 a10 a11 a12 a13 a1 s.1 s.2.1 s.2.2) (a2, 0, a14)).bind fun r3 => match r3 with | .k0 x3_0 x3_1 => (bif x3_1 then ((getI a10 x2.left).bind fun x5 => (bif x5 then ((getI a13 x2.left).bind fun x7 => (bif (decide (x7 ≥ 0)) then (bif (decide (x7 ≤ (IntKind.wrap .i64 (x3_0 - a2)))) then (bif (decide (x3_0 > a2)) then (bif (x3_0 == a2) then (bif a4 then (bif (x3_0 == (a3.size : Int)) then ((getI a12 x2.left).bind fun x14 => (bif x14 then (some (.k0 x3_0 true)) else (bif (decide (x3_0 < (a3.size : Int))) then ((getI a9 x2.left).bind fun x17 => ((getI a3.data.toList x3_0).bind fun x18 => ((F31 x17 (x18.toNat : Int)).bind fun x19 => (some (.k0 x3_0 x19))))) else (some (.k0 x3_0 false))))) else (bif (decide (x3_0 < (a3.size : Int))) then ((getI a9 x2.left).bind fun x15 => ((getI a3.data.toList x3_0).bind fun x16 => ((F31 x15 (x16.toNat : Int)).bind fun x17 => (some (.k0 x3_0 x17))))) else (some (.k0 x3_0 false)))) else (some (.k0 x3_0 true))) else ((getI a8 x2.left).bind fun x12 => ((getI a3.data.toList a2).bind fun x13 => ((F31 x12 (x13.toNat : Int)).bind fun x14 => (bif a4 then (bif x14 then (bif (x3_0 == (a3.size : Int)) then ((getI a12 x2.left).bind fun x18 => (bif x18 then (some (.k0 x3_0 true)) else (bif (decide (x3_0 < (a3.size : Int))) then ((getI a9 x2.left).bind fun x21 => ((getI a3.data.toList x3_0).bind fun x22 => ((F31 x21 (x22.toNat : Int)).bind fun x23 => (some (.k0 x3_0 x23))))) else (some (.k0 x3_0 false))))) else (bif (decide (x3_0 < (a3.size : Int))) then ((getI a9 x2.left).bind fun x19 => ((getI a3.data.toList x3_0).bind fun x20 => ((F31 x19 (x20.toNat : Int)).bind fun x21 => (some (.k0 x3_0 x21))))) else (some (.k0 x3_0 false)))) else (some (.k0 x3_0 false))) else (some (.k0 x3_0 x14))))))) else ((getI a11 x2.left).bind fun x11 => (bif x11 then (bif (x3_0 == a2) then (bif a4 then (bif (x3_0 == (a3.size : Int)) then ((getI a12 x2.left).bind fun x16 => (bif x16 then (some (.k0 x3_0 true)) else (bif (decide (x3_0 < (a3.size : Int))) then ((getI a9 x2.left).bind fun x19 => ((getI a3.data.toList x3_0).bind fun x20 => ((F31 x19 (x20.toNat : Int)).bind fun x21 => (some (.k0 x3_0 x21))))) else (some (.k0 x3_0 false))))) else (bif (decide (x3_0 < (a3.size : Int))) then ((getI a9 x2.left).bind fun x17 => ((getI a3.data.toList x3_0).bind fun x18 => ((F31 x17 (x18.toNat : Int)).bind fun x19 => (some (.k0 x3_0 x19))))) else (some (.k0 x3_0 false)))) else (some (.k0 x3_0 true))) else ((getI a8 x2.left).bind fun x14 => ((getI a3.data.toList a2).bind fun x15 => ((F31 x14 (x15.toNat : Int)).bind fun x16 => (bif a4 then (bif x16 then (bif (x3_0 == (a3.size : Int)) then ((getI a12 x2.left).bind fun x20 => (bif x20 then (some (.k0 x3_0 true)) else (bif (decide (x3_0 < (a3.size : Int))) then ((getI a9 x2.left).bind fun x23 => ((getI a3.data.toList x3_0).bind fun x24 => ((F31 x23 (x24.toNat : Int)).bind fun x25 => (some (.k0 x3_0 x25))))) else (some (.k0 x3_0 false))))) else (bif (decide (x3_0 < (a3.size : Int))) then ((getI a9 x2.left).bind fun x21 => ((getI a3.data.toList x3_0).bind fun x22 => ((F31 x21 (x22.toNat : Int)).bind fun x23 => (some (.k0 x3_0 x23))))) else (some (.k0 x3_0 false)))) else (some (.k0 x3_0 false))) else (some (.k0 x3_0 x16))))))) else (bif a4 then (some (.k0 x3_0 false)) else (some (.k0 x3_0 false)))))) else (bif a4 then (some (.k0 x3_0 false)) else (some (.k0 x3_0 false)))) else (bif a4 then (some (.k0 x3_0 false)) else (some (.k0 x3_0 false))))) else (bif a4 then (some (.k0 x3_0 false)) else (some (.k0 x3_0 false))))) else (bif a4 then (some (.k0 x3_0 false)) else (some (.k0 x3_0 false)))))))
abbrev F39_3_d0 (g3 : Nat → AV) (a2 : Int) (a3 : ByteArray) (a4 : Bool) (x2 : ProdD) (x3_0 : Int) (a5 : GramD) (a6 : TreeD) (a7 : GramD) (a8 a9 : List SetD) (a10 a11 a12 : List Bool) (a13 : List Int) (x3_1 : Bool) (a1 : TreeD) : St := ⟨fr 161 g3 [(0, .ptr 2 0), (2, i6 a2), (3, vs a3), (4, vb a4), (6, .ptr 3 0), (11, i6 x2.left), (12, i6 x3_0)], [bG a5, .cells 72 ((cT a6).map .p), .cells 77 (ap (eGram a7) [ls 4 eSet a8, ls 4 eSet a9, ls 1 eBool a10, ls 1 eBool a11, ls 1 eBool a12, ls 1 eI64 a13, vb x3_1]), .cells 72 ((cT a1).map .p)]⟩
abbrev F39_3_d1 (a5 : GramD) (a6 : TreeD) (a7 : GramD) (a8 a9 : List SetD) (a10 a11 a12 : List Bool) (a13 : List Int) (a1 : TreeD) : List AB := [bG a5, .cells 72 ((cT a6).map .p), .cells 77 (ap (eGram a7) [ls 4 eSet a8, ls 4 eSet a9, ls 1 eBool a10, ls 1 eBool a11, ls 1 eBool a12, ls 1 eI64 a13, vb true]), .cells 72 ((cT a1).map .p)]
abbrev F39_3_d3 (a5 : GramD) (a6 : TreeD) (a7 : GramD) (a8 a9 : List SetD) (a10 a11 a12 : List Bool) (a13 : List Int) (a1 : TreeD) : List AB := [bG a5, .cells 72 ((cT a6).map .p), .cells 77 (ap (eGram a7) [ls 4 eSet a8, ls 4 eSet a9, ls 1 eBool a10, ls 1 eBool a11, ls 1 eBool a12, ls 1 eI64 a13, vb false]), .cells 72 ((cT a1).map .p)]
abbrev F39_3_d4 (a5 : GramD) (a6 : TreeD) (a7 : GramD) (a8 a9 : List SetD) (a10 a11 a12 : List Bool) (a13 : List Int) (x3_1 : Bool) (a1 : TreeD) : List AB := [bG a5, .cells 72 ((cT a6).map .p), .cells 77 (ap (eGram a7) [ls 4 eSet a8, ls 4 eSet a9, ls 1 eBool a10, ls 1 eBool a11, ls 1 eBool a12, ls 1 eI64 a13, vb x3_1]), .cells 72 ((cT a1).map .p)]
theorem F39_3_bok (rF39_3 : T_F39_3) (hF39_3 : H_F39_3 rF39_3) (a1 : TreeD) (a2 : Int) (a3 : ByteArray) (a4 : Bool) (a5 : GramD) (a6 : TreeD) (a7 : GramD) (a8 a9 : List SetD) (a10 a11 a12 : List Bool) (a13 : List Int) (a14 : Bool) {r : R_F39_3} (h : F39_3_b rF39_3 a1 a2 a3 a4 a5 a6 a7 a8 a9 a10 a11 a12 a13 a14 = some r) : ∀ hx : List AB, CS prg 39 [.ptr 2 0, (.agg ((cT a1).map .p)), i6 a2, vs a3, vb a4] ([bG a5, .cells 72 ((cT a6).map .p), .cells 77 (ap (eGram a7) [ls 4 eSet a8, ls 4 eSet a9, ls 1 eBool a10, ls 1 eBool a11, ls 1 eBool a12, ls 1 eI64 a13, vb a14])] ++ hx) = some (F39_3_v a1 a2 a3 a4 a5 a6 a7 a8 a9 a10 a11 a12 a13 a14 r, F39_3_h a1 a2 a3 a4 a5 a6 a7 a8 a9 a10 a11 a12 a13 a14 r ++ hx) := by
 unfold F39_3_b at h
 apply bi h <;> intro h1 h
 ·
  rw [← sj h]
  exact fcF (m := 3) (v := (i6 (w6 (a2 + 1)))) (h' := [bG a5, .cells 72 ((cT a6).map .p), .cells 77 (ap (eGram a7) [ls 4 eSet a8, ls 4 eSet a9, ls 1 eBool a10, ls 1 eBool a11, ls 1 eBool a12, ls 1 eI64 a13, vb a14]), .cells 72 ((cT a1).map .p)]) [(16, .d true)] (av h1 apn) rfl (ac (ac (ac rfl))) rfl (ac (ac (ac rfl))) rfl (by kernel_rfl)
 ·
  apply bn h; intro x2 h2 h
  have q0 := (L39_0_3_k a2 a3 a4 x2 a5 a6 a7 a8 a9 a10 a11 a12 a13 a1 a2 0 a14)
  have k1 := ka [(16, .d false), (26, .v (.ro (eProd x2)))] (av h1 (apc (ig eProd 7 .i64 h2) apn))
  apply bn h; intro r3 h3 h
  cases r3 with
  | k0 x3_0 x3_1 =>
   obtain ⟨g3, e3⟩ := L39_0_3_run rF39_3 hF39_3 a2 a3 a4 x2 a5 a6 a7 a8 a9 a10 a11 a12 a13 a1 (a2, 0, a14) _ h3
   have q2 := (e3 : L39_0_3_e a2 a3 a4 x2 a5 a6 a7 a8 a9 a10 a11 a12 a13 a1 a2 0 a14 = some ((.brk 0), F39_3_d0 g3 a2 a3 a4 x2 x3_0 a5 a6 a7 a8 a9 a10 a11 a12 a13 x3_1 a1))
   have k3 := k1.a [(2000, .l (.brk 0) (F39_3_d0 g3 a2 a3 a4 x2 x3_0 a5 a6 a7 a8 a9 a10 a11 a12 a13 x3_1 a1))] (apc q0 (apc q2 apn))
   apply bi h <;> intro h4 h
   ·
    apply bn h; intro x5 h5 h
    have k4 := k3.a [(51, .d true), (58, .v (.ro [.val (.bool x5)]))] (av h4 (apc (ig eBool 1 .i64 h5) apn))
    apply bi h <;> intro h6 h
    ·
     apply bn h; intro x7 h7 h
     have k5 := k4.a [(59, .d true), (67, .v (.ro [.val (.int .i64 x7)]))] (av h6 (apc (ig eI64 1 .i64 h7) apn))
     apply bi h <;> intro h8 h
     ·
      have k6 := k5.a [(69, .d true), (77, .v (.ro [.val (.int .i64 x7)]))] (av h8 (apc (ig eI64 1 .i64 h7) apn))
      apply bi h <;> intro h9 h
      ·
       apply bi h <;> intro h10 h
       ·
        have k7 := k6.a [(82, .d true), (87, .d true)] (av h9 (av h10 apn))
        apply bi h <;> intro h11 h
        ·
         apply bi h <;> intro h12 h
         ·
          have k8 := k7.a [(101, .d true), (118, .d true)] (av h11 (av h12 apn))
          apply bi h <;> intro h13 h
          ·
           apply bn h; intro x14 h14 h
           have k9 := k8.a [(128, .d true), (135, .v (.ro [.val (.bool x14)]))] (av h13 (apc (ig eBool 1 .i64 h14) apn))
           apply bi h <;> intro h15 h
           ·
            rw [← sj h]
            exact fcF (m := 3) (v := (i6 x3_0)) (h' := (F39_3_d1 a5 a6 a7 a8 a9 a10 a11 a12 a13 a1)) ([(136, .d true), (6000, .d true)] ++ kH k9) (k9.b (av h15 apn)) rfl (ac (ac (ac rfl))) rfl (ac (ac (ac rfl))) rfl (by kernel_rfl)
           ·
            apply bi h <;> intro h16 h
            ·
             apply bn h; intro x17 h17 h
             apply bn h; intro x18 h18 h
             apply bn h; intro x19 h19 h
             rw [← sj h]
             exact fcF (m := 3) (v := (i6 x3_0)) (h' := [bG a5, .cells 72 ((cT a6).map .p), .cells 77 (ap (eGram a7) [ls 4 eSet a8, ls 4 eSet a9, ls 1 eBool a10, ls 1 eBool a11, ls 1 eBool a12, ls 1 eI64 a13, vb x19]), .cells 72 ((cT a1).map .p)]) ([(136, .d false), (142, .d true), (149, .v (.ro (eSet x17))), (153, .v (vi .u8 (x18.toNat : Int))), (154, .v (vb x19)), (6000, .d true)] ++ kH k9) (k9.b (av h15 (av h16 (apc (ig eSet 4 .i64 h17) (apc ((ix_str h18) : ixS (vs a3) (i6 x3_0) = some (vi .u8 (x18.toNat : Int))) (apc (((F31_ok x17 (x18.toNat : Int) h19).cp rfl _) : CP prg 31 [(.agg ((eSet x17).map .p)), (vi .u8 (x18.toNat : Int))] (F39_3_d1 a5 a6 a7 a8 a9 a10 a11 a12 a13 a1) = some (vb x19)) apn)))))) rfl (ac (ac (ac rfl))) rfl (ac (ac (ac rfl))) rfl (by kernel_rfl)
            ·
             rw [← sj h]
             exact fcF (m := 3) (v := (i6 x3_0)) (h' := (F39_3_d3 a5 a6 a7 a8 a9 a10 a11 a12 a13 a1)) ([(136, .d false), (142, .d false), (6000, .d true)] ++ kH k9) (k9.b (av h15 (av h16 apn))) rfl (ac (ac (ac rfl))) rfl (ac (ac (ac rfl))) rfl (by kernel_rfl)
          ·
           apply bi h <;> intro h14 h
           ·
            apply bn h; intro x15 h15 h
            apply bn h; intro x16 h16 h
            apply bn h; intro x17 h17 h
            rw [← sj h]
            exact fcF (m := 3) (v := (i6 x3_0)) (h' := [bG a5, .cells 72 ((cT a6).map .p), .cells 77 (ap (eGram a7) [ls 4 eSet a8, ls 4 eSet a9, ls 1 eBool a10, ls 1 eBool a11, ls 1 eBool a12, ls 1 eI64 a13, vb x17]), .cells 72 ((cT a1).map .p)]) ([(128, .d false), (142, .d true), (149, .v (.ro (eSet x15))), (153, .v (vi .u8 (x16.toNat : Int))), (154, .v (vb x17)), (6000, .d true)] ++ kH k8) (k8.b (av h13 (av h14 (apc (ig eSet 4 .i64 h15) (apc ((ix_str h16) : ixS (vs a3) (i6 x3_0) = some (vi .u8 (x16.toNat : Int))) (apc (((F31_ok x15 (x16.toNat : Int) h17).cp rfl _) : CP prg 31 [(.agg ((eSet x15).map .p)), (vi .u8 (x16.toNat : Int))] (F39_3_d1 a5 a6 a7 a8 a9 a10 a11 a12 a13 a1) = some (vb x17)) apn)))))) rfl (ac (ac (ac rfl))) rfl (ac (ac (ac rfl))) rfl (by kernel_rfl)
           ·
            rw [← sj h]
            exact fcF (m := 3) (v := (i6 x3_0)) (h' := (F39_3_d3 a5 a6 a7 a8 a9 a10 a11 a12 a13 a1)) ([(128, .d false), (142, .d false), (6000, .d true)] ++ kH k8) (k8.b (av h13 (av h14 apn))) rfl (ac (ac (ac rfl))) rfl (ac (ac (ac rfl))) rfl (by kernel_rfl)
         ·
          rw [← sj h]
          exact fcF (m := 3) (v := (i6 x3_0)) (h' := (F39_3_d1 a5 a6 a7 a8 a9 a10 a11 a12 a13 a1)) ([(101, .d true), (118, .d false), (6000, .d true)] ++ kH k7) (k7.b (av h11 (av h12 apn))) rfl (ac (ac (ac rfl))) rfl (ac (ac (ac rfl))) rfl (by kernel_rfl)
        ·
         apply bn h; intro x12 h12 h
         have k10 := k7.a [(101, .d false), (108, .v (.ro (eSet x12)))] (av h11 (apc (ig eSet 4 .i64 h12) apn))
         apply bn h; intro x13 h13 h
         have q11 := ((ix_str h13) : ixS (vs a3) (i6 a2) = some (vi .u8 (x13.toNat : Int)))
         apply bn h; intro x14 h14 h
         have q12 := (((F31_ok x12 (x13.toNat : Int) h14).cp rfl _) : CP prg 31 [(.agg ((eSet x12).map .p)), (vi .u8 (x13.toNat : Int))] (F39_3_d4 a5 a6 a7 a8 a9 a10 a11 a12 a13 x3_1 a1) = some (vb x14))
         have k13 := k10.a [(112, .v (vi .u8 (x13.toNat : Int))), (113, .v (vb x14))] (apc q11 (apc q12 apn))
         apply bi h <;> intro h15 h
         ·
          apply bi h <;> intro h16 h
          ·
           have k14 := k13.a [(118, .d true), (123, .d true)] (av h15 (av h16 apn))
           apply bi h <;> intro h17 h
           ·
            apply bn h; intro x18 h18 h
            have k15 := k14.a [(128, .d true), (135, .v (.ro [.val (.bool x18)]))] (av h17 (apc (ig eBool 1 .i64 h18) apn))
            apply bi h <;> intro h19 h
            ·
             rw [← sj h]
             exact fcF (m := 3) (v := (i6 x3_0)) (h' := (F39_3_d1 a5 a6 a7 a8 a9 a10 a11 a12 a13 a1)) ([(136, .d true), (6000, .d true)] ++ kH k15) (k15.b (av h19 apn)) rfl (ac (ac (ac rfl))) rfl (ac (ac (ac rfl))) rfl (by kernel_rfl)
            ·
             apply bi h <;> intro h20 h
             ·
              apply bn h; intro x21 h21 h
              apply bn h; intro x22 h22 h
              apply bn h; intro x23 h23 h
              rw [← sj h]
              exact fcF (m := 3) (v := (i6 x3_0)) (h' := [bG a5, .cells 72 ((cT a6).map .p), .cells 77 (ap (eGram a7) [ls 4 eSet a8, ls 4 eSet a9, ls 1 eBool a10, ls 1 eBool a11, ls 1 eBool a12, ls 1 eI64 a13, vb x23]), .cells 72 ((cT a1).map .p)]) ([(136, .d false), (142, .d true), (149, .v (.ro (eSet x21))), (153, .v (vi .u8 (x22.toNat : Int))), (154, .v (vb x23)), (6000, .d true)] ++ kH k15) (k15.b (av h19 (av h20 (apc (ig eSet 4 .i64 h21) (apc ((ix_str h22) : ixS (vs a3) (i6 x3_0) = some (vi .u8 (x22.toNat : Int))) (apc (((F31_ok x21 (x22.toNat : Int) h23).cp rfl _) : CP prg 31 [(.agg ((eSet x21).map .p)), (vi .u8 (x22.toNat : Int))] [bG a5, .cells 72 ((cT a6).map .p), .cells 77 (ap (eGram a7) [ls 4 eSet a8, ls 4 eSet a9, ls 1 eBool a10, ls 1 eBool a11, ls 1 eBool a12, ls 1 eI64 a13, vb x14]), .cells 72 ((cT a1).map .p)] = some (vb x23)) apn)))))) rfl (ac (ac (ac rfl))) rfl (ac (ac (ac rfl))) rfl (by kernel_rfl)
             ·
              rw [← sj h]
              exact fcF (m := 3) (v := (i6 x3_0)) (h' := (F39_3_d3 a5 a6 a7 a8 a9 a10 a11 a12 a13 a1)) ([(136, .d false), (142, .d false), (6000, .d true)] ++ kH k15) (k15.b (av h19 (av h20 apn))) rfl (ac (ac (ac rfl))) rfl (ac (ac (ac rfl))) rfl (by kernel_rfl)
           ·
            apply bi h <;> intro h18 h
            ·
             apply bn h; intro x19 h19 h
             apply bn h; intro x20 h20 h
             apply bn h; intro x21 h21 h
             rw [← sj h]
             exact fcF (m := 3) (v := (i6 x3_0)) (h' := [bG a5, .cells 72 ((cT a6).map .p), .cells 77 (ap (eGram a7) [ls 4 eSet a8, ls 4 eSet a9, ls 1 eBool a10, ls 1 eBool a11, ls 1 eBool a12, ls 1 eI64 a13, vb x21]), .cells 72 ((cT a1).map .p)]) ([(128, .d false), (142, .d true), (149, .v (.ro (eSet x19))), (153, .v (vi .u8 (x20.toNat : Int))), (154, .v (vb x21)), (6000, .d true)] ++ kH k14) (k14.b (av h17 (av h18 (apc (ig eSet 4 .i64 h19) (apc ((ix_str h20) : ixS (vs a3) (i6 x3_0) = some (vi .u8 (x20.toNat : Int))) (apc (((F31_ok x19 (x20.toNat : Int) h21).cp rfl _) : CP prg 31 [(.agg ((eSet x19).map .p)), (vi .u8 (x20.toNat : Int))] [bG a5, .cells 72 ((cT a6).map .p), .cells 77 (ap (eGram a7) [ls 4 eSet a8, ls 4 eSet a9, ls 1 eBool a10, ls 1 eBool a11, ls 1 eBool a12, ls 1 eI64 a13, vb x14]), .cells 72 ((cT a1).map .p)] = some (vb x21)) apn)))))) rfl (ac (ac (ac rfl))) rfl (ac (ac (ac rfl))) rfl (by kernel_rfl)
            ·
             rw [← sj h]
             exact fcF (m := 3) (v := (i6 x3_0)) (h' := (F39_3_d3 a5 a6 a7 a8 a9 a10 a11 a12 a13 a1)) ([(128, .d false), (142, .d false), (6000, .d true)] ++ kH k14) (k14.b (av h17 (av h18 apn))) rfl (ac (ac (ac rfl))) rfl (ac (ac (ac rfl))) rfl (by kernel_rfl)
          ·
           rw [← sj h]
           exact fcF (m := 3) (v := (i6 x3_0)) (h' := (F39_3_d3 a5 a6 a7 a8 a9 a10 a11 a12 a13 a1)) ([(118, .d true), (123, .d false), (6000, .d true)] ++ kH k13) (k13.b (av h15 (av h16 apn))) rfl (ac (ac (ac rfl))) rfl (ac (ac (ac rfl))) rfl (by kernel_rfl)
         ·
          rw [← sj h]
          exact fcF (m := 3) (v := (i6 x3_0)) (h' := [bG a5, .cells 72 ((cT a6).map .p), .cells 77 (ap (eGram a7) [ls 4 eSet a8, ls 4 eSet a9, ls 1 eBool a10, ls 1 eBool a11, ls 1 eBool a12, ls 1 eI64 a13, vb x14]), .cells 72 ((cT a1).map .p)]) ([(118, .d false), (6000, .d true)] ++ kH k13) (k13.b (av h15 apn)) rfl (ac (ac (ac rfl))) rfl (ac (ac (ac rfl))) rfl (by kernel_rfl)
       ·
        have k16 := k6.a [(82, .d true), (87, .d false)] (av h9 (av h10 apn))
        apply bn h; intro x11 h11 h
        have k17 := k16.a [(94, .v (.ro [.val (.bool x11)]))] (apc (ig eBool 1 .i64 h11) apn)
        apply bi h <;> intro h12 h
        ·
         apply bi h <;> intro h13 h
         ·
          have k18 := k17.a [(95, .d true), (101, .d true)] (av h12 (av h13 apn))
          apply bi h <;> intro h14 h
          ·
           apply bi h <;> intro h15 h
           ·
            have k19 := k18.a [(118, .d true), (128, .d true)] (av h14 (av h15 apn))
            apply bn h; intro x16 h16 h
            have k20 := k19.a [(135, .v (.ro [.val (.bool x16)]))] (apc (ig eBool 1 .i64 h16) apn)
            apply bi h <;> intro h17 h
            ·
             rw [← sj h]
             exact fcF (m := 3) (v := (i6 x3_0)) (h' := (F39_3_d1 a5 a6 a7 a8 a9 a10 a11 a12 a13 a1)) ([(136, .d true), (6000, .d true)] ++ kH k20) (k20.b (av h17 apn)) rfl (ac (ac (ac rfl))) rfl (ac (ac (ac rfl))) rfl (by kernel_rfl)
            ·
             apply bi h <;> intro h18 h
             ·
              apply bn h; intro x19 h19 h
              apply bn h; intro x20 h20 h
              apply bn h; intro x21 h21 h
              rw [← sj h]
              exact fcF (m := 3) (v := (i6 x3_0)) (h' := [bG a5, .cells 72 ((cT a6).map .p), .cells 77 (ap (eGram a7) [ls 4 eSet a8, ls 4 eSet a9, ls 1 eBool a10, ls 1 eBool a11, ls 1 eBool a12, ls 1 eI64 a13, vb x21]), .cells 72 ((cT a1).map .p)]) ([(136, .d false), (142, .d true), (149, .v (.ro (eSet x19))), (153, .v (vi .u8 (x20.toNat : Int))), (154, .v (vb x21)), (6000, .d true)] ++ kH k20) (k20.b (av h17 (av h18 (apc (ig eSet 4 .i64 h19) (apc ((ix_str h20) : ixS (vs a3) (i6 x3_0) = some (vi .u8 (x20.toNat : Int))) (apc (((F31_ok x19 (x20.toNat : Int) h21).cp rfl _) : CP prg 31 [(.agg ((eSet x19).map .p)), (vi .u8 (x20.toNat : Int))] (F39_3_d1 a5 a6 a7 a8 a9 a10 a11 a12 a13 a1) = some (vb x21)) apn)))))) rfl (ac (ac (ac rfl))) rfl (ac (ac (ac rfl))) rfl (by kernel_rfl)
             ·
              rw [← sj h]
              exact fcF (m := 3) (v := (i6 x3_0)) (h' := (F39_3_d3 a5 a6 a7 a8 a9 a10 a11 a12 a13 a1)) ([(136, .d false), (142, .d false), (6000, .d true)] ++ kH k20) (k20.b (av h17 (av h18 apn))) rfl (ac (ac (ac rfl))) rfl (ac (ac (ac rfl))) rfl (by kernel_rfl)
           ·
            have k21 := k18.a [(118, .d true), (128, .d false)] (av h14 (av h15 apn))
            apply bi h <;> intro h16 h
            ·
             apply bn h; intro x17 h17 h
             apply bn h; intro x18 h18 h
             apply bn h; intro x19 h19 h
             rw [← sj h]
             exact fcF (m := 3) (v := (i6 x3_0)) (h' := [bG a5, .cells 72 ((cT a6).map .p), .cells 77 (ap (eGram a7) [ls 4 eSet a8, ls 4 eSet a9, ls 1 eBool a10, ls 1 eBool a11, ls 1 eBool a12, ls 1 eI64 a13, vb x19]), .cells 72 ((cT a1).map .p)]) ([(142, .d true), (149, .v (.ro (eSet x17))), (153, .v (vi .u8 (x18.toNat : Int))), (154, .v (vb x19)), (6000, .d true)] ++ kH k21) (k21.b (av h16 (apc (ig eSet 4 .i64 h17) (apc ((ix_str h18) : ixS (vs a3) (i6 x3_0) = some (vi .u8 (x18.toNat : Int))) (apc (((F31_ok x17 (x18.toNat : Int) h19).cp rfl _) : CP prg 31 [(.agg ((eSet x17).map .p)), (vi .u8 (x18.toNat : Int))] (F39_3_d1 a5 a6 a7 a8 a9 a10 a11 a12 a13 a1) = some (vb x19)) apn))))) rfl (ac (ac (ac rfl))) rfl (ac (ac (ac rfl))) rfl (by kernel_rfl)
            ·
             rw [← sj h]
             exact fcF (m := 3) (v := (i6 x3_0)) (h' := (F39_3_d3 a5 a6 a7 a8 a9 a10 a11 a12 a13 a1)) ([(142, .d false), (6000, .d true)] ++ kH k21) (k21.b (av h16 apn)) rfl (ac (ac (ac rfl))) rfl (ac (ac (ac rfl))) rfl (by kernel_rfl)
          ·
           rw [← sj h]
           exact fcF (m := 3) (v := (i6 x3_0)) (h' := (F39_3_d1 a5 a6 a7 a8 a9 a10 a11 a12 a13 a1)) ([(118, .d false), (6000, .d true)] ++ kH k18) (k18.b (av h14 apn)) rfl (ac (ac (ac rfl))) rfl (ac (ac (ac rfl))) rfl (by kernel_rfl)
         ·
          have k22 := k17.a [(95, .d true), (101, .d false)] (av h12 (av h13 apn))
          apply bn h; intro x14 h14 h
          apply bn h; intro x15 h15 h
          have q23 := ((ix_str h15) : ixS (vs a3) (i6 a2) = some (vi .u8 (x15.toNat : Int)))
          have k24 := k22.a [(108, .v (.ro (eSet x14))), (112, .v (vi .u8 (x15.toNat : Int)))] (apc (ig eSet 4 .i64 h14) (apc q23 apn))
          apply bn h; intro x16 h16 h
          have q25 := (((F31_ok x14 (x15.toNat : Int) h16).cp rfl _) : CP prg 31 [(.agg ((eSet x14).map .p)), (vi .u8 (x15.toNat : Int))] (F39_3_d4 a5 a6 a7 a8 a9 a10 a11 a12 a13 x3_1 a1) = some (vb x16))
          apply bi h <;> intro h17 h
          ·
           have k26 := k24.a [(113, .v (vb x16)), (118, .d true)] (apc q25 (av h17 apn))
           apply bi h <;> intro h18 h
           ·
            apply bi h <;> intro h19 h
            ·
             have k27 := k26.a [(123, .d true), (128, .d true)] (av h18 (av h19 apn))
             apply bn h; intro x20 h20 h
             have k28 := k27.a [(135, .v (.ro [.val (.bool x20)]))] (apc (ig eBool 1 .i64 h20) apn)
             apply bi h <;> intro h21 h
             ·
              rw [← sj h]
              exact fcF (m := 3) (v := (i6 x3_0)) (h' := (F39_3_d1 a5 a6 a7 a8 a9 a10 a11 a12 a13 a1)) ([(136, .d true), (6000, .d true)] ++ kH k28) (k28.b (av h21 apn)) rfl (ac (ac (ac rfl))) rfl (ac (ac (ac rfl))) rfl (by kernel_rfl)
             ·
              apply bi h <;> intro h22 h
              ·
               apply bn h; intro x23 h23 h
               apply bn h; intro x24 h24 h
               apply bn h; intro x25 h25 h
               rw [← sj h]
               exact fcF (m := 3) (v := (i6 x3_0)) (h' := [bG a5, .cells 72 ((cT a6).map .p), .cells 77 (ap (eGram a7) [ls 4 eSet a8, ls 4 eSet a9, ls 1 eBool a10, ls 1 eBool a11, ls 1 eBool a12, ls 1 eI64 a13, vb x25]), .cells 72 ((cT a1).map .p)]) ([(136, .d false), (142, .d true), (149, .v (.ro (eSet x23))), (153, .v (vi .u8 (x24.toNat : Int))), (154, .v (vb x25)), (6000, .d true)] ++ kH k28) (k28.b (av h21 (av h22 (apc (ig eSet 4 .i64 h23) (apc ((ix_str h24) : ixS (vs a3) (i6 x3_0) = some (vi .u8 (x24.toNat : Int))) (apc (((F31_ok x23 (x24.toNat : Int) h25).cp rfl _) : CP prg 31 [(.agg ((eSet x23).map .p)), (vi .u8 (x24.toNat : Int))] [bG a5, .cells 72 ((cT a6).map .p), .cells 77 (ap (eGram a7) [ls 4 eSet a8, ls 4 eSet a9, ls 1 eBool a10, ls 1 eBool a11, ls 1 eBool a12, ls 1 eI64 a13, vb x16]), .cells 72 ((cT a1).map .p)] = some (vb x25)) apn)))))) rfl (ac (ac (ac rfl))) rfl (ac (ac (ac rfl))) rfl (by kernel_rfl)
              ·
               rw [← sj h]
               exact fcF (m := 3) (v := (i6 x3_0)) (h' := (F39_3_d3 a5 a6 a7 a8 a9 a10 a11 a12 a13 a1)) ([(136, .d false), (142, .d false), (6000, .d true)] ++ kH k28) (k28.b (av h21 (av h22 apn))) rfl (ac (ac (ac rfl))) rfl (ac (ac (ac rfl))) rfl (by kernel_rfl)
            ·
             have k29 := k26.a [(123, .d true), (128, .d false)] (av h18 (av h19 apn))
             apply bi h <;> intro h20 h
             ·
              apply bn h; intro x21 h21 h
              apply bn h; intro x22 h22 h
              apply bn h; intro x23 h23 h
              rw [← sj h]
              exact fcF (m := 3) (v := (i6 x3_0)) (h' := [bG a5, .cells 72 ((cT a6).map .p), .cells 77 (ap (eGram a7) [ls 4 eSet a8, ls 4 eSet a9, ls 1 eBool a10, ls 1 eBool a11, ls 1 eBool a12, ls 1 eI64 a13, vb x23]), .cells 72 ((cT a1).map .p)]) ([(142, .d true), (149, .v (.ro (eSet x21))), (153, .v (vi .u8 (x22.toNat : Int))), (154, .v (vb x23)), (6000, .d true)] ++ kH k29) (k29.b (av h20 (apc (ig eSet 4 .i64 h21) (apc ((ix_str h22) : ixS (vs a3) (i6 x3_0) = some (vi .u8 (x22.toNat : Int))) (apc (((F31_ok x21 (x22.toNat : Int) h23).cp rfl _) : CP prg 31 [(.agg ((eSet x21).map .p)), (vi .u8 (x22.toNat : Int))] [bG a5, .cells 72 ((cT a6).map .p), .cells 77 (ap (eGram a7) [ls 4 eSet a8, ls 4 eSet a9, ls 1 eBool a10, ls 1 eBool a11, ls 1 eBool a12, ls 1 eI64 a13, vb x16]), .cells 72 ((cT a1).map .p)] = some (vb x23)) apn))))) rfl (ac (ac (ac rfl))) rfl (ac (ac (ac rfl))) rfl (by kernel_rfl)
             ·
              rw [← sj h]
              exact fcF (m := 3) (v := (i6 x3_0)) (h' := (F39_3_d3 a5 a6 a7 a8 a9 a10 a11 a12 a13 a1)) ([(142, .d false), (6000, .d true)] ++ kH k29) (k29.b (av h20 apn)) rfl (ac (ac (ac rfl))) rfl (ac (ac (ac rfl))) rfl (by kernel_rfl)
           ·
            rw [← sj h]
            exact fcF (m := 3) (v := (i6 x3_0)) (h' := (F39_3_d3 a5 a6 a7 a8 a9 a10 a11 a12 a13 a1)) ([(123, .d false), (6000, .d true)] ++ kH k26) (k26.b (av h18 apn)) rfl (ac (ac (ac rfl))) rfl (ac (ac (ac rfl))) rfl (by kernel_rfl)
          ·
           rw [← sj h]
           exact fcF (m := 3) (v := (i6 x3_0)) (h' := [bG a5, .cells 72 ((cT a6).map .p), .cells 77 (ap (eGram a7) [ls 4 eSet a8, ls 4 eSet a9, ls 1 eBool a10, ls 1 eBool a11, ls 1 eBool a12, ls 1 eI64 a13, vb x16]), .cells 72 ((cT a1).map .p)]) ([(113, .v (vb x16)), (118, .d false), (6000, .d true)] ++ kH k24) (k24.b (apc q25 (av h17 apn))) rfl (ac (ac (ac rfl))) rfl (ac (ac (ac rfl))) rfl (by kernel_rfl)
        ·
         apply bi h <;> intro h13 h
         ·
          rw [← sj h]
          exact fcF (m := 3) (v := (i6 x3_0)) (h' := (F39_3_d3 a5 a6 a7 a8 a9 a10 a11 a12 a13 a1)) ([(95, .d false), (118, .d true), (6000, .d true)] ++ kH k17) (k17.b (av h12 (av h13 apn))) rfl (ac (ac (ac rfl))) rfl (ac (ac (ac rfl))) rfl (by kernel_rfl)
         ·
          rw [← sj h]
          exact fcF (m := 3) (v := (i6 x3_0)) (h' := (F39_3_d3 a5 a6 a7 a8 a9 a10 a11 a12 a13 a1)) ([(95, .d false), (118, .d false), (6000, .d true)] ++ kH k17) (k17.b (av h12 (av h13 apn))) rfl (ac (ac (ac rfl))) rfl (ac (ac (ac rfl))) rfl (by kernel_rfl)
      ·
       apply bi h <;> intro h10 h
       ·
        rw [← sj h]
        exact fcF (m := 3) (v := (i6 x3_0)) (h' := (F39_3_d3 a5 a6 a7 a8 a9 a10 a11 a12 a13 a1)) ([(82, .d false), (118, .d true), (6000, .d true)] ++ kH k6) (k6.b (av h9 (av h10 apn))) rfl (ac (ac (ac rfl))) rfl (ac (ac (ac rfl))) rfl (by kernel_rfl)
       ·
        rw [← sj h]
        exact fcF (m := 3) (v := (i6 x3_0)) (h' := (F39_3_d3 a5 a6 a7 a8 a9 a10 a11 a12 a13 a1)) ([(82, .d false), (118, .d false), (6000, .d true)] ++ kH k6) (k6.b (av h9 (av h10 apn))) rfl (ac (ac (ac rfl))) rfl (ac (ac (ac rfl))) rfl (by kernel_rfl)
     ·
      apply bi h <;> intro h9 h
      ·
       rw [← sj h]
       exact fcF (m := 3) (v := (i6 x3_0)) (h' := (F39_3_d3 a5 a6 a7 a8 a9 a10 a11 a12 a13 a1)) ([(69, .d false), (118, .d true), (6000, .d true)] ++ kH k5) (k5.b (av h8 (av h9 apn))) rfl (ac (ac (ac rfl))) rfl (ac (ac (ac rfl))) rfl (by kernel_rfl)
      ·
       rw [← sj h]
       exact fcF (m := 3) (v := (i6 x3_0)) (h' := (F39_3_d3 a5 a6 a7 a8 a9 a10 a11 a12 a13 a1)) ([(69, .d false), (118, .d false), (6000, .d true)] ++ kH k5) (k5.b (av h8 (av h9 apn))) rfl (ac (ac (ac rfl))) rfl (ac (ac (ac rfl))) rfl (by kernel_rfl)
    ·
     apply bi h <;> intro h7 h
     ·
      rw [← sj h]
      exact fcF (m := 3) (v := (i6 x3_0)) (h' := (F39_3_d3 a5 a6 a7 a8 a9 a10 a11 a12 a13 a1)) ([(59, .d false), (118, .d true), (6000, .d true)] ++ kH k4) (k4.b (av h6 (av h7 apn))) rfl (ac (ac (ac rfl))) rfl (ac (ac (ac rfl))) rfl (by kernel_rfl)
     ·
      rw [← sj h]
      exact fcF (m := 3) (v := (i6 x3_0)) (h' := (F39_3_d3 a5 a6 a7 a8 a9 a10 a11 a12 a13 a1)) ([(59, .d false), (118, .d false), (6000, .d true)] ++ kH k4) (k4.b (av h6 (av h7 apn))) rfl (ac (ac (ac rfl))) rfl (ac (ac (ac rfl))) rfl (by kernel_rfl)
   ·
    apply bi h <;> intro h5 h
    ·
     rw [← sj h]
     exact fcF (m := 3) (v := (i6 x3_0)) (h' := (F39_3_d3 a5 a6 a7 a8 a9 a10 a11 a12 a13 a1)) ([(51, .d false), (118, .d true), (6000, .d true)] ++ kH k3) (k3.b (av h4 (av h5 apn))) rfl (ac (ac (ac rfl))) rfl (ac (ac (ac rfl))) rfl (by kernel_rfl)
    ·
     rw [← sj h]
     exact fcF (m := 3) (v := (i6 x3_0)) (h' := (F39_3_d3 a5 a6 a7 a8 a9 a10 a11 a12 a13 a1)) ([(51, .d false), (118, .d false), (6000, .d true)] ++ kH k3) (k3.b (av h4 (av h5 apn))) rfl (ac (ac (ac rfl))) rfl (ac (ac (ac rfl))) rfl (by kernel_rfl)
def F39_3 : Nat → T_F39_3
  | 0 => fun _ _ _ _ _ _ _ _ _ _ _ _ _ _ => none
  | Nf + 1 => F39_3_b (F39_3 Nf)
theorem F39_3_ok (Nf : Nat) : H_F39_3 (F39_3 Nf) := by
  induction Nf with
  | zero => intro a1 a2 a3 a4 a5 a6 a7 a8 a9 a10 a11 a12 a13 a14 r h; have h : (none : Option R_F39_3) = some r := h; cases h
  | succ Nf ih => intro a1 a2 a3 a4 a5 a6 a7 a8 a9 a10 a11 a12 a13 a14 r h; exact F39_3_bok (F39_3 Nf) ih a1 a2 a3 a4 a5 a6 a7 a8 a9 a10 a11 a12 a13 a14 h
def F9_v (a1 : GramD) (a2 : TreeD) (x0 : Bool) : AV := (vb x0)
def F9 (Nf : Nat) (a1 : GramD) (a2 : TreeD) : Option Bool :=
  ((F10 a1).bind fun x1 => (bif x1 then ((F11).bind fun x3 => (some x3)) else ((F36_2 Nf a2 2000).bind fun x3 => (bif (decide (x3 > 2000)) then ((F11).bind fun x5 => (some x5)) else ((F37 Nf a1 a2).bind fun x5 => ((F15 x5).bind fun x6 => (bif (x6 != 0) then ((F11).bind fun x8 => (some x8)) else ((F30 a1).bind fun r8 => match r8 with | .k0 x8_0 x8_1 => ((F32 a1).bind fun r9 => match r9 with | .k0 x9_0 x9_1 => ((F33 a1).bind fun r10 => match r10 with | .k0 x10_0 x10_1 => ((F20 a1).bind fun r11 => match r11 with | .k0 x11_0 x11_1 => ((F22 a1).bind fun r12 => match r12 with | .k0 x12_0 x12_1 => ((F13 a1).bind fun r13 => match r13 with | .k0 x13_0 x13_1 => ((F15 x8_1).bind fun x14 => ((F15 x9_1).bind fun x15 => ((F15 x10_1).bind fun x16 => ((F15 x11_1).bind fun x17 => ((F15 x12_1).bind fun x18 => ((F15 x13_1).bind fun x19 => (bif ((IntKind.wrap .i64 ((IntKind.wrap .i64 ((IntKind.wrap .i64 ((IntKind.wrap .i64 ((IntKind.wrap .i64 (x14 + x15)) + x16)) + x17)) + x18)) + x19)) != 0) then (some false) else (bif ((x8_0.length : Int) != (a1.sorts.length : Int)) then (some false) else (bif ((x9_0.length : Int) != (a1.sorts.length : Int)) then (some false) else (bif ((x10_0.length : Int) != (a1.sorts.length : Int)) then (some false) else (bif ((x11_0.length : Int) != (a1.sorts.length : Int)) then (some false) else (bif ((x12_0.length : Int) != (a1.sorts.length : Int)) then (some false) else (bif ((x13_0.length : Int) != (a1.sorts.length : Int)) then (some false) else ((F38 Nf a2).bind fun r27 => match r27 with | .k0 x27_0 x27_1 => ((getI a1.prods a2.prod).bind fun x28 => ((F39_3 Nf a2 0 x27_0 (x28.left == a1.start) a1 a2 a1 x8_0 x9_0 x11_0 x12_0 x10_0 x13_0 true).bind fun r29 => match r29 with | .k0 x29_0 x29_1 => ((F15 x27_1).bind fun x30 => (bif (x30 == 0) then (bif x29_1 then ((F11).bind fun x33 => (some x33)) else (some false)) else (some false))))))))))))))))))))))))))))))))
abbrev F9_d0 (a1 : GramD) (a2 : TreeD) (x8_0 x9_0 : List SetD) (x11_0 x12_0 x10_0 : List Bool) (x13_0 : List Int) : List AB := [bG a1, .cells 72 ((cT a2).map .p), .cells 77 (ap (eGram a1) [ls 4 eSet x8_0, ls 4 eSet x9_0, ls 1 eBool x11_0, ls 1 eBool x12_0, ls 1 eBool x10_0, ls 1 eI64 x13_0, vb true])]
abbrev F9_d1 (a1 : GramD) (a2 : TreeD) (x8_0 x9_0 : List SetD) (x11_0 x12_0 x10_0 : List Bool) (x13_0 : List Int) (x29_1 : Bool) : List AB := [bG a1, .cells 72 ((cT a2).map .p), .cells 77 (ap (eGram a1) [ls 4 eSet x8_0, ls 4 eSet x9_0, ls 1 eBool x11_0, ls 1 eBool x12_0, ls 1 eBool x10_0, ls 1 eI64 x13_0, vb x29_1])]
theorem F9_ok (Nf : Nat) (a1 : GramD) (a2 : TreeD) {r : Bool} (h : F9 Nf a1 a2 = some r) : PR1 prg 9 [aG a1, (.agg ((cT a2).map .p))] (F9_v a1 a2 r) := by
 unfold F9 at h
 apply bn h; intro x1 h1 h
 apply bi h <;> intro h2 h
 ·
  apply bn h; intro x3 h3 h
  rw [← sj h]
  exact fq [(16, .v (vb true)), (29, .v (vb x3))] (apc ((((F10_ok a1 h1).cp rfl _).trans (congrArg (fun z => some (vb z)) h2)) : CP prg 10 [aG a1] [bG a1, .cells 72 ((cT a2).map .p)] = some (vb true)) (apc (((F11_ok  h3).cp rfl _) : CP prg 11 [] [bG a1, .cells 72 ((cT a2).map .p)] = some (vb x3)) apn))
 ·
  have q0 := ((((F10_ok a1 h1).cp rfl _).trans (congrArg (fun z => some (vb z)) h2)) : CP prg 10 [aG a1] [bG a1, .cells 72 ((cT a2).map .p)] = some (vb false))
  apply bn h; intro x3 h3 h
  have q1 := (((F36_2_ok Nf a2 2000 h3).cp rfl _) : CP prg 36 [(.agg ((cT a2).map .p)), i6 2000] [bG a1, .cells 72 ((cT a2).map .p)] = some (i6 x3))
  have k2 := ka [(16, .v (vb false)), (19, .v (i6 x3))] (apc q0 (apc q1 apn))
  apply bi h <;> intro h4 h
  ·
   apply bn h; intro x5 h5 h
   rw [← sj h]
   exact fq ([(20, .d true), (29, .v (vb x5))] ++ kH k2) (k2.b (av h4 (apc (((F11_ok  h5).cp rfl _) : CP prg 11 [] [bG a1, .cells 72 ((cT a2).map .p)] = some (vb x5)) apn)))
  ·
   apply bn h; intro x5 h5 h
   have q3 := (((F37_ok Nf a1 a2 h5).cp rfl _) : CP prg 37 [aG a1, (.agg ((cT a2).map .p))] [bG a1, .cells 72 ((cT a2).map .p)] = some (i6 x5))
   have k4 := k2.a [(20, .d false), (25, .v (i6 x5))] (av h4 (apc q3 apn))
   apply bn h; intro x6 h6 h
   have q5 := (((F15_ok x5 h6).cp rfl _) : CP prg 15 [i6 x5] [bG a1, .cells 72 ((cT a2).map .p)] = some (i6 x6))
   apply bi h <;> intro h7 h
   ·
    apply bn h; intro x8 h8 h
    rw [← sj h]
    exact fq ([(26, .v (i6 x6)), (27, .d true), (29, .v (vb x8))] ++ kH k4) (k4.b (apc q5 (av h7 (apc (((F11_ok  h8).cp rfl _) : CP prg 11 [] [bG a1, .cells 72 ((cT a2).map .p)] = some (vb x8)) apn))))
   ·
    have k6 := k4.a [(26, .v (i6 x6)), (27, .d false)] (apc q5 (av h7 apn))
    apply bn h; intro r8 h8 h
    cases r8 with
    | k0 x8_0 x8_1 =>
     have q7 := (((F30_ok a1 h8).cp rfl _) : CP prg 30 [aG a1] [bG a1, .cells 72 ((cT a2).map .p), .cells 77 (ap (eGram a1) [n0, n0, n0, n0, n0, n0, vb true])] = some (.tup [ls 4 eSet x8_0, i6 x8_1]))
     have k8 := k6.a [(36, .v (.tup [ls 4 eSet x8_0, i6 x8_1]))] (apc q7 apn)
     apply bn h; intro r9 h9 h
     cases r9 with
     | k0 x9_0 x9_1 =>
      have q9 := (((F32_ok a1 h9).cp rfl _) : CP prg 32 [aG a1] [bG a1, .cells 72 ((cT a2).map .p), .cells 77 (ap (eGram a1) [ls 4 eSet x8_0, n0, n0, n0, n0, n0, vb true])] = some (.tup [ls 4 eSet x9_0, i6 x9_1]))
      have k10 := k8.a [(44, .v (.tup [ls 4 eSet x9_0, i6 x9_1]))] (apc q9 apn)
      apply bn h; intro r10 h10 h
      cases r10 with
      | k0 x10_0 x10_1 =>
       have q11 := (((F33_ok a1 h10).cp rfl _) : CP prg 33 [aG a1] [bG a1, .cells 72 ((cT a2).map .p), .cells 77 (ap (eGram a1) [ls 4 eSet x8_0, ls 4 eSet x9_0, n0, n0, n0, n0, vb true])] = some (.tup [ls 1 eBool x10_0, i6 x10_1]))
       have k12 := k10.a [(52, .v (.tup [ls 1 eBool x10_0, i6 x10_1]))] (apc q11 apn)
       apply bn h; intro r11 h11 h
       cases r11 with
       | k0 x11_0 x11_1 =>
        have q13 := (((F20_ok a1 h11).cp rfl _) : CP prg 20 [aG a1] [bG a1, .cells 72 ((cT a2).map .p), .cells 77 (ap (eGram a1) [ls 4 eSet x8_0, ls 4 eSet x9_0, n0, n0, ls 1 eBool x10_0, n0, vb true])] = some (.tup [ls 1 eBool x11_0, i6 x11_1]))
        have k14 := k12.a [(60, .v (.tup [ls 1 eBool x11_0, i6 x11_1]))] (apc q13 apn)
        apply bn h; intro r12 h12 h
        cases r12 with
        | k0 x12_0 x12_1 =>
         have q15 := (((F22_ok a1 h12).cp rfl _) : CP prg 22 [aG a1] [bG a1, .cells 72 ((cT a2).map .p), .cells 77 (ap (eGram a1) [ls 4 eSet x8_0, ls 4 eSet x9_0, ls 1 eBool x11_0, n0, ls 1 eBool x10_0, n0, vb true])] = some (.tup [ls 1 eBool x12_0, i6 x12_1]))
         have k16 := k14.a [(68, .v (.tup [ls 1 eBool x12_0, i6 x12_1]))] (apc q15 apn)
         apply bn h; intro r13 h13 h
         cases r13 with
         | k0 x13_0 x13_1 =>
          have q17 := (((F13_ok a1 h13).cp rfl _) : CP prg 13 [aG a1] [bG a1, .cells 72 ((cT a2).map .p), .cells 77 (ap (eGram a1) [ls 4 eSet x8_0, ls 4 eSet x9_0, ls 1 eBool x11_0, ls 1 eBool x12_0, ls 1 eBool x10_0, n0, vb true])] = some (.tup [ls 1 eI64 x13_0, i6 x13_1]))
          have k18 := k16.a [(76, .v (.tup [ls 1 eI64 x13_0, i6 x13_1])), (83, .v (i6 (lS a1)))] (apc q17 (apc (lg a1.sorts eStr 1) apn))
          apply bn h; intro x14 h14 h
          have q19 := (((F15_ok x8_1 h14).cp rfl _) : CP prg 15 [i6 x8_1] (F9_d0 a1 a2 x8_0 x9_0 x11_0 x12_0 x10_0 x13_0) = some (i6 x14))
          apply bn h; intro x15 h15 h
          have q20 := (((F15_ok x9_1 h15).cp rfl _) : CP prg 15 [i6 x9_1] (F9_d0 a1 a2 x8_0 x9_0 x11_0 x12_0 x10_0 x13_0) = some (i6 x15))
          have k21 := k18.a [(85, .v (i6 x14)), (87, .v (i6 x15))] (apc q19 (apc q20 apn))
          apply bn h; intro x16 h16 h
          have q22 := (((F15_ok x10_1 h16).cp rfl _) : CP prg 15 [i6 x10_1] (F9_d0 a1 a2 x8_0 x9_0 x11_0 x12_0 x10_0 x13_0) = some (i6 x16))
          apply bn h; intro x17 h17 h
          have q23 := (((F15_ok x11_1 h17).cp rfl _) : CP prg 15 [i6 x11_1] (F9_d0 a1 a2 x8_0 x9_0 x11_0 x12_0 x10_0 x13_0) = some (i6 x17))
          have k24 := k21.a [(90, .v (i6 x16)), (93, .v (i6 x17))] (apc q22 (apc q23 apn))
          apply bn h; intro x18 h18 h
          have q25 := (((F15_ok x12_1 h18).cp rfl _) : CP prg 15 [i6 x12_1] (F9_d0 a1 a2 x8_0 x9_0 x11_0 x12_0 x10_0 x13_0) = some (i6 x18))
          apply bn h; intro x19 h19 h
          have q26 := (((F15_ok x13_1 h19).cp rfl _) : CP prg 15 [i6 x13_1] (F9_d0 a1 a2 x8_0 x9_0 x11_0 x12_0 x10_0 x13_0) = some (i6 x19))
          have k27 := k24.a [(96, .v (i6 x18)), (99, .v (i6 x19))] (apc q25 (apc q26 apn))
          apply bi h <;> intro h20 h
          ·
           rw [← sj h]
           exact fq ([(101, .d true)] ++ kH k27) (k27.b (av h20 apn))
          ·
           have k28 := k27.a [(101, .d false), (107, .v (i6 (x8_0.length : Int)))] (av h20 (apc (lg x8_0 eSet 4) apn))
           apply bi h <;> intro h21 h
           ·
            rw [← sj h]
            exact fq ([(109, .d true)] ++ kH k28) (k28.b (av h21 apn))
           ·
            have k29 := k28.a [(109, .d false), (116, .v (i6 (x9_0.length : Int)))] (av h21 (apc (lg x9_0 eSet 4) apn))
            apply bi h <;> intro h22 h
            ·
             rw [← sj h]
             exact fq ([(118, .d true)] ++ kH k29) (k29.b (av h22 apn))
            ·
             have k30 := k29.a [(118, .d false), (125, .v (i6 (x10_0.length : Int)))] (av h22 (apc (lg x10_0 eBool 1) apn))
             apply bi h <;> intro h23 h
             ·
              rw [← sj h]
              exact fq ([(127, .d true)] ++ kH k30) (k30.b (av h23 apn))
             ·
              have k31 := k30.a [(127, .d false), (134, .v (i6 (x11_0.length : Int)))] (av h23 (apc (lg x11_0 eBool 1) apn))
              apply bi h <;> intro h24 h
              ·
               rw [← sj h]
               exact fq ([(136, .d true)] ++ kH k31) (k31.b (av h24 apn))
              ·
               have k32 := k31.a [(136, .d false), (143, .v (i6 (x12_0.length : Int)))] (av h24 (apc (lg x12_0 eBool 1) apn))
               apply bi h <;> intro h25 h
               ·
                rw [← sj h]
                exact fq ([(145, .d true)] ++ kH k32) (k32.b (av h25 apn))
               ·
                have k33 := k32.a [(145, .d false), (152, .v (i6 (x13_0.length : Int)))] (av h25 (apc (lg x13_0 eI64 1) apn))
                apply bi h <;> intro h26 h
                ·
                 rw [← sj h]
                 exact fq ([(154, .d true)] ++ kH k33) (k33.b (av h26 apn))
                ·
                 apply bn h; intro r27 h27 h
                 cases r27 with
                 | k0 x27_0 x27_1 =>
                  have q34 := (((F38_ok Nf a2 h27).cp rfl _) : CP prg 38 [(.agg ((cT a2).map .p))] (F9_d0 a1 a2 x8_0 x9_0 x11_0 x12_0 x10_0 x13_0) = some (.tup [vs x27_0, i6 x27_1]))
                  have k35 := k33.a [(154, .d false), (158, .v (.tup [vs x27_0, i6 x27_1]))] (av h26 (apc q34 apn))
                  apply bn h; intro x28 h28 h
                  have k36 := k35.a [(168, .v (.ro (eProd x28)))] (apc (ig eProd 7 .i64 h28) apn)
                  apply bn h; intro r29 h29 h
                  cases r29 with
                  | k0 x29_0 x29_1 =>
                   have q37 := ((F39_3_ok Nf a2 0 x27_0 (x28.left == a1.start) a1 a2 a1 x8_0 x9_0 x11_0 x12_0 x10_0 x13_0 true h29 []) : CS prg 39 [.ptr 2 0, (.agg ((cT a2).map .p)), i6 0, vs x27_0, (vb (x28.left == a1.start))] (F9_d0 a1 a2 x8_0 x9_0 x11_0 x12_0 x10_0 x13_0) = some ((i6 x29_0), F9_d1 a1 a2 x8_0 x9_0 x11_0 x12_0 x10_0 x13_0 x29_1))
                   have k38 := k36.a [(174, .r (i6 x29_0) (F9_d1 a1 a2 x8_0 x9_0 x11_0 x12_0 x10_0 x13_0 x29_1))] (apc q37 apn)
                   apply bn h; intro x30 h30 h
                   have q39 := (((F15_ok x27_1 h30).cp rfl _) : CP prg 15 [i6 x27_1] (F9_d1 a1 a2 x8_0 x9_0 x11_0 x12_0 x10_0 x13_0 x29_1) = some (i6 x30))
                   apply bi h <;> intro h31 h
                   ·
                    have k40 := k38.a [(176, .v (i6 x30)), (177, .d true)] (apc q39 (av h31 apn))
                    apply bi h <;> intro h32 h
                    ·
                     apply bn h; intro x33 h33 h
                     rw [← sj h]
                     exact fq ([(182, .d true), (185, .v (vb x33))] ++ kH k40) (k40.b (av h32 (apc (((F11_ok  h33).cp rfl _) : CP prg 11 [] (F9_d1 a1 a2 x8_0 x9_0 x11_0 x12_0 x10_0 x13_0 x29_1) = some (vb x33)) apn)))
                    ·
                     rw [← sj h]
                     exact fq ([(182, .d false)] ++ kH k40) (k40.b (av h32 apn))
                   ·
                    rw [← sj h]
                    exact fq ([(176, .v (i6 x30)), (177, .d false)] ++ kH k38) (k38.b (apc q39 (av h31 apn)))
end
end Go.Proofs.Tryd
